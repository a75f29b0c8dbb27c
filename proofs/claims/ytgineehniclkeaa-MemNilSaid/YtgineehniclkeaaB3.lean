/- The contract of Scan: what is visible in a span, in a slice of its own; of every table that lies in memory. -/
import Derived.Test.YtgineehniclkeaaB2
import Derived.Test.YtgineehniclkeaaP5
import Derived.Sort.CutIn
import Derived.Test.YtgineehniclkeaaQ1
import Derived.IntWalk
namespace Go.Proofs.Ytgineehniclkeaa
open Go.RowKit Go.Shelf

attribute [local go_sem] Oper.semAt_some

theorem keepsFrom_below {B : Nat} {W W' : World} (h : Below W.heap.size W W') : KeepsFrom B W W' := ⟨h.size, fun k _ _ hk _ => (h.block k (Array.getElem?_eq_some_iff.1 hk).1).trans hk⟩
theorem boxed_below {W W' : World} {B : Nat} {t : TypeId} {v : Value} (h : Boxed W B t v) (hb : Below W.heap.size W W') : Boxed W' B t v := (hb.block B h.lt).trans h
theorem own_below {W W' : World} {base e size n : Nat} {v : Value} {xs : List Value} (h : W.ownsRow base e size v n xs) (hb : Below W.heap.size W W') : W'.ownsRow base e size v n xs :=
  h.kept (row := none) ⟨hb.os, hb.tape, hb.output, hb.size, fun j hj _ => hb.block j hj⟩ (by cases hv : v.ownBlock <;> simp)

def lastNe (l : List Ent) (e : Ent) : Bool := match l.getLast? with | none => true | some x => decide (x.k ≠ e.k)
theorem scanStep_eq (f t : ByteArray) (seq : Int) (l : List Ent) (e : Ent) : scanStep f t seq l e = if (visB f t seq e && lastNe l e) = true then l ++ [e] else l := by
  unfold scanStep lastNe
  cases l.getLast? <;> simp [Bool.and_eq_true]

/-- What the loop of Scan keeps. -/
def ScanI (f t : ByteArray) (seq : Int) (w : World) (pre : List Ent) (W : World) : Prop :=
  (((∃ v, Boxed W (w.heap.size + 2) 22 v ∧ W.ownsRow w.heap.size 32 4 v (scanL f t seq pre).length (valsL (scanL f t seq pre)) ∧ True) ∧ Boxed W (w.heap.size + 1) 3 (.int .i64 seq)) ∧ W.heap[w.heap.size]? = some (.cells #[.string f, .string t] 39 (0, 0))) ∧ Below w.heap.size w W
theorem ScanI_own (f t : ByteArray) (seq : Int) (w : World) {B : Nat} (hB : w.heap.size ≤ B) : OwnFrom B (ScanI f t seq w) :=
  OwnFrom.and (OwnFrom.and (OwnFrom.and (Own.from (holdsRow_own w.heap.size (w.heap.size + 2) 22 32 4 (fun pre : List Ent => (scanL f t seq pre).length) (fun pre => valsL (scanL f t seq pre)) (fun _ _ => True)) _) (Own.from (boxed_own _ _ _) _)) (Own.from (block_own _ _ _) _)) (ownFrom_below (Nat.le_refl _) hB)

set_option maxRecDepth 100000 in
set_option maxHeartbeats 1000000 in
theorem Scan_any (tb : Nat) (hv : Value) (hs : List Int) (ns : List Nd) (f t : ByteArray) (seq : Int) (w : World) (hT : Tbl w tb hv hs ns) (hlen : ns.length ≤ 1000000) :
    Calls Try.prog 18 #[.pointer (some ⟨tb, 0, none⟩), .agg #[.string f, .string t], .int .i64 seq] w fun e w' => ∃ v, e = .returned v ∧
      w'.ownsRow w.heap.size 32 4 v (scanL f t seq (ns.map (·.e))).length (valsL (scanL f t seq (ns.map (·.e)))) ∧ Below w.heap.size w w' := by
  obtain ⟨i0, hi, hz0, hz1, hz2⟩ := info_parts Try.info32
  refine (callsIn_wide (n := 6)).1 ?_
  refine callsIn_of_wp_marks Try.func18 rfl trivial ?_ rfl
  simp only [Try.ntmps18, List.size_toArray, List.length_cons, List.length_nil, Nat.reduceAdd, Nat.reduceSub, Array.replicate_succ, Array.replicate_zero, List.push_toArray, List.append_toArray, List.nil_append, List.cons_append]
  gi_wp2_with (refine ⟨trivial, ?_⟩; gi_at_call 37; refine (All_in _ _ _).mono ?_; rintro e w' ⟨rfl, rfl⟩)
  have bS : (((((w.alloc (.cells #[.string f, .string t] 39)).alloc (.cells #[.int .i64 seq] 3)).alloc (.cells #[.slice none 0 0] 22)).alloc (.cells #[.pointer (some ⟨tb, 0, none⟩)] 25))).heap[w.heap.size]? = some (.cells #[.string f, .string t] 39 (0, 0)) :=
    ((((Below.refl (w.alloc (.cells #[.string f, .string t] 39)).heap.size (w.alloc (.cells #[.string f, .string t] 39))).alloc (Nat.le_refl _) _).alloc (by simp) _).alloc (by simp) _).block w.heap.size (by simp) |>.trans (heap_alloc_new w _)
  have bK := ((Boxed.new (w.alloc (.cells #[.string f, .string t] 39)) 3 (.int .i64 seq)).alloc (.cells #[.slice none 0 0] 22)).alloc (.cells #[.pointer (some ⟨tb, 0, none⟩)] 25)
  have bO := (Boxed.new ((w.alloc (.cells #[.string f, .string t] 39)).alloc (.cells #[.int .i64 seq] 3)) 22 (.slice none 0 0)).alloc (.cells #[.pointer (some ⟨tb, 0, none⟩)] 25)
  have bT := Boxed.new (((w.alloc (.cells #[.string f, .string t] 39)).alloc (.cells #[.int .i64 seq] 3)).alloc (.cells #[.slice none 0 0] 22)) 25 (.pointer (some ⟨tb, 0, none⟩))
  simp only [World.size_alloc] at bK bO bT
  have hB0 : Below w.heap.size w ((((w.alloc (.cells #[.string f, .string t] 39)).alloc (.cells #[.int .i64 seq] 3)).alloc (.cells #[.slice none 0 0] 22)).alloc (.cells #[.pointer (some ⟨tb, 0, none⟩)] 25)) :=
    ((((Below.refl _ w).alloc (Nat.le_refl _) _).alloc (by simp) _).alloc (by simp; omega) _).alloc (by simp; omega) _
  have hsz : ((((w.alloc (.cells #[.string f, .string t] 39)).alloc (.cells #[.int .i64 seq] 3)).alloc (.cells #[.slice none 0 0] 22)).alloc (.cells #[.pointer (some ⟨tb, 0, none⟩)] 25)).heap.size = w.heap.size + 4 := by simp
  obtain ⟨W0, hW0⟩ : ∃ W0, (((w.alloc (.cells #[.string f, .string t] 39)).alloc (.cells #[.int .i64 seq] 3)).alloc (.cells #[.slice none 0 0] 22)).alloc (.cells #[.pointer (some ⟨tb, 0, none⟩)] 25) = W0 := ⟨_, rfl⟩
  rw [hW0] at bS bK bO bT hB0 hsz ⊢
  clear hW0
  refine wpIn_rangeFunc_ownH rfl (by omega) (gf := 51) (lb := #[.pointer (some ⟨w.heap.size + 1 + 1 + 1, 0, none⟩)]) rfl trivial (enters_of Try.func51 (by kernel_rfl) rfl)
    (All_stops 5 (by omega) (w.heap.size + 1 + 1 + 1) tb hv hs ns w W0 hT (by omega) hB0 bT.cell) belowK_t (belowK_b (by omega)) (Below.refl _ _) (fun _ => rfl)
    (fun pre W => ScanI f t seq w pre W)
    (fun _ _ _ => False)
    (ScanI_own f t seq w (by omega))
    (fun _ _ _ _ _ hs _ _ => hs)
    ⟨⟨⟨⟨_, bO, World.ownsRow_nil _ _ _ _, trivial⟩, bK⟩, bS⟩, hB0⟩
    (fun x a' W => ∃ Bx, W.heap[Bx]? = some (.cells #[.string x.k, .string x.v, .int .i64 x.s, .bool x.d] 32 (0, 0)) ∧ a' = { tmps := #[.pointer (some ⟨tb, 0, none⟩), .agg #[.string f, .string t], .int .i64 seq, undef, .pointer (some ⟨w.heap.size, 0, none⟩), .pointer (some ⟨w.heap.size + 1, 0, none⟩), .slice none 0 0, .pointer (some ⟨w.heap.size + 1 + 1, 0, none⟩), .pointer (some ⟨Bx, 0, none⟩), .pointer (some ⟨tb, 0, none⟩), .func (.func 51) #[] #[.pointer (some ⟨w.heap.size + 1 + 1 + 1, 0, none⟩)], .agg #[.string x.k, .string x.v, .int .i64 x.s, .bool x.d], undef, undef, undef, undef, undef, undef, undef, undef, undef, undef, undef, undef, undef, undef, undef, undef, undef, undef, undef, undef, undef, undef, undef, undef, undef, undef, undef, undef, undef, undef, undef, undef], defers := [] })
    (fun x a' _ X Y row hs hg hr => by obtain ⟨Bx, h2, h3⟩ := hs; exact ⟨Bx, block_own Bx _ 32 () X Y row h2 hg (fun r e => (hr r e).2), h3⟩)
    ?assign ?body ?done ?stop
  case assign =>
    rintro l pre x W K ⟨⟨⟨⟨v, hv, hrow, _⟩, hbk⟩, hbs⟩, hB⟩ hK
    have hbz := hB.size
    dsimp only [encE]
    gi_wp2
    exact hK _ _ ((KeepsOthers.alloc _ _).from _) ((Below.refl _ W).alloc hbz _) ⟨⟨⟨⟨v, hv.alloc _, hrow.alloc _, trivial⟩, hbk.alloc _⟩, ((Below.refl _ W).alloc (Nat.le_refl _) _).block _ (heap_lt hbs) |>.trans hbs⟩, hB.alloc hbz _⟩ ⟨W.heap.size, heap_alloc_new _ _, rfl⟩
  case body =>
    rintro l pre x a' W hl ⟨r, hr⟩ ⟨⟨⟨⟨v, hv, hrow, _⟩, hbk⟩, hbs⟩, hB⟩ ⟨Bx, bX, rfl⟩ hlt
    obtain ⟨A, c, rfl⟩ := own_form' hrow
    have hlL := scanL_len f t seq pre
    have hst : scanL f t seq (pre ++ [x]) = if (visB f t seq x && lastNe (scanL f t seq pre) x) = true then scanL f t seq pre ++ [x] else scanL f t seq pre := by
      rw [scanL_snoc, scanStep_eq]
    generalize scanL f t seq pre = L at *
    have Hst := Lib.hid hst
    have HB := Lib.hid hB
    have Hrow := Lib.hid hrow
    have Hv := Lib.hid hv
    have Hbk := Lib.hid hbk
    have Hbs := Lib.hid hbs
    have HX := Lib.hid bX
    have Hr := Lib.hid hr
    have hc := hv.cell
    have hck := hbk.cell
    have s0 := cell_of_row W _ 0 _ _ _ hbs
    have s1 := cell_of_row W _ 1 _ _ _ hbs
    have x0 := cell_of_row W _ 0 _ _ _ bX
    have x1 := cell_of_row W _ 1 _ _ _ bX
    have x2 := cell_of_row W _ 2 _ _ _ bX
    have x3 := cell_of_row W _ 3 _ _ _ bX
    simp only [List.getElem?_toArray, List.getElem?_cons_zero, List.getElem?_cons_succ] at x0 x1 x2 x3 s0 s1
    have bx2 := heap_lt bX
    clear hst hB hrow hv hbk hbs bX hr
    dsimp only
    gi_upto_region 4 with fail
    have z0 : ∀ z : After W, z.w.cell? ⟨w.heap.size + 2, 0, none⟩ = some (.slice A L.length c) := fun z => (z.b.cell (by exact World.block_lt_of_cell? W _ hc)).trans hc
    have z1 : ∀ z : After W, z.w.cell? ⟨w.heap.size + 1, 0, none⟩ = some (.int .i64 seq) := fun z => (z.b.cell (by exact World.block_lt_of_cell? W _ hck)).trans hck
    have z2 : ∀ z : After W, z.w.cell? ⟨w.heap.size, 0, none⟩ = some (.string f) := fun z => (z.b.cell (by exact World.block_lt_of_cell? W _ s0)).trans s0
    have z3 : ∀ z : After W, z.w.cell? ⟨w.heap.size, 1, none⟩ = some (.string t) := fun z => (z.b.cell (by exact World.block_lt_of_cell? W _ s1)).trans s1
    have z4 : ∀ z : After W, z.w.cell? ⟨Bx, 0, none⟩ = some (.string x.k) := fun z => (z.b.cell (by exact bx2)).trans x0
    have z5 : ∀ z : After W, z.w.cell? ⟨Bx, 2, none⟩ = some (.int .i64 x.s) := fun z => (z.b.cell (by exact bx2)).trans x2
    have hq : ∀ (n : Nat) (z : After W), CallsIn Fence.wide n Try.prog 41 #[.string x.k, .agg #[.string f, .string t]] z.w fun e w' => e = .returned (.bool (inB x.k f t)) ∧ ∃ z' : After W, w' = z'.w := fun n z => (callsIn_wide.2 (In_any x.k f t z.w)).mono fun e w' h => ⟨h.1, ⟨⟨w', z.more h.2⟩, rfl⟩⟩
    have Hq := Lib.hid hq
    clear hq
    gi_cut [38] from 12 (fun b Wx => b = .bool (visB f t seq x && lastNe L x) ∧ Below W.heap.size W Wx)
    case first =>
      rename_i J K2 hJ hM
      clear hc hck s0 s1 x0 x1 x2 x3
      by_cases h1 : x.s ≤ seq
      · cases h2 : inB x.k f t with
        | false =>
          have Hv0 : Hid (visB f t seq x = false) := Lib.hid (by simp [visB, h2])
          refine region_quiet_round l rfl (by kernel_rfl) (by kernel_rfl) (by kernel_rfl) ?_
          repeat (refine wpQuietIn_step (fun _ _ _ _ => trivial) (fun K hK => ?_); go_simp; first | (refine hK _ ?_; clear hK K) | (apply Exists.intro; refine ⟨fun _ => ?_, hK _ ?_⟩; (gi_at_call 41; exact Hq.out _ _); clear hK K))
          refine wpQuietIn_nil ?_
          intro z
          refine hM _ _ (Met.intro (hJ _ _ ?_))
          repeat apply Exists.intro
          refine ⟨?rel, rfl⟩
          case rel =>
          exact ⟨by rw [Hv0.out]; rfl, z.b⟩
        | true =>
          have Hv0 : Hid (visB f t seq x = true) := Lib.hid (by simp [visB, h2, h1])
          rcases getLast_split L with ⟨e1, e2⟩ | ⟨r, y, e1, e2⟩
          · have Hl0 : Hid (lastNe L x = true) := Lib.hid (by unfold lastNe; rw [e1])
            have hn0 : L.length = 0 := by rw [e2]; rfl
            clear e1 e2
            refine region_quiet_round l rfl (by kernel_rfl) (by kernel_rfl) (by kernel_rfl) ?_
            repeat (refine wpQuietIn_step (fun _ _ _ _ => trivial) (fun K hK => ?_); go_simp; first | (refine hK _ ?_; clear hK K) | (apply Exists.intro; refine ⟨fun _ => ?_, hK _ ?_⟩; (gi_at_call 41; exact Hq.out _ _); clear hK K))
            refine wpQuietIn_nil ?_
            intro z
            refine hM _ _ (Met.intro (hJ _ _ ?_))
            repeat apply Exists.intro
            refine ⟨?rel, rfl⟩
            case rel =>
            exact ⟨by rw [Hv0.out, Hl0.out]; rfl, z.b⟩
          · have hn1 : L.length = r.length + 1 := by rw [e1]; simp
            have hly : (valsL L)[r.length * 4 + 0]? = some (.string y.k) := by
              have hL0 : r.length < L.length := by omega
              rw [valsL_get L r.length 0 hL0 (by omega)]
              have : L[r.length] = y := by simp [e1]
              rw [this]; rfl
            obtain ⟨g, hg⟩ : ∃ g, A = some ⟨g, 0, none⟩ := by
              rcases Hrow.out.2 with ⟨_, h0⟩ | ⟨g, cap, _, h1, _⟩
              · omega
              · injection h1 with h1; exact ⟨g, h1⟩
            subst hg
            have hcl := Hrow.out.cells (g := g) rfl _ _ hly
            rw [addr_add0] at hcl
            have z6 : ∀ z : After W, z.w.cell? ⟨g, r.length * 4, none⟩ = some (.string y.k) := fun z => (z.b.cell (by exact World.block_lt_of_cell? W _ hcl)).trans hcl
            have i1 : (r.length : Int) + 1 - 1 = (r.length : Int) := by omega
            have i2 : IntKind.i64.wrap (r.length : Int) = (r.length : Int) := IntWalk.i64_in _ (by omega)
            have i3 : (0 : Int) ≤ (r.length : Int) := Int.natCast_nonneg _
            have i4 : (r.length : Int) < (r.length : Int) + 1 := by omega
            have i5 : ((r.length : Int) + 1 == 0) = false := by simp; omega
            clear hcl hly
            by_cases hyk : y.k = x.k
            · have Hl0 : Hid (lastNe L x = false) := Lib.hid (by unfold lastNe; rw [e2]; simp [hyk])
              clear e1 e2
              refine region_quiet_round l rfl (by kernel_rfl) (by kernel_rfl) (by kernel_rfl) ?_
              repeat (refine wpQuietIn_step (fun _ _ _ _ => trivial) (fun K hK => ?_); go_simp; first | (refine hK _ ?_; clear hK K) | (apply Exists.intro; refine ⟨fun _ => ?_, hK _ ?_⟩; (gi_at_call 41; exact Hq.out _ _); clear hK K))
              refine wpQuietIn_nil ?_
              intro z
              refine hM _ _ (Met.intro (hJ _ _ ?_))
              repeat apply Exists.intro
              refine ⟨?rel, rfl⟩
              case rel =>
              exact ⟨by rw [Hv0.out, Hl0.out]; rfl, z.b⟩
            · have Hl0 : Hid (lastNe L x = true) := Lib.hid (by unfold lastNe; rw [e2]; simp [hyk])
              have hyk' : (y.k.toList == x.k.toList) = false := by rw [eq_texts]; exact decide_eq_false hyk
              clear e1 e2
              refine region_quiet_round l rfl (by kernel_rfl) (by kernel_rfl) (by kernel_rfl) ?_
              repeat (refine wpQuietIn_step (fun _ _ _ _ => trivial) (fun K hK => ?_); go_simp; first | (refine hK _ ?_; clear hK K) | (apply Exists.intro; refine ⟨fun _ => ?_, hK _ ?_⟩; (gi_at_call 41; exact Hq.out _ _); clear hK K))
              refine wpQuietIn_nil ?_
              intro z
              refine hM _ _ (Met.intro (hJ _ _ ?_))
              repeat apply Exists.intro
              refine ⟨?rel, rfl⟩
              case rel =>
              exact ⟨by rw [Hv0.out, Hl0.out]; rfl, z.b⟩
      · have Hv0 : Hid (visB f t seq x = false) := Lib.hid (by simp [visB, h1])
        refine region_quiet_round l rfl (by kernel_rfl) (by kernel_rfl) (by kernel_rfl) ?_
        repeat (refine wpQuietIn_step (fun _ _ _ _ => trivial) (fun K hK => ?_); go_simp; first | (refine hK _ ?_; clear hK K) | (apply Exists.intro; refine ⟨fun _ => ?_, hK _ ?_⟩; (gi_at_call 41; exact Hq.out _ _); clear hK K))
        refine wpQuietIn_nil ?_
        intro z
        refine hM _ _ (Met.intro (hJ _ _ ?_))
        repeat apply Exists.intro
        refine ⟨?rel, rfl⟩
        case rel =>
        exact ⟨by rw [Hv0.out]; rfl, z.b⟩
    obtain ⟨rfl, hbx⟩ := hcut
    have hv' := boxed_below Hv.out hbx
    have hrow' := own_below Hrow.out hbx
    have hbk' := boxed_below Hbk.out hbx
    have hbs' := (hbx.block _ (heap_lt Hbs.out)).trans Hbs.out
    have bX' := (hbx.block _ (heap_lt HX.out)).trans HX.out
    have hB' := HB.out.trans (hbx.mono HB.out.size)
    have hst := Hst.out
    cases hcb : (visB f t seq x && lastNe L x) with
    | false =>
      rw [hcb] at hst
      have Hs : Hid (scanL f t seq (pre ++ [x]) = L) := Lib.hid (hst.trans (if_neg (by simp)))
      have Hv' := Lib.hid hv'
      have Hrow' := Lib.hid hrow'
      have Hbk' := Lib.hid hbk'
      have Hbs' := Lib.hid hbs'
      have HB' := Lib.hid hB'
      have Hbx := Lib.hid hbx
      clear hst hv' hrow' hbk' hbs' hB' hbx bX' hcb hc hck s0 s1 x0 x1 x2 x3
      gi_wp2
      refine ⟨keepsFrom_below Hbx.out, Hbx.out.mono HB.out.size, ⟨⟨⟨⟨_, Hv'.out, ?_, trivial⟩, Hbk'.out⟩, Hbs'.out⟩, HB'.out⟩⟩
      rw [Hs.out]; exact Hrow'.out
    | true =>
      rw [hcb] at hst
      have Hs : Hid (scanL f t seq (pre ++ [x]) = L ++ [x]) := Lib.hid (hst.trans (if_pos rfl))
      have hlp := valsL_len L
      have hc' := hv'.cell
      have y0 := cell_of_row wc _ 0 _ _ _ bX'
      have y1 := cell_of_row wc _ 1 _ _ _ bX'
      have y2 := cell_of_row wc _ 2 _ _ _ bX'
      have y3 := cell_of_row wc _ 3 _ _ _ bX'
      simp only [List.getElem?_toArray, List.getElem?_cons_zero, List.getElem?_cons_succ] at y0 y1 y2 y3
      have Hbx := Lib.hid hbx
      have Hbs' := Lib.hid hbs'
      have HB' := Lib.hid hB'
      clear hst hcb hc hck s0 s1 x0 x1 x2 x3 hbx hbs' bX' z0 z1 z2 z3 z4 z5
      gi_wp2_with (gi_at_builtin; refine wpListIn_append_own _ rfl _ _ 22 rfl w.heap.size 32 i0 (.agg #[.string ByteArray.empty, .string ByteArray.empty, .int .i64 0, .bool false]) 4 48 Try.underlying22 hi hz0 hz1 hz2 rfl (by decide) _ _ _ rfl (hrow'.alloc _) ⟨wc.heap.size, 0, none⟩ 1 1 [.string x.k, .string x.v, .int .i64 x.s, .bool x.d] rfl rfl (cell_four_new _ _ _ _ _ _) (by simp [Value.oneCell']) (by unfold maxLen; omega) (by omega) (by have := hB'.size; simp; omega) ?_; intro v' w1 hown' hgrow _; obtain ⟨g', cap', rfl⟩ := ownsRow_succ hown'; obtain ⟨hv1, hv2, hr2, hk2, hb2⟩ := hv'.appended (by decide) hrow' hB'.size (by omega) hown' hgrow; have hc1 := hv1.cell; have hf1 := hv1.frozen)
      have hbk2 := ((hbk'.alloc (.cells #[.string x.k, .string x.v, .int .i64 x.s, .bool x.d] 32)).kept hgrow (hbk'.not_row (by decide) hrow')).other (B' := w.heap.size + 2) (by omega) (.slice (some ⟨g', 0, none⟩) (L.length + 1) cap')
      have hne : (Value.slice A L.length c).ownBlock ≠ some w.heap.size := by
        intro e
        rcases hrow'.2 with ⟨h0, _⟩ | ⟨g, cap, cur, h1, _, hg, _⟩
        · rw [h0] at e; cases e
        · rw [h1] at e
          have hgw : g = w.heap.size := by simpa [Value.ownBlock] using e
          rw [hgw, Hbs'.out] at hg
          cases hg
      have hlt2 := heap_lt Hbs'.out
      have hb3 := ((Below.heap_setCell w1 ⟨w.heap.size + 2, 0, none⟩ (.slice (some ⟨g', 0, none⟩) (L.length + 1) cap') w.heap.size (by simp)).trans (hgrow.block w.heap.size (by simp; omega) (fun e => hne e.symm))).trans ((Below.heap_alloc wc _ w.heap.size hlt2).trans Hbs'.out)
      exact ⟨(keepsFrom_below Hbx.out).trans (hk2.from _), (Hbx.out.mono HB.out.size).trans hb2, ⟨⟨⟨⟨_, hv2, by rw [Hs.out, List.length_append, valsL_snoc]; exact hr2, trivial⟩, hbk2⟩, hb3⟩, HB'.out.trans hb2⟩⟩
  case done =>
    rintro D ys W hD rfl ⟨⟨⟨⟨v, hv, hrow, _⟩, hbk⟩, hbs⟩, hB⟩ hK
    have hc := hv.cell
    gi_wp2
    refine ⟨by simp, .inl ⟨_, _, rfl, run_takeDeferred hK, ?_⟩⟩
    refine ⟨_, results_tmp rfl _ _ _, v, rfl, ?_, hB.trans (belowK_b (w := w) (Nat.le_refl _) W D _ _ (by omega) hK rfl rfl)⟩
    exact ownsRow_putObj hrow _ hK rfl
  case stop =>
    rintro D c pre W hD hpre h
    exact h.elim

end Go.Proofs.Ytgineehniclkeaa
