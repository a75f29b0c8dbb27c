/- The contract of the statement's all: the first n entries of a table, in a slice of its own; of every table that lies in memory. -/
import Derived.Test.YtgineehniclkeaaB1
namespace Go.Proofs.Ytgineehniclkeaa
open Go.RowKit Go.Shelf

attribute [local go_sem] Oper.semAt_some

def valsL (es : List Ent) : List Value := es.flatMap Ent.vals
theorem valsL_len : ∀ es : List Ent, (valsL es).length = es.length * 4
  | [] => rfl
  | e :: es => by
    have := valsL_len es
    unfold valsL at this ⊢
    rw [List.flatMap_cons, List.length_append, this]
    simp [Ent.vals]; omega
theorem valsL_snoc (es : List Ent) (e : Ent) : valsL (es ++ [e]) = valsL es ++ e.vals := by unfold valsL; simp
theorem cell_four_new (w : World) (a b c d : Value) (t : TypeId) : ∀ j u, [a, b, c, d][j]? = some u → (w.alloc (.cells #[a, b, c, d] t)).cell? ((⟨w.heap.size, 0, none⟩ : Addr).add j) = some u := by
  intro j u hj
  match j, hj with
  | 0, hj => simp at hj; subst hj; simp [Addr.add]
  | 1, hj => simp at hj; subst hj; simp [Addr.add]
  | 2, hj => simp at hj; subst hj; simp [Addr.add]
  | 3, hj => simp at hj; subst hj; simp [Addr.add]
  | j + 4, hj => simp at hj

theorem own_form' {w : World} {base e size n : Nat} {v : Value} {xs : List Value} (h : w.ownsRow base e size v n xs) : ∃ A c, v = .slice A n c := by
  rcases h.2 with ⟨rfl, rfl⟩ | ⟨g, cap, cur, rfl, _⟩
  · exact ⟨_, _, rfl⟩
  · exact ⟨_, _, rfl⟩

theorem block_own {β : Type} (B : Nat) (cs : Array Value) (t : TypeId) : Own (fun (_ : β) W => W.heap[B]? = some (.cells cs t (0, 0))) := fun _ X Y row hs hg hrow =>
  (hg.block B (heap_lt hs) (fun e' => by obtain ⟨o, ho, hc⟩ := hrow B e'.symm; rw [hs] at ho; cases ho; cases hc)).trans hs

/-- What the loop of all keeps. -/
def AllI (w : World) (k : Nat) (pre : List Ent) (W : World) : Prop :=
  ((∃ v, Boxed W (w.heap.size + 1) 22 v ∧ W.ownsRow w.heap.size 32 4 v pre.length (valsL pre) ∧ True) ∧ Boxed W w.heap.size 3 (.int .i64 k)) ∧ Below w.heap.size w W
theorem AllI_own (w : World) (k : Nat) {B : Nat} (hB : w.heap.size ≤ B) : OwnFrom B (AllI w k) :=
  OwnFrom.and (OwnFrom.and (Own.from (holdsRow_own w.heap.size (w.heap.size + 1) 22 32 4 (fun pre : List Ent => pre.length) (fun pre => valsL pre) (fun _ _ => True)) _) (Own.from (boxed_own _ _ _) _)) (ownFrom_below (Nat.le_refl _) hB)
def AllX (w : World) (k : Nat) (c : Code) (ys : List Ent) (W : World) : Prop := c = .exit 0 ∧ ∃ pre x, ys = pre ++ [x] ∧ pre.length = k ∧ AllI w k pre W
theorem AllX_own (w : World) (k : Nat) (c : Code) {B : Nat} (hB : w.heap.size ≤ B) : OwnFrom B (AllX w k c) := fun s X Y row hs hg hr => by
  obtain ⟨h1, pre, x, h2, h3, h4⟩ := hs
  exact ⟨h1, pre, x, h2, h3, AllI_own w k hB pre X Y row h4 hg hr⟩

set_option maxRecDepth 100000 in
set_option maxHeartbeats 1000000 in
theorem all_any (tb : Nat) (hv : Value) (hs : List Int) (ns : List Nd) (k : Nat) (w : World) (hT : Tbl w tb hv hs ns) (hlen : ns.length ≤ 1000000) :
    Calls Try.prog 14 #[.pointer (some ⟨tb, 0, none⟩), .int .i64 k] w fun e w' => ∃ v, e = .returned v ∧ w'.ownsRow w.heap.size 32 4 v ((ns.map (·.e)).take k).length (valsL ((ns.map (·.e)).take k)) ∧ Below w.heap.size w w' := by
  obtain ⟨i0, hi, hz0, hz1, hz2⟩ := info_parts Try.info32
  refine (callsIn_wide (n := 6)).1 ?_
  refine callsIn_of_wp_marks Try.func14 rfl trivial ?_ rfl
  simp only [Try.ntmps14, List.size_toArray, List.length_cons, List.length_nil, Nat.reduceAdd, Nat.reduceSub, Array.replicate_succ, Array.replicate_zero, List.push_toArray, List.append_toArray, List.nil_append, List.cons_append]
  gi_wp2_with (refine ⟨trivial, ?_⟩; gi_at_call 37; refine (All_in _ _ _).mono ?_; rintro e w' ⟨rfl, rfl⟩)
  have bK := ((Boxed.new w 3 (.int .i64 k)).alloc (.cells #[.slice none 0 0] 22)).alloc (.cells #[.pointer (some ⟨tb, 0, none⟩)] 25)
  have bO := (Boxed.new (w.alloc (.cells #[.int .i64 k] 3)) 22 (.slice none 0 0)).alloc (.cells #[.pointer (some ⟨tb, 0, none⟩)] 25)
  have bT := Boxed.new ((w.alloc (.cells #[.int .i64 k] 3)).alloc (.cells #[.slice none 0 0] 22)) 25 (.pointer (some ⟨tb, 0, none⟩))
  simp only [World.size_alloc] at bO bT
  have hB0 : Below w.heap.size w (((w.alloc (.cells #[.int .i64 k] 3)).alloc (.cells #[.slice none 0 0] 22)).alloc (.cells #[.pointer (some ⟨tb, 0, none⟩)] 25)) := (((Below.refl _ w).alloc (Nat.le_refl _) _).alloc (by simp) _).alloc (by simp; omega) _
  have hsz : (((w.alloc (.cells #[.int .i64 k] 3)).alloc (.cells #[.slice none 0 0] 22)).alloc (.cells #[.pointer (some ⟨tb, 0, none⟩)] 25)).heap.size = w.heap.size + 3 := by simp
  obtain ⟨W0, hW0⟩ : ∃ W0, ((w.alloc (.cells #[.int .i64 k] 3)).alloc (.cells #[.slice none 0 0] 22)).alloc (.cells #[.pointer (some ⟨tb, 0, none⟩)] 25) = W0 := ⟨_, rfl⟩
  rw [hW0] at bK bO bT hB0 hsz ⊢
  clear hW0
  refine wpIn_rangeFunc_ownH rfl (by omega) (gf := 51) (lb := #[.pointer (some ⟨w.heap.size + 1 + 1, 0, none⟩)]) rfl trivial (enters_of Try.func51 (by kernel_rfl) rfl)
    (All_stops 5 (by omega) (w.heap.size + 1 + 1) tb hv hs ns w W0 hT (by omega) hB0 bT.cell) belowK_t (belowK_b (by omega)) (Below.refl _ _) (fun _ => rfl)
    (fun pre W => AllI w k pre W ∧ pre.length ≤ k)
    (AllX w k)
    (OwnFrom.and (AllI_own w k (by omega)) (fun s X Y row hs _ _ => hs))
    (fun c => AllX_own w k c (by omega))
    ⟨⟨⟨⟨_, bO, World.ownsRow_nil _ _ _ _, trivial⟩, bK⟩, hB0⟩, Nat.zero_le _⟩
    (fun x a' W => ∃ Bx, W.heap[Bx]? = some (.cells #[.string x.k, .string x.v, .int .i64 x.s, .bool x.d] 32 (0, 0)) ∧ a' = { tmps := #[.pointer (some ⟨tb, 0, none⟩), .int .i64 k, undef, .pointer (some ⟨w.heap.size, 0, none⟩), .slice none 0 0, .pointer (some ⟨w.heap.size + 1, 0, none⟩), .pointer (some ⟨Bx, 0, none⟩), .pointer (some ⟨tb, 0, none⟩), .func (.func 51) #[] #[.pointer (some ⟨w.heap.size + 1 + 1, 0, none⟩)], .agg #[.string x.k, .string x.v, .int .i64 x.s, .bool x.d], undef, undef, undef, undef, undef, undef, undef, undef, undef], defers := [] })
    (fun x a' _ X Y row hs hg hr => by obtain ⟨Bx, h2, h3⟩ := hs; exact ⟨Bx, block_own Bx _ 32 () X Y row h2 hg (fun r e => (hr r e).2), h3⟩)
    ?assign ?body ?done ?stop
  case assign =>
    rintro l pre x W K ⟨⟨⟨⟨v, hv, hrow, _⟩, hbk⟩, hB⟩, hpk⟩ hK
    have hbs := hB.size
    dsimp only [encE]
    gi_wp2
    exact hK _ _ ((KeepsOthers.alloc _ _).from _) ((Below.refl _ W).alloc hbs _) ⟨⟨⟨⟨v, hv.alloc _, hrow.alloc _, trivial⟩, hbk.alloc _⟩, hB.alloc hbs _⟩, hpk⟩ ⟨W.heap.size, heap_alloc_new _ _, rfl⟩
  case body =>
    rintro l pre x a' W hl ⟨r, hr⟩ ⟨⟨⟨⟨v, hv, hrow, _⟩, hbk⟩, hB⟩, hpk⟩ ⟨Bx, bX, rfl⟩ hlt
    obtain ⟨A, c, rfl⟩ := own_form' hrow
    have hc := hv.cell
    have hck := hbk.cell
    have x0 := cell_of_row W _ 0 _ _ _ bX
    have x1 := cell_of_row W _ 1 _ _ _ bX
    have x2 := cell_of_row W _ 2 _ _ _ bX
    have x3 := cell_of_row W _ 3 _ _ _ bX
    simp only [List.getElem?_toArray, List.getElem?_cons_zero, List.getElem?_cons_succ] at x0 x1 x2 x3
    by_cases hpe : pre.length = k
    · have hpe' : ((pre.length : Int) == k) = true := by simp [hpe]
      have Hpe := Lib.hid hpe
      clear hpe
      gi_wp2
      exact ⟨KeepsFrom.refl _ _, rfl, pre, x, rfl, Hpe.out, ⟨⟨⟨_, hv, hrow, trivial⟩, hbk⟩, hB⟩⟩
    · have hpe' : ((pre.length : Int) == k) = false := by simp; omega
      have hlp := valsL_len pre
      gi_wp2_with (gi_at_builtin; refine wpListIn_append_own _ rfl _ _ 22 rfl w.heap.size 32 i0 (.agg #[.string ByteArray.empty, .string ByteArray.empty, .int .i64 0, .bool false]) 4 48 Try.underlying22 hi hz0 hz1 hz2 rfl (by decide) _ _ _ rfl (hrow.alloc _) ⟨W.heap.size, 0, none⟩ 1 1 [.string x.k, .string x.v, .int .i64 x.s, .bool x.d] rfl rfl (cell_four_new _ _ _ _ _ _) (by simp [Value.oneCell']) (by unfold maxLen; omega) (by omega) (by have := hB.size; simp; omega) ?_; intro v' w1 hown' hgrow _; obtain ⟨g', cap', rfl⟩ := ownsRow_succ hown'; obtain ⟨hv1, hv2, hr2, hk2, hb2⟩ := hv.appended (by decide) hrow hB.size (Nat.le_succ _) hown' hgrow; have hc1 := hv1.cell; have hf1 := hv1.frozen)
      have hbk2 := ((hbk.alloc (.cells #[.string x.k, .string x.v, .int .i64 x.s, .bool x.d] 32)).kept hgrow (hbk.not_row (by decide) hrow)).other (B' := w.heap.size + 1) (by omega) (.slice (some ⟨g', 0, none⟩) (pre.length + 1) cap')
      exact ⟨hk2.from _, hb2, ⟨⟨⟨_, hv2, by rw [List.length_append, valsL_snoc]; exact hr2, trivial⟩, hbk2⟩, hB.trans hb2⟩, by simp; omega⟩
  case done =>
    rintro D ys W hD rfl ⟨⟨⟨⟨v, hv, hrow, _⟩, hbk⟩, hB⟩, hpk⟩ hK
    have hc := hv.cell
    gi_wp2
    refine ⟨by simp, .inl ⟨_, _, rfl, run_takeDeferred hK, ?_⟩⟩
    refine ⟨_, results_tmp rfl _ _ _, v, rfl, ?_, hB.trans (belowK_b (w := w) (Nat.le_refl _) W D _ _ (by omega) hK rfl rfl)⟩
    rw [List.take_of_length_le hpk]
    exact ownsRow_putObj hrow _ hK rfl
  case stop =>
    rintro D c pre W hD hpre ⟨rfl, pre', x, rfl, hpk, ⟨⟨⟨v, hv, hrow, _⟩, hbk⟩, hB⟩⟩ hK
    have hc := hv.cell
    gi_wp2
    refine ⟨by simp, .inl ⟨_, _, rfl, run_takeDeferred hK, ?_⟩⟩
    refine ⟨_, results_tmp rfl _ _ _, v, rfl, ?_, hB.trans (belowK_b (w := w) (Nat.le_refl _) W D _ _ (by omega) hK rfl rfl)⟩
    have ht : (ns.map (·.e)).take k = pre' := by
      obtain ⟨q, hq⟩ := hpre
      rw [← hq, List.append_assoc, ← hpk, List.take_left']
      rfl
    rw [ht]
    exact ownsRow_putObj hrow _ hK rfl

end Go.Proofs.Ytgineehniclkeaa
