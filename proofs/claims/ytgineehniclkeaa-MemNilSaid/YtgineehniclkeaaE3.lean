/- The memtable's calls of a table that is nil, or that nobody made: each tells nothing; no condition. -/
import Derived.Test.YtgineehniclkeaaB3
namespace Go.Proofs.Ytgineehniclkeaa
open Go.RowKit Go.Shelf

attribute [local go_sem] Oper.semAt_some

/-- A table that is nil, or that nobody made. -/
def NilT (w : World) (p : Option Addr) : Prop := p = none ∨ ∃ tb, p = some ⟨tb, 0, none⟩ ∧ w.cell? ⟨tb, 20, none⟩ = some (.bool false)
theorem NilT.below {w w' : World} {p : Option Addr} (h : NilT w p) (hb : Below w.heap.size w w') : NilT w' p := by
  rcases h with h | ⟨tb, h, hc⟩
  · exact .inl h
  · exact .inr ⟨tb, h, (hb.cell (p := ⟨tb, 20, none⟩) (block_lt_of_cell hc)).trans hc⟩

theorem none_nil (p : Option Addr) (w : World) (h : NilT w p) : Calls Try.prog 35 #[.pointer p] w fun e w' => e = .returned (.bool true) ∧ w = w' := by
  rcases h with rfl | ⟨tb, rfl, h0⟩
  · go_enter Try.func35, Try.ntmps35
    go_wp2
    go_ret
    exact ⟨rfl, rfl⟩
  · go_enter Try.func35, Try.ntmps35
    go_wp2
    go_ret
    exact ⟨rfl, rfl⟩

theorem Len_nil (p : Option Addr) (w : World) (h : NilT w p) : Calls Try.prog 21 #[.pointer p] w fun e w' => e = .returned (.int .i64 0) ∧ w = w' := by
  have H := Lib.hid h
  clear h
  go_enter Try.func21, Try.ntmps21
  go_wp2_with fail
  refine (none_nil p _ H.out).mono ?_
  rintro e w' ⟨rfl, rfl⟩
  go_wp2
  go_ret
  exact ⟨rfl, rfl⟩
theorem Size_nil (p : Option Addr) (w : World) (h : NilT w p) : Calls Try.prog 24 #[.pointer p] w fun e w' => e = .returned (.int .i64 0) ∧ w = w' := by
  have H := Lib.hid h
  clear h
  go_enter Try.func24, Try.ntmps24
  go_wp2_with fail
  refine (none_nil p _ H.out).mono ?_
  rintro e w' ⟨rfl, rfl⟩
  go_wp2
  go_ret
  exact ⟨rfl, rfl⟩
theorem Cost_nil (p : Option Addr) (key : ByteArray) (seq : Int) (w : World) (h : NilT w p) : Calls Try.prog 20 #[.pointer p, .string key, .int .i64 seq] w fun e w' => e = .returned (.int .i64 0) ∧ w = w' := by
  have H := Lib.hid h
  clear h
  go_enter Try.func20, Try.ntmps20
  go_wp2_with fail
  refine (none_nil p _ H.out).mono ?_
  rintro e w' ⟨rfl, rfl⟩
  go_wp2
  go_ret
  exact ⟨rfl, rfl⟩
theorem Lane_nil (p : Option Addr) (h : Int) (w : World) (hn : NilT w p) : Calls Try.prog 19 #[.pointer p, .int .i64 h] w fun e w' => e = .returned (.slice none 0 0) ∧ w = w' := by
  have H := Lib.hid hn
  clear hn
  go_enter Try.func19, Try.ntmps19
  go_wp2_with fail
  refine (none_nil p _ H.out).mono ?_
  rintro e w' ⟨rfl, rfl⟩
  go_wp2
  go_ret
  exact ⟨rfl, rfl⟩
theorem Get_nil (p : Option Addr) (key : ByteArray) (seq : Int) (w : World) (h : NilT w p) : Calls Try.prog 17 #[.pointer p, .string key, .int .i64 seq] w fun e w' =>
    e = .returned (.tuple #[.agg #[.string Ent.zero.k, .string Ent.zero.v, .int .i64 Ent.zero.s, .bool Ent.zero.d], .bool false]) ∧ Below w.heap.size w w' := by
  have H := Lib.hid (h.below ((Below.refl _ w).alloc (Nat.le_refl _) (.cells #[.string ByteArray.empty, .string ByteArray.empty, .int .i64 0, .bool false] 32)))
  clear h
  go_enter Try.func17, Try.ntmps17
  go_wp2_with fail
  refine (none_nil p _ H.out).mono ?_
  rintro e w' ⟨rfl, rfl⟩
  go_wp2
  refine bodyPost_ret (by simp [results, Try.results17, go_sem]; rfl) rfl ?_
  exact ⟨rfl, (Below.refl _ _).alloc (Nat.le_refl _) _⟩
theorem Add_nil (p : Option Addr) (e : Ent) (w : World) (h : NilT w p) : Calls Try.prog 12 #[.pointer p, .agg #[.string e.k, .string e.v, .int .i64 e.s, .bool e.d]] w fun en w' => en = .returned (.int .i64 1) ∧ Below w.heap.size w w' := by
  have H := Lib.hid (h.below ((Below.refl _ w).alloc (Nat.le_refl _) (.cells #[.string e.k, .string e.v, .int .i64 e.s, .bool e.d] 32)))
  clear h
  go_enter Try.func12, Try.ntmps12
  go_wp2_with fail
  refine (none_nil p _ H.out).mono ?_
  rintro en w' ⟨rfl, rfl⟩
  go_wp2
  go_ret
  exact ⟨rfl, (Below.refl _ _).alloc (Nat.le_refl _) _⟩

theorem All1_nil (n : Nat) (hn : 1 ≤ n) (l Bn : Nat) (p : Option Addr) (W : World) (hp : NilT W p) (J : World → Prop)
    (hBn : W.cell? ⟨Bn, 0, none⟩ = some (.pointer p)) (h0 : J W) :
    CallsIn Fence.wide n Try.prog 51 #[.func (.yield l) #[] #[], .pointer (some ⟨Bn, 0, none⟩)] W fun e W' => (∃ v, e = .returned v) ∧ J W' := by
  have H := Lib.hid hp
  clear hp
  refine callsIn_of_wp Try.func51 rfl trivial ?_ rfl
  simp only [Try.ntmps51, List.size_toArray, List.length_cons, List.length_nil, Nat.reduceAdd, Nat.reduceSub, Array.replicate_succ, Array.replicate_zero, List.push_toArray, List.append_toArray, List.nil_append, List.cons_append]
  gi_wp2_with (refine ⟨trivial, ?_⟩; gi_at_call 35; refine (callsIn_wide.2 (none_nil p _ H.out)).mono ?_; rintro e w' ⟨rfl, rfl⟩)
  refine bodyPost_ret (results_none rfl _ _ _) rfl ?_
  exact ⟨⟨_, rfl⟩, h0⟩

theorem All_stops_nil (n : Nat) (hn : 1 ≤ n) (Bn : Nat) (p : Option Addr) (w0 w : World) (hp : NilT w0 p) (hBn : Bn < w.heap.size) (hw : Below w0.heap.size w0 w)
    (hc : w.cell? ⟨Bn, 0, none⟩ = some (.pointer p)) :
    SeqStopsK Fence.wide n Try.prog 51 #[.pointer (some ⟨Bn, 0, none⟩)] encE (Below w0.heap.size) (fun ys => ys = []) (fun pre => pre = []) 0 w := fun l J Jx W hW _ _ hY h0 => by
  refine (All1_nil n hn l Bn p W (hp.below (hw.trans (hW.mono hw.size))) (J []) ((hW.cell (p := ⟨Bn, 0, none⟩) hBn).trans hc) h0).mono ?_
  rintro e W' ⟨h1, h2⟩
  exact ⟨h1, .inl ⟨[], rfl, h2⟩⟩

set_option maxRecDepth 100000 in
set_option maxHeartbeats 1000000 in
theorem all_nil (p : Option Addr) (k : Nat) (w : World) (hT : NilT w p) :
    Calls Try.prog 14 #[.pointer p, .int .i64 k] w fun e w' => e = .returned (.slice none 0 0) ∧ Below w.heap.size w w' := by
  refine (callsIn_wide (n := 6)).1 ?_
  refine callsIn_of_wp_marks Try.func14 rfl trivial ?_ rfl
  simp only [Try.ntmps14, List.size_toArray, List.length_cons, List.length_nil, Nat.reduceAdd, Nat.reduceSub, Array.replicate_succ, Array.replicate_zero, List.push_toArray, List.append_toArray, List.nil_append, List.cons_append]
  gi_wp2_with (refine ⟨trivial, ?_⟩; gi_at_call 37; refine (All_in _ _ _).mono ?_; rintro e w' ⟨rfl, rfl⟩)
  have bO := (Boxed.new (w.alloc (.cells #[.int .i64 k] 3)) 22 (.slice none 0 0)).alloc (.cells #[.pointer p] 25)
  have bT := Boxed.new ((w.alloc (.cells #[.int .i64 k] 3)).alloc (.cells #[.slice none 0 0] 22)) 25 (.pointer p)
  simp only [World.size_alloc] at bO bT
  have hB0 : Below w.heap.size w (((w.alloc (.cells #[.int .i64 k] 3)).alloc (.cells #[.slice none 0 0] 22)).alloc (.cells #[.pointer p] 25)) := (((Below.refl _ w).alloc (Nat.le_refl _) _).alloc (by simp) _).alloc (by simp; omega) _
  have hsz : (((w.alloc (.cells #[.int .i64 k] 3)).alloc (.cells #[.slice none 0 0] 22)).alloc (.cells #[.pointer p] 25)).heap.size = w.heap.size + 3 := by simp
  obtain ⟨W0, hW0⟩ : ∃ W0, ((w.alloc (.cells #[.int .i64 k] 3)).alloc (.cells #[.slice none 0 0] 22)).alloc (.cells #[.pointer p] 25) = W0 := ⟨_, rfl⟩
  rw [hW0] at bO bT hB0 hsz ⊢
  clear hW0
  refine wpIn_rangeFunc_ownH rfl (by omega) (gf := 51) (lb := #[.pointer (some ⟨w.heap.size + 1 + 1, 0, none⟩)]) rfl trivial (enters_of Try.func51 (by kernel_rfl) rfl)
    (All_stops_nil 5 (by omega) (w.heap.size + 1 + 1) p w W0 hT (by omega) hB0 bT.cell) belowK_t (belowK_b (by omega)) (Below.refl _ _) (fun _ => rfl)
    (fun _ W => Boxed W (w.heap.size + 1) 22 (.slice none 0 0) ∧ Below w.heap.size w W)
    (fun _ _ _ => False)
    (OwnFrom.and (Own.from (boxed_own _ _ _) _) (ownFrom_below (Nat.le_refl _) (by omega)))
    (fun _ _ _ _ _ hs _ _ => hs)
    ⟨bO, hB0⟩
    (fun x a' W => True)
    (fun x a' _ X Y row hs hg hr => hs)
    ?assign ?body ?done ?stop
  case assign =>
    rintro l pre x W K ⟨hbk, hB⟩ hK
    have hbs := hB.size
    dsimp only [encE]
    gi_wp2
    exact hK _ _ ((KeepsOthers.alloc _ _).from _) ((Below.refl _ W).alloc hbs _) ⟨hbk.alloc _, hB.alloc hbs _⟩ trivial
  case body =>
    rintro l pre x a' W hl ⟨r, hr⟩ ⟨hbk, hB⟩ h hlt
    exact absurd hlt (Nat.not_lt_zero _)
  case done =>
    rintro D ys W hD rfl ⟨hbk, hB⟩ hK
    have hc := hbk.cell
    gi_wp2
    refine ⟨by simp, .inl ⟨_, _, rfl, run_takeDeferred hK, ?_⟩⟩
    refine ⟨_, results_tmp rfl _ _ _, rfl, hB.trans (belowK_b (w := w) (Nat.le_refl _) W D _ _ (by omega) hK rfl rfl)⟩
  case stop =>
    rintro D c pre W hD hpre h
    exact h.elim

set_option maxRecDepth 100000 in
set_option maxHeartbeats 1000000 in
theorem Scan_nil (p : Option Addr) (f t : ByteArray) (k : Int) (w : World) (hT : NilT w p) :
    Calls Try.prog 18 #[.pointer p, .agg #[.string f, .string t], .int .i64 k] w fun e w' => e = .returned (.slice none 0 0) ∧ Below w.heap.size w w' := by
  refine (callsIn_wide (n := 6)).1 ?_
  refine callsIn_of_wp_marks Try.func18 rfl trivial ?_ rfl
  simp only [Try.ntmps18, List.size_toArray, List.length_cons, List.length_nil, Nat.reduceAdd, Nat.reduceSub, Array.replicate_succ, Array.replicate_zero, List.push_toArray, List.append_toArray, List.nil_append, List.cons_append]
  gi_wp2_with (refine ⟨trivial, ?_⟩; gi_at_call 37; refine (All_in _ _ _).mono ?_; rintro e w' ⟨rfl, rfl⟩)
  have bO := (Boxed.new ((w.alloc (.cells #[.string f, .string t] 39)).alloc (.cells #[.int .i64 k] 3)) 22 (.slice none 0 0)).alloc (.cells #[.pointer p] 25)
  have bT := Boxed.new (((w.alloc (.cells #[.string f, .string t] 39)).alloc (.cells #[.int .i64 k] 3)).alloc (.cells #[.slice none 0 0] 22)) 25 (.pointer p)
  simp only [World.size_alloc] at bO bT
  have hB0 : Below w.heap.size w ((((w.alloc (.cells #[.string f, .string t] 39)).alloc (.cells #[.int .i64 k] 3)).alloc (.cells #[.slice none 0 0] 22)).alloc (.cells #[.pointer p] 25)) := ((((Below.refl _ w).alloc (Nat.le_refl _) _).alloc (by simp) _).alloc (by simp; omega) _).alloc (by simp; omega) _
  have hsz : ((((w.alloc (.cells #[.string f, .string t] 39)).alloc (.cells #[.int .i64 k] 3)).alloc (.cells #[.slice none 0 0] 22)).alloc (.cells #[.pointer p] 25)).heap.size = w.heap.size + 4 := by simp
  obtain ⟨W0, hW0⟩ : ∃ W0, (((w.alloc (.cells #[.string f, .string t] 39)).alloc (.cells #[.int .i64 k] 3)).alloc (.cells #[.slice none 0 0] 22)).alloc (.cells #[.pointer p] 25) = W0 := ⟨_, rfl⟩
  rw [hW0] at bO bT hB0 hsz ⊢
  clear hW0
  refine wpIn_rangeFunc_ownH rfl (by omega) (gf := 51) (lb := #[.pointer (some ⟨w.heap.size + 1 + 1 + 1, 0, none⟩)]) rfl trivial (enters_of Try.func51 (by kernel_rfl) rfl)
    (All_stops_nil 5 (by omega) (w.heap.size + 1 + 1 + 1) p w W0 hT (by omega) hB0 bT.cell) belowK_t (belowK_b (by omega)) (Below.refl _ _) (fun _ => rfl)
    (fun _ W => Boxed W (w.heap.size + 1 + 1) 22 (.slice none 0 0) ∧ Below w.heap.size w W)
    (fun _ _ _ => False)
    (OwnFrom.and (Own.from (boxed_own _ _ _) _) (ownFrom_below (Nat.le_refl _) (by omega)))
    (fun _ _ _ _ _ hs _ _ => hs)
    ⟨bO, hB0⟩
    (fun x a' W => True)
    (fun x a' _ X Y row hs hg hr => hs)
    ?assign ?body ?done ?stop
  case assign =>
    rintro l pre x W K ⟨hbk, hB⟩ hK
    have hbs := hB.size
    dsimp only [encE]
    gi_wp2
    exact hK _ _ ((KeepsOthers.alloc _ _).from _) ((Below.refl _ W).alloc hbs _) ⟨hbk.alloc _, hB.alloc hbs _⟩ trivial
  case body =>
    rintro l pre x a' W hl ⟨r, hr⟩ ⟨hbk, hB⟩ h hlt
    exact absurd hlt (Nat.not_lt_zero _)
  case done =>
    rintro D ys W hD rfl ⟨hbk, hB⟩ hK
    have hc := hbk.cell
    gi_wp2
    refine ⟨by simp, .inl ⟨_, _, rfl, run_takeDeferred hK, ?_⟩⟩
    refine ⟨_, results_tmp rfl _ _ _, rfl, hB.trans (belowK_b (w := w) (Nat.le_refl _) W D _ _ (by omega) hK rfl rfl)⟩
  case stop =>
    rintro D c pre W hD hpre h
    exact h.elim

end Go.Proofs.Ytgineehniclkeaa
