/- The frame's common part, more: a slice of numbers and a question opened. -/
import Derived.Test.YtgineehniclkeaaF0
namespace Go.Proofs.Ytgineehniclkeaa
open Go.ChangeShapes Go.WideShapes Go.ChangeAt Go.RowKit

theorem Try.cells3 : Try.prog.cellsOf 3 = 1 := by kernel_rfl
theorem Try.cells9 : Try.prog.cellsOf 9 = 1 := by kernel_rfl
theorem Try.cells39 : Try.prog.cellsOf 39 = 2 := by kernel_rfl
theorem Try.cells41 : Try.prog.cellsOf 41 = 5 := by kernel_rfl

/-- A slice of numbers that came in. -/
theorem open_hs {H : Type} {enc : TypeId × Value → H} {W : World} {base : Nat} {v : Value} {d : DataW H} {ps : List MemPlace} (hv : Value.okWide Try.prog W .any base 29 v) (h : DataW.Trod enc Try.prog W 0 (fun _ => true) true 29 v d ps) :
    ∃ A c hs, v = .slice A (hs : List Int).length c ∧ Ints W W.heap.size A hs ∧ hs.length ≤ 9223372036854775807 ∧ (hs = [] → A = none → c = 0) := by
  obtain ⟨a, len, cap, rfl⟩ := okWide_slice Try.underlying29 hv
  obtain ⟨fuel, hf⟩ := h
  rcases open_ints Try.underlying29 Try.underlying3 Try.cells3 hf with ⟨h0, -⟩ | ⟨a', len', cap', zs, hcs, hb, hle, hm, hz, hx, hi, hw⟩
  · simp [Value.cells] at h0
    obtain ⟨rfl, rfl, rfl⟩ := h0
    exact ⟨none, 0, [], rfl, fun h => absurd rfl h, by simp, fun _ _ => rfl⟩
  · simp [Value.cells] at hcs
    obtain ⟨rfl, rfl, rfl⟩ := hcs
    rw [if_pos rfl] at hz
    have hlen : (zs.take len).length = len := by rw [List.length_take]; omega
    refine ⟨some a', cap, zs.take len, by rw [hlen], fun hne => ?_, by rw [hlen]; have : maxLen = 9223372036854775807 := rfl; omega, (fun _ h => by cases h)⟩
    have hpos : 0 < len := by
      rcases Nat.eq_zero_or_pos len with h | h
      · subst h; exact absurd rfl hne
      · exact h
    have h0 := hi 0 (by omega)
    have hsp : a'.spot = none := spot_none h0
    have hadd : ∀ j, a'.add j = ⟨a'.block, a'.off + j, none⟩ := by
      intro j
      unfold Addr.add
      split
      · rename_i h; subst h; cases a'; simp at hsp ⊢; exact hsp
      · rfl
    have hblk : a'.block < W.heap.size := World.block_lt_of_cell? W _ h0
    refine ⟨a'.block, a'.off, by cases a'; simp at hsp ⊢; exact hsp, hblk, fun i hil => ?_⟩
    rw [hlen] at hil
    have h := hi i (by omega)
    rw [hadd] at h
    rw [h, List.getElem_take, List.getD_eq_getElem?_getD, List.getElem?_eq_getElem (by omega)]
    rfl

theorem list_five {α : Type} {l : List α} (h : l.length = 5) : ∃ a b c d e, l = [a, b, c, d, e] := by
  match l, h with
  | [a, b, c, d, e], _ => exact ⟨a, b, c, d, e, rfl⟩

/-- A question that came in. -/
theorem open_ask {H : Type} {enc : TypeId × Value → H} {W : World} {base : Nat} {v : Value} {d : DataW H} {ps : List MemPlace} (hv : Value.okWide Try.prog W .any base 41 v) (h : DataW.Trod enc Try.prog W 0 (fun _ => true) true 41 v d ps) :
    ∃ key seq f t ln, v = .agg #[.string key, .int .i64 seq, .string f, .string t, .int .i64 ln] ∧ (Lit.int .i64 seq).wf = true ∧ (Lit.int .i64 ln).wf = true := by
  obtain ⟨cs, rfl, -⟩ := okWide_struct Try.underlying41 hv
  obtain ⟨fuel, hf⟩ := h
  obtain ⟨xs, n, -, -, hl, hxl, hx⟩ := DataW.trod_struct Try.underlying41 hf
  rw [Try.cells41] at hl
  obtain ⟨a, b, c, e, g, hcs⟩ := list_five hl
  have h0 : DataW.trod enc Try.prog W 0 (fun _ => true) true n 9 (((Value.agg cs).cells.toList.drop 0).take (Try.prog.cellsOf 9)) = xs[0]? := hx 0 _ rfl
  have h1 : DataW.trod enc Try.prog W 0 (fun _ => true) true n 3 (((Value.agg cs).cells.toList.drop 1).take (Try.prog.cellsOf 3)) = xs[1]? := hx 1 _ rfl
  have h2 : DataW.trod enc Try.prog W 0 (fun _ => true) true n 39 (((Value.agg cs).cells.toList.drop 2).take (Try.prog.cellsOf 39)) = xs[2]? := hx 2 _ rfl
  have h3 : DataW.trod enc Try.prog W 0 (fun _ => true) true n 3 (((Value.agg cs).cells.toList.drop 4).take (Try.prog.cellsOf 3)) = xs[3]? := hx 3 _ rfl
  rw [hcs] at h0 h1 h2 h3
  have g0 := List.getElem?_eq_getElem (l := xs) (i := 0) (by rw [hxl]; decide)
  have g1 := List.getElem?_eq_getElem (l := xs) (i := 1) (by rw [hxl]; decide)
  have g2 := List.getElem?_eq_getElem (l := xs) (i := 2) (by rw [hxl]; decide)
  have g3 := List.getElem?_eq_getElem (l := xs) (i := 3) (by rw [hxl]; decide)
  rw [g0, Try.cells9] at h0
  rw [g1, Try.cells3] at h1
  rw [g2, Try.cells39] at h2
  rw [g3, Try.cells3] at h3
  obtain ⟨key, e0, -, -⟩ := DataW.trod_string Try.underlying9 h0
  obtain ⟨seq, e1, -, w1⟩ := DataW.trod_int Try.underlying3 h1
  obtain ⟨ln, e3, -, w3⟩ := DataW.trod_int Try.underlying3 h3
  obtain ⟨ys, n', -, -, -, hyl, hy⟩ := DataW.trod_struct Try.underlying39 h2
  have k0 : DataW.trod enc Try.prog W 0 (fun _ => true) true n' 9 (((([a, b, c, e, g] : List Value).drop 2).take 2).drop 0 |>.take (Try.prog.cellsOf 9)) = ys[0]? := hy 0 _ rfl
  have k1 : DataW.trod enc Try.prog W 0 (fun _ => true) true n' 9 (((([a, b, c, e, g] : List Value).drop 2).take 2).drop 1 |>.take (Try.prog.cellsOf 9)) = ys[1]? := hy 1 _ rfl
  rw [List.getElem?_eq_getElem (l := ys) (i := 0) (by rw [hyl]; decide), Try.cells9] at k0
  rw [List.getElem?_eq_getElem (l := ys) (i := 1) (by rw [hyl]; decide), Try.cells9] at k1
  obtain ⟨f, e2, -, -⟩ := DataW.trod_string Try.underlying9 k0
  obtain ⟨t, e4, -, -⟩ := DataW.trod_string Try.underlying9 k1
  simp at e0 e1 e2 e3 e4
  subst e0; subst e1; subst e2; subst e3; subst e4
  refine ⟨key, seq, f, t, ln, ?_, w1, w3⟩
  have : cs.toList = [.string key, .int .i64 seq, .string f, .string t, .int .i64 ln] := hcs
  rw [show cs = cs.toList.toArray from rfl, this]
end Go.Proofs.Ytgineehniclkeaa
