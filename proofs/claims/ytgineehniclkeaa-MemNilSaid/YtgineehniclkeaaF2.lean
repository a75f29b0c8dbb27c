/- The frame of a law that takes an entry by value: it is opened to its four cells. -/
import Derived.Test.YtgineehniclkeaaF1
namespace Go.Proofs.Ytgineehniclkeaa
open Go.ChangeShapes Go.WideShapes Go.ChangeAt Go.RowKit

theorem Try.cells32 : Try.prog.cellsOf 32 = 4 := by kernel_rfl
theorem Try.cells4 : Try.prog.cellsOf 4 = 1 := by kernel_rfl
theorem list_four {α : Type} {l : List α} (h : l.length = 4) : ∃ a b c d, l = [a, b, c, d] := by
  match l, h with
  | [a, b, c, d], _ => exact ⟨a, b, c, d, rfl⟩

/-- An entry that came in. -/
theorem open_ent {H : Type} {enc : TypeId × Value → H} {W : World} {base : Nat} {v : Value} {d : DataW H} {ps : List MemPlace} (hv : Value.okWide Try.prog W .any base 32 v) (h : DataW.Trod enc Try.prog W 0 (fun _ => true) true 32 v d ps) :
    ∃ e : Ent, v = .agg #[.string e.k, .string e.v, .int .i64 e.s, .bool e.d] := by
  obtain ⟨cs, rfl, -⟩ := okWide_struct Try.underlying32 hv
  obtain ⟨fuel, hf⟩ := h
  obtain ⟨xs, n, -, -, hl, hxl, hx⟩ := DataW.trod_struct Try.underlying32 hf
  rw [Try.cells32] at hl
  obtain ⟨a, b, c, e, hcs⟩ := list_four hl
  have h0 : DataW.trod enc Try.prog W 0 (fun _ => true) true n 9 (((Value.agg cs).cells.toList.drop 0).take (Try.prog.cellsOf 9)) = xs[0]? := hx 0 _ rfl
  have h1 : DataW.trod enc Try.prog W 0 (fun _ => true) true n 9 (((Value.agg cs).cells.toList.drop 1).take (Try.prog.cellsOf 9)) = xs[1]? := hx 1 _ rfl
  have h2 : DataW.trod enc Try.prog W 0 (fun _ => true) true n 3 (((Value.agg cs).cells.toList.drop 2).take (Try.prog.cellsOf 3)) = xs[2]? := hx 2 _ rfl
  have h3 : DataW.trod enc Try.prog W 0 (fun _ => true) true n 4 (((Value.agg cs).cells.toList.drop 3).take (Try.prog.cellsOf 4)) = xs[3]? := hx 3 _ rfl
  rw [hcs] at h0 h1 h2 h3
  rw [List.getElem?_eq_getElem (l := xs) (i := 0) (by rw [hxl]; decide), Try.cells9] at h0
  rw [List.getElem?_eq_getElem (l := xs) (i := 1) (by rw [hxl]; decide), Try.cells9] at h1
  rw [List.getElem?_eq_getElem (l := xs) (i := 2) (by rw [hxl]; decide), Try.cells3] at h2
  rw [List.getElem?_eq_getElem (l := xs) (i := 3) (by rw [hxl]; decide), Try.cells4] at h3
  obtain ⟨k, e0, -, -⟩ := DataW.trod_string Try.underlying9 h0
  obtain ⟨vv, e1, -, -⟩ := DataW.trod_string Try.underlying9 h1
  obtain ⟨s, e2, -, -⟩ := DataW.trod_int Try.underlying3 h2
  obtain ⟨dd, e3, -⟩ := DataW.trod_bool Try.underlying4 h3
  simp at e0 e1 e2 e3
  subst e0; subst e1; subst e2; subst e3
  refine ⟨⟨k, vv, s, dd⟩, ?_⟩
  have : cs.toList = [.string k, .string vv, .int .i64 s, .bool dd] := hcs
  rw [show cs = cs.toList.toArray from rfl, this]
end Go.Proofs.Ytgineehniclkeaa
