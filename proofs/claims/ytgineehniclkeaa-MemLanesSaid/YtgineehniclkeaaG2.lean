/- The row of MemLanes, proved: its frame around the walk; no condition. -/
import Derived.Test.YtgineehniclkeaaD2
import Derived.Test.YtgineehniclkeaaF1
namespace Go.Proofs.Ytgineehniclkeaa
open Go.ChangeShapes Go.WideShapes Go.ChangeAt Go.RowKit

set_option maxRecDepth 100000 in
theorem memLanes_lifted (os : Os) (started : os.Started) (H : Type) (enc : TypeId × Value → H) :
    ReturnsInHanded {} Try.checked os 5 .any (Rows.memLanesSpec.pre6 enc Try.prog Try.f5 Rows.memLanesRow.domain false) (Rows.memLanesSpec.post enc Try.prog Try.f5 false true false false) := by
  refine returnsInHanded_of_change (C := Try.checked) Try.own started (by kernel_rfl) Try.func5
    (ChangeSpec.witness6 (enc := enc) (C := Try.checked) false ⟨#[], #[.slice none 0 0, .slice none 0 0, .agg #[.string ByteArray.empty, .int .i64 0, .string ByteArray.empty, .string ByteArray.empty, .int .i64 0]], []⟩ 8 (by kernel_rfl) (by kernel_rfl) (by kernel_rfl) (by kernel_rfl)) ?_
  intro W base args ds gs before hval0 hW hcnd _
  have hval : ∀ (j : Nat) t v, Try.f5.params[j]? = some t → args[j]? = some v → Value.okWide Try.prog W .any base t v := hval0
  have hW' := hW
  obtain ⟨p, q, hA0, hV, rfl, hfz, hnd⟩ := hW
  have hA : DataW.TrodAll enc Try.prog W 0 (fun _ => true) true Try.f5.params.toList args.toList ds p := hA0
  rw [Try.params5] at hA hval
  obtain ⟨v0, v1, v2, d0, d1, d2, p0, p1, p2, rfl, rfl, rfl, h0, h1, h2⟩ := trodAll_three hA
  obtain ⟨rfl, rfl⟩ := trodVars_none hV
  obtain ⟨A, c, hs, rfl, hI, hl2, hA3⟩ := open_hs (hval 0 29 v0 rfl rfl) h0
  obtain ⟨A', c', es, rfl, hE, hl, -⟩ := open_ents (hval 1 22 v1 rfl rfl) h1
  obtain ⟨key, seq, f, t, ln, rfl, -, -⟩ := open_ask (hval 2 41 v2 rfl rfl) h2
  clear hA0 hval0
  refine (MemLanes_any A A' c c' hs es key f t seq ln W hI hA3 hE hl hl2).mono fun e W' ⟨he, hb⟩ => ?_
  subst he
  exact ⟨_, rfl, post_true (P := Try.prog) (f := Try.f5) (s := Rows.memLanesSpec) Try.laidOut (by kernel_rfl) Try.underlying4 rfl rfl rfl rfl rfl hW' hb⟩

theorem memLanes_holds : Rows.MemLanesSaid :=
  OpenClaim.holds_of_wide 5 Try.f5 rfl rfl rfl rfl rfl rfl rfl ⟨rfl, rfl, rfl, rfl, rfl⟩ rfl rfl rfl rfl rfl (by kernel_rfl) Try.func5 (by kernel_rfl)
    (of_decide_eq_true (by kernel_rfl)) (by unfold Func.isWrapper; first | (rw [if_pos (by decide +kernel)]; kernel_rfl) | (rw [if_neg (by decide +kernel)]; exact ⟨rfl, rfl⟩))
    (fun os started H enc _ => memLanes_lifted os started H enc)

#print axioms memLanes_holds
end Go.Proofs.Ytgineehniclkeaa
