/- A region that draws its order: what is left of it, walked once in the order of the text, the callees making memory of their own; plain, out of any round. -/
import Derived.Test.YtgineehniclkeaaQ1
import Derived.Deep.QuietTactic
import Derived.Deep.RegionHeld3
import Derived.BigQuiet
namespace Go.Proofs.Ytgineehniclkeaa
open Go.RowKit

/-- What is left of a region, all that was ahead having come up. -/
theorem quiet_tail {P : Program} {ops : Array Oper} {md : Region.Mode} {Q : Exit → Act → World → Prop} {listed : Array Bool} {a : Act} {w : World} (m : Nat) (os : List Oper) {fuel : Nat} (hf : fuel = os.length) (hs : Region.noSelect ops = true)
    (hl : ops.toList.drop m = os) (hB : Region.lexFrom md ops os.length m listed = true) (h : wpQuiet P ops (fun w' => ∃ z : After w, w' = z.w) (fun a' => ∀ z : After w, Q .normal a' z.w) os a) : wpAny P md ops Q fuel listed a w := by
  subst hf
  refine wpAny_of_quiet (C := fun w' => ∃ z : After w, w' = z.w) (Q := fun a' => ∀ z : After w, Q .normal a' z.w) (fun a' w' hw hq => by obtain ⟨z, rfl⟩ := hw; exact hq z) _ _ _ _ ⟨⟨w, Below.refl _ _⟩, rfl⟩ ?_
  exact wpAnyQ_lex hs os m listed a (fun j => by subst hl; simp) hB h

/-- A whole region. -/
theorem region_quiet_after {P : Program} {Q : Exit → Act → World → Prop} {id : Nat} {a : Act} {w : World} {os : List Oper} (hm : P.follows .mixedOrders = true) (hB : Region.lexB .any os.toArray = true)
    (h : wpQuiet P os.toArray (fun w' => ∃ z : After w, w' = z.w) (fun a' => ∀ z : After w, Q .normal a' z.w) os a) : (Code.region id os.toArray true).wp P Q a w :=
  wp_region_quiet (C := fun w' => ∃ z : After w, w' = z.w) hm hB (AfterC.mk (Below.refl w.heap.size w).drew) (by
    have e : (fun a' => ∀ w', (∃ z : After w, w' = z.w) → Q .normal a' w') = fun a' => ∀ z : After w, Q .normal a' z.w := by
      funext a'
      exact propext ⟨fun h z => h _ ⟨z, rfl⟩, fun h w' hw => by obtain ⟨z, rfl⟩ := hw; exact h z⟩
    rw [e]; exact h)

end Go.Proofs.Ytgineehniclkeaa
