/- A region that draws its order, in a round of a range over a function: one walk in the order of the text serves every order, the callees making memory of their own; no operation is a defer. -/
import Derived.Sort.QuietThIn
import Derived.Sort.QuietTacIn
import Derived.Sort.BigQuietIn
import Derived.Below
import Derived.AtR
import Derived.OwnWalkIn
namespace Go.Proofs.Ytgineehniclkeaa
open Go.RowKit

section
variable {F : Fence} {n : Nat} {P : Program} {ops : Array Oper} {md : Region.Mode} {Q : Exit → Act → World → Prop}

def noDefer (o : Oper) : Bool := match o.op with | .defer _ => false | _ => true

theorem uponIn_round {o : Oper} {a : Act} {next next' : Act → World → Prop} (l : Nat) (hn : ∀ a w, next a w → next' a w) {r : Result Next} (h : o.uponIn F n P a next Q r) : o.uponIn (F.inRound l) n P a next' Q r := by
  have h' : o.uponIn F n P a next' Q r := by
    unfold Oper.uponIn at h ⊢
    split at h
    · exact hn _ _ h
    · exact hn _ _ h
    · exact hn _ _ h
    · refine ⟨h.1, h.2.mono ?_⟩
      intro e w hh
      split at hh
      · exact hn _ _ hh
      · exact hh
      · exact hh
    · exact ⟨h.1, h.2.mono fun v w hh => hn _ _ hh⟩
    · refine ⟨h.1, h.2.mono ?_⟩
      intro e w hh
      split at hh
      · exact hn _ _ hh
      · exact hh
      · exact hh
    · exact h
    · exact h.elim
  exact h'

theorem wpOpIn_round (hro : F.round = none) (l : Nat) {i : Nat} {K K' : Act → World → Prop} {a : Act} {w : World} (hnd : ∀ o, ops[i]? = some o → noDefer o = true) (hk : ∀ a w, K a w → K' a w) (h : wpOpIn F n P ops Q i K a w) : wpOpIn (F.inRound l) n P ops Q i K' a w := by
  unfold wpOpIn at h ⊢
  cases ho : ops[i]? with
  | none => rw [ho] at h; exact hk _ _ h
  | some o =>
    rw [ho] at h
    simp only [] at h ⊢
    split
    · rename_i hw
      rw [if_pos hw] at h
      refine ⟨h.1, ?_⟩
      have h2 := h.2
      rw [hro] at h2
      have hne : ∀ c, o.op ≠ .defer c := by
        intro c hc
        have := hnd o ho
        unfold noDefer at this
        rw [hc] at this
        cases this
      have e1 : o.semAt (F.inRound l).round a.eval = execOp a.eval o := Oper.semAt_plain _ _ _ hne
      have e2 : o.semAt none a.eval = execOp a.eval o := rfl
      rw [e1]
      rw [e2] at h2
      exact uponIn_round l hk h2
    · rename_i hw
      rw [if_neg hw] at h
      exact ⟨h.1, hk _ _ h.2⟩

theorem wpAnyIn_round (hro : F.round = none) (l : Nat) (hnd : ops.all noDefer = true) : ∀ (fuel : Nat) (listed : Array Bool) (a : Act) (w : World), wpAnyIn F n P md ops Q fuel listed a w → wpAnyIn (F.inRound l) n P md ops Q fuel listed a w
  | 0, _, _, _, h => h
  | fuel + 1, listed, a, w, h => ⟨h.1, fun i hi => wpOpIn_round hro l (fun o ho => by
      rw [Array.all_eq_true] at hnd
      obtain ⟨hlt, he⟩ := Array.getElem?_eq_some_iff.1 ho
      rw [← he]; exact hnd i hlt) (fun a' w' h' => wpAnyIn_round hro l hnd fuel _ a' w' h') (h.2 i hi)⟩

/-- One walk serves every order, in a round. -/
theorem wpIn_region_quiet_round {C : World → Prop} (l : Nat) {id : Nat} {a : Act} {w : World} {os : List Oper} (hro : F.round = none) (hm : P.follows .mixedOrders = true) (hB : Region.lexB .any os.toArray = true) (hnd : os.toArray.all noDefer = true) (hC : C w.drew)
    (h : wpQuietIn F n P os.toArray C (fun a' => ∀ w', C w' → Q .normal a' w') os a) : (Code.region id os.toArray true).wpIn (F.inRound l) n P Q a w := by
  simp only [Region.lexB, Bool.and_eq_true] at hB
  refine wpIn_region_any hm (wpAnyIn_round hro l hnd _ _ _ _ (wpAnyIn_of_quiet (Q := fun a' => ∀ w', C w' → Q .normal a' w') hro (fun _ w' hw' h => h w' hw') _ _ _ _ hC ?_))
  have := wpAnyQIn_lex (F := F) (n := n) (C := C) (md := .any) hB.1 os 0 (Array.replicate os.toArray.size false) a (by simp) (by simpa using hB.2) h
  simpa using this
end

/-- The worlds in which all that W holds is as it was. -/
structure After (W : World) where
  w : World
  b : Below W.heap.size W w
instance (W : World) : Nonempty (After W) := ⟨⟨W, Below.refl _ _⟩⟩
def AfterC (W : World) (w' : World) : Prop := ∃ z : After W, w' = z.w
theorem AfterC.mk {W w' : World} (h : Below W.heap.size W w') : AfterC W w' := ⟨⟨w', h⟩, rfl⟩
theorem After.more {W : World} (z : After W) {w' : World} (h : Below z.w.heap.size z.w w') : Below W.heap.size W w' := z.b.trans (h.mono z.b.size)

theorem region_quiet_round {F : Fence} {n : Nat} {P : Program} {Q : Exit → Act → World → Prop} (l : Nat) {id : Nat} {a : Act} {w : World} {os : List Oper} (hro : F.round = none) (hm : P.follows .mixedOrders = true) (hB : Region.lexB .any os.toArray = true) (hnd : os.toArray.all noDefer = true)
    (h : wpQuietIn F n P os.toArray (fun w' => ∃ z : After w, w' = z.w) (fun a' => ∀ z : After w, Q .normal a' z.w) os a) : (Code.region id os.toArray true).wpIn (F.inRound l) n P Q a w :=
  wpIn_region_quiet_round (C := fun w' => ∃ z : After w, w' = z.w) l hro hm hB hnd (AfterC.mk (Below.refl w.heap.size w).drew) (by
    have e : (fun a' => ∀ w', (∃ z : After w, w' = z.w) → Q .normal a' w') = fun a' => ∀ z : After w, Q .normal a' z.w := by
      funext a'
      exact propext ⟨fun h z => h _ ⟨z, rfl⟩, fun h w' hw => by obtain ⟨z, rfl⟩ := hw; exact h z⟩
    rw [e]; exact h)

end Go.Proofs.Ytgineehniclkeaa
