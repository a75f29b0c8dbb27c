/- Plain definitions on entries, and the contracts of the small comparing functions that the memtable uses (cmp.Compare, cmp.Or at two numbers, mem.Ahead); no condition. -/
import Derived.Test.YtgineehniclkeaaRows
import Derived.Test.YtgineehniclkeaaP1
import Derived.WalkKit
import Derived.WalkSpells
import Derived.WalkLawsBesides
import Derived.Lib.Hide
import Derived.Deep.QuietTactic
import Derived.BigQuiet
import Derived.StillTailTactics
import Derived.Deep.RegionWith
import Derived.Deep.RegionHeld3
namespace Go.Proofs.Ytgineehniclkeaa
open Go.RowKit

theorem ret_int {k : IntKind} {a b : Int} (h : a = b) : Ending.returned (.int k a) = .returned (.int k b) := by rw [h]
theorem ret_bool {a b : Bool} (h : a = b) : Ending.returned (.bool a) = .returned (.bool b) := by rw [h]

set_option maxHeartbeats 400000 in
theorem isNaN_s (s : ByteArray) (w : World) : Calls Try.prog 52 #[.string s] w fun e w' => e = .returned (.bool false) ∧ w = w' := by
  go_enter Try.func52, Try.ntmps52
  go_wp2
  go_ret
  exact ⟨by simp, rfl⟩

set_option maxHeartbeats 400000 in
theorem isNaN_i (n : Int) (w : World) : Calls Try.prog 53 #[.int .i64 n] w fun e w' => e = .returned (.bool false) ∧ w = w' := by
  go_enter Try.func53, Try.ntmps53
  go_wp2
  go_ret
  exact ⟨by simp, rfl⟩

def cmpI (a b : Int) : Int := if a < b then -1 else if b < a then 1 else 0

set_option maxHeartbeats 400000 in
theorem compare_i (a b : Int) (w : World) : Calls Try.prog 40 #[.int .i64 a, .int .i64 b] w fun e w' => e = .returned (.int .i64 (cmpI a b)) ∧ w = w' := by
  go_enter Try.func40, Try.ntmps40
  go_wp2_with (go_at_call 53; refine (isNaN_i _ _).mono ?_; rintro e w' ⟨rfl, rfl⟩)
  all_goals go_ret
  all_goals (refine ⟨ret_int ?_, rfl⟩; unfold cmpI; split <;> (try split) <;> omega)

def cmpS (a b : ByteArray) : Int := if lts a b = true then -1 else if lts b a = true then 1 else 0

theorem gtr_texts (a b : ByteArray) (h : Op.bytesLess a.toList b.toList = false) (h' : (!a.toList == b.toList) = true) : Op.bytesLess b.toList a.toList = true := by
  cases h2 : Op.bytesLess b.toList a.toList with
  | true => rfl
  | false => rw [bl_tri _ _ h h2] at h'; simp at h'

set_option maxHeartbeats 400000 in
theorem compare_s (a b : ByteArray) (w : World) : Calls Try.prog 39 #[.string a, .string b] w fun e w' => e = .returned (.int .i64 (cmpS a b)) ∧ w = w' := by
  go_enter Try.func39, Try.ntmps39
  go_wp2_with (go_at_call 52; refine (isNaN_s _ _).mono ?_; rintro e w' ⟨rfl, rfl⟩)
  all_goals go_ret
  · exact ⟨ret_int (by have h : Op.bytesLess a.toList b.toList = true := by assumption
                       simp [cmpS, lts, h]), rfl⟩
  · exact ⟨ret_int (by have h : Op.bytesLess a.toList b.toList = false := by assumption
                       have h' : (!a.toList == b.toList) = true := by assumption
                       simp [cmpS, lts, h, gtr_texts a b h h']), rfl⟩
  · exact ⟨ret_int (by have h : Op.bytesLess a.toList b.toList = false := by assumption
                       have h' : (!a.toList == b.toList) = false := by assumption
                       have e : a = b := by rw [eq_texts] at h'; simpa using h'
                       subst e
                       simp [cmpS, lts, h]), rfl⟩

def or2 (x y : Int) : Int := if x = 0 then y else x

set_option maxHeartbeats 400000 in
theorem or_2 (x y : Int) (b : Nat) (w : World) (h0 : w.cell? ⟨b, 0, none⟩ = some (.int .i64 x)) (h1 : w.cell? ⟨b, 1, none⟩ = some (.int .i64 y)) :
    Calls Try.prog 38 #[.slice (some ⟨b, 0, none⟩) 2 2] w fun e w' => e = .returned (.int .i64 (or2 x y)) ∧ w = w' := by
  go_enter Try.func38, Try.ntmps38
  go_wp2
  refine wp_loop_rounds 3 ?_
  rw [rounds_succ]
  by_cases hx : x = 0
  · by_cases hy : y = 0
    · go_wp2
      rw [rounds_succ]
      go_wp2
      rw [rounds_succ]
      go_wp2
      go_ret
      exact ⟨ret_int (by unfold or2; rw [if_pos hx]; omega), rfl⟩
    · go_wp2
      rw [rounds_succ]
      go_wp2
      go_ret
      exact ⟨ret_int (by unfold or2; rw [if_pos hx]), rfl⟩
  · go_wp2
    go_ret
    exact ⟨ret_int (by unfold or2; rw [if_neg hx]), rfl⟩

theorem ahead_cmp (a b : Ent) : decide (or2 (cmpS a.k b.k) (cmpI b.s a.s) < 0) = ahead a b := by
  unfold or2 cmpS cmpI ahead
  by_cases h1 : lts a.k b.k = true
  · simp [h1]
  · simp only [Bool.not_eq_true] at h1
    by_cases h2 : lts b.k a.k = true
    · have : a.k ≠ b.k := fun e => by rw [e, lts_irrefl] at h2; cases h2
      simp [h1, h2, this]
    · simp only [Bool.not_eq_true] at h2
      have e := lts_tri h1 h2
      rw [h1, h2]
      by_cases h3 : b.s < a.s
      · simp [e, h3]
      · by_cases h4 : a.s < b.s <;> simp [h3, h4]

theorem region_still_tail {P : Program} {id : Nat} {Q : Exit → Act → World → Prop} {a : Act} {w : World} {l : List Oper} (n : Nat) (hm : P.follows .mixedOrders = true) (hB : Region.lexTailB .any l.toArray n = true)
    (h : wpStill P l.toArray w.drew (fun a' => wpList P l.toArray Q (l.drop n) a' w.drew) (l.take n) a) : (Code.region id l.toArray true).wp P Q a w := wp_region_still_tail n hm hB h

theorem region_still {P : Program} {id : Nat} {Q : Exit → Act → World → Prop} {a : Act} {w : World} {l : List Oper} (hm : P.follows .mixedOrders = true) (hB : Region.lexB .any l.toArray = true)
    (h : wpStill P l.toArray w.drew (fun a' => Q .normal a' w.drew) l a) : (Code.region id l.toArray true).wp P Q a w := wp_region_still_lit hm hB h

theorem calls_flip {P : Program} {f : FuncId} {args : Array Value} {w : World} {x : Ending} (h : Calls P f args w fun e w' => e = x ∧ w = w') : Calls P f args w fun e w' => e = x ∧ w' = w :=
  h.mono fun _ _ h => ⟨h.1, h.2.symm⟩

set_option maxHeartbeats 400000 in
theorem Ahead_any (a b : Ent) (w : World) : Calls Try.prog 16 #[.agg #[.string a.k, .string a.v, .int .i64 a.s, .bool a.d], .agg #[.string b.k, .string b.v, .int .i64 b.s, .bool b.d]] w
    fun e w' => e = .returned (.bool (ahead a b)) ∧ Below w.heap.size w w' := by
  go_enter Try.func16, Try.ntmps16
  go_wp2
  refine region_still_tail 10 (by kernel_rfl) (by kernel_rfl) ?_
  simp only [List.take_succ_cons, List.take_zero, List.drop_succ_cons, List.drop_zero]
  repeat still_step
  still_call (calls_flip (compare_s _ _ _))
  repeat still_step
  still_call (calls_flip (compare_i _ _ _))
  refine wpStill_nil ?_

  go_wp2_with fail
  refine (or_2 (cmpS a.k b.k) (cmpI b.s a.s) _ _ (by simp [World.cell?_alloc_at]) (by simp [World.cell?_alloc_at])).mono ?_
  rintro e w' ⟨rfl, rfl⟩
  go_wp2
  go_ret
  exact ⟨ret_bool (ahead_cmp a b), (((((Below.refl _ _).alloc (Nat.le_refl _) _).alloc (by simp) _).alloc (by simp; omega) _).drew)⟩

end Go.Proofs.Ytgineehniclkeaa
