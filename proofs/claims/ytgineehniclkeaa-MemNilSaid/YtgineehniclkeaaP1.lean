/- Plain laws on texts and entries: the order of texts is total, the order of entries is total on a key and a number; no condition. -/
import Derived.WalkKit
namespace Go.Proofs.Ytgineehniclkeaa
open Go.RowKit

theorem bl_irrefl : ∀ l : List UInt8, Op.bytesLess l l = false
  | [] => rfl
  | a :: l => by simp [Op.bytesLess, bl_irrefl l]

theorem bl_trans : ∀ a b c : List UInt8, Op.bytesLess a b = true → Op.bytesLess b c = true → Op.bytesLess a c = true
  | _, _, [], _, h => by cases ‹List UInt8› <;> simp [Op.bytesLess] at h
  | a, [], c :: _, h, _ => by cases a <;> simp [Op.bytesLess] at h
  | [], b :: bs, c :: cs, _, _ => rfl
  | a :: as, b :: bs, c :: cs, h1, h2 => by
    simp only [Op.bytesLess, Bool.or_eq_true, Bool.and_eq_true, decide_eq_true_eq, beq_iff_eq] at h1 h2 ⊢
    rcases h1 with h1 | ⟨rfl, h1⟩
    · rcases h2 with h2 | ⟨rfl, h2⟩
      · exact .inl (UInt8.lt_trans h1 h2)
      · exact .inl h1
    · rcases h2 with h2 | ⟨rfl, h2⟩
      · exact .inl h2
      · exact .inr ⟨rfl, bl_trans as bs cs h1 h2⟩

theorem bl_tri : ∀ a b : List UInt8, Op.bytesLess a b = false → Op.bytesLess b a = false → a = b
  | [], [], _, _ => rfl
  | [], _ :: _, h, _ => by simp [Op.bytesLess] at h
  | _ :: _, [], _, h => by simp [Op.bytesLess] at h
  | a :: as, b :: bs, h1, h2 => by
    simp only [Op.bytesLess, Bool.or_eq_false_iff, Bool.and_eq_false_iff, decide_eq_false_iff_not, beq_eq_false_iff_ne] at h1 h2
    have hab : a = b := by
      apply UInt8.le_antisymm
      · exact UInt8.not_lt.1 h2.1
      · exact UInt8.not_lt.1 h1.1
    subst hab
    have e1 : Op.bytesLess as bs = false := by rcases h1.2 with h | h; exact absurd rfl h; exact h
    have e2 : Op.bytesLess bs as = false := by rcases h2.2 with h | h; exact absurd rfl h; exact h
    rw [bl_tri as bs e1 e2]

theorem bl_asymm (a b : List UInt8) (h : Op.bytesLess a b = true) : Op.bytesLess b a = false := by
  cases h' : Op.bytesLess b a with
  | false => rfl
  | true => have := bl_trans _ _ _ h h'; rw [bl_irrefl] at this; cases this

/-- The order of texts. -/
def lts (a b : ByteArray) : Bool := Op.bytesLess a.toList b.toList

theorem toList_inj {a b : ByteArray} (h : a.toList = b.toList) : a = b := by
  rw [ByteArray.toList_eq, ByteArray.toList_eq] at h
  cases a with | mk a => cases b with | mk b => simp at h; rw [h]

theorem eq_texts (a b : ByteArray) : (a.toList == b.toList) = decide (a = b) := by
  by_cases h : a = b
  · subst h; simp
  · simp [h]; intro e; exact h (toList_inj e)

theorem beq_texts (a b : ByteArray) : (a == b) = decide (a = b) := by rw [beq_toListBytes, eq_texts]

theorem lts_irrefl (a : ByteArray) : lts a a = false := bl_irrefl _
theorem lts_trans {a b c : ByteArray} (h : lts a b = true) (h' : lts b c = true) : lts a c = true := bl_trans _ _ _ h h'
theorem lts_asymm {a b : ByteArray} (h : lts a b = true) : lts b a = false := bl_asymm _ _ h
theorem lts_tri {a b : ByteArray} (h : lts a b = false) (h' : lts b a = false) : a = b := toList_inj (bl_tri _ _ h h')

/-- An entry: a key, a value, a number, is it deleted? -/
structure Ent where
  k : ByteArray
  v : ByteArray
  s : Int
  d : Bool

theorem Ent.ext_ {a b : Ent} (h1 : a.k = b.k) (h2 : a.v = b.v) (h3 : a.s = b.s) (h4 : a.d = b.d) : a = b := by
  cases a; cases b; simp_all

def Ent.same (a b : Ent) : Bool := decide (a.k = b.k) && (decide (a.v = b.v) && (decide (a.s = b.s) && decide (a.d = b.d)))
theorem Ent.same_iff (a b : Ent) : Ent.same a b = true ↔ a = b := by
  obtain ⟨ak, av, as, ad⟩ := a
  obtain ⟨bk, bv, bs, bd⟩ := b
  simp [Ent.same]

instance : DecidableEq Ent := fun a b => if h : Ent.same a b = true then .isTrue ((Ent.same_iff a b).1 h) else .isFalse fun e => h ((Ent.same_iff a b).2 e)

def Ent.vals (e : Ent) : List Value := [.string e.k, .string e.v, .int .i64 e.s, .bool e.d]
def Ent.zero : Ent := ⟨ByteArray.empty, ByteArray.empty, 0, false⟩

/-- Is an entry ahead of another one? -/
def ahead (a b : Ent) : Bool := lts a.k b.k || (decide (a.k = b.k) && decide (b.s < a.s))

theorem ahead_irrefl (a : Ent) : ahead a a = false := by simp [ahead, lts_irrefl]
theorem ahead_trans {a b c : Ent} (h : ahead a b = true) (h' : ahead b c = true) : ahead a c = true := by
  simp only [ahead, Bool.or_eq_true, Bool.and_eq_true, decide_eq_true_eq] at *
  rcases h with h | ⟨h, h1⟩ <;> rcases h' with h' | ⟨h', h2⟩
  · exact .inl (lts_trans h h')
  · rw [← h']; exact .inl h
  · rw [h]; exact .inl h'
  · exact .inr ⟨h.trans h', by omega⟩
theorem ahead_asymm {a b : Ent} (h : ahead a b = true) : ahead b a = false := by
  cases h' : ahead b a with
  | false => rfl
  | true => have := ahead_trans h h'; rw [ahead_irrefl] at this; cases this
/-- Where neither is ahead, key and number are the same. -/
theorem ahead_tri {a b : Ent} (h : ahead a b = false) (h' : ahead b a = false) : a.k = b.k ∧ a.s = b.s := by
  simp only [ahead, Bool.or_eq_false_iff, Bool.and_eq_false_iff, decide_eq_false_iff_not] at h h'
  have e := lts_tri h.1 h'.1
  refine ⟨e, ?_⟩
  rcases h.2 with h2 | h2
  · exact absurd e h2
  · rcases h'.2 with h3 | h3
    · exact absurd e.symm h3
    · omega
/-- Only key and number matter. -/
theorem ahead_congr {a b a' b' : Ent} (h1 : a.k = a'.k) (h2 : a.s = a'.s) (h3 : b.k = b'.k) (h4 : b.s = b'.s) : ahead a b = ahead a' b' := by
  simp only [ahead, h1, h2, h3, h4]

/-- Not behind is transitive. -/
theorem not_ahead_trans {a b c : Ent} (h : ahead a b = false) (h' : ahead b c = false) : ahead a c = false := by
  cases hac : ahead a c with
  | false => rfl
  | true =>
    cases hba : ahead b a with
    | true => have := ahead_trans hba hac; rw [h'] at this; cases this
    | false =>
      obtain ⟨e1, e2⟩ := ahead_tri h hba
      rw [ahead_congr e1 e2 rfl rfl] at hac
      rw [h'] at hac; cases hac

end Go.Proofs.Ytgineehniclkeaa
