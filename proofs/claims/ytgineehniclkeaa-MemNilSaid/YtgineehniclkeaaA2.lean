/- Contracts of small functions over lists of entries and of numbers: SameEntries, SameInts, Pick, small; a list is read in memory; its length is at most what memory holds. -/
import Derived.Test.YtgineehniclkeaaA1
namespace Go.Proofs.Ytgineehniclkeaa
open Go.RowKit

/-- A slice of entries at A reads as es; its cells lie below block B. -/
def Ents (w : World) (B : Nat) (A : Option Addr) (es : List Ent) : Prop :=
  es ≠ [] → ∃ b o, A = some ⟨b, o, none⟩ ∧ b < B ∧ ∀ i (h : i < es.length), w.cell? ⟨b, o + i * 4, none⟩ = some (.string es[i].k) ∧ w.cell? ⟨b, o + i * 4 + 1, none⟩ = some (.string es[i].v) ∧
    w.cell? ⟨b, o + i * 4 + 2, none⟩ = some (.int .i64 es[i].s) ∧ w.cell? ⟨b, o + i * 4 + 3, none⟩ = some (.bool es[i].d)

theorem Ents.below {w w' : World} {B : Nat} {A : Option Addr} {es : List Ent} (h : Ents w B A es) (hb : Below B w w') : Ents w' B A es := fun hn => by
  obtain ⟨b, o, e, hB, hc⟩ := h hn
  exact ⟨b, o, e, hB, fun i hi => ⟨(hb.cell (by exact hB)).trans (hc i hi).1, (hb.cell (by exact hB)).trans (hc i hi).2.1, (hb.cell (by exact hB)).trans (hc i hi).2.2.1, (hb.cell (by exact hB)).trans (hc i hi).2.2.2⟩⟩
theorem Ents.more {w : World} {B B' : Nat} {A : Option Addr} {es : List Ent} (h : Ents w B A es) (hB : B ≤ B') : Ents w B' A es := fun hn => by
  obtain ⟨b, o, e, hb, hc⟩ := h hn
  exact ⟨b, o, e, by omega, hc⟩
theorem Ents.nil {w : World} {B : Nat} {A : Option Addr} : Ents w B A [] := fun h => absurd rfl h

theorem tmod_emod (x n : Int) : x % n = (x.tmod n) % n := by
  have h := Int.tmod_add_mul_tdiv x n
  calc x % n = (x.tmod n + n * x.tdiv n) % n := by rw [h]
    _ = (x.tmod n) % n := Int.add_mul_emod_self_left _ _ _
theorem tmod_neg_case (x n : Int) (h0 : 0 < n) (h : x.tmod n < 0) : x.tmod n + n = x % n := by
  have hb : -n < x.tmod n := by have := Int.lt_tmod_of_pos x h0; omega
  rw [tmod_emod x n, ← Int.add_emod_right, Int.emod_eq_of_lt (by omega) (by omega)]
theorem tmod_pos_case (x n : Int) (h0 : 0 < n) (h : 0 ≤ x.tmod n) : x.tmod n = x % n := by
  have hb : x.tmod n < n := Int.tmod_lt_of_pos x h0
  rw [tmod_emod x n, Int.emod_eq_of_lt h hb]

set_option maxHeartbeats 400000 in
theorem Pick_any (x n : Int) (w : World) (h0 : 0 < n) (h1 : n ≤ 9223372036854775807) :
    Calls Try.prog 13 #[.int .i64 x, .int .i64 n] w fun e w' => e = .returned (.int .i64 (x % n)) ∧ w = w' := by
  have hm := Int.emod_lt_of_pos x h0
  have hm0 := Int.emod_nonneg x (show n ≠ 0 by omega)
  go_enter Try.func13, Try.ntmps13
  go_wp2
  · go_ret
    have h : x.tmod n < 0 := by assumption
    exact ⟨ret_int (by show wrap64 (x.tmod n + n) = _; rw [tmod_neg_case x n h0 h]; exact IntWalk.wrap64_in _ ⟨by omega, by omega⟩), rfl⟩
  · go_ret
    have h : 0 ≤ x.tmod n := by assumption
    exact ⟨ret_int (tmod_pos_case x n h0 h), rfl⟩

theorem take_eq_of {α : Type} [DecidableEq α] (es fs : List α) (hl : es.length = fs.length) (h : es.take es.length = fs.take es.length) : es = fs := by
  rw [List.take_length, hl, List.take_length] at h; exact h

theorem same_ne (a b : Ent) (w : World) : (binOp .neq 32 (.agg #[.string a.k, .string a.v, .int .i64 a.s, .bool a.d]) (.agg #[.string b.k, .string b.v, .int .i64 b.s, .bool b.d])).run Try.prog w = .ok (.bool (!(decide (a = b)))) w := by
  simp [go_sem]
  obtain ⟨ak, av, sa, ad⟩ := a
  obtain ⟨bk, bv, sb, bd⟩ := b
  simp only [Ent.mk.injEq]
  have e1 : (ak.toList = bk.toList) = (ak = bk) := propext ⟨toList_inj, congrArg _⟩
  have e2 : (av.toList = bv.toList) = (av = bv) := propext ⟨toList_inj, congrArg _⟩
  simp only [e1, e2]
  by_cases h1 : ak = bk <;> by_cases h2 : av = bv <;> by_cases h3 : sa = sb <;> by_cases h4 : ad = bd <;> simp [h1, h2, h3, h4]

set_option maxHeartbeats 400000 in
theorem SameEntries_any (A A' : Option Addr) (c c' B : Nat) (es fs : List Ent) (w : World) (h : Ents w B A es) (h' : Ents w B A' fs) (hl : es.length ≤ 1000) :
    Calls Try.prog 15 #[.slice A es.length c, .slice A' fs.length c'] w fun e w' => e = .returned (.bool (decide (es = fs))) ∧ ∃ m, w' = w.drewN m := by
  by_cases hlen : es.length = fs.length
  · have h1 : es.length ≤ fs.length := by omega
    have h2 : fs.length ≤ es.length := by omega
    have HL := Lib.hid hlen
    clear hlen
    go_enter Try.func15, Try.ntmps15
    go_wp2
    go_loopw [5] (fun i wr => ∃ k : Nat, k ≤ es.length ∧ i = .int .i64 k ∧ es.take k = fs.take k ∧ ∃ m, wr = w.drewN m) (fun i _ => es.length - (intOf i).toNat)
    case atStart => exact ⟨0, Nat.zero_le _, rfl, by simp, 0, rfl⟩
    case round =>
      obtain ⟨k, hk, rfl, ht, m, rfl⟩ := hrel
      by_cases hlt : k < es.length
      · have hne : es ≠ [] := by intro e; subst e; simp at hlt
        have hne' : fs ≠ [] := by intro e; subst e; simp only [List.length_nil] at h1; omega
        obtain ⟨b, o, rfl, hB, hc⟩ := h hne
        obtain ⟨b', o', rfl, hB', hc'⟩ := h' hne'
        obtain ⟨c0, c1, c2, c3⟩ := hc k hlt
        obtain ⟨d0, d1, d2, d3⟩ := hc' k (by omega)
        have hlt' : k < fs.length := by omega
        have HT := Lib.hid ht
        have hsn := same_ne es[k] fs[k]
        clear hc hc' h h' ht
        go_wp2
        go_quiet (fail)
        go_wp2
        · go_ret
          have hd : (!decide (es[k] = fs[k])) = true := by assumption
          exact ⟨ret_bool (by symm; apply decide_eq_false; intro e; subst e; simp at hd), m + nq, by simp⟩
        · go_roundw
          case rel =>
            have hd : (!decide (es[k] = fs[k])) = false := by assumption
            have he : es[k] = fs[k] := by simpa using hd
            exact ⟨k + 1, by omega, by go_num, by rw [List.take_succ_eq_append_getElem hlt, List.take_succ_eq_append_getElem hlt', HT.out, he], m + nq, rfl⟩
          case measure => simp [intOf]; omega
      · go_wp2
        go_ret
        have ek : k = es.length := by omega
        subst ek
        exact ⟨ret_bool (by symm; apply decide_eq_true; exact take_eq_of es fs HL.out ht), m, rfl⟩
  · go_enter Try.func15, Try.ntmps15
    go_wp2
    go_ret
    exact ⟨ret_bool (by symm; apply decide_eq_false; intro e; exact hlen (by rw [e])), 0, rfl⟩

/-- May an entry be gone through? -/
def smallE (e : Ent) : Bool := decide (e.k.size ≤ 600) && decide (e.v.size ≤ 600)
def smallB (es : List Ent) : Bool := es.all smallE && decide (es.length ≤ 60)

theorem all_snoc {α : Type} (l : List α) (k : Nat) (h : k < l.length) (p : α → Bool) : (l.take (k + 1)).all p = ((l.take k).all p && p l[k]) := by
  rw [List.take_succ_eq_append_getElem h, List.all_append]; simp

theorem all_false_at {α : Type} (l : List α) (k : Nat) (h : k < l.length) (p : α → Bool) (hp : p l[k] = false) : l.all p = false := by
  rw [List.all_eq_false]
  exact ⟨l[k], List.getElem_mem h, by simp [hp]⟩

set_option maxHeartbeats 400000 in
theorem small_any (A : Option Addr) (c B : Nat) (es : List Ent) (w : World) (h : Ents w B A es) (hl : es.length ≤ 9223372036854775807) :
    Calls Try.prog 10 #[.slice A es.length c] w fun e w' => e = .returned (.bool (smallB es)) ∧ w = w' := by
  go_enter Try.func10, Try.ntmps10
  go_wp2
  go_loop [3] (fun i => ∃ k : Nat, k ≤ es.length ∧ i = .int .i64 k ∧ (es.take k).all smallE = true) (fun i => es.length - (intOf i).toNat)
  case atStart => exact ⟨0, Nat.zero_le _, rfl, by simp⟩
  case round =>
    obtain ⟨k, hk, rfl, ht⟩ := hrel
    by_cases hlt : k < es.length
    · have hne : es ≠ [] := by intro e; subst e; simp at hlt
      obtain ⟨b, o, rfl, hB, hc⟩ := h hne
      obtain ⟨c0, c1, c2, c3⟩ := hc k hlt
      have HT := Lib.hid ht
      clear hc h ht
      go_wp2
      · go_ret
        exact ⟨ret_bool (by unfold smallB; rw [all_false_at es k hlt smallE (by simp [smallE]; omega)]; rfl), rfl⟩
      · go_round
        case rel => exact ⟨k + 1, by omega, by go_num, by rw [all_snoc _ _ hlt, HT.out]; simp [smallE]; omega⟩
        case measure => simp [intOf]; omega
      · go_ret
        exact ⟨ret_bool (by unfold smallB; rw [all_false_at es k hlt smallE (by simp [smallE]; omega)]; rfl), rfl⟩
    · go_wp2
      go_ret
      have ek : k = es.length := by omega
      subst ek
      rw [List.take_length] at ht
      exact ⟨ret_bool (by unfold smallB; rw [ht]; simp; omega), rfl⟩

end Go.Proofs.Ytgineehniclkeaa
