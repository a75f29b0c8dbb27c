/- SameInts of two lists of numbers that lie in memory tells whether they are the same; at most a million numbers. -/
import Derived.Test.YtgineehniclkeaaA6
namespace Go.Proofs.Ytgineehniclkeaa
open Go.RowKit

theorem SameInts_any (A A' : Option Addr) (c c' B : Nat) (es fs : List Int) (w : World) (h : Ints w B A es) (h' : Ints w B A' fs) (hl : es.length ≤ 1000000) :
    Calls Try.prog 23 #[.slice A es.length c, .slice A' fs.length c'] w fun e w' => e = .returned (.bool (decide (es = fs))) ∧ ∃ m, w' = w.drewN m := by
  by_cases hlen : es.length = fs.length
  · have h1 : es.length ≤ fs.length := by omega
    have h2 : fs.length ≤ es.length := by omega
    have HL := Lib.hid hlen
    clear hlen
    go_enter Try.func23, Try.ntmps23
    go_wp2
    go_loopw [5] (fun i wr => ∃ k : Nat, k ≤ es.length ∧ i = .int .i64 k ∧ es.take k = fs.take k ∧ ∃ m, wr = w.drewN m) (fun i _ => es.length - (intOf i).toNat)
    case atStart => exact ⟨0, Nat.zero_le _, rfl, by simp, 0, rfl⟩
    case round =>
      obtain ⟨k, hk, rfl, ht, m, rfl⟩ := hrel
      by_cases hlt : k < es.length
      · have hne : es ≠ [] := by intro e; subst e; simp at hlt
        have hne' : fs ≠ [] := by intro e; subst e; simp only [List.length_nil] at h1; omega
        obtain ⟨b, o, rfl, hB, hc⟩ := h hne
        obtain ⟨b', o', rfl, hB', hc'⟩ := h' hne'
        have c0 := hc k hlt
        have d0 := hc' k (by omega)
        have hlt' : k < fs.length := by omega
        have HT := Lib.hid ht
        clear hc hc' h h' ht
        by_cases he : es[k] = fs[k]
        · have heq : (es[k] == fs[k]) = true := beq_iff_eq.2 he
          have hne : (es[k] != fs[k]) = false := by unfold bne; rw [heq]; rfl
          have HE := Lib.hid he
          clear he
          go_wp2
          go_quiet (fail)
          go_wp2
          go_roundw
          case rel => exact ⟨k + 1, by omega, by go_num, by rw [List.take_succ_eq_append_getElem hlt, List.take_succ_eq_append_getElem hlt', HT.out, HE.out], m + nq, rfl⟩
          case measure => simp [intOf]; omega
        · have heq : (es[k] == fs[k]) = false := beq_eq_false_iff_ne.2 he
          have hne : (es[k] != fs[k]) = true := by unfold bne; rw [heq]; rfl
          have HE := Lib.hid he
          clear he
          go_wp2
          go_quiet (fail)
          go_wp2
          go_ret
          exact ⟨ret_bool (by symm; apply decide_eq_false; intro e; subst e; exact HE.out rfl), m + nq, by simp⟩
      · go_wp2
        go_ret
        have ek : k = es.length := by omega
        subst ek
        exact ⟨ret_bool (by symm; apply decide_eq_true; exact take_eq_of es fs HL.out ht), m, rfl⟩
  · go_enter Try.func23, Try.ntmps23
    go_wp2
    go_ret
    exact ⟨ret_bool (by symm; apply decide_eq_false; intro e; exact hlen (by rw [e])), 0, rfl⟩

end Go.Proofs.Ytgineehniclkeaa
