/- Plain laws of lanes: each lane's places go up, lie in the lane below, and the lowest has all; no condition. -/
import Derived.Test.YtgineehniclkeaaC2
namespace Go.Proofs.Ytgineehniclkeaa
open Go.RowKit

theorem laneL_lb (h : Int) : ∀ (ns : List Nd) (i : Nat), ∀ x ∈ laneL h i ns, (i : Int) ≤ x
  | [], _, _, hx => by cases hx
  | n :: r, i, x, hx => by
    unfold laneL at hx
    split at hx
    · rcases List.mem_cons.1 hx with rfl | hx
      · exact Int.le_refl _
      · have := laneL_lb h r (i + 1) x hx; omega
    · have := laneL_lb h r (i + 1) x hx; omega

theorem laneL_sorted (h : Int) : ∀ (ns : List Nd) (i : Nat), (laneL h i ns).Pairwise (· < ·)
  | [], _ => List.Pairwise.nil
  | n :: r, i => by
    unfold laneL
    split
    · refine List.pairwise_cons.2 ⟨fun x hx => ?_, laneL_sorted h r (i + 1)⟩
      have := laneL_lb h r (i + 1) x hx; omega
    · exact laneL_sorted h r (i + 1)

theorem laneL_sub {h h' : Int} (hh : h' ≤ h) : ∀ (ns : List Nd) (i : Nat), (laneL h i ns).Sublist (laneL h' i ns)
  | [], _ => List.Sublist.refl _
  | n :: r, i => by
    unfold laneL
    by_cases h1 : h ≤ n.c
    · rw [if_pos h1, if_pos (by omega)]
      exact (laneL_sub hh r (i + 1)).cons_cons _
    · rw [if_neg h1]
      split
      · exact (laneL_sub hh r (i + 1)).cons _
      · exact laneL_sub hh r (i + 1)

theorem laneL_one : ∀ (ns : List Nd) (i : Nat), (∀ n ∈ ns, 1 ≤ n.c) → (laneL 1 i ns).length = ns.length
  | [], _, _ => rfl
  | n :: r, i, hc => by
    unfold laneL
    rw [if_pos (by have := hc n (by simp); omega)]
    simp [laneL_one r (i + 1) (fun m hm => hc m (List.mem_cons_of_mem _ hm))]

theorem laneL_len (h : Int) : ∀ (ns : List Nd) (i : Nat), (laneL h i ns).length ≤ ns.length
  | [], _ => Nat.le_refl _
  | n :: r, i => by
    have := laneL_len h r (i + 1)
    unfold laneL
    split
    · simp; omega
    · simp; omega

theorem laneOf_sub (ns : List Nd) {h : Int} (h2 : 2 ≤ h) (h12 : h ≤ 12) : (laneOf h ns).Sublist (laneOf (h - 1) ns) := by
  unfold laneOf
  rw [if_pos ⟨by omega, h12⟩, if_pos ⟨by omega, by omega⟩]
  exact laneL_sub (by omega) ns 0
theorem laneOf_sorted (h : Int) (ns : List Nd) : (laneOf h ns).Pairwise (· < ·) := by
  unfold laneOf
  split
  · exact laneL_sorted h ns 0
  · exact List.Pairwise.nil
theorem laneOf_len (h : Int) (ns : List Nd) : (laneOf h ns).length ≤ ns.length := by
  unfold laneOf
  split
  · exact laneL_len h ns 0
  · exact Nat.zero_le _

theorem sub_cons {x y : Int} {r s : List Int} (h : (x :: r).Sublist (y :: s)) (hne : y ≠ x) : (x :: r).Sublist s := by
  cases h with
  | cons _ h => exact h
  | cons_cons _ h => exact absurd rfl hne

/-- Where the first of what is sought is not the first of what is left, what is left may lose its first. -/
theorem sub_lt {up low : List Int} {i k : Nat} (hs : (up.drop i).Sublist (low.drop k)) (hi : i < up.length) : k < low.length := by
  rw [List.drop_eq_getElem_cons hi] at hs
  apply Classical.byContradiction
  intro h
  rw [List.drop_eq_nil_of_le (show low.length ≤ k by omega)] at hs
  cases hs

theorem sub_step {up low : List Int} {i k : Nat} (hs : (up.drop i).Sublist (low.drop k)) (hi : i < up.length) (hk : k < low.length) (hne : low[k] ≠ up[i]) : (up.drop i).Sublist (low.drop (k + 1)) := by
  rw [List.drop_eq_getElem_cons hi] at hs ⊢
  rw [List.drop_eq_getElem_cons hk] at hs
  exact sub_cons hs hne

theorem sub_hit {up low : List Int} {i k : Nat} (hs : (up.drop i).Sublist (low.drop k)) (hp : low.Pairwise (· < ·)) (hi : i < up.length) (hk : k < low.length) (hge : up[i] ≤ low[k]) : low[k] = up[i] ∧ (up.drop (i + 1)).Sublist (low.drop k) := by
  have h2 : (up.drop (i + 1)).Sublist (low.drop k) := by
    rw [List.drop_eq_getElem_cons hi] at hs
    exact (List.sublist_cons_self _ _).trans hs
  refine ⟨?_, h2⟩
  apply Classical.byContradiction
  intro hne
  have h3 := sub_step hs hi hk hne
  have hmem : up[i] ∈ low.drop (k + 1) := h3.subset (by rw [List.drop_eq_getElem_cons hi]; exact List.mem_cons_self)
  have hpd : (low.drop k).Pairwise (· < ·) := List.Pairwise.sublist (List.drop_sublist _ _) hp
  rw [List.drop_eq_getElem_cons hk, List.pairwise_cons] at hpd
  have := hpd.1 _ hmem
  omega

theorem lane_cost (e : Ent) (h : Nat) : ∀ (r base : List Nd), r.length ≤ base.length → (lane e h base r).1 + (lane e h base r).2.length ≤ base.length + 1
  | [], base, _ => by simp [lane]
  | n :: r, base, hl => by
    simp only [List.length_cons] at hl
    unfold lane
    split
    · split
      · have := lane_cost e h r r (Nat.le_refl _)
        simp only []
        omega
      · simp only []
        omega
    · exact lane_cost e h r base (by omega)

theorem cost_le (e : Ent) : ∀ (j : Nat) (ys : List Nd), searchFrom e j ys ≤ ys.length + j
  | 0, _ => by simp [searchFrom]
  | j + 1, ys => by
    have h1 := lane_cost e j ys ys (Nat.le_refl _)
    have h2 := cost_le e j (lane e j ys ys).2
    unfold searchFrom
    omega

end Go.Proofs.Ytgineehniclkeaa
