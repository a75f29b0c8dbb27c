/- The memtable's Len, Size, Lane and Cost as the statements see them, of a list of entries with towers; at most 100,000 entries. -/
import Derived.Test.YtgineehniclkeaaC2
import Derived.Test.YtgineehniclkeaaE1
import Derived.Test.YtgineehniclkeaaD2
namespace Go.Proofs.Ytgineehniclkeaa
open Go.RowKit

def laneLQ (h : Int) : Nat → List (Ent × Nat) → List Int
  | _, [] => []
  | i, p :: r => if h ≤ p.2 then (i : Int) :: laneLQ h (i + 1) r else laneLQ h (i + 1) r
def laneQ (h : Int) (ps : List (Ent × Nat)) : List Int := if 1 ≤ h ∧ h ≤ 12 then laneLQ h 0 ps else []
theorem laneL_proj (h : Int) : ∀ (i : Nat) (ns : List Nd), laneL h i ns = laneLQ h i (proj ns)
  | _, [] => rfl
  | i, n :: ns => by
    have ih := laneL_proj h (i + 1) ns
    show (if h ≤ n.c then (i : Int) :: laneL h (i + 1) ns else laneL h (i + 1) ns) = if h ≤ n.c then (i : Int) :: laneLQ h (i + 1) (proj ns) else laneLQ h (i + 1) (proj ns)
    rw [ih]
theorem laneOf_proj (h : Int) (ns : List Nd) : laneOf h ns = laneQ h (proj ns) := by unfold laneOf laneQ; rw [laneL_proj]

/-- One lane's steps, of entries with towers. -/
def stepQ (e : Ent) (h : Nat) : List (Ent × Nat) → List (Ent × Nat) → Nat × List (Ent × Nat)
  | base, [] => (0, base)
  | base, p :: r => if h < p.2 then (if ahead p.1 e then ((stepQ e h r r).1 + 1, (stepQ e h r r).2) else (1, base)) else stepQ e h base r
def costQ (e : Ent) : Nat → List (Ent × Nat) → Nat
  | 0, _ => 0
  | j + 1, ys => (stepQ e j ys ys).1 + costQ e j (stepQ e j ys ys).2

theorem lane_proj (e : Ent) (h : Nat) : ∀ (l base : List Nd), (∀ n ∈ l, n.t = n.c) → (∀ n ∈ base, n.t = n.c) →
    stepQ e h (proj base) (proj l) = ((lane e h base l).1, proj (lane e h base l).2) ∧ ∀ n ∈ (lane e h base l).2, n.t = n.c
  | [], base, _, hb => ⟨rfl, hb⟩
  | n :: l, base, hl, hb => by
    have hn : n.t = n.c := hl n (List.mem_cons_self ..)
    have hl' : ∀ m ∈ l, m.t = m.c := fun m hm => hl m (List.mem_cons_of_mem _ hm)
    have i1 := lane_proj e h l l hl' hl'
    have i2 := lane_proj e h l base hl' hb
    show (if h < n.c then (if ahead n.e e then ((stepQ e h (proj l) (proj l)).1 + 1, (stepQ e h (proj l) (proj l)).2) else (1, proj base)) else stepQ e h (proj base) (proj l)) = _ ∧ _
    rw [lane]
    by_cases h1 : h < n.t
    · rw [if_pos (hn ▸ h1), if_pos h1]
      by_cases h2 : ahead n.e e = true
      · rw [if_pos h2, if_pos h2, i1.1]
        exact ⟨rfl, i1.2⟩
      · rw [if_neg h2, if_neg h2]
        exact ⟨rfl, hb⟩
    · rw [if_neg (hn ▸ h1), if_neg h1]
      exact i2
theorem cost_proj (e : Ent) : ∀ (j : Nat) (ns : List Nd), (∀ n ∈ ns, n.t = n.c) → searchFrom e j ns = costQ e j (proj ns)
  | 0, _, _ => rfl
  | j + 1, ns, h => by
    have i := lane_proj e j ns ns h h
    show (lane e j ns ns).1 + searchFrom e j (lane e j ns ns).2 = (stepQ e j (proj ns) (proj ns)).1 + costQ e j (stepQ e j (proj ns) (proj ns)).2
    rw [i.1, cost_proj e j _ i.2]

theorem Lane_S (B tb : Nat) (hs : List Int) (ps : List (Ent × Nat)) (S : List Nat) (h : Int) (w : World) (hT : TabS B w tb hs ps S) (hlen : ps.length ≤ 100000) :
    Calls Try.prog 19 #[.pointer (some ⟨tb, 0, none⟩), .int .i64 h] w fun e w' => ∃ A c, e = .returned (.slice A (laneQ h ps).length c) ∧ Ints w' w'.heap.size A (laneQ h ps) ∧ Below w.heap.size w w' := by
  obtain ⟨hv, ns, hTb, rfl, -⟩ := hT
  have hl : ns.length ≤ 1000000 := by unfold proj at hlen; rw [List.length_map] at hlen; omega
  refine (Lane_any tb hv hs ns h w hTb hl).mono ?_
  rintro e w' ⟨v, rfl, hown, hb⟩
  obtain ⟨A, c, rfl, hI⟩ := ints_of_own hown
  rw [laneOf_proj] at hI ⊢
  exact ⟨A, c, rfl, hI, hb⟩

theorem Cost_S (B tb : Nat) (hs : List Int) (ps : List (Ent × Nat)) (S : List Nat) (key : ByteArray) (seq : Int) (w : World) (hT : TabS B w tb hs ps S) (hlen : ps.length ≤ 100000) :
    Calls Try.prog 20 #[.pointer (some ⟨tb, 0, none⟩), .string key, .int .i64 seq] w fun e w' => e = .returned (.int .i64 (costQ ⟨key, ByteArray.empty, seq, false⟩ 12 ps)) ∧ Below w.heap.size w w' := by
  obtain ⟨hv, ns, hTb, rfl, -⟩ := hT
  have hl : ns.length ≤ 1000000 := by unfold proj at hlen; rw [List.length_map] at hlen; omega
  rw [← cost_proj _ 12 ns (fun n hn => (hTb.towers n hn).1)]
  exact Cost_any tb hv hs ns key seq w hTb hl

theorem Len_S (B tb : Nat) (hs : List Int) (ps : List (Ent × Nat)) (S : List Nat) (w : World) (hT : TabS B w tb hs ps S) :
    Calls Try.prog 21 #[.pointer (some ⟨tb, 0, none⟩)] w fun e w' => e = .returned (.int .i64 ps.length) ∧ w = w' := by
  obtain ⟨hv, ns, hTb, rfl, -⟩ := hT
  have : (proj ns).length = ns.length := by unfold proj; rw [List.length_map]
  rw [this]
  exact Len_any tb hv hs ns w hTb

def sizeQ (ps : List (Ent × Nat)) : Int := (ps.map fun p => (p.1.k.size : Int) + p.1.v.size).sum
theorem Size_S (B tb : Nat) (hs : List Int) (ps : List (Ent × Nat)) (S : List Nat) (w : World) (hT : TabS B w tb hs ps S) :
    Calls Try.prog 24 #[.pointer (some ⟨tb, 0, none⟩)] w fun e w' => e = .returned (.int .i64 (sizeQ ps)) ∧ w = w' := by
  obtain ⟨hv, ns, hTb, rfl, -⟩ := hT
  have : sizeQ (proj ns) = (ns.map fun n => (n.e.k.size : Int) + n.e.v.size).sum := by unfold sizeQ proj; rw [List.map_map]; rfl
  rw [this]
  exact Size_any tb hv hs ns w hTb

theorem exLane : laneQ 1 exP = [0, 1, 2] ∧ laneQ 2 exP = [1, 2] ∧ laneQ 3 exP = [1] ∧ laneQ 4 exP = [] := by
  refine ⟨?_, ?_, ?_, ?_⟩ <;> simp [laneQ, laneLQ, exP]

theorem exCost : costQ ⟨⟨#[98]⟩, ByteArray.empty, 3, false⟩ 12 exP = 4 ∧ costQ ⟨⟨#[97]⟩, ByteArray.empty, 2, false⟩ 12 exP = 3 := by
  constructor
  · have h1 : ahead eA2 ⟨⟨#[98]⟩, ByteArray.empty, 3, false⟩ = true := by simp [ahead, eA2, ltsAB]
    have h2 : ahead eB3 ⟨⟨#[98]⟩, ByteArray.empty, 3, false⟩ = false := by simp [ahead, eB3, ltsBB]
    have h3 : ahead eB1 ⟨⟨#[98]⟩, ByteArray.empty, 3, false⟩ = false := by simp [ahead, eB1, ltsBB]
    simp [costQ, stepQ, exP, h1, h2, h3]
  · have h1 : ahead eA2 ⟨⟨#[97]⟩, ByteArray.empty, 2, false⟩ = false := by simp [ahead, eA2]; exact ltsL [97] [97]
    have h2 : ahead eB3 ⟨⟨#[97]⟩, ByteArray.empty, 2, false⟩ = false := by simp [ahead, eB3, ltsBA, ba_ab]
    have h3 : ahead eB1 ⟨⟨#[97]⟩, ByteArray.empty, 2, false⟩ = false := by simp [ahead, eB1, ltsBA, ba_ab]
    simp [costQ, stepQ, exP, h1, h2, h3]

theorem exGet0 : getP exP ⟨#[98]⟩ 0 = (Ent.zero, false) := by
  have h1 : ahead eA2 ⟨⟨#[98]⟩, ByteArray.empty, 0, false⟩ = true := by simp [ahead, eA2, ltsAB]
  have h2 : ahead eB3 ⟨⟨#[98]⟩, ByteArray.empty, 0, false⟩ = true := by simp [ahead, eB3]
  have h3 : ahead eB1 ⟨⟨#[98]⟩, ByteArray.empty, 0, false⟩ = true := by simp [ahead, eB1]
  have hd : exP.dropWhile (fun p => ahead p.1 ⟨⟨#[98]⟩, ByteArray.empty, 0, false⟩) = [] := by simp [exP, h1, h2, h3]
  unfold getP
  rw [hd]
theorem exGet3 : getP exP ⟨#[98]⟩ 3 = (eB3, true) := by
  have h1 : ahead eA2 ⟨⟨#[98]⟩, ByteArray.empty, 3, false⟩ = true := by simp [ahead, eA2, ltsAB]
  have h2 : ahead eB3 ⟨⟨#[98]⟩, ByteArray.empty, 3, false⟩ = false := by simp [ahead, eB3, ltsBB]
  have hd : exP.dropWhile (fun p => ahead p.1 ⟨⟨#[98]⟩, ByteArray.empty, 3, false⟩) = [(eB3, 3), (eB1, 2)] := by simp [exP, h1, h2]
  unfold getP
  rw [hd]
  simp [eB3]
def eBad : Ent := ⟨⟨#[]⟩, ⟨#[]⟩, 1, false⟩
theorem exAdd9 : addR exP eB3 = 9 ∧ addP exH exP eB3 = exP := by
  have h1 : ahead eA2 eB3 = true := ah2
  have h2 : ahead eB3 eB3 = false := ahead_irrefl _
  have hd : exP.dropWhile (fun p => ahead p.1 eB3) = [(eB3, 3), (eB1, 2)] := by simp [exP, h1, h2]
  have h : addR exP eB3 = 9 := by
    unfold addR
    rw [if_pos okB3, hd]
    exact if_pos ⟨rfl, rfl⟩
  refine ⟨h, ?_⟩
  unfold addP
  rw [h]
  exact if_neg (by decide)
theorem okBad : okB eBad = false := by
  simp [okB, fineB, eBad, ByteArray.size]
theorem exAdd2 : addR exP eBad = 2 ∧ addP exH exP eBad = exP := by
  have h : addR exP eBad = 2 := by
    unfold addR
    rw [if_neg (by rw [okBad]; decide)]
  refine ⟨h, ?_⟩
  unfold addP
  rw [h]
  exact if_neg (by decide)
theorem exSize : sizeQ exP = 3 := rfl

end Go.Proofs.Ytgineehniclkeaa
