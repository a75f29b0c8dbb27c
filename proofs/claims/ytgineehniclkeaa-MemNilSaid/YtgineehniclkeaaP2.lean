/- Plain laws of a skip list as a list of nodes with towers: what a search along the lanes finds, and how many steps it takes; no condition. -/
import Derived.Test.YtgineehniclkeaaP1
namespace Go.Proofs.Ytgineehniclkeaa
open Go.RowKit

/-- A node: its block, its entry, the tower that it is linked by, the tower that it tells. -/
structure Nd where
  b : Nat
  e : Ent
  t : Nat
  c : Nat

/-- The first node of a lane. -/
def nextN (h : Nat) : List Nd → Option Nd
  | [] => none
  | n :: r => if h < n.t then some n else nextN h r
def ptrO (o : Option Nd) : Value := .pointer (o.map fun n => ⟨n.b, 0, none⟩)
def nextB (h : Nat) (l : List Nd) : Option Addr := (nextN h l).map fun n => ⟨n.b, 0, none⟩

/-- One lane's steps from a place: how many, and what stands behind the last node that is ahead. -/
def lane (e : Ent) (h : Nat) : List Nd → List Nd → Nat × List Nd
  | base, [] => (0, base)
  | base, n :: r => if h < n.t then (if ahead n.e e then ((lane e h r r).1 + 1, (lane e h r r).2) else (1, base)) else lane e h base r

/-- The steps of all lanes below j. -/
def searchFrom (e : Ent) : Nat → List Nd → Nat
  | 0, _ => 0
  | j + 1, ys => (lane e j ys ys).1 + searchFrom e j (lane e j ys ys).2

/-- The block of the last one. -/
def lastB (tb : Nat) : List Nd → Nat
  | [] => tb
  | n :: r => lastB n.b r
theorem lastB_snoc (tb : Nat) : ∀ (l : List Nd) (n : Nd), lastB tb (l ++ [n]) = n.b
  | [], _ => rfl
  | a :: l, n => lastB_snoc a.b l n

theorem nextN_none {h : Nat} : ∀ {l : List Nd}, nextN h l = none → ∀ n ∈ l, ¬ h < n.t
  | [], _, n, hn => by simp at hn
  | m :: r, he, n, hn => by
    unfold nextN at he
    by_cases hm : h < m.t
    · rw [if_pos hm] at he; cases he
    · rw [if_neg hm] at he
      rcases List.mem_cons.1 hn with rfl | hn
      · exact hm
      · exact nextN_none he n hn
theorem nextN_some {h : Nat} : ∀ {l : List Nd} {m : Nd}, nextN h l = some m → ∃ us vs, l = us ++ m :: vs ∧ h < m.t ∧ ∀ n ∈ us, ¬ h < n.t
  | [], _, he => by cases he
  | a :: r, m, he => by
    unfold nextN at he
    by_cases ha : h < a.t
    · rw [if_pos ha] at he; cases he
      exact ⟨[], r, rfl, ha, by simp⟩
    · rw [if_neg ha] at he
      obtain ⟨us, vs, rfl, hm, hu⟩ := nextN_some he
      exact ⟨a :: us, vs, rfl, hm, fun n hn => by
        rcases List.mem_cons.1 hn with rfl | hn
        · exact ha
        · exact hu n hn⟩
theorem nextN_skip {h : Nat} : ∀ {us l : List Nd}, (∀ n ∈ us, ¬ h < n.t) → nextN h (us ++ l) = nextN h l
  | [], _, _ => rfl
  | a :: us, l, hu => by
    show (if h < a.t then some a else nextN h (us ++ l)) = _
    rw [if_neg (hu a (by simp))]
    exact nextN_skip (us := us) fun n hn => hu n (List.mem_cons_of_mem _ hn)
theorem nextN_hit {h : Nat} {n : Nd} (l : List Nd) (hn : h < n.t) : nextN h (n :: l) = some n := by unfold nextN; rw [if_pos hn]
theorem nextN_miss {h : Nat} {n : Nd} (l : List Nd) (hn : ¬ h < n.t) : nextN h (n :: l) = nextN h l := by
  show (if h < n.t then some n else nextN h l) = _; rw [if_neg hn]

theorem lane_skip {e : Ent} {h : Nat} : ∀ {us l base : List Nd}, (∀ n ∈ us, ¬ h < n.t) → lane e h base (us ++ l) = lane e h base l
  | [], _, _, _ => rfl
  | a :: us, l, base, hu => by
    show lane e h base (a :: (us ++ l)) = _
    rw [lane]
    rw [if_neg (hu a (by simp))]
    exact lane_skip (us := us) fun n hn => hu n (List.mem_cons_of_mem _ hn)
theorem lane_end {e : Ent} {h : Nat} {base l : List Nd} (hl : nextN h l = none) : lane e h base l = (0, base) := by
  have := lane_skip (e := e) (h := h) (us := l) (l := []) (base := base) (nextN_none hl)
  rw [List.append_nil] at this
  rw [this]; rfl
theorem lane_stop {e : Ent} {h : Nat} {base us vs : List Nd} {m : Nd} (hu : ∀ n ∈ us, ¬ h < n.t) (hm : h < m.t) (ha : ahead m.e e = false) : lane e h base (us ++ m :: vs) = (1, base) := by
  rw [lane_skip hu, lane, if_pos hm, if_neg (by simp [ha])]
theorem lane_go {e : Ent} {h : Nat} {base us vs : List Nd} {m : Nd} (hu : ∀ n ∈ us, ¬ h < n.t) (hm : h < m.t) (ha : ahead m.e e = true) :
    lane e h base (us ++ m :: vs) = ((lane e h vs vs).1 + 1, (lane e h vs vs).2) := by
  rw [lane_skip hu, lane, if_pos hm, if_pos ha]

/-- The last node of a lane among those ahead. -/
def prevB (tb : Nat) (e : Ent) (ns : List Nd) (h : Nat) : Nat := lastB tb ((ns.takeWhile fun n => ahead n.e e).filter fun n => decide (h < n.t))

/-- Where a search of a lane has come to: all before are ahead, the last of them stands in the lane. -/
structure At (tb : Nat) (e : Ent) (ns : List Nd) (h : Nat) (xs ys : List Nd) : Prop where
  eq : ns = xs ++ ys
  ah : ∀ n ∈ xs, ahead n.e e = true
  last : ∀ (us : List Nd) (n : Nd), xs = us ++ [n] → h < n.t

theorem At.start (tb : Nat) (e : Ent) (ns : List Nd) (h : Nat) : At tb e ns h [] ns := ⟨rfl, by simp, fun us n he => by simp at he⟩
theorem At.down {tb : Nat} {e : Ent} {ns : List Nd} {h h' : Nat} {xs ys : List Nd} (a : At tb e ns h xs ys) (hh : h' ≤ h) : At tb e ns h' xs ys :=
  ⟨a.eq, a.ah, fun us n he => by have := a.last us n he; omega⟩
theorem takeWhile_all {α : Type} (p : α → Bool) : ∀ (xs ys : List α), (∀ n ∈ xs, p n = true) → (xs ++ ys).takeWhile p = xs ++ ys.takeWhile p
  | [], _, _ => rfl
  | a :: xs, ys, h => by simp [h a (by simp), takeWhile_all p xs ys fun n hn => h n (by simp [hn])]
theorem dropWhile_all {α : Type} (p : α → Bool) : ∀ (xs ys : List α), (∀ n ∈ xs, p n = true) → (xs ++ ys).dropWhile p = ys.dropWhile p
  | [], _, _ => rfl
  | a :: xs, ys, h => by simp [h a (by simp), dropWhile_all p xs ys fun n hn => h n (by simp [hn])]
theorem lastB_filter {tb h : Nat} (xs : List Nd) (hl : ∀ (us : List Nd) (n : Nd), xs = us ++ [n] → h < n.t) : lastB tb (xs.filter fun n => decide (h < n.t)) = lastB tb xs := by
  rcases List.eq_nil_or_concat xs with rfl | ⟨us, n, rfl⟩
  · rfl
  · have := hl us n (by simp)
    rw [List.concat_eq_append, List.filter_append]
    simp [this, lastB_snoc]

/-- Past a lane that goes on. -/
theorem At.go {tb : Nat} {e : Ent} {ns : List Nd} {h : Nat} {xs us vs : List Nd} {m : Nd} (a : At tb e ns h xs (us ++ m :: vs)) (hs : ∀ n ∈ us, ahead n.e e = true) (hm : h < m.t) (ha : ahead m.e e = true) :
    At tb e ns h (xs ++ us ++ [m]) vs :=
  ⟨by rw [a.eq]; simp, fun n hn => by
    simp only [List.mem_append, List.mem_singleton] at hn
    rcases hn with (hn | hn) | rfl
    · exact a.ah n hn
    · exact hs n hn
    · exact ha, fun us' n' he => by
    have := List.append_inj' he rfl
    have e2 : m = n' := by simpa using this.2
    rw [← e2]; exact hm⟩

/-- Where the lane has no further node that is ahead: the place is the last one of the lane among those ahead. -/
theorem At.found {tb : Nat} {e : Ent} {ns : List Nd} {h : Nat} {xs ys : List Nd} (a : At tb e ns h xs ys)
    (hn : nextN h ys = none ∨ ∃ m, nextN h ys = some m ∧ ahead m.e e = false) : prevB tb e ns h = lastB tb xs := by
  unfold prevB
  rw [a.eq, takeWhile_all _ _ _ a.ah, List.filter_append]
  have hz : (ys.takeWhile fun n => ahead n.e e).filter (fun n => decide (h < n.t)) = [] := by
    rw [List.filter_eq_nil_iff]
    intro n hmem
    rcases hn with hn | ⟨m, hn, hm⟩
    · simpa using nextN_none hn n ((List.takeWhile_sublist _).subset hmem)
    · obtain ⟨us, vs, rfl, _, hu⟩ := nextN_some hn
      have hsub : ∀ us : List Nd, (us ++ m :: vs).takeWhile (fun n => ahead n.e e) = us.takeWhile (fun n => ahead n.e e) := by
        intro us
        induction us with
        | nil => simp [hm]
        | cons b us ih => simp [List.takeWhile_cons, ih]
      rw [hsub] at hmem
      simpa using hu n ((List.takeWhile_sublist _).subset hmem)
  rw [hz, List.append_nil]
  exact lastB_filter xs a.last

end Go.Proofs.Ytgineehniclkeaa
