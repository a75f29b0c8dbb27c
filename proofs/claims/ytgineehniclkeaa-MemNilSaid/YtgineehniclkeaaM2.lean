/- Linking a node into the lanes of a memtable, one lane after the other: what the blocks hold behind each step; no condition. -/
import Derived.Test.YtgineehniclkeaaM1
import Derived.Test.YtgineehniclkeaaA5
namespace Go.Proofs.Ytgineehniclkeaa
open Go.RowKit

theorem Chain.of_at {w : World} : ∀ {ns : List Nd}, (∀ us m vs, ns = us ++ m :: vs → w.heap[m.b]? = some (.cells (ndCells m vs) 67 (0, 0))) → Chain w ns
  | [], _ => trivial
  | n :: r, h => ⟨h [] n r rfl, Chain.of_at fun us m vs e => h (n :: us) m vs (by rw [e]; rfl)⟩

theorem split_unique : ∀ {us p : List Nd} {m n : Nd} {b q : List Nd}, us ++ m :: b = p ++ n :: q → ((us ++ m :: b).map (·.b)).Nodup → m.b = n.b → us = p ∧ m = n ∧ b = q
  | [], [], m, n, b, q, e, _, _ => by simp at e; exact ⟨rfl, e.1, e.2⟩
  | [], a :: p, m, n, b, q, e, hn, hb => by
    simp only [List.nil_append, List.cons_append, List.cons.injEq] at e
    obtain ⟨rfl, rfl⟩ := e
    simp [hb] at hn
  | a :: us, [], m, n, b, q, e, hn, hb => by
    simp only [List.nil_append, List.cons_append, List.cons.injEq] at e
    obtain ⟨rfl, rfl⟩ := e
    simp [hb] at hn
  | a :: us, c :: p, m, n, b, q, e, hn, hb => by
    simp only [List.cons_append, List.cons.injEq] at e
    obtain ⟨rfl, e⟩ := e
    have hn' : ((us ++ m :: b).map (·.b)).Nodup := by simp only [List.cons_append, List.map_cons, List.nodup_cons] at hn; exact hn.2
    obtain ⟨h1, h2, h3⟩ := split_unique e hn' hb
    exact ⟨by rw [h1], h2, h3⟩

/-- The node that is being linked: so far in the lanes below h. -/
def newN (nb : Nat) (e : Ent) (h c : Nat) : Nd := ⟨nb, e, h, c⟩

theorem nextN_new_low {l h : Nat} {nb : Nat} {e : Ent} {c : Nat} (q dw : List Nd) (hl : ¬ l < h) : nextN l (q ++ newN nb e h c :: dw) = nextN l (q ++ dw) := by
  induction q with
  | nil => exact nextN_miss _ hl
  | cons a q ih =>
    show (if l < a.t then some a else nextN l (q ++ newN nb e h c :: dw)) = (if l < a.t then some a else nextN l (q ++ dw))
    rw [ih]
theorem nextB_cons (l : Nat) (a : Nd) (r : List Nd) : nextB l (a :: r) = if l < a.t then some ⟨a.b, 0, none⟩ else nextB l r := by
  unfold nextB
  by_cases h : l < a.t
  · rw [nextN_hit r h, if_pos h]; rfl
  · rw [nextN_miss r h, if_neg h]

theorem nextB_step {l h nb c : Nat} {e : Ent} (dw : List Nd) : ∀ (q : List Nd),
    nextB l (q ++ newN nb e (h + 1) c :: dw) = if l = h ∧ (∀ x ∈ q, ¬ h < x.t) then some ⟨nb, 0, none⟩ else nextB l (q ++ newN nb e h c :: dw)
  | [] => by
    rw [List.nil_append, List.nil_append, nextB_cons, nextB_cons]
    show (if l < h + 1 then some (⟨nb, 0, none⟩ : Addr) else nextB l dw) = if l = h ∧ _ then some ⟨nb, 0, none⟩ else if l < h then some ⟨nb, 0, none⟩ else nextB l dw
    by_cases h1 : l = h
    · subst h1; simp
    · have e1 : ¬ (l = h ∧ ∀ x ∈ ([] : List Nd), ¬ h < x.t) := fun e => h1 e.1
      rw [if_neg e1]
      by_cases h2 : l < h
      · rw [if_pos h2, if_pos (show l < h + 1 by omega)]
      · rw [if_neg h2, if_neg (show ¬ l < h + 1 by omega)]
  | a :: q => by
    rw [List.cons_append, List.cons_append, nextB_cons, nextB_cons, nextB_step dw q]
    by_cases h1 : l < a.t
    · rw [if_pos h1, if_pos h1, if_neg]
      rintro ⟨rfl, hx⟩
      exact hx a (List.mem_cons_self ..) h1
    · rw [if_neg h1, if_neg h1]
      by_cases h2 : l = h ∧ ∀ x ∈ q, ¬ h < x.t
      · rw [if_pos h2, if_pos ⟨h2.1, fun x hx => by
          rcases List.mem_cons.1 hx with rfl | hx
          · rw [← h2.1]; exact h1
          · exact h2.2 x hx⟩]
      · rw [if_neg h2, if_neg (fun h3 => h2 ⟨h3.1, fun x hx => h3.2 x (List.mem_cons_of_mem _ hx)⟩)]

theorem nextB_new_low {l h : Nat} {nb : Nat} {e : Ent} {c : Nat} (q dw : List Nd) (hl : ¬ l < h) : nextB l (q ++ newN nb e h c :: dw) = nextB l (q ++ dw) := by
  unfold nextB; rw [nextN_new_low q dw hl]

/-- One link turned. -/
theorem links_step {t h nb c : Nat} {e : Ent} (q dw : List Nd) (ht : h < t) (hq : ∀ x ∈ q, ¬ h < x.t) :
    links t (q ++ newN nb e (h + 1) c :: dw) = (links t (q ++ newN nb e h c :: dw)).set h (.pointer (some ⟨nb, 0, none⟩)) := by
  apply List.ext_getElem?
  intro l
  rcases Nat.lt_or_ge l 12 with hl | hl
  · rw [List.getElem?_set, links_get _ _ _ hl]
    by_cases e1 : h = l
    · subst e1
      rw [if_pos rfl, if_pos (by rw [links_len]; exact hl)]
      unfold linkV
      rw [if_pos ht, nextB_step, if_pos ⟨rfl, hq⟩]
    · rw [if_neg e1, links_get _ _ _ hl]
      have e2 : ¬ (l = h ∧ ∀ x ∈ q, ¬ h < x.t) := fun h => e1 h.1.symm
      unfold linkV
      rw [nextB_step, if_neg e2]
  · rw [List.getElem?_eq_none (by rw [links_len]; exact hl), List.getElem?_eq_none (by rw [List.length_set, links_len]; exact hl)]
/-- No link turned. -/
theorem links_same {t h nb c : Nat} {e : Ent} (q dw : List Nd) (hq : ¬ (h < t ∧ ∀ x ∈ q, ¬ h < x.t)) : links t (q ++ newN nb e (h + 1) c :: dw) = links t (q ++ newN nb e h c :: dw) := by
  apply List.ext_getElem?
  intro l
  rcases Nat.lt_or_ge l 12 with hl | hl
  · rw [links_get _ _ _ hl, links_get _ _ _ hl]
    unfold linkV
    by_cases h1 : l < t
    · rw [if_pos h1, if_pos h1, nextB_step, if_neg]
      rintro ⟨rfl, h2⟩
      exact hq ⟨h1, h2⟩
    · rw [if_neg h1, if_neg h1]
  · rw [List.getElem?_eq_none (by rw [links_len]; exact hl), List.getElem?_eq_none (by rw [links_len]; exact hl)]
/-- The new node's own links. -/
theorem links_own (h : Nat) (dw : List Nd) : links (h + 1) dw = (links h dw).set h (.pointer (nextB h dw)) := by
  apply List.ext_getElem?
  intro l
  rcases Nat.lt_or_ge l 12 with hl | hl
  · rw [List.getElem?_set, links_get _ _ _ hl]
    by_cases e1 : h = l
    · subst e1
      rw [if_pos rfl, if_pos (by rw [links_len]; exact hl)]
      unfold linkV
      rw [if_pos (Nat.lt_succ_self _)]
    · rw [if_neg e1, links_get _ _ _ hl]
      unfold linkV
      by_cases h1 : l < h
      · rw [if_pos (by omega), if_pos h1]
      · rw [if_neg (by omega), if_neg h1]
  · rw [List.getElem?_eq_none (by rw [links_len]; exact hl), List.getElem?_eq_none (by rw [List.length_set, links_len]; exact hl)]
/-- A node in no lane turns no link. -/
theorem links_new0 {t nb c : Nat} {e : Ent} (q dw : List Nd) : links t (q ++ newN nb e 0 c :: dw) = links t (q ++ dw) := by
  unfold links linkV
  simp only [nextB_new_low q dw (Nat.not_lt_zero _)]

theorem set_cells (v : List Value) (c : Value) (l : List Value) (h : Nat) (x : Value) (hv : v.length = 4) : (v ++ (c :: l)).toArray.setIfInBounds (5 + h) x = (v ++ (c :: l.set h x)).toArray := by
  rw [List.setIfInBounds_toArray]
  congr 1
  rw [List.set_append_right _ _ (by omega), hv, show 5 + h - 4 = h + 1 from by omega]
  rfl
theorem set_tbcells (v : List Value) (c : Value) (l r : List Value) (h : Nat) (x : Value) (hv : v.length = 4) (hh : h < l.length) :
    (v ++ (c :: (l ++ r))).toArray.setIfInBounds (5 + h) x = (v ++ (c :: (l.set h x ++ r))).toArray := by
  rw [List.setIfInBounds_toArray]
  congr 1
  rw [List.set_append_right _ _ (by omega), hv, show 5 + h - 4 = h + 1 from by omega, List.set_cons_succ, List.set_append_left _ _ hh]

theorem heap_setCell_at {w : World} {g i : Nat} {cs : Array Value} {t : TypeId} (hg : w.heap[g]? = some (.cells cs t (0, 0))) (v : Value) : (w.setCell ⟨g, i, none⟩ v).heap[g]? = some (.cells (cs.setIfInBounds i v) t (0, 0)) :=
  heap_setCell_same w g i cs t v hg

/-- Where the last node of a lane among tw stands. -/
theorem lastB_at {h : Nat} {tb : Nat} {us b : List Nd} {m : Nd} (hm : h < m.t) (hb : ∀ x ∈ b, ¬ h < x.t) : lastB tb ((us ++ m :: b).filter fun n => decide (h < n.t)) = m.b := by
  have hz : b.filter (fun n => decide (h < n.t)) = [] := by rw [List.filter_eq_nil_iff]; intro x hx; simpa using hb x hx
  rw [List.filter_append, List.filter_cons, if_pos (by simpa using hm), hz, lastB_snoc]
theorem lastB_none {h : Nat} {tb : Nat} {l : List Nd} (hl : ∀ x ∈ l, ¬ h < x.t) : lastB tb (l.filter fun n => decide (h < n.t)) = tb := by
  have hz : l.filter (fun n => decide (h < n.t)) = [] := by rw [List.filter_eq_nil_iff]; intro x hx; simpa using hl x hx
  rw [hz]; rfl

/-- THE STEP: the new node comes into lane h. -/
theorem link_step {w : World} {tb nb h c : Nat} {hv : Value} {len size : Int} {e : Ent} {tw dw : List Nd} (hh : h < 12)
    (hb : w.heap[tb]? = some (.cells (tbCells hv len size (tw ++ newN nb e h c :: dw)) 69 (0, 0))) (hc : Chain w (tw ++ newN nb e h c :: dw))
    (hn : ((tw ++ newN nb e h c :: dw).map (·.b)).Nodup) (P : Nat) (hP : P = lastB tb (tw.filter fun n => decide (h < n.t))) :
    ((w.setCell ⟨nb, 5 + h, none⟩ (.pointer (nextB h dw))).setCell ⟨P, 5 + h, none⟩ (.pointer (some ⟨nb, 0, none⟩))).heap[tb]? = some (.cells (tbCells hv len size (tw ++ newN nb e (h + 1) c :: dw)) 69 (0, 0)) ∧
    Chain ((w.setCell ⟨nb, 5 + h, none⟩ (.pointer (nextB h dw))).setCell ⟨P, 5 + h, none⟩ (.pointer (some ⟨nb, 0, none⟩))) (tw ++ newN nb e (h + 1) c :: dw) := by
  have hnew := hc.at_
  have hnbtb : nb ≠ tb := by rintro rfl; rw [show (newN nb e h c).b = nb from rfl] at hnew; rw [hnew] at hb; injection (Option.some.inj hb) with _ h2; exact absurd h2 (by decide)
  have hnd : ∀ m ∈ tw ++ dw, m.b ≠ nb := by
    intro m hm he
    rw [List.map_append, List.map_cons, List.nodup_append] at hn
    rcases List.mem_append.1 hm with hm | hm
    · exact hn.2.2 m.b (List.mem_map.2 ⟨m, hm, rfl⟩) nb (List.mem_cons_self ..) he
    · have := (List.nodup_cons.1 hn.2.1).1
      exact this (List.mem_map.2 ⟨m, hm, he⟩)
  -- the world behind the first store
  have hnew1 : (w.setCell ⟨nb, 5 + h, none⟩ (.pointer (nextB h dw))).heap[nb]? = some (.cells (ndCells (newN nb e (h + 1) c) dw) 67 (0, 0)) := by
    have hnew' : w.heap[nb]? = some (.cells (ndCells (newN nb e h c) dw) 67 (0, 0)) := hnew
    rw [heap_setCell_at hnew']
    unfold ndCells
    rw [set_cells _ _ _ _ _ rfl]
    show some (Obj.cells (e.vals ++ (.int .i64 c :: (links h dw).set h (.pointer (nextB h dw)))).toArray 67 (0, 0)) = some (.cells (e.vals ++ (.int .i64 c :: links (h + 1) dw)).toArray 67 (0, 0))
    rw [links_own h dw]
  have hold1 : ∀ b, b ≠ nb → (w.setCell ⟨nb, 5 + h, none⟩ (.pointer (nextB h dw))).heap[b]? = w.heap[b]? := fun b hb => Below.heap_setCell _ _ _ _ hb
  generalize hw1 : w.setCell ⟨nb, 5 + h, none⟩ (.pointer (nextB h dw)) = w1 at *
  clear hw1
  have hold2 : ∀ b, b ≠ P → (w1.setCell ⟨P, 5 + h, none⟩ (.pointer (some ⟨nb, 0, none⟩))).heap[b]? = w1.heap[b]? := fun b hb => Below.heap_setCell _ _ _ _ hb
  -- what a node of tw holds behind the step
  have htw : ∀ us m b, tw = us ++ m :: b → (w1.setCell ⟨P, 5 + h, none⟩ (.pointer (some ⟨nb, 0, none⟩))).heap[m.b]? = some (.cells (ndCells m (b ++ newN nb e (h + 1) c :: dw)) 67 (0, 0)) := by
    intro us m b hsp
    have hm := hc
    rw [hsp, List.append_assoc, List.cons_append] at hm
    have hm0 := hm.at_
    have hmnb := hnd m (by rw [hsp]; simp)
    have hm1 : w1.heap[m.b]? = some (.cells (ndCells m (b ++ newN nb e h c :: dw)) 67 (0, 0)) := (hold1 _ hmnb).trans hm0
    by_cases hcond : h < m.t ∧ ∀ x ∈ b, ¬ h < x.t
    · have hPm : P = m.b := by rw [hP, hsp]; exact lastB_at hcond.1 hcond.2
      subst hPm
      rw [heap_setCell_at hm1]
      unfold ndCells
      rw [set_cells _ _ _ _ _ rfl, links_step b dw hcond.1 hcond.2]
    · have hPm : m.b ≠ P := by
        intro hbP
        rcases last_split h tw tb with ⟨h1, _⟩ | ⟨p, n, q, h1, h2, h3, h4⟩
        · rw [h1] at hP
          rw [hbP, hP, hb] at hm0
          injection (Option.some.inj hm0) with _ h2; exact absurd h2 (by decide)
        · rw [h4] at hP
          have hnt : (tw.map (·.b)).Nodup := by rw [List.map_append, List.nodup_append] at hn; exact hn.1
          rw [hsp] at hnt h1
          obtain ⟨_, rfl, rfl⟩ := split_unique h1 hnt (hbP.trans hP)
          exact hcond ⟨h2, h3⟩
      rw [hold2 _ hPm, hm1]
      unfold ndCells
      rw [links_same b dw hcond]
  refine ⟨?_, Chain.of_at ?_⟩
  · have hb1 : w1.heap[tb]? = some (.cells (tbCells hv len size (tw ++ newN nb e h c :: dw)) 69 (0, 0)) := (hold1 _ (fun e => hnbtb e.symm)).trans hb
    by_cases hcond : ∀ x ∈ tw, ¬ h < x.t
    · have hPt : P = tb := by rw [hP]; exact lastB_none hcond
      subst hPt
      rw [heap_setCell_at hb1]
      unfold tbCells
      rw [set_tbcells _ _ _ _ _ _ rfl (by rw [links_len]; exact hh), links_step tw dw (by omega) hcond]
    · have hPt : tb ≠ P := by
        rcases last_split h tw tb with ⟨_, h2⟩ | ⟨p, n, q, h1, h2, h3, h4⟩
        · exact absurd h2 hcond
        · rw [h4] at hP
          rintro rfl
          have hm := hc
          rw [h1, List.append_assoc, List.cons_append] at hm
          have hm0 := hm.at_
          rw [← hP, hb] at hm0
          injection (Option.some.inj hm0) with _ h2; exact absurd h2 (by decide)
      rw [hold2 _ hPt, hb1]
      unfold tbCells
      rw [links_same tw dw (fun h => hcond h.2)]
  · intro us m vs hsp
    rcases List.append_eq_append_iff.1 hsp with ⟨ks, h1, h2⟩ | ⟨bs, h1, h2⟩
    · -- m is the new node, or stands behind it
      cases ks with
      | nil =>
        rw [List.nil_append] at h2
        injection h2 with h3 h4
        subst h3; subst h4
        have hPn : (newN nb e (h + 1) c).b ≠ P := by
          show nb ≠ P
          rcases last_split h tw tb with ⟨h5, _⟩ | ⟨p, n, q, h5, h6, h7, h8⟩
          · rw [h5] at hP; rw [hP]; exact hnbtb
          · rw [h8] at hP; rw [hP]; exact fun e => hnd n (by rw [h5]; simp) e.symm
        rw [hold2 _ hPn]; exact hnew1
      | cons a ks =>
        rw [List.cons_append] at h2
        injection h2 with h3 h4
        have hm := hc
        rw [h4] at hm
        have hm' : Chain w ((tw ++ newN nb e h c :: ks) ++ m :: vs) := by simpa using hm
        have hm0 := hm'.at_
        have hmnb := hnd m (by rw [h4]; simp)
        have hPm : m.b ≠ P := by
          rcases last_split h tw tb with ⟨h5, _⟩ | ⟨p, n, q, h5, h6, h7, h8⟩
          · rw [h5] at hP
            rintro rfl
            rw [hP, hb] at hm0
            injection (Option.some.inj hm0) with _ h2; exact absurd h2 (by decide)
          · rw [h8] at hP
            rintro rfl
            rw [List.map_append, List.nodup_append] at hn
            exact hn.2.2 n.b (List.mem_map.2 ⟨n, by rw [h5]; simp, rfl⟩) m.b (List.mem_map.2 ⟨m, by rw [h4]; simp, rfl⟩) hP.symm
        rw [hold2 _ hPm, hold1 _ hmnb]; exact hm0
    · -- m stands ahead of the new node
      cases bs with
      | nil =>
        rw [List.nil_append] at h2
        rw [List.append_nil] at h1
        injection h2 with h3 h4
        subst h3; subst h4
        have hPn : (newN nb e (h + 1) c).b ≠ P := by
          show nb ≠ P
          rcases last_split h tw tb with ⟨h5, _⟩ | ⟨p, n, q, h5, h6, h7, h8⟩
          · rw [h5] at hP; rw [hP]; exact hnbtb
          · rw [h8] at hP; rw [hP]; exact fun e => hnd n (by rw [h5]; simp) e.symm
        rw [hold2 _ hPn]; exact hnew1
      | cons a bs =>
        rw [List.cons_append] at h2
        injection h2 with h3 h4
        subst h3
        rw [h4]
        exact htw us m bs h1

end Go.Proofs.Ytgineehniclkeaa
