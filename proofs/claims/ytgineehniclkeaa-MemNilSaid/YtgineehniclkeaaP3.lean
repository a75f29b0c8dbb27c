/- Plain law of insertion: entries that may be, no two of one key and number, put in by whatever order, come to one list in order; no condition. -/
import Derived.Test.YtgineehniclkeaaC1
namespace Go.Proofs.Ytgineehniclkeaa
open Go.RowKit

def entsP (ps : List (Ent × Nat)) : List Ent := ps.map (·.1)
/-- The entries in their order. -/
def Srt (l : List Ent) : Prop := l.Pairwise fun a b => ahead a b = true
/-- The same on entries alone. -/
def insE (l : List Ent) (e : Ent) : List Ent := (l.takeWhile fun a => ahead a e) ++ e :: (l.dropWhile fun a => ahead a e)
def clash (l : List Ent) (e : Ent) : Prop := ∃ a ∈ l, a.k = e.k ∧ a.s = e.s

theorem entsP_add (hs : List Int) (ps : List (Ent × Nat)) (e : Ent) : entsP (addP hs ps e) = if addR ps e = 0 then insE (entsP ps) e else entsP ps := by
  unfold addP
  by_cases h : addR ps e = 0
  · rw [if_pos h, if_pos h]
    unfold entsP insE
    rw [List.map_append, List.map_cons, List.takeWhile_map, List.dropWhile_map]
    rfl
  · rw [if_neg h, if_neg h]

theorem ahead_same_left {a e b : Ent} (hk : a.k = e.k) (hs : a.s = e.s) : ahead a b = ahead e b := ahead_congr hk hs rfl rfl
theorem ahead_same_right {a e b : Ent} (hk : a.k = e.k) (hs : a.s = e.s) : ahead b a = ahead b e := ahead_congr rfl rfl hk hs

/-- In a list in order an entry's key and number stand at most where the ones ahead end. -/
theorem addR_zero {ps : List (Ent × Nat)} {e : Ent} (hs : Srt (entsP ps)) : addR ps e = 0 ↔ okB e = true ∧ ¬ clash (entsP ps) e := by
  unfold addR
  by_cases hok : okB e = true
  · rw [if_pos hok]
    have hsp : ps = (ps.takeWhile fun p => ahead p.1 e) ++ (ps.dropWhile fun p => ahead p.1 e) := (List.takeWhile_append_dropWhile).symm
    have htw : ∀ p ∈ ps.takeWhile (fun p => ahead p.1 e), ahead p.1 e = true := fun p hp => mem_takeWhile_p (fun p : Ent × Nat => ahead p.1 e) hp
    cases hd : ps.dropWhile fun p => ahead p.1 e with
    | nil =>
      rw [hd, List.append_nil] at hsp
      refine ⟨fun _ => ⟨hok, ?_⟩, fun _ => rfl⟩
      rintro ⟨a, ha, hk, hss⟩
      obtain ⟨p, hp, rfl⟩ := List.mem_map.1 ha
      rw [hsp] at hp
      have := htw p hp
      rw [ahead_same_left hk hss, ahead_irrefl] at this; cases this
    | cons q qs =>
      have hq : ahead q.1 e = false := by
        have h0 := List.head_dropWhile_not (fun p : Ent × Nat => ahead p.1 e) (l := ps) (by rw [hd]; simp)
        simp only [hd, List.head_cons] at h0
        exact h0
      rw [hd] at hsp
      by_cases hc : q.1.k = e.k ∧ q.1.s = e.s
      · show (if q.1.k = e.k ∧ q.1.s = e.s then (9 : Int) else 0) = 0 ↔ _
        rw [if_pos hc]
        refine ⟨(fun h => by cases h), fun h => absurd ⟨q.1, ?_, hc⟩ h.2⟩
        unfold entsP; rw [hsp]; simp
      · show (if q.1.k = e.k ∧ q.1.s = e.s then (9 : Int) else 0) = 0 ↔ _
        rw [if_neg hc]
        refine ⟨fun _ => ⟨hok, ?_⟩, fun _ => rfl⟩
        rintro ⟨a, ha, hk, hss⟩
        obtain ⟨p, hp, rfl⟩ := List.mem_map.1 ha
        rw [hsp] at hp
        rcases List.mem_append.1 hp with hp | hp
        · have := htw p hp
          rw [ahead_same_left hk hss, ahead_irrefl] at this; cases this
        · rcases List.mem_cons.1 hp with rfl | hp
          · exact hc ⟨hk, hss⟩
          · have hpw : ahead q.1 p.1 = true := by
              unfold Srt entsP at hs
              rw [hsp, List.map_append, List.map_cons, List.pairwise_append, List.pairwise_cons] at hs
              exact hs.2.1.1 p.1 (List.mem_map.2 ⟨p, hp, rfl⟩)
            rw [ahead_same_right hk hss] at hpw
            rw [hpw] at hq; cases hq
  · rw [if_neg hok]
    exact ⟨(fun h => by cases h), fun h => absurd h.1 hok⟩

theorem insE_srt {l : List Ent} {e : Ent} (hs : Srt l) (hc : ¬ clash l e) : Srt (insE l e) := by
  have hsp : l = (l.takeWhile fun a => ahead a e) ++ (l.dropWhile fun a => ahead a e) := (List.takeWhile_append_dropWhile).symm
  have htw : ∀ a ∈ l.takeWhile (fun a => ahead a e), ahead a e = true := fun a ha => mem_takeWhile_p (fun a : Ent => ahead a e) ha
  unfold insE Srt at *
  cases hd : l.dropWhile fun a => ahead a e with
  | nil =>
    rw [hd, List.append_nil] at hsp
    rw [List.pairwise_append]
    refine ⟨hsp ▸ hs, by simp, fun a ha b hb => ?_⟩
    rcases List.mem_singleton.1 hb with rfl
    exact htw a ha
  | cons q qs =>
    have hq : ahead q e = false := by
      have h0 := List.head_dropWhile_not (fun a : Ent => ahead a e) (l := l) (by rw [hd]; simp)
      simp only [hd, List.head_cons] at h0
      exact h0
    rw [hd] at hsp
    have heq : ahead e q = true := by
      cases h : ahead e q with
      | true => rfl
      | false =>
        obtain ⟨h1, h2⟩ := ahead_tri hq h
        exact absurd ⟨q, by rw [hsp]; simp, h1, h2⟩ hc
    generalize (l.takeWhile fun a => ahead a e) = tw at *
    subst hsp
    rw [List.pairwise_append, List.pairwise_cons] at hs
    rw [List.pairwise_append, List.pairwise_cons]
    obtain ⟨h1, ⟨h2, h3⟩, h4⟩ := hs
    refine ⟨h1, ⟨fun b hb => ?_, List.pairwise_cons.2 ⟨h2, h3⟩⟩, fun a ha b hb => ?_⟩
    · rcases List.mem_cons.1 hb with rfl | hb
      · exact heq
      · exact ahead_trans heq (h2 b hb)
    · rcases List.mem_cons.1 hb with rfl | hb
      · exact htw a ha
      · exact h4 a ha b hb

theorem insE_perm (l : List Ent) (e : Ent) : (insE l e).Perm (e :: l) := by
  have hsp : (l.takeWhile fun a => ahead a e) ++ (l.dropWhile fun a => ahead a e) = l := List.takeWhile_append_dropWhile
  unfold insE
  refine List.perm_middle.trans ?_
  rw [hsp]

/-- No two of one key and number. -/
def Apart (l : List Ent) : Prop := l.Pairwise fun a b => ¬ (a.k = b.k ∧ a.s = b.s)

def adds (hs : List Int) (l : List Ent) : List (Ent × Nat) := l.foldl (addP hs) []
theorem adds_snoc (hs : List Int) (l : List Ent) (e : Ent) : adds hs (l ++ [e]) = addP hs (adds hs l) e := by unfold adds; rw [List.foldl_append]; rfl

theorem snoc_ind {α : Type} {P : List α → Prop} (h0 : P []) (h1 : ∀ l a, P l → P (l ++ [a])) (l : List α) : P l := by
  have h : ∀ l : List α, P l.reverse := by
    intro l
    induction l with
    | nil => exact h0
    | cons a l ih => rw [List.reverse_cons]; exact h1 _ _ ih
  have := h l.reverse
  rwa [List.reverse_reverse] at this

theorem adds_step (hs : List Int) {l : List Ent} {e : Ent} (hg : Srt (entsP (adds hs l)) ∧ (entsP (adds hs l)).Perm l) (hok : okB e = true) (hap : ∀ a ∈ l, ¬ (a.k = e.k ∧ a.s = e.s)) :
    addR (adds hs l) e = 0 ∧ Srt (entsP (adds hs (l ++ [e]))) ∧ (entsP (adds hs (l ++ [e]))).Perm (l ++ [e]) := by
  have hc : ¬ clash (entsP (adds hs l)) e := fun ⟨a, ha, h⟩ => hap a (hg.2.mem_iff.1 ha) h
  have h0 : addR (adds hs l) e = 0 := (addR_zero hg.1).2 ⟨hok, hc⟩
  refine ⟨h0, ?_, ?_⟩
  · rw [adds_snoc, entsP_add, if_pos h0]; exact insE_srt hg.1 hc
  · rw [adds_snoc, entsP_add, if_pos h0]
    exact (insE_perm _ _).trans ((List.Perm.cons e hg.2).trans (List.perm_append_singleton e l).symm)

theorem adds_good (hs : List Int) (l : List Ent) : (∀ e ∈ l, okB e = true) → Apart l → Srt (entsP (adds hs l)) ∧ (entsP (adds hs l)).Perm l := by
  induction l using snoc_ind with
  | h0 => exact fun _ _ => ⟨List.Pairwise.nil, List.Perm.refl _⟩
  | h1 l e ih =>
    intro hok hap
    unfold Apart at hap
    rw [List.pairwise_append] at hap
    exact (adds_step hs (ih (fun a ha => hok a (List.mem_append_left _ ha)) hap.1) (hok e (by simp)) (fun a ha => hap.2.2 a ha e (by simp))).2

/-- Where each was put in, all may be, and no two are of one key and number. -/
theorem adds_all (hs : List Int) (l : List Ent) : (∀ i (h : i < l.length), addR (adds hs (l.take i)) l[i] = 0) → (∀ e ∈ l, okB e = true) ∧ Apart l := by
  induction l using snoc_ind with
  | h0 => exact fun _ => ⟨by simp, List.Pairwise.nil⟩
  | h1 l e ih =>
    intro h
    have hl := ih fun i hi => by
      have := h i (by simp; omega)
      rw [List.take_append_of_le_length (by omega), List.getElem_append_left hi] at this
      exact this
    have hg := adds_good hs l hl.1 hl.2
    have he := h l.length (by simp)
    rw [List.take_left', List.getElem_append_right (by omega)] at he
    · simp only [Nat.sub_self, List.getElem_cons_zero] at he
      obtain ⟨h1, h2⟩ := (addR_zero hg.1).1 he
      refine ⟨fun a ha => ?_, ?_⟩
      · rcases List.mem_append.1 ha with ha | ha
        · exact hl.1 a ha
        · rcases List.mem_singleton.1 ha with rfl; exact h1
      · unfold Apart
        rw [List.pairwise_append]
        refine ⟨hl.2, by simp, fun a ha b hb => ?_⟩
        rcases List.mem_singleton.1 hb with rfl
        exact fun hab => h2 ⟨a, hg.2.mem_iff.2 ha, hab⟩
    · rfl

theorem srt_unique : ∀ {a b : List Ent}, Srt a → Srt b → a.Perm b → a = b
  | [], b, _, _, hp => (List.nil_perm.1 hp).symm
  | x :: a, [], _, _, hp => by have := hp.length_eq; simp at this
  | x :: a, y :: b, ha, hb, hp => by
    have ha' := List.pairwise_cons.1 ha
    have hb' := List.pairwise_cons.1 hb
    have hxy : x = y := by
      apply Classical.byContradiction
      intro hne
      have h1 : x ∈ b := by
        have := hp.mem_iff.1 (List.mem_cons_self (a := x) (l := a))
        rcases List.mem_cons.1 this with h | h
        · exact absurd h hne
        · exact h
      have h2 : y ∈ a := by
        have := hp.mem_iff.2 (List.mem_cons_self (a := y) (l := b))
        rcases List.mem_cons.1 this with h | h
        · exact absurd h.symm hne
        · exact h
      have h3 := hb'.1 x h1
      have h4 := ha'.1 y h2
      rw [ahead_asymm h3] at h4; cases h4
    subst hxy
    rw [srt_unique ha'.2 hb'.2 (List.Perm.cons_inv hp)]

theorem Apart.perm {a b : List Ent} (h : Apart a) (hp : a.Perm b) : Apart b := by
  unfold Apart at *
  exact hp.pairwise h (fun {x y} hxy hyx => hxy ⟨hyx.1.symm, hyx.2.symm⟩)

/-- The list gone through from another place on. -/
def rot (l : List Ent) (n : Nat) : List Ent := l.drop n ++ l.take n
theorem rot_perm (l : List Ent) (n : Nat) : (rot l n).Perm l := by
  unfold rot
  have := List.perm_append_comm (l₁ := l.drop n) (l₂ := l.take n)
  rwa [List.take_append_drop] at this
theorem rot_len (l : List Ent) (n : Nat) : (rot l n).length = l.length := (rot_perm l n).length_eq
theorem rot_get (l : List Ent) (n i : Nat) (hn : n < l.length) (hi : i < l.length) : (rot l n)[i]'(by rw [rot_len]; exact hi) = l[(n + i) % l.length]'(Nat.mod_lt _ (by omega)) := by
  have h1 : (rot l n)[i]? = l[(n + i) % l.length]? := by
    unfold rot
    by_cases h : i < l.length - n
    · rw [List.getElem?_append_left (by simpa using h), List.getElem?_drop, Nat.mod_eq_of_lt (by omega)]
    · rw [List.getElem?_append_right (by simp; omega), List.length_drop, List.getElem?_take_of_lt (by omega)]
      have : (n + i) % l.length = i - (l.length - n) := by
        rw [show n + i = (i - (l.length - n)) + l.length from by omega, Nat.add_mod_right, Nat.mod_eq_of_lt (by omega)]
      rw [this]
  rw [List.getElem?_eq_getElem (by rw [rot_len]; exact hi), List.getElem?_eq_getElem (Nat.mod_lt _ (by omega))] at h1
  exact Option.some.inj h1

/-- THE LAW: what stands in the two tables is one list in order. -/
theorem order_law (h1 h2 : List Int) (l : List Ent) (n : Nat) (hz : ∀ i (h : i < l.length), addR (adds h1 (l.take i)) l[i] = 0) :
    (∀ i (h : i < (rot l n).length), addR (adds h2 ((rot l n).take i)) (rot l n)[i] = 0) ∧ entsP (adds h1 l) = entsP (adds h2 (rot l n)) ∧ Srt (entsP (adds h1 l)) ∧ (entsP (adds h1 l)).length = l.length := by
  obtain ⟨hok, hap⟩ := adds_all h1 l hz
  have hg := adds_good h1 l hok hap
  have hok' : ∀ e ∈ rot l n, okB e = true := fun e he => hok e ((rot_perm l n).mem_iff.1 he)
  have hap' : Apart (rot l n) := hap.perm (rot_perm l n).symm
  have hg' := adds_good h2 (rot l n) hok' hap'
  refine ⟨fun i hi => ?_, srt_unique hg.1 hg'.1 (hg.2.trans ((rot_perm l n).symm.trans hg'.2.symm)), hg.1, hg.2.length_eq⟩
  have hsplit : (rot l n).take i ++ [(rot l n)[i]] = (rot l n).take (i + 1) := (List.take_succ_eq_append_getElem hi).symm
  have hap2 : Apart ((rot l n).take i ++ [(rot l n)[i]]) := by rw [hsplit]; exact List.Pairwise.sublist (List.take_sublist _ _) hap'
  unfold Apart at hap2
  rw [List.pairwise_append] at hap2
  exact (adds_step h2 (adds_good h2 _ (fun e he => hok' e (List.mem_of_mem_take he)) hap2.1) (hok' _ (List.getElem_mem hi)) (fun a ha => hap2.2.2 a ha _ (by simp))).1

end Go.Proofs.Ytgineehniclkeaa
