/- Plain laws of versions: the last one of a key up to a number; what is visible in a span; of lists in order. -/
import Derived.Test.YtgineehniclkeaaP3
import Derived.Test.YtgineehniclkeaaC2
namespace Go.Proofs.Ytgineehniclkeaa
open Go.RowKit

def hitB (key : ByteArray) (seq : Int) (e : Ent) : Bool := decide (e.k = key) && decide (e.s ≤ seq)
/-- The greatest number of a key up to seq, else 0. -/
def bst (key : ByteArray) (seq : Int) : List Ent → Int
  | [] => 0
  | e :: l => if hitB key seq e then max e.s (bst key seq l) else bst key seq l

theorem bst_nonneg (key : ByteArray) (seq : Int) : ∀ l, 0 ≤ bst key seq l
  | [] => Int.le_refl 0
  | e :: l => by
    have := bst_nonneg key seq l
    unfold bst
    split <;> omega
theorem bst_append (key : ByteArray) (seq : Int) : ∀ a b, bst key seq (a ++ b) = max (bst key seq a) (bst key seq b)
  | [], b => by
    have := bst_nonneg key seq b
    show bst key seq b = max 0 (bst key seq b)
    omega
  | e :: a, b => by
    have ih := bst_append key seq a b
    show (if hitB key seq e then max e.s (bst key seq (a ++ b)) else bst key seq (a ++ b)) = max (if hitB key seq e then max e.s (bst key seq a) else bst key seq a) (bst key seq b)
    rw [ih]
    split <;> omega
theorem bst_ins (key : ByteArray) (seq : Int) (l : List Ent) (e : Ent) : bst key seq (insE l e) = if hitB key seq e then max (bst key seq l) e.s else bst key seq l := by
  have hsp : l = (l.takeWhile fun a => ahead a e) ++ (l.dropWhile fun a => ahead a e) := (List.takeWhile_append_dropWhile).symm
  unfold insE
  generalize (l.takeWhile fun a => ahead a e) = x at *
  generalize (l.dropWhile fun a => ahead a e) = y at *
  subst hsp
  rw [bst_append, bst_append]
  show max (bst key seq x) (if hitB key seq e then max e.s (bst key seq y) else bst key seq y) = _
  split <;> omega
theorem bst_none {key : ByteArray} {seq : Int} : ∀ {l : List Ent}, (∀ e ∈ l, hitB key seq e = false) → bst key seq l = 0
  | [], _ => rfl
  | e :: l, h => by
    unfold bst
    rw [h e (by simp)]
    exact bst_none fun a ha => h a (List.mem_cons_of_mem _ ha)
theorem bst_le {key : ByteArray} {seq m : Int} (h0 : 0 ≤ m) : ∀ {l : List Ent}, (∀ e ∈ l, hitB key seq e = true → e.s ≤ m) → bst key seq l ≤ m
  | [], _ => h0
  | e :: l, h => by
    have ih := bst_le h0 (l := l) fun a ha => h a (List.mem_cons_of_mem _ ha)
    unfold bst
    split
    · have := h e (by simp) (by assumption); omega
    · exact ih

theorem ahead_probe {e : Ent} {key : ByteArray} {seq : Int} (h : ahead e ⟨key, ByteArray.empty, seq, false⟩ = true) : hitB key seq e = false := by
  unfold ahead at h
  unfold hitB
  rw [Bool.or_eq_true] at h
  rcases h with h | h
  · have : ¬ e.k = key := fun hk => by rw [hk] at h; rw [lts_irrefl] at h; cases h
    simp [this]
  · rw [Bool.and_eq_true, decide_eq_true_eq, decide_eq_true_eq] at h
    have : ¬ e.s ≤ seq := by have := h.2; simp only [] at this; omega
    simp [this]
theorem not_ahead_probe {e : Ent} {key : ByteArray} {seq : Int} (h : ahead e ⟨key, ByteArray.empty, seq, false⟩ = false) : (e.k = key ∧ e.s ≤ seq) ∨ lts key e.k = true := by
  unfold ahead at h
  rw [Bool.or_eq_false_iff] at h
  by_cases hk : e.k = key
  · left
    refine ⟨hk, ?_⟩
    have h2 := h.2
    simp [hk] at h2
    exact h2
  · right
    cases hl : lts key e.k with
    | true => rfl
    | false => exact absurd (lts_tri h.1 hl) hk
theorem ahead_key {a b : Ent} (h : ahead a b = true) : lts a.k b.k = true ∨ (a.k = b.k ∧ b.s < a.s) := by
  unfold ahead at h
  rw [Bool.or_eq_true] at h
  rcases h with h | h
  · exact .inl h
  · rw [Bool.and_eq_true, decide_eq_true_eq, decide_eq_true_eq] at h
    exact .inr h

/-- Get tells the version that bst tells. -/
theorem getP_bst {ps : List (Ent × Nat)} (key : ByteArray) (seq : Int) (hs : Srt (entsP ps)) (hok : ∀ e ∈ entsP ps, 1 ≤ e.s) :
    (getP ps key seq).2 = decide (0 < bst key seq (entsP ps)) ∧ ((getP ps key seq).2 = true → (getP ps key seq).1.s = bst key seq (entsP ps) ∧ (getP ps key seq).1.k = key) := by
  have hsp : ps = (ps.takeWhile fun p => ahead p.1 ⟨key, ByteArray.empty, seq, false⟩) ++ (ps.dropWhile fun p => ahead p.1 ⟨key, ByteArray.empty, seq, false⟩) := (List.takeWhile_append_dropWhile).symm
  have htw : ∀ p ∈ ps.takeWhile (fun p => ahead p.1 ⟨key, ByteArray.empty, seq, false⟩), ahead p.1 ⟨key, ByteArray.empty, seq, false⟩ = true := fun p hp => mem_takeWhile_p (fun p : Ent × Nat => ahead p.1 ⟨key, ByteArray.empty, seq, false⟩) hp
  have hhead : ∀ q r, (ps.dropWhile fun p => ahead p.1 ⟨key, ByteArray.empty, seq, false⟩) = q :: r → ahead q.1 ⟨key, ByteArray.empty, seq, false⟩ = false := by
    intro q r hd
    have h0 := List.head_dropWhile_not (fun p : Ent × Nat => ahead p.1 ⟨key, ByteArray.empty, seq, false⟩) (l := ps) (by rw [hd]; simp)
    simp only [hd, List.head_cons] at h0
    exact h0
  unfold getP
  generalize (ps.takeWhile fun p => ahead p.1 ⟨key, ByteArray.empty, seq, false⟩) = tw at *
  have h1 : bst key seq (entsP tw) = 0 := bst_none fun e he => by
    obtain ⟨p, hp, rfl⟩ := List.mem_map.1 he
    exact ahead_probe (htw p hp)
  cases hd : ps.dropWhile fun p => ahead p.1 ⟨key, ByteArray.empty, seq, false⟩ with
  | nil =>
    rw [hd, List.append_nil] at hsp
    subst hsp
    rw [h1]
    simp
  | cons q r =>
    have hq := hhead q r hd
    rw [hd] at hsp
    clear hhead hd htw
    subst hsp
    have hb : bst key seq (entsP (tw ++ q :: r)) = bst key seq (q.1 :: entsP r) := by
      have : entsP (tw ++ q :: r) = entsP tw ++ (q.1 :: entsP r) := by unfold entsP; simp
      rw [this, bst_append, h1]
      have := bst_nonneg key seq (q.1 :: entsP r)
      omega
    rw [hb]
    have hqs := hok q.1 (by unfold entsP; simp)
    have hrest : ∀ e ∈ entsP r, ahead q.1 e = true := by
      unfold Srt entsP at hs
      rw [List.map_append, List.map_cons, List.pairwise_append, List.pairwise_cons] at hs
      exact fun e he => hs.2.1.1 e he
    rcases not_ahead_probe hq with ⟨hk, hsq⟩ | hlt
    · have hh : hitB key seq q.1 = true := by simp [hitB, hk, hsq]
      have hle : bst key seq (entsP r) ≤ q.1.s := bst_le (by omega) fun e he hhe => by
        rcases ahead_key (hrest e he) with h | h
        · have : e.k = key := by simp [hitB] at hhe; exact hhe.1
          rw [hk, this, lts_irrefl] at h; cases h
        · omega
      have hbq : bst key seq (q.1 :: entsP r) = q.1.s := by
        unfold bst
        rw [if_pos hh]
        omega
      rw [hbq]
      dsimp only
      rw [if_pos hk]
      exact ⟨(decide_eq_true (by omega)).symm, fun _ => ⟨rfl, hk⟩⟩
    · have hne : ¬ q.1.k = key := fun h => by rw [h, lts_irrefl] at hlt; cases hlt
      have hbq : bst key seq (q.1 :: entsP r) = 0 := bst_none fun e he => by
        have : lts key e.k = true := by
          rcases List.mem_cons.1 he with rfl | he
          · exact hlt
          · rcases ahead_key (hrest e he) with h | h
            · exact lts_trans hlt h
            · rw [← h.1]; exact hlt
        have : ¬ e.k = key := fun h => by rw [h, lts_irrefl] at this; cases this
        simp [hitB, this]
      rw [hbq]
      dsimp only
      rw [if_neg hne]
      exact ⟨by simp, fun h => by cases h⟩

/-! ### What is visible in a span. -/
def visB (f t : ByteArray) (seq : Int) (e : Ent) : Bool := decide (e.s ≤ seq) && inB e.k f t
/-- One step of Scan. -/
def scanStep (f t : ByteArray) (seq : Int) (l : List Ent) (e : Ent) : List Ent :=
  if visB f t seq e = true ∧ (match l.getLast? with | none => true | some x => decide (x.k ≠ e.k)) = true then l ++ [e] else l
def scanL (f t : ByteArray) (seq : Int) (l : List Ent) : List Ent := l.foldl (scanStep f t seq) []
theorem scanL_snoc (f t : ByteArray) (seq : Int) (l : List Ent) (e : Ent) : scanL f t seq (l ++ [e]) = scanStep f t seq (scanL f t seq l) e := by unfold scanL; rw [List.foldl_append]; rfl

structure ScanOk (f t : ByteArray) (seq : Int) (l r : List Ent) : Prop where
  sub : ∀ x ∈ r, x ∈ l ∧ visB f t seq x = true
  keys : r.Pairwise fun a b => lts a.k b.k = true
  all : ∀ y ∈ l, visB f t seq y = true → ∃ x ∈ r, x.k = y.k ∧ y.s ≤ x.s

theorem getLast_split {α : Type} (l : List α) : l.getLast? = none ∧ l = [] ∨ ∃ r x, l = r ++ [x] ∧ l.getLast? = some x := by
  rcases List.eq_nil_or_concat l with rfl | ⟨r, x, rfl⟩
  · exact .inl ⟨rfl, rfl⟩
  · exact .inr ⟨r, x, by simp, by simp⟩

theorem scan_ok (f t : ByteArray) (seq : Int) (l : List Ent) : Srt l → ScanOk f t seq l (scanL f t seq l) := by
  induction l using snoc_ind with
  | h0 => exact fun _ => ⟨fun x hx => (by cases hx), List.Pairwise.nil, fun y hy => (by cases hy)⟩
  | h1 l e ih =>
    intro hs
    unfold Srt at hs
    rw [List.pairwise_append] at hs
    obtain ⟨i1, i2, i3⟩ := ih hs.1
    have hae : ∀ a ∈ l, ahead a e = true := fun a ha => hs.2.2 a ha e (by simp)
    rw [scanL_snoc]
    unfold scanStep
    by_cases hv : visB f t seq e = true
    · rcases getLast_split (scanL f t seq l) with ⟨h1, h2⟩ | ⟨r, x, h1, h2⟩
      · rw [h1]
        rw [if_pos ⟨hv, rfl⟩]
        refine ⟨fun y hy => ?_, ?_, fun y hy hyv => ?_⟩
        · rcases List.mem_append.1 hy with hy | hy
          · exact ⟨List.mem_append_left _ (i1 y hy).1, (i1 y hy).2⟩
          · rcases List.mem_singleton.1 hy with rfl; exact ⟨by simp, hv⟩
        · rw [h2]; simp
        · rcases List.mem_append.1 hy with hy | hy
          · obtain ⟨x, hx, h⟩ := i3 y hy hyv
            exact ⟨x, List.mem_append_left _ hx, h⟩
          · rcases List.mem_singleton.1 hy with rfl; exact ⟨y, by simp, rfl, Int.le_refl _⟩
      · rw [h2]
        have hxm : x ∈ scanL f t seq l := by rw [h1]; simp
        have hxe := hae x (i1 x hxm).1
        by_cases hk : x.k = e.k
        · rw [if_neg (by simp [hk])]
          refine ⟨fun y hy => ⟨List.mem_append_left _ (i1 y hy).1, (i1 y hy).2⟩, i2, fun y hy hyv => ?_⟩
          rcases List.mem_append.1 hy with hy | hy
          · exact i3 y hy hyv
          · rcases List.mem_singleton.1 hy with rfl
            refine ⟨x, hxm, hk, ?_⟩
            rcases ahead_key hxe with h | h
            · rw [hk, lts_irrefl] at h; cases h
            · omega
        · rw [if_pos ⟨hv, by simp [hk]⟩]
          have hlt : lts x.k e.k = true := by
            rcases ahead_key hxe with h | h
            · exact h
            · exact absurd h.1 hk
          refine ⟨fun y hy => ?_, ?_, fun y hy hyv => ?_⟩
          · rcases List.mem_append.1 hy with hy | hy
            · exact ⟨List.mem_append_left _ (i1 y hy).1, (i1 y hy).2⟩
            · rcases List.mem_singleton.1 hy with rfl; exact ⟨by simp, hv⟩
          · rw [List.pairwise_append]
            refine ⟨i2, by simp, fun a ha b hb => ?_⟩
            rcases List.mem_singleton.1 hb with rfl
            rw [h1] at ha i2
            rw [List.pairwise_append] at i2
            rcases List.mem_append.1 ha with ha | ha
            · exact lts_trans (i2.2.2 a ha x (by simp)) hlt
            · rcases List.mem_singleton.1 ha with rfl; exact hlt
          · rcases List.mem_append.1 hy with hy | hy
            · obtain ⟨z, hz, h⟩ := i3 y hy hyv
              exact ⟨z, List.mem_append_left _ hz, h⟩
            · rcases List.mem_singleton.1 hy with rfl; exact ⟨y, by simp, rfl, Int.le_refl _⟩
    · rw [if_neg (fun h => hv h.1)]
      refine ⟨fun y hy => ⟨List.mem_append_left _ (i1 y hy).1, (i1 y hy).2⟩, i2, fun y hy hyv => ?_⟩
      rcases List.mem_append.1 hy with hy | hy
      · exact i3 y hy hyv
      · rcases List.mem_singleton.1 hy with rfl
        exact absurd hyv hv

theorem ite_len {c : Prop} [Decidable c] (l : List Ent) (e : Ent) : (if c then l ++ [e] else l).length ≤ l.length + 1 := by
  split
  · simp
  · omega
theorem scanL_len (f t : ByteArray) (seq : Int) (l : List Ent) : (scanL f t seq l).length ≤ l.length := by
  induction l using snoc_ind with
  | h0 => exact Nat.le_refl _
  | h1 l e ih =>
    rw [scanL_snoc]
    have := ite_len (c := visB f t seq e = true ∧ (match (scanL f t seq l).getLast? with | none => true | some x => decide (x.k ≠ e.k)) = true) (scanL f t seq l) e
    rw [List.length_append]
    exact Nat.le_trans this (Nat.add_le_add_right ih 1)

/-- What a lower number tells is told by a higher one, at a greater number or the same. -/
theorem scan_more {f t : ByteArray} {s1 s2 : Int} (h : s1 ≤ s2) {l : List Ent} (hs : Srt l) : ∀ x ∈ scanL f t s1 l, x.s ≤ s1 ∧ ∃ y ∈ scanL f t s2 l, y.k = x.k ∧ x.s ≤ y.s := by
  intro x hx
  have h1 := (scan_ok f t s1 l hs).sub x hx
  unfold visB at h1
  rw [Bool.and_eq_true, decide_eq_true_eq] at h1
  exact ⟨h1.2.1, (scan_ok f t s2 l hs).all x h1.1 (by unfold visB; rw [Bool.and_eq_true, decide_eq_true_eq]; exact ⟨by omega, h1.2.2⟩)⟩

end Go.Proofs.Ytgineehniclkeaa
