/- The memtable as the statements see it: a list of entries with towers; what New and Add make of it; at most a million entries. -/
import Derived.Test.YtgineehniclkeaaA9
import Derived.Test.YtgineehniclkeaaB2
namespace Go.Proofs.Ytgineehniclkeaa
open Go.RowKit

/-- What Add answers. -/
def addR (ps : List (Ent × Nat)) (e : Ent) : Int :=
  if okB e = true then
    match ps.dropWhile fun p => ahead p.1 e with
    | [] => 0
    | p :: _ => if p.1.k = e.k ∧ p.1.s = e.s then 9 else 0
  else 2
/-- What Add makes of a table. -/
def addP (hs : List Int) (ps : List (Ent × Nat)) (e : Ent) : List (Ent × Nat) :=
  if addR ps e = 0 then (ps.takeWhile fun p => ahead p.1 e) ++ (e, towerOf hs ps.length) :: (ps.dropWhile fun p => ahead p.1 e) else ps

def proj (ns : List Nd) : List (Ent × Nat) := ns.map fun n => (n.e, n.c)

/-- A table at tb that reads as ps, in blocks S and its heights', all from B on. -/
def TabS (B : Nat) (w : World) (tb : Nat) (hs : List Int) (ps : List (Ent × Nat)) (S : List Nat) : Prop :=
  ∃ hv ns, Tbl w tb hv hs ns ∧ proj ns = ps ∧ S = tb :: ns.map (·.b) ∧ (∀ x ∈ S, B ≤ x) ∧ (∀ g, hv.ownBlock = some g → B ≤ g) ∧ (∀ n ∈ ns, okB n.e = true)

theorem okB_size {e : Ent} (h : okB e = true) : (e.k.size : Int) ≤ 512 ∧ (e.v.size : Int) ≤ 4096 := by
  simp only [okB, fineB, Bool.and_eq_true, decide_eq_true_eq] at h
  omega
theorem bytesOf_le : ∀ (ns : List Nd), (∀ n ∈ ns, okB n.e = true) → 0 ≤ bytesOf ns ∧ bytesOf ns ≤ 4608 * ns.length
  | [], _ => by simp [bytesOf]
  | n :: ns, h => by
    have h1 := okB_size (h n (by simp))
    have h2 := bytesOf_le ns fun m hm => h m (by simp [hm])
    unfold bytesOf at h2 ⊢
    rw [List.map_cons, List.sum_cons, List.length_cons]
    omega

theorem TabS.lt {B : Nat} {w : World} {tb : Nat} {hs : List Int} {ps : List (Ent × Nat)} {S : List Nat} (h : TabS B w tb hs ps S) : ∀ x ∈ S, x < w.heap.size := by
  obtain ⟨hv, ns, hT, _, rfl, _⟩ := h
  intro x hx
  rcases List.mem_cons.1 hx with rfl | hx
  · exact hT.lt
  · obtain ⟨n, hn, rfl⟩ := List.mem_map.1 hx
    exact hT.chain.lt n hn
theorem TabS.below {B : Nat} {w w' : World} {tb : Nat} {hs : List Int} {ps : List (Ent × Nat)} {S : List Nat} (h : TabS B w tb hs ps S) (hb : Below w.heap.size w w') : TabS B w' tb hs ps S := by
  obtain ⟨hv, ns, hT, h1, h2, h3, h4, h5⟩ := h
  exact ⟨hv, ns, hT.below hb, h1, h2, h3, h4, h5⟩
/-- The kinds of a table's blocks. -/
theorem TabS.kind {B : Nat} {w : World} {tb : Nat} {hs : List Int} {ps : List (Ent × Nat)} {S : List Nat} (h : TabS B w tb hs ps S) : ∀ x ∈ S, ∃ cs t, (t = 69 ∨ t = 67) ∧ w.heap[x]? = some (.cells cs t (0, 0)) := by
  obtain ⟨hv, ns, hT, _, rfl, _⟩ := h
  intro x hx
  rcases List.mem_cons.1 hx with rfl | hx
  · exact ⟨_, _, .inl rfl, hT.blk⟩
  · obtain ⟨n, hn, rfl⟩ := List.mem_map.1 hx
    obtain ⟨us, vs, hsp⟩ := List.append_of_mem hn
    have hc := hT.chain
    rw [hsp] at hc
    exact ⟨_, _, .inr rfl, hc.at_⟩
/-- What another table's Add leaves. -/
theorem TabS.off {B B' : Nat} {w w' : World} {tb tb' : Nat} {hs hs' : List Int} {ps ps' : List (Ent × Nat)} {S S' : List Nat} (h : TabS B w tb hs ps S) (h' : TabS B' w tb' hs' ps' S') (ho : Off S' w w') (hd : ∀ x ∈ S, x ∉ S') : TabS B w' tb hs ps S := by
  have hk := h'.kind
  have hl := h.lt
  obtain ⟨hv, ns, hT, h1, rfl, h3, h4, h5⟩ := h
  have htb := ho.block tb (hl tb (by simp)) (hd tb (by simp))
  refine ⟨hv, ns, ⟨htb.trans hT.blk, hT.chain.keep fun n hn => ?_, hT.nodup, own_keep hT.own fun g hg => ?_, hT.towers, hT.sorted⟩, h1, rfl, h3, h4, h5⟩
  · have hm : n.b ∈ tb :: ns.map (·.b) := List.mem_cons_of_mem _ (List.mem_map.2 ⟨n, hn, rfl⟩)
    exact ho.block _ (hl _ hm) (hd _ hm)
  · refine ho.block g (hT.own.lt g hg).2 fun hm => ?_
    obtain ⟨cs, t, ht, hb⟩ := hk g hm
    refine own_ne hT.own hg hb ?_ rfl
    rcases ht with rfl | rfl <;> decide

theorem takeWhile_proj (ns : List Nd) (e : Ent) : (proj ns).takeWhile (fun p => ahead p.1 e) = proj (ns.takeWhile fun n => ahead n.e e) := by
  unfold proj; rw [List.takeWhile_map]; rfl
theorem dropWhile_proj (ns : List Nd) (e : Ent) : (proj ns).dropWhile (fun p => ahead p.1 e) = proj (ns.dropWhile fun n => ahead n.e e) := by
  unfold proj; rw [List.dropWhile_map]; rfl

theorem Add_S (B tb : Nat) (hs : List Int) (ps : List (Ent × Nat)) (S : List Nat) (e : Ent) (w : World) (h : TabS B w tb hs ps S) (hB : B ≤ w.heap.size) (hlen : ps.length ≤ 100000) (hsl : hs.length ≤ 1000000) (hgt : hs.all hgtB = true)
    (hk : e.k.size ≤ 9223372036854775807) (hv' : e.v.size ≤ 9223372036854775807) :
    Calls Try.prog 12 #[.pointer (some ⟨tb, 0, none⟩), .agg #[.string e.k, .string e.v, .int .i64 e.s, .bool e.d]] w fun en w' => en = .returned (.int .i64 (addR ps e)) ∧ ∃ S', TabS B w' tb hs (addP hs ps e) S' ∧ Off S w w' ∧ Below B w w' ∧ ∀ x ∈ S', x ∈ S ∨ w.heap.size ≤ x := by
  have hlt := h.lt
  obtain ⟨hv, ns, hT, rfl, rfl, h3, h4, h5⟩ := id h
  have hlen' : ns.length ≤ 1000000 := by unfold proj at hlen; rw [List.length_map] at hlen; omega
  have offB : ∀ {W}, Off (tb :: ns.map (·.b)) w W → Below B w W := fun ho => ⟨ho.os, ho.tape, ho.output, ho.size, fun k hk => ho.block k (by omega) (fun hm => by have := h3 k hm; omega)⟩
  cases hok : okB e with
  | false =>
    have hR : addR (proj ns) e = 2 := by unfold addR; rw [hok]; rfl
    have hP : addP hs (proj ns) e = proj ns := by unfold addP; rw [hR]; rfl
    rw [hR, hP]
    refine (Add_bad tb hv hs ns e w hT hk hv' hok).mono ?_
    rintro en w' ⟨rfl, hb⟩
    exact ⟨rfl, _, h.below hb, Off.of_below hb, hb.mono hB, fun x hx => .inl hx⟩
  | true =>
    have hsum := bytesOf_le ns h5
    have hR : addR (proj ns) e = match ns.dropWhile fun n => ahead n.e e with | [] => 0 | n :: _ => if n.e.k = e.k ∧ n.e.s = e.s then 9 else 0 := by
      unfold addR
      rw [if_pos hok, dropWhile_proj]
      unfold proj
      cases ns.dropWhile fun n => ahead n.e e <;> rfl
    have okcase : addR (proj ns) e = 0 → (∀ n vs, (ns.dropWhile fun n => ahead n.e e) = n :: vs → ¬ (n.e.k = e.k ∧ n.e.s = e.s)) →
        Calls Try.prog 12 #[.pointer (some ⟨tb, 0, none⟩), .agg #[.string e.k, .string e.v, .int .i64 e.s, .bool e.d]] w fun en w' => en = .returned (.int .i64 (addR (proj ns) e)) ∧ ∃ S', TabS B w' tb hs (addP hs (proj ns) e) S' ∧ Off (tb :: ns.map (·.b)) w w' ∧ Below B w w' ∧ ∀ x ∈ S', x ∈ (tb :: ns.map (·.b)) ∨ w.heap.size ≤ x := by
      intro h0 hnot
      have hsp := dw_split e ns
      have hP : addP hs (proj ns) e = proj (ns.takeWhile fun n => ahead n.e e) ++ (e, towerOf hs ns.length) :: proj (ns.dropWhile fun n => ahead n.e e) := by
        unfold addP
        rw [if_pos h0, takeWhile_proj, dropWhile_proj]
        unfold proj; rw [List.length_map]
      have htw2 := takeWhile_all (fun n : Nd => ahead n.e e) (ns.takeWhile fun n => ahead n.e e) (ns.dropWhile fun n => ahead n.e e) (fun n hn => mem_takeWhile_p (fun n : Nd => ahead n.e e) hn)
      generalize htw : (ns.takeWhile fun n => ahead n.e e) = tw at *
      generalize hdw : (ns.dropWhile fun n => ahead n.e e) = dw at *
      rw [h0, hP]
      subst hsp
      refine (Add_ok tb hv hs tw dw e w hT hlen' hsl hgt hok (by omega) hsum.1 htw hdw hnot).mono ?_
      rintro en w' ⟨nb, rfl, hnb, hT', ho⟩
      refine ⟨rfl, _, ⟨hv, _, hT', ?_, rfl, ?_, h4, ?_⟩, ho, offB ho, ?_⟩
      · unfold proj newN; simp
      · intro x hx
        rcases List.mem_cons.1 hx with rfl | hx
        · exact h3 _ (by simp)
        · obtain ⟨n, hn, rfl⟩ := List.mem_map.1 hx
          rcases List.mem_append.1 hn with hn | hn
          · exact h3 _ (List.mem_cons_of_mem _ (List.mem_map.2 ⟨n, List.mem_append_left _ hn, rfl⟩))
          · rcases List.mem_cons.1 hn with rfl | hn
            · exact Nat.le_trans hB hnb
            · exact h3 _ (List.mem_cons_of_mem _ (List.mem_map.2 ⟨n, List.mem_append_right _ hn, rfl⟩))
      · intro n hn
        rcases List.mem_append.1 hn with hn | hn
        · exact h5 n (List.mem_append_left _ hn)
        · rcases List.mem_cons.1 hn with rfl | hn
          · exact hok
          · exact h5 n (List.mem_append_right _ hn)
      · intro x hx
        rcases List.mem_cons.1 hx with rfl | hx
        · exact .inl (by simp)
        · obtain ⟨n, hn, rfl⟩ := List.mem_map.1 hx
          rcases List.mem_append.1 hn with hn | hn
          · exact .inl (List.mem_cons_of_mem _ (List.mem_map.2 ⟨n, List.mem_append_left _ hn, rfl⟩))
          · rcases List.mem_cons.1 hn with rfl | hn
            · exact .inr hnb
            · exact .inl (List.mem_cons_of_mem _ (List.mem_map.2 ⟨n, List.mem_append_right _ hn, rfl⟩))
    have hcs : (ns.dropWhile fun n => ahead n.e e) = [] ∨ ∃ n vs, (ns.dropWhile fun n => ahead n.e e) = n :: vs := by
      cases ns.dropWhile fun n => ahead n.e e with
      | nil => exact .inl rfl
      | cons n vs => exact .inr ⟨n, vs, rfl⟩
    rcases hcs with hdd | ⟨n, vs, hdd⟩
    · exact okcase (by rw [hR, hdd]) (fun n vs he => by rw [hdd] at he; cases he)
    · by_cases hne : n.e.k = e.k ∧ n.e.s = e.s
      · have hR9 : addR (proj ns) e = 9 := by rw [hR, hdd]; exact if_pos hne
        have hP : addP hs (proj ns) e = proj ns := by unfold addP; rw [hR9]; rfl
        rw [hR9, hP]
        refine (Add_there tb hv hs ns e w hT hlen' hk hv' hok n vs hdd hne.1 hne.2).mono ?_
        rintro en w' ⟨rfl, hb⟩
        exact ⟨rfl, _, h.below hb, Off.of_below hb, hb.mono hB, fun x hx => .inl hx⟩
      · exact okcase (by rw [hR, hdd]; exact if_neg hne) (fun n' vs' he => by rw [hdd] at he; cases he; exact hne)

end Go.Proofs.Ytgineehniclkeaa
