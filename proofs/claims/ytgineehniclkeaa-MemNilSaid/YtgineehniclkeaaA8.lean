/- The contract of the memtable's Add where it puts an entry into its place; of every table that lies in memory and every entry that may be and is not there. -/
import Derived.Test.YtgineehniclkeaaA7
import Derived.Deep.DeepCutAuto
namespace Go.Proofs.Ytgineehniclkeaa
open Go.RowKit

/-- What Add's loop keeps. -/
structure AddW (w W : World) (tb : Nat) (hv : Value) (len size : Int) (e : Ent) (tw dw : List Nd) (nb h c pb bx : Nat) : Prop where
  blk : W.heap[tb]? = some (.cells (tbCells hv len size (tw ++ newN nb e h c :: dw)) 69 (0, 0))
  chain : Chain W (tw ++ newN nb e h c :: dw)
  row : W.heap[pb]? = some (.cells #[prevV tb e (tw ++ dw) 0, prevV tb e (tw ++ dw) 1, prevV tb e (tw ++ dw) 2, prevV tb e (tw ++ dw) 3, prevV tb e (tw ++ dw) 4, prevV tb e (tw ++ dw) 5, prevV tb e (tw ++ dw) 6, prevV tb e (tw ++ dw) 7, prevV tb e (tw ++ dw) 8, prevV tb e (tw ++ dw) 9, prevV tb e (tw ++ dw) 10, prevV tb e (tw ++ dw) 11] 65 (0, 0))
  box : W.heap[bx]? = some (.cells #[.string e.k, .string e.v, .int .i64 e.s, .bool e.d] 32 (0, 0))
  off : Off (tb :: (tw ++ dw).map (·.b)) w W

section
variable {w W : World} {tb : Nat} {hv : Value} {len size : Int} {e : Ent} {tw dw : List Nd} {nb h c pb bx : Nat}
theorem AddW.drew (a : AddW w W tb hv len size e tw dw nb h c pb bx) : AddW w W.drew tb hv len size e tw dw nb h c pb bx := ⟨a.blk, Chain.keep (w := W) (w' := W.drew) (fun _ _ => rfl) a.chain, a.row, a.box, a.off.drew⟩

theorem AddW.start (hb : W.heap[tb]? = some (.cells (tbCells hv len size (tw ++ dw)) 69 (0, 0))) (hc : Chain W (tw ++ dw))
    (hrow : W.heap[pb]? = some (.cells #[prevV tb e (tw ++ dw) 0, prevV tb e (tw ++ dw) 1, prevV tb e (tw ++ dw) 2, prevV tb e (tw ++ dw) 3, prevV tb e (tw ++ dw) 4, prevV tb e (tw ++ dw) 5, prevV tb e (tw ++ dw) 6, prevV tb e (tw ++ dw) 7, prevV tb e (tw ++ dw) 8, prevV tb e (tw ++ dw) 9, prevV tb e (tw ++ dw) 10, prevV tb e (tw ++ dw) 11] 65 (0, 0)))
    (hbox : W.heap[bx]? = some (.cells #[.string e.k, .string e.v, .int .i64 e.s, .bool e.d] 32 (0, 0))) (hbel : Below w.heap.size w W) :
    AddW w (W.alloc (.cells (ndCells (newN W.heap.size e 0 1) dw) 67)) tb hv len size e tw dw W.heap.size 0 1 pb bx := by
  refine ⟨?_, ?_, (Below.heap_alloc _ _ _ (heap_lt hrow)).trans hrow, (Below.heap_alloc _ _ _ (heap_lt hbox)).trans hbox, (Off.of_below hbel).alloc _⟩
  · rw [Below.heap_alloc _ _ _ (heap_lt hb), hb]
    unfold tbCells
    rw [links_new0]
  · refine Chain.of_at fun us m vs hsp => ?_
    rcases List.append_eq_append_iff.1 hsp with ⟨ks, h1, h2⟩ | ⟨bs, h1, h2⟩
    · cases ks with
      | nil =>
        rw [List.nil_append] at h2
        injection h2 with h3 h4
        subst h3; subst h4
        exact heap_alloc_new _ _
      | cons a ks =>
        rw [List.cons_append] at h2
        injection h2 with h3 h4
        have hm : Chain W ((tw ++ ks) ++ m :: vs) := by rw [h4] at hc; simpa using hc
        exact (Below.heap_alloc _ _ _ (heap_lt hm.at_)).trans hm.at_
    · cases bs with
      | nil =>
        rw [List.nil_append] at h2
        rw [List.append_nil] at h1
        injection h2 with h3 h4
        subst h3; subst h4
        exact heap_alloc_new _ _
      | cons a bs =>
        rw [List.cons_append] at h2
        injection h2 with h3 h4
        subst h3
        have hm := hc
        rw [h1, List.append_assoc, List.cons_append] at hm
        rw [Below.heap_alloc _ _ _ (heap_lt hm.at_), hm.at_, h4]
        unfold ndCells
        rw [links_new0]

/-- The new node's block, and that it is nobody else's. -/
theorem AddW.new (a : AddW w W tb hv len size e tw dw nb h c pb bx) : W.heap[nb]? = some (.cells (ndCells (newN nb e h c) dw) 67 (0, 0)) := a.chain.at_

theorem AddW.ne (a : AddW w W tb hv len size e tw dw nb h c pb bx) : nb ≠ tb ∧ nb ≠ pb ∧ nb ≠ bx ∧ tb ≠ pb ∧ tb ≠ bx := by
  have h1 := a.new
  have key : ∀ {x : Nat} {cs cs' : Array Value} {t t' : TypeId} (_ : W.heap[x]? = some (.cells cs t (0, 0))) (_ : W.heap[x]? = some (.cells cs' t' (0, 0))), t = t' := by
    intro x cs cs' t t' p q
    rw [p] at q
    injection (Option.some.inj q)
  refine ⟨?_, ?_, ?_, ?_, ?_⟩
  · rintro rfl; exact absurd (key h1 a.blk) (by decide)
  · rintro rfl; exact absurd (key h1 a.row) (by decide)
  · rintro rfl; exact absurd (key h1 a.box) (by decide)
  · rintro rfl; exact absurd (key a.blk a.row) (by decide)
  · rintro rfl; exact absurd (key a.blk a.box) (by decide)

/-- A store into a block that is none of the chain's. -/
theorem Chain.far {ns : List Nd} (hc : Chain W ns) {p : Addr} {cs : Array Value} {t : TypeId} (hp : W.heap[p.block]? = some (.cells cs t (0, 0))) (ht : t ≠ 67) (v : Value) : Chain (W.setCell p v) ns :=
  Chain.of_at fun us m vs hsp => by
    rw [hsp] at hc
    have hm := hc.at_
    refine (Below.heap_setCell _ _ _ _ ?_).trans hm
    intro hx
    rw [hx, hp] at hm
    injection (Option.some.inj hm) with _ h2
    exact ht h2

/-- The tower is told. -/
theorem AddW.tower (a : AddW w W tb hv len size e tw dw nb 0 c pb bx) (hn : ((tw ++ newN nb e 0 c :: dw).map (·.b)).Nodup) (hw : w.heap.size ≤ nb) (c' : Nat) : AddW w (W.setCell ⟨nb, 4, none⟩ (.int .i64 c')) tb hv len size e tw dw nb 0 c' pb bx := by
  obtain ⟨n1, n2, n3, _, _⟩ := a.ne
  have hlinks : ∀ (t : Nat) (q : List Nd), links t (q ++ newN nb e 0 c' :: dw) = links t (q ++ newN nb e 0 c :: dw) := fun t q => by rw [links_new0, links_new0]
  have hold : ∀ b, b ≠ nb → (W.setCell ⟨nb, 4, none⟩ (.int .i64 c')).heap[b]? = W.heap[b]? := fun b hb => Below.heap_setCell _ _ _ _ hb
  have hnew : (W.setCell ⟨nb, 4, none⟩ (.int .i64 c')).heap[nb]? = some (.cells (ndCells (newN nb e 0 c') dw) 67 (0, 0)) := by
    rw [heap_setCell_at a.new]; rfl
  refine ⟨?_, ?_, (hold _ (fun e => n2 e.symm)).trans a.row, (hold _ (fun e => n3 e.symm)).trans a.box, a.off.setCell (.inr hw) _⟩
  · rw [hold _ (fun e => n1 e.symm), a.blk]
    unfold tbCells
    rw [hlinks]
  · have hc := a.chain
    refine Chain.of_at fun us m vs hsp => ?_
    rcases List.append_eq_append_iff.1 hsp with ⟨ks, h1, h2⟩ | ⟨bs, h1, h2⟩
    · cases ks with
      | nil =>
        rw [List.nil_append] at h2
        injection h2 with h3 h4
        subst h3; subst h4
        exact hnew
      | cons x ks =>
        rw [List.cons_append] at h2
        injection h2 with h3 h4
        have hm : Chain W ((tw ++ newN nb e 0 c :: ks) ++ m :: vs) := by rw [h4] at hc; simpa using hc
        have hne : m.b ≠ nb := by
          rintro he
          rw [List.map_append, List.nodup_append, List.map_cons, List.nodup_cons, h4] at hn
          exact hn.2.1.1 (List.mem_map.2 ⟨m, by simp, he⟩)
        rw [hold _ hne]; exact hm.at_
    · cases bs with
      | nil =>
        rw [List.nil_append] at h2
        rw [List.append_nil] at h1
        injection h2 with h3 h4
        subst h3; subst h4
        exact hnew
      | cons x bs =>
        rw [List.cons_append] at h2
        injection h2 with h3 h4
        subst h3
        have hm := hc
        rw [h1, List.append_assoc, List.cons_append] at hm
        have hne : m.b ≠ nb := by
          rintro he
          rw [List.map_append, List.nodup_append] at hn
          exact hn.2.2 m.b (List.mem_map.2 ⟨m, by rw [h1]; simp, rfl⟩) nb (List.mem_map.2 ⟨newN nb e 0 c, by simp, rfl⟩) he
        rw [hold _ hne, hm.at_, h4]
        unfold ndCells
        rw [hlinks]

/-- The new node comes into lane h. -/
theorem AddW.link (a : AddW w W tb hv len size e tw dw nb h c pb bx) (hh : h < 12) (hn : ((tw ++ newN nb e h c :: dw).map (·.b)).Nodup) (hw : w.heap.size ≤ nb)
    (hP : prevB tb e (tw ++ dw) h = lastB tb (tw.filter fun n => decide (h < n.t))) :
    AddW w ((W.setCell ⟨nb, 5 + h, none⟩ (.pointer (nextB h dw))).setCell ⟨prevB tb e (tw ++ dw) h, 5 + h, none⟩ (.pointer (some ⟨nb, 0, none⟩))) tb hv len size e tw dw nb (h + 1) c pb bx := by
  obtain ⟨h1, h2⟩ := link_step hh a.blk a.chain hn _ hP
  obtain ⟨n1, n2, n3, n4, n5⟩ := a.ne
  have hPblock : ∃ cs t, t ≠ 65 ∧ t ≠ 32 ∧ W.heap[prevB tb e (tw ++ dw) h]? = some (.cells cs t (0, 0)) ∧ prevB tb e (tw ++ dw) h ∈ tb :: (tw ++ dw).map (·.b) := by
    rcases last_split h tw tb with ⟨h5, _⟩ | ⟨p, n, q, h5, h6, h7, h8⟩
    · rw [hP, h5]; exact ⟨_, _, by decide, by decide, a.blk, List.mem_cons_self ..⟩
    · rw [hP, h8]
      have hm := a.chain
      rw [h5, List.append_assoc, List.cons_append] at hm
      exact ⟨_, _, by decide, by decide, hm.at_, List.mem_cons_of_mem _ (List.mem_map.2 ⟨n, by rw [h5]; simp, rfl⟩)⟩
  obtain ⟨cs, t, ht1, ht2, hPb, hPm⟩ := hPblock
  have key : ∀ {x : Nat} {cs cs' : Array Value} {t t' : TypeId} (_ : W.heap[x]? = some (.cells cs t (0, 0))) (_ : W.heap[x]? = some (.cells cs' t' (0, 0))), t = t' := by
    intro x cs cs' t t' p q
    rw [p] at q
    injection (Option.some.inj q)
  have hPpb : pb ≠ prevB tb e (tw ++ dw) h := fun he => ht1 (key hPb (he ▸ a.row))
  have hPbx : bx ≠ prevB tb e (tw ++ dw) h := fun he => ht2 (key hPb (he ▸ a.box))
  refine ⟨h1, h2, ?_, ?_, (a.off.setCell (.inr hw) _).setCell (.inl hPm) _⟩
  · rw [Below.heap_setCell _ _ _ _ hPpb, Below.heap_setCell _ _ _ _ (fun e => n2 e.symm)]; exact a.row
  · rw [Below.heap_setCell _ _ _ _ hPbx, Below.heap_setCell _ _ _ _ (fun e => n3 e.symm)]; exact a.box

/-- The link that is read. -/
theorem AddW.prevlink (a : AddW w W tb hv len size e tw dw nb h c pb bx) (hh : h < 12) (hP : prevB tb e (tw ++ dw) h = lastB tb (tw.filter fun n => decide (h < n.t))) :
    W.cell? ⟨prevB tb e (tw ++ dw) h, 5 + h, none⟩ = some (.pointer (nextB h dw)) ∧ W.frozen? ⟨prevB tb e (tw ++ dw) h, 5 + h, none⟩ = false := by
  rcases last_split h tw tb with ⟨h5, h6⟩ | ⟨p, n, q, h5, h6, h7, h8⟩
  · rw [hP, h5]
    refine ⟨?_, frozen_of_row W _ _ _ _ a.blk⟩
    rw [cell_of_row W _ _ _ _ _ a.blk, tbCells_link _ _ _ _ _ hh]
    unfold linkV
    rw [if_pos hh, nextB_new_low tw dw (Nat.lt_irrefl _)]
    unfold nextB
    rw [nextN_skip h6]
  · rw [hP, h8]
    have hm := a.chain
    rw [h5, List.append_assoc, List.cons_append] at hm
    refine ⟨?_, frozen_of_row W _ _ _ _ hm.at_⟩
    rw [cell_of_row W _ _ _ _ _ hm.at_, ndCells_link _ _ _ hh]
    unfold linkV
    rw [if_pos h6, nextB_new_low q dw (Nat.lt_irrefl _)]
    unfold nextB
    rw [nextN_skip h7]

/-- The counts. -/
theorem AddW.count (a : AddW w W tb hv len size e tw dw nb h c pb bx) (len' : Int) : AddW w (W.setCell ⟨tb, 18, none⟩ (.int .i64 len')) tb hv len' size e tw dw nb h c pb bx := by
  obtain ⟨_, _, _, n4, n5⟩ := a.ne
  refine ⟨?_, Chain.far a.chain a.blk (by decide) _, (Below.heap_setCell _ _ _ _ (fun e => n4 e.symm)).trans a.row, (Below.heap_setCell _ _ _ _ (fun e => n5 e.symm)).trans a.box, a.off.setCell (.inl (List.mem_cons_self ..)) _⟩
  rw [heap_setCell_at a.blk]; rfl
theorem AddW.bytes (a : AddW w W tb hv len size e tw dw nb h c pb bx) (size' : Int) : AddW w (W.setCell ⟨tb, 19, none⟩ (.int .i64 size')) tb hv len size' e tw dw nb h c pb bx := by
  obtain ⟨_, _, _, n4, n5⟩ := a.ne
  refine ⟨?_, Chain.far a.chain a.blk (by decide) _, (Below.heap_setCell _ _ _ _ (fun e => n4 e.symm)).trans a.row, (Below.heap_setCell _ _ _ _ (fun e => n5 e.symm)).trans a.box, a.off.setCell (.inl (List.mem_cons_self ..)) _⟩
  rw [heap_setCell_at a.blk]; rfl
end

end Go.Proofs.Ytgineehniclkeaa
