/- The contract of the memtable's Add; of every table that lies in memory and every entry. -/
import Derived.Test.YtgineehniclkeaaM2
import Derived.Test.YtgineehniclkeaaA6
import Derived.BigRegion
namespace Go.Proofs.Ytgineehniclkeaa
open Go.RowKit

/-- Blocks beside those of S have not turned. -/
structure Off (S : List Nat) (w w' : World) : Prop where
  os : w'.os = w.os
  tape : w'.tape = w.tape
  output : w'.output = w.output
  size : w.heap.size ≤ w'.heap.size
  block : ∀ k, k < w.heap.size → k ∉ S → w'.heap[k]? = w.heap[k]?

theorem Off.of_below {S : List Nat} {w w' : World} (h : Below w.heap.size w w') : Off S w w' := ⟨h.os, h.tape, h.output, h.size, fun k hk _ => h.block k hk⟩
theorem Off.drew {S : List Nat} {w w' : World} (h : Off S w w') : Off S w w'.drew := ⟨h.os, h.tape, h.output, h.size, h.block⟩
theorem Off.alloc {S : List Nat} {w w' : World} (h : Off S w w') (o : Obj) : Off S w (w'.alloc o) :=
  ⟨h.os, h.tape, h.output, Nat.le_trans h.size (by simp), fun k hk hS => (Below.heap_alloc _ _ _ (Nat.lt_of_lt_of_le hk h.size)).trans (h.block k hk hS)⟩
theorem Off.setCell {S : List Nat} {w w' : World} (h : Off S w w') {p : Addr} (hp : p.block ∈ S ∨ w.heap.size ≤ p.block) (v : Value) : Off S w (w'.setCell p v) :=
  ⟨h.os, h.tape, h.output, by simpa [World.setCell] using h.size, fun k hk hS => (Below.heap_setCell _ _ _ _ (by
    rintro rfl
    rcases hp with hp | hp
    · exact hS hp
    · omega)).trans (h.block k hk hS)⟩

/-- The tower of the next entry. -/
def towerOf (hs : List Int) (n : Nat) : Nat := if hs = [] then 1 else (hs.getD (n % hs.length) 1).toNat

set_option maxRecDepth 100000 in
set_option maxHeartbeats 1000000 in
theorem Add_bad (tb : Nat) (hv : Value) (hs : List Int) (ns : List Nd) (e : Ent) (w : World) (hT : Tbl w tb hv hs ns)
    (hk : e.k.size ≤ 9223372036854775807) (hv' : e.v.size ≤ 9223372036854775807) (hbad : okB e = false) :
    Calls Try.prog 12 #[.pointer (some ⟨tb, 0, none⟩), .agg #[.string e.k, .string e.v, .int .i64 e.s, .bool e.d]] w fun en w' => en = .returned (.int .i64 2) ∧ Below w.heap.size w w' := by
  have hT1 : Tbl (w.alloc (.cells #[.string e.k, .string e.v, .int .i64 e.s, .bool e.d] 32)) tb hv hs ns := hT.below ((Below.refl _ _).alloc (Nat.le_refl _) _)
  have hch : checkE e = 2 := by unfold checkE; rw [hbad]; rfl
  have hC : ∀ W, Calls Try.prog 28 #[.agg #[.string e.k, .string e.v, .int .i64 e.s, .bool e.d]] W fun en w' => en = .returned (.int .i64 2) ∧ Below W.heap.size W w' := fun W => by
    have := Check_any e W hk hv'
    rwa [hch] at this
  have HC := Lib.hid hC
  clear hC hch hbad
  go_enter Try.func12, Try.ntmps12
  go_wp2_with fail
  refine (none_any tb hv hs ns _ hT1).mono ?_
  rintro en w' ⟨rfl, rfl⟩
  go_wp2_with fail
  refine (HC.out _).mono ?_
  rintro en w2 ⟨rfl, hb⟩
  go_wp2
  go_ret
  exact ⟨rfl, ((Below.refl _ _).alloc (Nat.le_refl _) _).trans (hb.mono (by simp))⟩

/-- The check of an entry that may be. -/
theorem Check_good (e : Ent) (hok : okB e = true) (hk : e.k.size ≤ 9223372036854775807) (hv' : e.v.size ≤ 9223372036854775807) (W : World) :
    Calls Try.prog 28 #[.agg #[.string e.k, .string e.v, .int .i64 e.s, .bool e.d]] W fun en w' => en = .returned (.int .i64 0) ∧ Below W.heap.size W w' := by
  have hch : checkE e = 0 := by unfold checkE; rw [hok]; rfl
  have := Check_any e W hk hv'
  rwa [hch] at this

theorem dw_split (e : Ent) (ns : List Nd) : ns = (ns.takeWhile fun n => ahead n.e e) ++ (ns.dropWhile fun n => ahead n.e e) := (List.takeWhile_append_dropWhile).symm

set_option maxRecDepth 100000 in
set_option maxHeartbeats 1000000 in
theorem Add_there (tb : Nat) (hv : Value) (hs : List Int) (ns : List Nd) (e : Ent) (w : World) (hT : Tbl w tb hv hs ns) (hlen : ns.length ≤ 1000000)
    (hk : e.k.size ≤ 9223372036854775807) (hv' : e.v.size ≤ 9223372036854775807) (hok : okB e = true) (n : Nd) (vs : List Nd) (hdw : (ns.dropWhile fun n => ahead n.e e) = n :: vs) (hnk : n.e.k = e.k) (hns : n.e.s = e.s) :
    Calls Try.prog 12 #[.pointer (some ⟨tb, 0, none⟩), .agg #[.string e.k, .string e.v, .int .i64 e.s, .bool e.d]] w fun en w' => en = .returned (.int .i64 9) ∧ Below w.heap.size w w' := by
  have hT1 : Tbl (w.alloc (.cells #[.string e.k, .string e.v, .int .i64 e.s, .bool e.d] 32)) tb hv hs ns := hT.below ((Below.refl _ _).alloc (Nat.le_refl _) _)
  have hn : n ∈ ns := by rw [dw_split e ns, hdw]; simp
  obtain ⟨ht1, ht2, ht3⟩ := hT.towers n hn
  have Hdw := Lib.hid hdw
  have Hnk := Lib.hid hnk
  have Hns := Lib.hid hns
  have Hok := Lib.hid hok
  clear hdw hnk hns hok ht1
  go_enter Try.func12, Try.ntmps12
  go_wp2_with fail
  refine (none_any tb hv hs ns _ hT1).mono ?_
  rintro en w' ⟨rfl, rfl⟩
  go_wp2_with fail
  refine (Check_good e Hok.out hk hv' _).mono ?_
  rintro en w2 ⟨rfl, hb⟩
  have hT2 := hT1.below hb
  have hbw2 : Below w.heap.size w w2 := ((Below.refl _ _).alloc (Nat.le_refl _) _).trans (hb.mono (by simp))
  have hB2 : w2.heap[w.heap.size]? = some (.cells #[.string e.k, .string e.v, .int .i64 e.s, .bool e.d] 32 (0, 0)) := (hb.block _ (by simp)).trans (heap_alloc_new _ _)
  have b0 := cell_of_row w2 _ 0 _ _ _ hB2
  have b1 := cell_of_row w2 _ 1 _ _ _ hB2
  have b2 := cell_of_row w2 _ 2 _ _ _ hB2
  have b3 := cell_of_row w2 _ 3 _ _ _ hB2
  simp only [List.getElem?_toArray, List.getElem?_cons_zero, List.getElem?_cons_succ] at b0 b1 b2 b3
  have HB2 := Lib.hid hB2
  clear hB2
  go_wp2_with fail
  refine (find_any tb hv hs ns e _ hT2 hlen).mono ?_
  rintro en w3 ⟨rfl, hb3⟩
  have hT3 := hT2.below hb3
  have hbw3 : Below w.heap.size w w3 := hbw2.trans (hb3.mono hbw2.size)
  have hB3 := (hb3.block _ (heap_lt HB2.out)).trans HB2.out
  have d0 := cell_of_row w3 _ 0 _ _ _ hB3
  have d1 := cell_of_row w3 _ 1 _ _ _ hB3
  have d2 := cell_of_row w3 _ 2 _ _ _ hB3
  have d3 := cell_of_row w3 _ 3 _ _ _ hB3
  simp only [List.getElem?_toArray, List.getElem?_cons_zero, List.getElem?_cons_succ] at d0 d1 d2 d3
  have hlt := heap_lt hB3
  have hp := hT3.prev_next e (h := 0) (by omega)
  rw [Hdw.out, nextB_hit vs (by omega)] at hp
  have hplt := block_lt_of_cell hp
  simp only [Nat.add_zero] at hp hplt
  have hpv : prevV tb e ns 0 = .pointer (some ⟨prevB tb e ns 0, 0, none⟩) := rfl
  have hch := hT3.chain
  rw [dw_split e ns, Hdw.out] at hch
  obtain ⟨c0, c1, c2, c3, c4⟩ := hch.ent
  rw [Hnk.out] at c0
  rw [Hns.out] at c2
  have hnlt := block_lt_of_cell c0
  clear b0 b1 b2 b3 hb hb3 hB3 hch c4 hT1 hT2 hT3
  go_wp2_with (refine wpList_store_row rfl 65 (.tmp 6) (.tmp 23) rfl _ _ rfl rfl 65 _ (heap_alloc_new _ _) (by kernel_rfl) rfl (by simp [prevV, Value.oneCell']) ?_; rw [alloc_setRow])
  go_quiet (fail)
  go_wp2
  go_ret
  exact ⟨rfl, below_drewN (hbw3.alloc hbw3.size _) _⟩

end Go.Proofs.Ytgineehniclkeaa
