/- Contracts of the memtable's Get and Lane; of every table that lies in memory. -/
import Derived.Test.YtgineehniclkeaaA5
namespace Go.Proofs.Ytgineehniclkeaa
open Go.RowKit

theorem nextB_hit {h : Nat} {n : Nd} (l : List Nd) (hn : h < n.t) : nextB h (n :: l) = some ⟨n.b, 0, none⟩ := by
  unfold nextB; rw [nextN_hit _ hn]; rfl

set_option maxHeartbeats 1000000 in
theorem Get_any (tb : Nat) (hv : Value) (hs : List Int) (ns : List Nd) (key : ByteArray) (seq : Int) (w : World) (hT : Tbl w tb hv hs ns) (hlen : ns.length ≤ 1000000) :
    Calls Try.prog 17 #[.pointer (some ⟨tb, 0, none⟩), .string key, .int .i64 seq] w fun e w' =>
      e = .returned (.tuple #[.agg #[.string (getE ns key seq).1.k, .string (getE ns key seq).1.v, .int .i64 (getE ns key seq).1.s, .bool (getE ns key seq).1.d], .bool (getE ns key seq).2]) ∧ Below w.heap.size w w' := by
  have hT1 : Tbl (w.alloc (.cells #[.string ByteArray.empty, .string ByteArray.empty, .int .i64 0, .bool false] 32)) tb hv hs ns := hT.below ((Below.refl _ _).alloc (Nat.le_refl _) _)
  go_enter Try.func17, Try.ntmps17
  go_wp2_with fail
  refine (none_any tb hv hs ns _ hT1).mono ?_
  rintro e w' ⟨rfl, rfl⟩
  go_wp2_with fail
  refine (find_any tb hv hs ns ⟨key, ByteArray.empty, seq, false⟩ _ hT1 hlen).mono ?_
  rintro e w2 ⟨rfl, hb⟩
  have hT2 := hT1.below hb
  have hp := hT2.prev_next ⟨key, ByteArray.empty, seq, false⟩ (h := 0) (by omega)
  have hplt := block_lt_of_cell hp
  simp only [Nat.add_zero] at hp hplt
  have hpv : prevV tb ⟨key, ByteArray.empty, seq, false⟩ ns 0 = .pointer (some ⟨prevB tb ⟨key, ByteArray.empty, seq, false⟩ ns 0, 0, none⟩) := rfl
  have hnb : nextB 0 [] = none := rfl
  have hsz := hb.size
  have hR : w2.heap[w.heap.size]? = some (.cells #[.string ByteArray.empty, .string ByteArray.empty, .int .i64 0, .bool false] 32 (0, 0)) := (hb.block _ (by simp)).trans (heap_alloc_new _ _)
  have hr0 := cell_of_row w2 _ 0 _ _ _ hR
  have hr1 := cell_of_row w2 _ 1 _ _ _ hR
  have hr2 := cell_of_row w2 _ 2 _ _ _ hR
  have hr3 := cell_of_row w2 _ 3 _ _ _ hR
  have hf0 : ∀ o, w2.frozen? ⟨w.heap.size, o, none⟩ = false := fun o => frozen_of_row w2 _ o _ _ hR
  simp only [List.getElem?_toArray, List.getElem?_cons_zero, List.getElem?_cons_succ] at hr0 hr1 hr2 hr3
  simp only [World.size_alloc] at hsz
  have hsz' : w.heap.size < w2.heap.size := by omega
  have hb' : Below w.heap.size w w2 := ((Below.refl _ _).alloc (Nat.le_refl _) _).trans (hb.mono (by simp))
  cases hdw : ns.dropWhile fun n => ahead n.e ⟨key, ByteArray.empty, seq, false⟩ with
  | nil =>
    rw [hdw] at hp
    have hg : getE ns key seq = (Ent.zero, false) := by unfold getE; rw [hdw]
    have Hg := Lib.hid hg
    have HB := Lib.hid hb'
    clear hb' hb hdw hg hR
    go_wp2_with (refine wpList_store_row rfl 65 (.tmp 8) (.tmp 20) rfl _ _ rfl rfl 65 _ (heap_alloc_new _ _) (by kernel_rfl) rfl (by simp [prevV, Value.oneCell']) ?_; rw [alloc_setRow])
    refine bodyPost_ret (by simp [results, Try.results17, go_sem, hr0, hr1, hr2, hr3, hsz']; rfl) rfl ?_
    rw [Hg.out]
    exact ⟨rfl, ((((HB.out.setCell (p := ⟨w.heap.size, 0, none⟩) (Nat.le_refl _) _).setCell (p := ⟨w.heap.size, 1, none⟩) (Nat.le_refl _) _).setCell (p := ⟨w.heap.size, 2, none⟩) (Nat.le_refl _) _).setCell (p := ⟨w.heap.size, 3, none⟩) (Nat.le_refl _) _).alloc (by simp; omega) _⟩
  | cons n vs =>
    rw [hdw] at hp
    have hn : n ∈ ns := (List.dropWhile_sublist _).subset (by rw [hdw]; exact List.mem_cons_self ..)
    have hnt := hT.towers n hn
    rw [nextB_hit vs (by omega)] at hp
    have hsp : ns = (ns.takeWhile fun n => ahead n.e ⟨key, ByteArray.empty, seq, false⟩) ++ n :: vs := by rw [← hdw]; exact (List.takeWhile_append_dropWhile).symm
    have hch := hT2.chain
    rw [hsp] at hch
    obtain ⟨c0, c1, c2, c3, c4⟩ := hch.ent
    have hnlt := block_lt_of_cell c0
    by_cases hk : n.e.k = key
    · have hg : getE ns key seq = (n.e, true) := by unfold getE; rw [hdw]; simp [hk]
      have hkb : (n.e.k.toList == key.toList) = true := by rw [eq_texts]; simpa using hk
      have Hg := Lib.hid hg
      have HB := Lib.hid hb'
      clear hb' hb hdw hg hR hsp hch hk
      go_wp2_with (refine wpList_store_row rfl 65 (.tmp 8) (.tmp 20) rfl _ _ rfl rfl 65 _ (heap_alloc_new _ _) (by kernel_rfl) rfl (by simp [prevV, Value.oneCell']) ?_; rw [alloc_setRow])
      refine bodyPost_ret (by simp [results, Try.results17, go_sem, hr0, hr1, hr2, hr3, hsz']; rfl) rfl ?_
      rw [Hg.out]
      exact ⟨rfl, ((((HB.out.setCell (p := ⟨w.heap.size, 0, none⟩) (Nat.le_refl _) _).setCell (p := ⟨w.heap.size, 1, none⟩) (Nat.le_refl _) _).setCell (p := ⟨w.heap.size, 2, none⟩) (Nat.le_refl _) _).setCell (p := ⟨w.heap.size, 3, none⟩) (Nat.le_refl _) _).alloc (by simp; omega) _⟩
    · have hg : getE ns key seq = (Ent.zero, false) := by unfold getE; rw [hdw]; simp [hk]
      have hkb : (n.e.k.toList == key.toList) = false := by rw [eq_texts]; simpa using hk
      have Hg := Lib.hid hg
      have HB := Lib.hid hb'
      clear hb' hb hdw hg hR hsp hch hk
      go_wp2_with (refine wpList_store_row rfl 65 (.tmp 8) (.tmp 20) rfl _ _ rfl rfl 65 _ (heap_alloc_new _ _) (by kernel_rfl) rfl (by simp [prevV, Value.oneCell']) ?_; rw [alloc_setRow])
      refine bodyPost_ret (by simp [results, Try.results17, go_sem, hr0, hr1, hr2, hr3, hsz']; rfl) rfl ?_
      rw [Hg.out]
      exact ⟨rfl, ((((HB.out.setCell (p := ⟨w.heap.size, 0, none⟩) (Nat.le_refl _) _).setCell (p := ⟨w.heap.size, 1, none⟩) (Nat.le_refl _) _).setCell (p := ⟨w.heap.size, 2, none⟩) (Nat.le_refl _) _).setCell (p := ⟨w.heap.size, 3, none⟩) (Nat.le_refl _) _).alloc (by simp; omega) _⟩

/-- The places of a lane's nodes, from i on. -/
def laneL (h : Int) : Nat → List Nd → List Int
  | _, [] => []
  | i, n :: r => if h ≤ n.c then (i : Int) :: laneL h (i + 1) r else laneL h (i + 1) r
theorem laneL_snoc (h : Int) : ∀ (xs : List Nd) (i : Nat) (n : Nd), laneL h i (xs ++ [n]) = laneL h i xs ++ (if h ≤ n.c then [((i + xs.length : Nat) : Int)] else [])
  | [], i, n => by simp [laneL]
  | a :: xs, i, n => by
    have ih := laneL_snoc h xs (i + 1) n
    have e : i + 1 + xs.length = i + (a :: xs).length := by simp; omega
    rw [e] at ih
    show laneL h i (a :: (xs ++ [n])) = _
    rw [laneL, laneL, ih]
    by_cases ha : h ≤ a.c
    · rw [if_pos ha, if_pos ha]; rfl
    · rw [if_neg ha, if_neg ha]
theorem laneL_le (h : Int) : ∀ (xs : List Nd) (i : Nat), (laneL h i xs).length ≤ xs.length
  | [], _ => Nat.le_refl _
  | a :: xs, i => by
    have := laneL_le h xs (i + 1)
    rw [laneL]
    split
    · simp only [List.length_cons]; omega
    · simp only [List.length_cons]; omega
/-- What Lane tells. -/
def laneOf (h : Int) (ns : List Nd) : List Int := if 1 ≤ h ∧ h ≤ 12 then laneL h 0 ns else []

set_option maxHeartbeats 1000000 in
theorem Lane_any (tb : Nat) (hv : Value) (hs : List Int) (ns : List Nd) (h : Int) (w : World) (hT : Tbl w tb hv hs ns) (hlen : ns.length ≤ 1000000) :
    Calls Try.prog 19 #[.pointer (some ⟨tb, 0, none⟩), .int .i64 h] w fun e w' => ∃ v, e = .returned v ∧ w'.ownsRow w.heap.size 3 1 v (laneOf h ns).length ((laneOf h ns).map (Value.int .i64)) ∧ Below w.heap.size w w' := by
  obtain ⟨i0, hi, hz0, hz1, hz2⟩ := info_parts Try.info3
  have hst := hT.next (e := Ent.zero) (At.start tb Ent.zero ns 0) (by omega)
  go_enter Try.func19, Try.ntmps19
  go_wp2_with fail
  refine (none_any tb hv hs ns _ hT).mono ?_
  rintro e w' ⟨rfl, rfl⟩
  by_cases hh : 1 ≤ h ∧ h ≤ 12
  · obtain ⟨hh1, hh2⟩ := hh
    have hg : laneOf h ns = laneL h 0 ns := by unfold laneOf; rw [if_pos ⟨hh1, hh2⟩]
    have Hg := Lib.hid hg
    clear hg
    have hst' : w.cell? ⟨tb, 5, none⟩ = some (.pointer (nextB 0 ns)) := hst
    clear hst
    go_wp2
    go_loopg [5, 6, 7] ns.length (fun k l i p wr => ∃ (xs ys : List Nd), ys.length ≤ k ∧ ns = xs ++ ys ∧ i = .int .i64 xs.length ∧ p = .pointer (nextB 0 ys) ∧
      wr.ownsRow w.heap.size 3 1 l (laneL h 0 xs).length ((laneL h 0 xs).map (Value.int .i64)) ∧ Below w.heap.size w wr)
    case atStart => exact ⟨[], ns, Nat.le_refl _, rfl, rfl, rfl, World.ownsRow_nil _ _ _ _, Below.refl _ _⟩
    case round =>
      clear hst'
      obtain ⟨xs, ys, hk, hns, rfl, rfl, hown, hb⟩ := hrel
      cases ys with
      | nil =>
        rw [show nextB 0 [] = none from rfl]
        have Hns := Lib.hid hns
        clear hns
        go_wp2
        go_ret
        exact ⟨_, rfl, by rw [Hg.out, Hns.out, List.append_nil]; exact hown, hb⟩
      | cons n ys =>
        have hnt := hT.towers n (by rw [hns]; simp)
        obtain ⟨ht1, ht2, ht3⟩ := hnt
        have hch := hT.chain
        have hnlt := hch.lt n (by rw [hns]; simp)
        rw [hns] at hch
        have c5w : w.cell? ⟨n.b, 5, none⟩ = some (.pointer (nextB 0 ys)) := by
          rw [cell_of_row w _ _ _ _ _ hch.at_]
          have := ndCells_link n ys 0 (by omega)
          rw [Nat.add_zero] at this
          rw [this]; unfold linkV; rw [if_pos (by omega)]
        have c4 : wr.cell? ⟨n.b, 4, none⟩ = some (.int .i64 n.c) := (hb.cell (p := ⟨n.b, 4, none⟩) hnlt).trans hch.ent.2.2.2.2
        have c5 : wr.cell? ⟨n.b, 5, none⟩ = some (.pointer (nextB 0 ys)) := (hb.cell (p := ⟨n.b, 5, none⟩) hnlt).trans c5w
        rw [nextB_hit ys (by omega)]
        have hle := laneL_le h xs 0
        have hxs : xs.length + ys.length + 1 ≤ 1000000 := by have := congrArg List.length hns; simp at this; omega
        have Hns := Lib.hid hns
        have HC5 := Lib.hid c5w
        clear hns hch ht1 c5w
        by_cases hc : h ≤ n.c
        · have hbs := hb.size
          go_wp2_with (at_builtin; refine wpList_append_own _ rfl _ _ 29 rfl w.heap.size 3 i0 (.int .i64 0) 1 8 Try.underlying29 hi hz0 hz1 hz2 rfl (by decide) _ _ _ rfl (hown.alloc _) ⟨wr.heap.size, 0, none⟩ 1 1 [.int .i64 xs.length] rfl rfl (cell_one_new _ _ _) (by simp [Value.oneCell']) (by unfold maxLen; omega) (by omega) (by simp; omega) ?_; intro v' w1 hown' hgrow _; have hb1 := (hb.alloc hb.size (.cells #[.int .i64 xs.length] 3)).grown hgrow (by simp; omega) (fun k hk => (hown.lt k hk).1); have c5' := (hb1.cell (p := ⟨n.b, 5, none⟩) hnlt).trans HC5.out)
          go_roundg ys.length
          case rel => exact ⟨xs ++ [n], ys, Nat.le_refl _, by rw [Hns.out]; simp, by simp, rfl, by rw [laneL_snoc, if_pos hc]; simpa using hown', hb1⟩
          case measure => simp at hk; omega
        · go_wp2
          go_roundg ys.length
          case rel => exact ⟨xs ++ [n], ys, Nat.le_refl _, by rw [Hns.out]; simp, by simp, rfl, by rw [laneL_snoc, if_neg (by omega), List.append_nil]; exact hown, hb⟩
          case measure => simp at hk; omega
  · have hg : laneOf h ns = [] := by unfold laneOf; rw [if_neg hh]
    have Hg := Lib.hid hg
    clear hg hst
    go_wp2
    · go_ret
      exact ⟨_, rfl, by rw [Hg.out]; exact World.ownsRow_nil _ _ _ _, Below.refl _ _⟩
    · go_ret
      exact ⟨_, rfl, by rw [Hg.out]; exact World.ownsRow_nil _ _ _ _, Below.refl _ _⟩

end Go.Proofs.Ytgineehniclkeaa
