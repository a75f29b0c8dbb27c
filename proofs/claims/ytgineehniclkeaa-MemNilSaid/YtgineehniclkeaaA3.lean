/- The contract of the memtable's search: of each lane the last node ahead of an entry, and how many steps; of every table that lies in memory and every entry. -/
import Derived.Test.YtgineehniclkeaaA2
import Derived.Test.YtgineehniclkeaaM1
import Derived.Deep.OwnRows
import Derived.Deep.LoopGhost
namespace Go.Proofs.Ytgineehniclkeaa
open Go.RowKit

/-- What find's loops keep: the world below, the entry's box, the row of places. -/
structure FindInv (w wr : World) (e : Ent) (f : Nat → Value) : Prop where
  bel : Below w.heap.size w wr
  box : wr.heap[w.heap.size]? = some (.cells #[.string e.k, .string e.v, .int .i64 e.s, .bool e.d] 32 (0, 0))
  row : wr.rowIs (w.heap.size + 1) 65 12 f

section
variable {w wr w2 : World} {e : Ent} {f : Nat → Value}
theorem FindInv.step (h : FindInv w wr e f) (hb : Below wr.heap.size wr w2) : FindInv w w2 e f :=
  ⟨h.bel.trans (hb.mono h.bel.size), (hb.block _ (heap_lt h.box)).trans h.box, h.row.of_block (hb.block _ h.row.lt)⟩
theorem FindInv.set (h : FindInv w wr e f) (i : Nat) (v : Value) : FindInv w (wr.setCell ⟨w.heap.size + 1, i, none⟩ v) e (fun j => if j = i then v else f j) :=
  ⟨h.bel.setCell (by simp) _, (Below.heap_setCell _ _ _ _ (by simp)).trans h.box, h.row.set i v⟩
theorem FindInv.start (w : World) (e : Ent) (z : Value) (c : Array Value) (hc : c = #[z, z, z, z, z, z, z, z, z, z, z, z]) :
    FindInv w ((w.alloc (.cells #[.string e.k, .string e.v, .int .i64 e.s, .bool e.d] 32)).alloc (.cells c 65)) e (fun _ => z) := by
  subst hc
  refine ⟨((Below.refl _ _).alloc (Nat.le_refl _) _).alloc (by simp) _, heap_alloc2_old _ _ _, ?_⟩
  have h := World.rowIs_alloc (w.alloc (.cells #[.string e.k, .string e.v, .int .i64 e.s, .bool e.d] 32)) #[z, z, z, z, z, z, z, z, z, z, z, z] 65 (fun _ => z) (by
    intro i hi
    match i, hi with
    | 0, _ | 1, _ | 2, _ | 3, _ | 4, _ | 5, _ | 6, _ | 7, _ | 8, _ | 9, _ | 10, _ | 11, _ => rfl
    | i + 12, hi => exact absurd hi (by simp))
  simpa using h
theorem FindInv.congr_ {g : Nat → Value} (h : FindInv w wr e f) (hg : ∀ j, j < 12 → f j = g j) : FindInv w wr e g := ⟨h.bel, h.box, h.row.congr hg⟩
end

def prevV (tb : Nat) (e : Ent) (ns : List Nd) (h : Nat) : Value := .pointer (some ⟨prevB tb e ns h, 0, none⟩)
/-- What has been counted, and what is still to be counted, is the whole cost. -/
def CostIs (e : Ent) (ns : List Nd) (s q : Nat) (ys : List Nd) : Prop := s + searchFrom e q ys = searchFrom e 12 ns
theorem CostIs.start (e : Ent) (ns : List Nd) : CostIs e ns 0 12 ns := Nat.zero_add _
theorem CostIs.done {e : Ent} {ns ys : List Nd} {s : Nat} (h : CostIs e ns s 0 ys) : s = searchFrom e 12 ns := by
  unfold CostIs at h
  rw [← h, searchFrom]; rfl
/-- The same within a lane. -/
def LaneIs (e : Ent) (ns : List Nd) (s j : Nat) (ys : List Nd) : Prop := s + (lane e j ys ys).1 + searchFrom e j (lane e j ys ys).2 = searchFrom e 12 ns
theorem LaneIs.of_cost {e : Ent} {ns : List Nd} {s j : Nat} {ys : List Nd} (h : CostIs e ns s (j + 1) ys) : LaneIs e ns s j ys := by
  unfold CostIs at h; unfold LaneIs
  rw [searchFrom] at h; omega
theorem LaneIs.stop_none {e : Ent} {ns : List Nd} {s j : Nat} {ys : List Nd} (h : LaneIs e ns s j ys) (hn : nextN j ys = none) : CostIs e ns s j ys := by
  unfold LaneIs at h; unfold CostIs
  rw [lane_end hn] at h; exact h
theorem LaneIs.stop_some {e : Ent} {ns : List Nd} {s j : Nat} {us vs : List Nd} {m : Nd} (h : LaneIs e ns s j (us ++ m :: vs)) (hu : ∀ n ∈ us, ¬ j < n.t) (hm : j < m.t) (ha : ahead m.e e = false) : CostIs e ns (s + 1) j (us ++ m :: vs) := by
  unfold LaneIs at h; unfold CostIs
  rw [lane_stop hu hm ha] at h; exact h
theorem LaneIs.go_on {e : Ent} {ns : List Nd} {s j : Nat} {us vs : List Nd} {m : Nd} (h : LaneIs e ns s j (us ++ m :: vs)) (hu : ∀ n ∈ us, ¬ j < n.t) (hm : j < m.t) (ha : ahead m.e e = true) : LaneIs e ns (s + 1) j vs := by
  unfold LaneIs at h ⊢
  rw [lane_go hu hm ha] at h
  have : s + 1 + (lane e j vs vs).1 = s + ((lane e j vs vs).1 + 1) := by omega
  rw [this]; exact h
theorem FindInv.lane_ {w wr : World} {tb : Nat} {e : Ent} {ns xs : List Nd} {j : Nat} (h : FindInv w wr e fun i => if j + 1 ≤ i then prevV tb e ns i else .pointer none) (hp : prevB tb e ns j = lastB tb xs) :
    FindInv w (wr.setCell ⟨w.heap.size + 1, j, none⟩ (.pointer (some ⟨lastB tb xs, 0, none⟩))) e fun i => if j ≤ i then prevV tb e ns i else .pointer none :=
  (h.set j _).congr_ fun i _ => by
    by_cases e1 : i = j
    · subst e1; rw [if_pos rfl, if_pos (Nat.le_refl _)]; unfold prevV; rw [hp]
    · rw [if_neg e1]
      by_cases e2 : j ≤ i
      · rw [if_pos e2, if_pos (by omega)]
      · rw [if_neg e2, if_neg (by omega)]
theorem sorted_before {e : Ent} {ns xs us vs : List Nd} {m : Nd} (h : ns.Pairwise fun a b => ahead a.e b.e = true) (he : ns = (xs ++ us) ++ m :: vs) {n : Nd} (hn : n ∈ us) (ha : ahead m.e e = true) : ahead n.e e = true := by
  subst he
  rw [List.pairwise_append] at h
  exact ahead_trans (h.2.2 n (List.mem_append_right _ hn) m (List.mem_cons_self ..)) ha
theorem row12 {w : World} {b : Nat} {f : Nat → Value} (h : w.rowIs b 65 12 f) : w.heap[b]? = some (.cells #[f 0, f 1, f 2, f 3, f 4, f 5, f 6, f 7, f 8, f 9, f 10, f 11] 65 (0, 0)) := by
  obtain ⟨c, hc, hn, hf⟩ := h
  have : c = #[f 0, f 1, f 2, f 3, f 4, f 5, f 6, f 7, f 8, f 9, f 10, f 11] := by
    apply Array.ext_getElem?
    intro i
    rcases Nat.lt_or_ge i 12 with hi | hi
    · rw [hf i hi]
      match i, hi with
      | 0, _ | 1, _ | 2, _ | 3, _ | 4, _ | 5, _ | 6, _ | 7, _ | 8, _ | 9, _ | 10, _ | 11, _ => rfl
      | i + 12, hi => omega
    · rw [Array.getElem?_eq_none (by omega), Array.getElem?_eq_none (by simp; omega)]
  rw [hc, this]


set_option maxRecDepth 100000 in
set_option maxHeartbeats 1000000 in
theorem find_any (tb : Nat) (hv : Value) (hs : List Int) (ns : List Nd) (e : Ent) (w : World) (hT : Tbl w tb hv hs ns) (hlen : ns.length ≤ 1000000) :
    Calls Try.prog 36 #[.pointer (some ⟨tb, 0, none⟩), .agg #[.string e.k, .string e.v, .int .i64 e.s, .bool e.d]] w fun en w' =>
      en = .returned (.tuple #[.agg #[prevV tb e ns 0, prevV tb e ns 1, prevV tb e ns 2, prevV tb e ns 3, prevV tb e ns 4, prevV tb e ns 5, prevV tb e ns 6, prevV tb e ns 7, prevV tb e ns 8, prevV tb e ns 9, prevV tb e ns 10, prevV tb e ns 11], .int .i64 (searchFrom e 12 ns)]) ∧ Below w.heap.size w w' := by
  go_enter Try.func36, Try.ntmps36
  go_wp2
  have hcost := searchFrom_le e 12 ns
  go_loopw [5, 6, 7] (fun s a i wr => ∃ (q sN : Nat) (xs ys : List Nd), q ≤ 12 ∧ i = .int .i64 ((q : Int) - 1) ∧ s = .int .i64 sN ∧ a = .pointer (some ⟨lastB tb xs, 0, none⟩) ∧ At tb e ns (q - 1) xs ys ∧
      CostIs e ns sN q ys ∧ FindInv w wr e (fun j => if q ≤ j then prevV tb e ns j else .pointer none)) (fun _ _ i _ => (intOf i + 1).toNat)
  case atStart => exact ⟨12, 0, [], ns, by omega, rfl, rfl, rfl, At.start _ _ _ _, CostIs.start _ _, (FindInv.start w e (.pointer none) _ rfl).congr_ (fun j hj => by rw [if_neg (by omega)])⟩
  case round =>
    obtain ⟨q, sN, xs, ys, hq, rfl, rfl, rfl, hat, hs, hI⟩ := hrel
    by_cases hq0 : q = 0
    · subst hq0
      have hrow := row12 hI.row
      simp only [Nat.zero_le, if_true] at hrow
      have H := Lib.hid hrow
      clear hrow
      go_wp2_with (first | (refine wpList_load_row rfl 65 (.tmp 4) rfl (w.heap.size + 1) rfl 65 _ _ _ H.out Try.underlying65 rfl (by kernel_rfl) ?_) | (refine wpList_store_row rfl 65 (.tmp 4) (.tmp 43) rfl (w.heap.size + 1) _ rfl rfl 65 _ H.out (by kernel_rfl) rfl (by simp [prevV, Value.oneCell']) ?_; rw [setRow_self _ _ _ _ _ H.out]))
      have hl := run_loadVar_row (P := Try.prog) wr (w.heap.size + 1) 65 65 _ _ _ H.out Try.underlying65 rfl (by kernel_rfl)
      refine bodyPost_ret (v := .tuple #[.agg #[prevV tb e ns 0, prevV tb e ns 1, prevV tb e ns 2, prevV tb e ns 3, prevV tb e ns 4, prevV tb e ns 5, prevV tb e ns 6, prevV tb e ns 7, prevV tb e ns 8, prevV tb e ns 9, prevV tb e ns 10, prevV tb e ns 11], .int .i64 sN]) (by simp [results, Try.results36, asAddr, hl]) rfl ⟨?_, hI.bel⟩
      rw [hs.done]
    · obtain ⟨j, rfl⟩ : ∃ j, q = j + 1 := ⟨q - 1, by omega⟩
      rw [show (((j + 1 : Nat) : Int) - 1) = (j : Int) from by omega]
      rw [show j + 1 - 1 = j from rfl] at hat
      have hc := (hT.below hI.bel).next hat (by omega)
      have hj : (j : Int) < 12 := by omega
      have hj0 : (0 : Int) ≤ j := by omega
      have hI' := Lib.hid hI
      have hs' := Lib.hid hs
      have hs0 : sN ≤ 12 * ns.length := by unfold CostIs at hs; omega
      clear hI hq0 hs
      go_wp2
      go_loopg [5, 6, 8] ys.length (fun k s a nx wr => ∃ (sN : Nat) (xs ys : List Nd), ys.length ≤ k ∧ s = .int .i64 sN ∧ a = .pointer (some ⟨lastB tb xs, 0, none⟩) ∧ nx = .pointer (nextB j ys) ∧ At tb e ns j xs ys ∧
        LaneIs e ns sN j ys ∧ FindInv w wr e (fun i => if j + 1 ≤ i then prevV tb e ns i else .pointer none))
      case atStart => exact ⟨sN, xs, ys, Nat.le_refl _, rfl, rfl, rfl, hat, LaneIs.of_cost hs'.out, hI'.out⟩
      case round =>
        clear hs0 hs' hI' hat hc
        obtain ⟨sN, xs, ys, hk, rfl, rfl, rfl, hat, hs, hI⟩ := hrel
        have hs0 : sN + (lane e j ys ys).1 ≤ 12 * ns.length := by unfold LaneIs at hs; omega
        cases hnx : nextN j ys with
        | none =>
          have hb : nextB j ys = none := by unfold nextB; rw [hnx]; rfl
          rw [hb]
          have Hs := Lib.hid hs
          have HI := Lib.hid hI
          have Hn := Lib.hid hnx
          have hfr := hI.row.frozen j
          have hc0 := hI.row.cell (i := j) (by omega)
          rw [if_neg (by omega)] at hc0
          clear hs hI hnx hs0
          go_wp2
          go_roundw
          case rel => exact ⟨j, sN, xs, ys, by omega, rfl, rfl, rfl, hat.down (Nat.sub_le _ _), Hs.out.stop_none Hn.out, HI.out.lane_ (hat.found (.inl Hn.out))⟩
          case measure => simp [intOf]
        | some m =>
          have hb : nextB j ys = some ⟨m.b, 0, none⟩ := by unfold nextB; rw [hnx]; rfl
          rw [hb]
          obtain ⟨us, vs, rfl, hm, hu⟩ := nextN_some hnx
          have hns : ns = (xs ++ us) ++ m :: vs := by rw [hat.eq]; simp
          have hch := (hT.below hI.bel).chain
          rw [hns] at hch
          obtain ⟨c0, c1, c2, c3, c4⟩ := hch.ent
          have e0 := cell_of_row wr _ 0 _ _ _ hI.box
          have e1 := cell_of_row wr _ 1 _ _ _ hI.box
          have e2 := cell_of_row wr _ 2 _ _ _ hI.box
          have e3 := cell_of_row wr _ 3 _ _ _ hI.box
          simp only [List.getElem?_toArray, List.getElem?_cons_zero, List.getElem?_cons_succ] at e0 e1 e2 e3
          have Hs := Lib.hid hs
          have HI := Lib.hid hI
          have Hn := Lib.hid hnx
          have Hns := Lib.hid hns
          clear hs hI hnx hns hch c4
          cases hah : ahead m.e e with
          | false =>
            have hA : ∀ W, Calls Try.prog 16 #[.agg #[.string m.e.k, .string m.e.v, .int .i64 m.e.s, .bool m.e.d], .agg #[.string e.k, .string e.v, .int .i64 e.s, .bool e.d]] W fun en w' => en = .returned (.bool false) ∧ Below W.heap.size W w' := fun W => by
              have := Ahead_any m.e e W; rwa [hah] at this
            have HA := Lib.hid hA
            have Hah := Lib.hid hah
            clear hA hah
            go_wp2
            refine region_still_tail 5 (by kernel_rfl) (by kernel_rfl) ?_
            simp only [List.take_succ_cons, List.take_zero, List.drop_succ_cons, List.drop_zero]
            repeat still_step
            refine wpStill_nil ?_
            go_wp2_with fail
            refine (HA.out _).mono ?_
            rintro e' w2 ⟨rfl, hb2⟩
            have hI2 := HI.out.step (((Below.refl _ wr).drew).trans hb2)
            have hfr := hI2.row.frozen j
            have hc0 := hI2.row.cell (i := j) (by omega)
            rw [if_neg (by omega)] at hc0
            have HI2 := Lib.hid hI2
            clear hI2 hb2 c0 c1 c2 c3 e0 e1 e2 e3
            go_wp2
            go_roundw
            case rel => exact ⟨j, sN + 1, xs, us ++ m :: vs, by omega, rfl, by go_num, rfl, hat.down (Nat.sub_le _ _), Hs.out.stop_some hu hm Hah.out, HI2.out.lane_ (hat.found (.inr ⟨m, Hn.out, Hah.out⟩))⟩
            case measure => simp [intOf]
          | true =>
            have hA : ∀ W, Calls Try.prog 16 #[.agg #[.string m.e.k, .string m.e.v, .int .i64 m.e.s, .bool m.e.d], .agg #[.string e.k, .string e.v, .int .i64 e.s, .bool e.d]] W fun en w' => en = .returned (.bool true) ∧ Below W.heap.size W w' := fun W => by
              have := Ahead_any m.e e W; rwa [hah] at this
            have HA := Lib.hid hA
            have Hah := Lib.hid hah
            clear hA hah
            have hat2 := hat.go (fun n hn => sorted_before hT.sorted Hns.out hn Hah.out) hm Hah.out
            go_wp2
            refine region_still_tail 5 (by kernel_rfl) (by kernel_rfl) ?_
            simp only [List.take_succ_cons, List.take_zero, List.drop_succ_cons, List.drop_zero]
            repeat still_step
            refine wpStill_nil ?_
            go_wp2_with fail
            refine (HA.out _).mono ?_
            rintro e' w2 ⟨rfl, hb2⟩
            have hI2 := HI.out.step (((Below.refl _ wr).drew).trans hb2)
            have hnx2 := (hT.below hI2.bel).next hat2 (by omega)
            rw [lastB_snoc] at hnx2
            have HI2 := Lib.hid hI2
            clear hI2 hb2 c0 c1 c2 c3 e0 e1 e2 e3
            go_wp2
            go_roundg vs.length
            case rel => exact ⟨sN + 1, xs ++ us ++ [m], vs, Nat.le_refl _, by go_num, by rw [lastB_snoc], rfl, hat2, Hs.out.go_on hu hm Hah.out, HI2.out⟩
            case measure => simp at hk; omega

end Go.Proofs.Ytgineehniclkeaa
