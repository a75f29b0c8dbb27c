/- The memtable's iterator All, as a contract of an iterator value: it tells the entries in their order, and stops where it is told to; of every table that lies in memory. -/
import Derived.RangeFuncNested
import Derived.RangeFuncBound
import Derived.RangeFuncCalls
import Derived.RangeFuncLeaves
import Derived.RangeFuncBox
import Derived.Shelf.Abstract
import Derived.Shelf.RegionOpen
import Derived.WalkKit
import Derived.OwnWalkIn
import Derived.TacticsInMore
import Derived.LoopNIn
import Derived.LoopIn
import Derived.Test.YtgineehniclkeaaA6
import Derived.Maps.AppendAt
namespace Go.Proofs.Ytgineehniclkeaa
open Go.RowKit Go.Shelf

attribute [local go_sem] Oper.semAt_some

theorem idxOf_at : ∀ (xs : List Nd) (n : Nd) (ys : List Nd), ((xs ++ n :: ys).map (·.b)).Nodup → ((xs ++ n :: ys).map (·.b)).idxOf n.b = xs.length
  | [], n, ys, _ => by simp
  | a :: xs, n, ys, h => by
    rw [List.cons_append, List.map_cons, List.nodup_cons] at h
    have hne : a.b ≠ n.b := fun e => h.1 (by rw [e]; exact List.mem_map.2 ⟨n, by simp, rfl⟩)
    have hb : (a.b == n.b) = false := by simpa using hne
    rw [List.cons_append, List.map_cons, List.idxOf_cons, hb, idxOf_at xs n ys h.2]; rfl

/-- How many nodes are still to come. -/
def leftOf (ns : List Nd) : Value → Nat
  | .pointer (some a) => ns.length - (ns.map (·.b)).idxOf a.block
  | _ => 0

def encE (x : Ent) : Array Value := #[.agg #[.string x.k, .string x.v, .int .i64 x.s, .bool x.d]]

set_option maxRecDepth 100000 in
set_option maxHeartbeats 1000000 in
theorem All1_in (n : Nat) (hn : 1 ≤ n) (l Bn tb : Nat) (hv : Value) (hs : List Int) (ns : List Nd) (w0 : World) (hT : Tbl w0 tb hv hs ns) (J Jx : List Ent → World → Prop)
    (hY : ∀ pre x W, J pre W → pre.length < ns.length → YieldAt Fence.wide (n - 1) Try.prog l (encE x) W fun e W' =>
      (e = .returned (.bool true) ∧ J (pre ++ [x]) W' ∧ Below w0.heap.size W W') ∨ (e = .returned (.bool false) ∧ Jx (pre ++ [x]) W'))
    (W : World) (hBn : W.cell? ⟨Bn, 0, none⟩ = some (.pointer (some ⟨tb, 0, none⟩))) (hW : Below w0.heap.size w0 W) (h0 : J [] W) :
    CallsIn Fence.wide n Try.prog 51 #[.func (.yield l) #[] #[], .pointer (some ⟨Bn, 0, none⟩)] W fun e W' => (∃ v, e = .returned v) ∧
      ((∃ ys, ys = ns.map (·.e) ∧ J ys W') ∨ (∃ pre, pre <+: ns.map (·.e) ∧ Jx pre W')) := by
  have hst := (hT.below hW).next (e := Ent.zero) (At.start tb Ent.zero ns 0) (by omega)
  have hst' : W.cell? ⟨tb, 5, none⟩ = some (.pointer (nextB 0 ns)) := hst
  clear hst
  refine callsIn_of_wp Try.func51 rfl trivial ?_ rfl
  simp only [Try.ntmps51, List.size_toArray, List.length_cons, List.length_nil, Nat.reduceAdd, Nat.reduceSub, Array.replicate_succ, Array.replicate_zero, List.push_toArray, List.append_toArray, List.nil_append, List.cons_append]
  gi_wp2_with (refine ⟨trivial, ?_⟩; gi_at_call 35; refine (callsIn_wide.2 (none_any tb hv hs ns _ (hT.below hW))).mono ?_; rintro e w' ⟨rfl, rfl⟩)
  gi_loopw [3] (fun p wr => ∃ (xs ys : List Nd), ns = xs ++ ys ∧ p = .pointer (nextB 0 ys) ∧ Below w0.heap.size w0 wr ∧ J (xs.map (·.e)) wr) (fun p _ => leftOf ns p)
  case atStart => exact ⟨[], ns, rfl, rfl, hW, h0⟩
  case round =>
    obtain ⟨xs, ys, hns, rfl, hb, hJ⟩ := hrel
    cases ys with
    | nil =>
      rw [show nextB 0 [] = none from rfl]
      have Hns := Lib.hid hns
      clear hns
      gi_wp2
      go_end0
      exact ⟨⟨_, rfl⟩, .inl ⟨_, by rw [Hns.out, List.append_nil], hJ⟩⟩
    | cons m ys =>
      have hnt := hT.towers m (by rw [hns]; simp)
      obtain ⟨ht1, ht2, ht3⟩ := hnt
      have hch := hT.chain
      have hmlt := hch.lt m (by rw [hns]; simp)
      rw [hns] at hch
      have c5w : w0.cell? ⟨m.b, 5, none⟩ = some (.pointer (nextB 0 ys)) := by
        rw [cell_of_row w0 _ _ _ _ _ hch.at_]
        have := ndCells_link m ys 0 (by omega)
        rw [Nat.add_zero] at this
        rw [this]; unfold linkV; rw [if_pos (by omega)]
      obtain ⟨q0, q1, q2, q3, _⟩ := hch.ent
      have r0 := (hb.cell (p := ⟨m.b, 0, none⟩) hmlt).trans q0
      have r1 := (hb.cell (p := ⟨m.b, 1, none⟩) hmlt).trans q1
      have r2 := (hb.cell (p := ⟨m.b, 2, none⟩) hmlt).trans q2
      have r3 := (hb.cell (p := ⟨m.b, 3, none⟩) hmlt).trans q3
      rw [nextB_hit ys (by omega)]
      obtain ⟨fn, tmps, assign, body, hy, hR⟩ := hY (xs.map (·.e)) m.e wr hJ (by rw [hns]; simp)
      unfold encE at hy
      have Hns := Lib.hid hns
      have HC5 := Lib.hid c5w
      have HT := Lib.hid hT
      clear hns hch ht1 c5w q0 q1 q2 q3 hT
      gi_wp2
      refine hR.mono ?_
      rintro e W3 (⟨rfl, hJ3, hk3⟩ | ⟨rfl, hJx3⟩)
      · have hq3 : W3.cell? ⟨m.b, 5, none⟩ = some (.pointer (nextB 0 ys)) := ((hb.trans hk3).cell (p := ⟨m.b, 5, none⟩) hmlt).trans HC5.out
        gi_wp2
        go_roundw
        case rel => exact ⟨xs ++ [m], ys, by rw [Hns.out]; simp, rfl, hb.trans hk3, by simpa using hJ3⟩
        case measure =>
          have hnd := HT.out.nodup
          have hts := HT.out.towers
          have hns := Hns.out
          subst hns
          rw [show leftOf (xs ++ m :: ys) (.pointer (some ⟨m.b, 0, none⟩)) = (xs ++ m :: ys).length - ((xs ++ m :: ys).map (·.b)).idxOf m.b from rfl, idxOf_at xs m ys hnd]
          cases ys with
          | nil => show (0 : Nat) < _; simp
          | cons m2 ys =>
            rw [nextB_hit ys (by have := (hts m2 (by simp)).2.1; omega)]
            have e2 : xs ++ m :: m2 :: ys = (xs ++ [m]) ++ m2 :: ys := by simp
            rw [show leftOf (xs ++ m :: m2 :: ys) (.pointer (some ⟨m2.b, 0, none⟩)) = (xs ++ m :: m2 :: ys).length - ((xs ++ m :: m2 :: ys).map (·.b)).idxOf m2.b from rfl]
            have h3 : ((xs ++ m :: m2 :: ys).map (·.b)).idxOf m2.b = (xs ++ [m]).length := by rw [e2]; exact idxOf_at _ _ _ (by rw [← e2]; exact hnd)
            rw [h3]
            simp
            omega
      · gi_wp2
        refine bodyPost_ret (results_none rfl _ _ _) rfl ?_
        exact ⟨⟨_, rfl⟩, .inr ⟨_, ⟨ys.map (·.e), by rw [Hns.out]; simp⟩, hJx3⟩⟩

theorem All_in (n : Nat) (a : Option Addr) (w : World) :
    CallsIn Fence.wide n Try.prog 37 #[.pointer a] w fun e w' => e = .returned (.func (.func 51) #[] #[.pointer (some ⟨w.heap.size, 0, none⟩)]) ∧ w' = w.alloc (.cells #[.pointer a] 25) := by
  refine callsIn_of_wp Try.func37 rfl trivial ?_ rfl
  simp only [Try.ntmps37, List.size_toArray, List.length_cons, List.length_nil, Nat.reduceAdd, Nat.reduceSub, Array.replicate_succ, Array.replicate_zero, List.push_toArray, List.append_toArray, List.nil_append, List.cons_append]
  gi_wp2
  go_ret
  exact ⟨rfl, rfl⟩

/-- What t.All() hands back tells all entries, or a first part of them where it is told to stop. -/
theorem All_stops (n : Nat) (hn : 1 ≤ n) (Bn tb : Nat) (hv : Value) (hs : List Int) (ns : List Nd) (w0 w : World) (hT : Tbl w0 tb hv hs ns) (hBn : Bn < w.heap.size) (hw : Below w0.heap.size w0 w)
    (hc : w.cell? ⟨Bn, 0, none⟩ = some (.pointer (some ⟨tb, 0, none⟩))) :
    SeqStopsK Fence.wide n Try.prog 51 #[.pointer (some ⟨Bn, 0, none⟩)] encE (Below w0.heap.size) (fun ys => ys = ns.map (·.e)) (fun pre => pre <+: ns.map (·.e)) ns.length w := fun l J Jx W hW _ _ hY h0 =>
  All1_in n hn l Bn tb hv hs ns w0 hT J Jx hY W ((hW.cell (p := ⟨Bn, 0, none⟩) hBn).trans hc) (hw.trans (hW.mono hw.size)) h0

theorem Try.info32 : (Try.prog.info? 32).map (fun i => (i.zero, i.size, i.bytes)) = some (some (.agg #[.string ByteArray.empty, .string ByteArray.empty, .int .i64 0, .bool false]), 4, 48) := by kernel_rfl

end Go.Proofs.Ytgineehniclkeaa
