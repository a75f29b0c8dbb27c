/- Contracts of the checks: wal.fine, wal.Check of one write, mem.Check, enc.In, and whether nobody made a table; no condition. -/
import Derived.Test.YtgineehniclkeaaA2
import Derived.Test.YtgineehniclkeaaM1
import Derived.Maps.OwnOps
import Derived.Maps.OwnSet
import Derived.BigGuardPart
namespace Go.Proofs.Ytgineehniclkeaa
open Go.RowKit Go.Maps

def fineB (k v : ByteArray) (d : Bool) : Bool := decide (k.size ≠ 0) && (decide (k.size ≤ 512) && (decide (v.size ≤ 4096) && (!d || decide (v.size = 0))))

theorem empty_size (s : ByteArray) : s.toList.isEmpty = decide (s.size = 0) := by
  rw [ByteArray.toList_eq]
  obtain ⟨⟨l⟩⟩ := s
  cases l <;> simp [ByteArray.size]
theorem nil_size {s : ByteArray} (h : s.toList = []) : s.size = 0 := by
  have := empty_size s
  rw [h] at this
  simpa using this

set_option maxHeartbeats 400000 in
theorem fine_any (k v : ByteArray) (d : Bool) (w : World) (hk : k.size ≤ 9223372036854775807) (hv : v.size ≤ 9223372036854775807) :
    Calls Try.prog 54 #[.agg #[.string k, .string v, .bool d]] w fun e w' => e = .returned (.bool (fineB k v d)) ∧ Below w.heap.size w w' := by
  go_enter Try.func54, Try.ntmps54
  go_wp2
  all_goals go_ret
  all_goals (refine ⟨ret_bool ?_, (Below.refl _ _).alloc (Nat.le_refl _) _⟩; have hke := empty_size k; have hve := empty_size v)
  · have a1 : k.size ≤ 512 := by omega
    have a2 : v.size ≤ 4096 := by omega
    simp_all [fineB]
  · have a1 : k.size ≤ 512 := by omega
    have a2 : v.size ≤ 4096 := by omega
    simp_all [fineB]
  all_goals (simp_all [fineB]; try omega)

def walB (k v : ByteArray) (d : Bool) : Int := if fineB k v d = true then 0 else 2

theorem zero89 (w : World) : (zeroValue 89).run Try.prog w = .ok (.agg #[]) w := by kernel_rfl

set_option maxHeartbeats 400000 in
theorem walCheck_one (k v : ByteArray) (d : Bool) (g : Nat) (w : World) (hk : k.size ≤ 9223372036854775807) (hv : v.size ≤ 9223372036854775807) (hg : g < w.heap.size)
    (c0 : w.cell? ⟨g, 0, none⟩ = some (.string k)) (c1 : w.cell? ⟨g, 1, none⟩ = some (.string v)) (c2 : w.cell? ⟨g, 2, none⟩ = some (.bool d)) :
    Calls Try.prog 43 #[.slice (some ⟨g, 0, none⟩) 1 1] w fun e w' => e = .returned (.int .i64 (walB k v d)) ∧ Below w.heap.size w w' := by
  have hmm := @run_makeMap Try.prog
  go_enter Try.func43, Try.ntmps43
  go_wp2
  refine wp_loop_rounds 2 ?_
  rw [rounds_succ]
  go_wp2_with fail
  refine (fine_any k v d _ hk hv).mono ?_
  rintro e w1 ⟨rfl, hb1⟩
  cases hf : fineB k v d with
  | false =>
    go_wp2
    go_ret
    exact ⟨ret_int (by unfold walB; rw [hf]; rfl), ((Below.refl _ _).alloc (Nat.le_refl _) _).trans (hb1.mono (by simp))⟩
  | true =>
    have Hf := Lib.hid hf
    have HB := Lib.hid hb1
    have d0 := (hb1.cell (p := ⟨g, 0, none⟩) (by simp; omega))
    have d1 := (hb1.cell (p := ⟨g, 1, none⟩) (by simp; omega))
    have d2 := (hb1.cell (p := ⟨g, 2, none⟩) (by simp; omega))
    rw [World.cell?_alloc_past _ _ _ hg, c0] at d0
    rw [World.cell?_alloc_past _ _ _ hg, c1] at d1
    rw [World.cell?_alloc_past _ _ _ hg, c2] at d2
    have hg1 : g < w1.heap.size := by have := hb1.size; simp at this; omega
    clear hf hb1
    have hown0 := World.ownsMap_made w1 Try.prog 9 (unitElem (H := Unit))
    have hkey : keyOf Try.prog 9 (.string k) = some (.string k.data.toList) := Go.WideMaps.keyOf_string_mk Try.underlying9 hk
    have hhas : Maps.has (DataW.map [] : DataW Unit) (.string k.data.toList) = false := rfl
    go_wp2
    rw [rounds_succ]
    go_wp2
    refine wp_loop_rounds 2 ?_
    rw [rounds_succ]
    go_wp2_with (first | (at_lookup; refine wpList_lookup_own_unit _ rfl _ _ 88 rfl 9 89 (Maps.string_keyed Try.underlying9) Try.underlying88 (zero89 _) w1.heap.size 0 (.map [] : DataW Unit) rfl (hown0.alloc _) _ _ rfl hkey ?_) | (at_mapUpdate; refine wpList_mapUpdate_own _ rfl _ _ _ 88 rfl 9 89 (Maps.string_keyed Try.underlying9) Try.underlying88 (unitElem (H := Unit)) w1.heap.size 0 (.map []) rfl ((hown0.alloc _).alloc _) (by decide) _ _ _ rfl rfl hkey _ [] unitElem_mk ?_; intro w3 hown3 hgrow3))
    rw [rounds_succ]
    go_wp2
    go_ret
    have hs := HB.out.size
    simp only [World.size_alloc] at hs
    refine ⟨ret_int (by unfold walB; rw [Hf.out]; rfl), ?_⟩
    have h1 : Below w.heap.size w w1 := ((Below.refl _ _).alloc (Nat.le_refl _) _).trans (HB.out.mono (by simp))
    exact (((h1.alloc (by omega) _).alloc (by simp; omega) _).alloc (by simp; omega) _).grown hgrow3 (by simp; omega) (fun k hk => by cases hk; omega)

/-- The check of an entry: 0 where it may be, 2 where not. -/
def okB (e : Ent) : Bool := decide (1 ≤ e.s) && (decide (e.s ≤ 1073741824) && fineB e.k e.v e.d)
def checkE (e : Ent) : Int := if okB e = true then 0 else 2

set_option maxHeartbeats 800000 in
theorem Check_any (e : Ent) (w : World) (hk : e.k.size ≤ 9223372036854775807) (hv : e.v.size ≤ 9223372036854775807) :
    Calls Try.prog 28 #[.agg #[.string e.k, .string e.v, .int .i64 e.s, .bool e.d]] w fun en w' => en = .returned (.int .i64 (checkE e)) ∧ Below w.heap.size w w' := by
  go_enter Try.func28, Try.ntmps28
  go_wp2_with fail
  · go_ret
    exact ⟨ret_int (by unfold checkE okB; rw [if_neg (by simp; omega)]), (Below.refl _ _).alloc (Nat.le_refl _) _⟩
  · go_ret
    exact ⟨ret_int (by unfold checkE okB; rw [if_neg (by simp; omega)]), (Below.refl _ _).alloc (Nat.le_refl _) _⟩
  · have h3 : (1 : Int) ≤ e.s := by omega
    have h4 : e.s ≤ (1073741824 : Int) := by omega
    refine (walCheck_one e.k e.v e.d _ _ hk hv (by simp) (by simp [World.cell?_alloc_at]) (by simp [World.cell?_alloc_at]) (by simp [World.cell?_alloc_at])).mono ?_
    rintro en w1 ⟨rfl, hb⟩
    have hb' : Below w.heap.size w w1 := (((Below.refl _ _).alloc (Nat.le_refl _) _).alloc (by simp) _).trans (hb.mono (by simp; omega))
    cases hf : fineB e.k e.v e.d with
    | true =>
      have hw : walB e.k e.v e.d = 0 := by unfold walB; rw [hf]; rfl
      rw [hw]
      have Hf := Lib.hid hf
      clear hf hw hb
      go_wp2
      go_ret
      exact ⟨ret_int (by unfold checkE okB; rw [if_pos (by simp [h3, h4, Hf.out])]), hb'⟩
    | false =>
      have hw : walB e.k e.v e.d = 2 := by unfold walB; rw [hf]; rfl
      rw [hw]
      have Hf := Lib.hid hf
      clear hf hw hb
      go_wp2
      go_ret
      exact ⟨ret_int (by unfold checkE okB; rw [if_neg (by simp [Hf.out])]), hb'⟩

/-- Is a key in a span? -/
def inB (k f t : ByteArray) : Bool := !lts k f && (t.toList.isEmpty || lts k t)

set_option maxHeartbeats 400000 in
theorem In_any (k f t : ByteArray) (w : World) : Calls Try.prog 41 #[.string k, .agg #[.string f, .string t]] w fun en w' => en = .returned (.bool (inB k f t)) ∧ Below w.heap.size w w' := by
  go_enter Try.func41, Try.ntmps41
  go_wp2
  all_goals go_ret
  all_goals (refine ⟨ret_bool ?_, (Below.refl _ _).alloc (Nat.le_refl _) _⟩)
  all_goals (simp_all [inB, lts])

set_option maxHeartbeats 400000 in
theorem none_any (tb : Nat) (hv : Value) (hs : List Int) (ns : List Nd) (w : World) (hT : Tbl w tb hv hs ns) :
    Calls Try.prog 35 #[.pointer (some ⟨tb, 0, none⟩)] w fun e w' => e = .returned (.bool false) ∧ w = w' := by
  have h0 := cell_of_row w _ 20 _ _ _ hT.blk
  have h1 : (tbCells hv ↑ns.length (List.map (fun n => (n.e.k.size : Int) + n.e.v.size) ns).sum ns)[20]? = some (.bool true) := rfl
  rw [h1] at h0
  clear h1
  go_enter Try.func35, Try.ntmps35
  go_wp2
  go_ret
  exact ⟨rfl, rfl⟩

end Go.Proofs.Ytgineehniclkeaa
