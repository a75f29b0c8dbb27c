/- The walk of MemNames: the chapter's numbers and examples hold; no condition. -/
import Derived.Test.YtgineehniclkeaaE2
namespace Go.Proofs.Ytgineehniclkeaa
open Go.RowKit

theorem litI3 (w : World) (a b c : Int) : Ints (w.alloc (.cells #[.int .i64 a, .int .i64 b, .int .i64 c] 3)) (w.heap.size + 1) (some ⟨w.heap.size, 0, none⟩) [a, b, c] := fun _ =>
  ⟨w.heap.size, 0, rfl, Nat.lt_succ_self _, fun i hi => by
    match i, hi with
    | 0, _ => simp [World.cell?_alloc_at]
    | 1, _ => simp [World.cell?_alloc_at]
    | 2, _ => simp [World.cell?_alloc_at]
    | i + 3, hi => exact absurd hi (by simp)⟩
theorem litI2 (w : World) (a b : Int) : Ints (w.alloc (.cells #[.int .i64 a, .int .i64 b] 3)) (w.heap.size + 1) (some ⟨w.heap.size, 0, none⟩) [a, b] := fun _ =>
  ⟨w.heap.size, 0, rfl, Nat.lt_succ_self _, fun i hi => by
    match i, hi with
    | 0, _ => simp [World.cell?_alloc_at]
    | 1, _ => simp [World.cell?_alloc_at]
    | i + 2, hi => exact absurd hi (by simp)⟩
theorem litI1 (w : World) (a : Int) : Ints (w.alloc (.cells #[.int .i64 a] 3)) (w.heap.size + 1) (some ⟨w.heap.size, 0, none⟩) [a] := fun _ =>
  ⟨w.heap.size, 0, rfl, Nat.lt_succ_self _, fun i hi => by
    match i, hi with
    | 0, _ => simp [World.cell?_alloc_at]
    | i + 1, hi => exact absurd hi (by simp)⟩

set_option maxRecDepth 100000 in
set_option maxHeartbeats 4000000 in
theorem MemNames_any (w : World) : Calls Try.prog 6 #[] w fun e w' => e = .returned (.bool true) ∧ Below w.heap.size w w' := by
  go_enter Try.func6, Try.ntmps6
  go_wp2_with fail
  refine (example_any _).mono ?_
  rintro e w1 ⟨tb, S, rfl, hS, hb⟩
  have HS := Lib.hid hS
  have HB := Lib.hid hb
  clear hS hb
  go_wp2_with fail
  refine (lives_any _).mono ?_
  rintro e w2 ⟨rfl, hb2⟩
  have HS2 := Lib.hid (HS.out.below hb2)
  have HB2 := Lib.hid (HB.out.trans (hb2.mono HB.out.size))
  clear hb2 HS HB
  go_wp2_with fail
  have hg := Get_S w.heap.size tb exH exP S ⟨#[98]⟩ 0 w2 HS2.out (by simp [exP])
  rw [exGet0] at hg
  refine hg.mono ?_
  rintro e w3 ⟨rfl, hb3⟩
  have HS3 := Lib.hid (HS2.out.below hb3)
  have HB3 := Lib.hid (HB2.out.trans (hb3.mono HB2.out.size))
  clear hg hb3 HS2 HB2
  go_wp2_with fail
  have hb3a := HB3.out.alloc HB3.out.size (.cells #[.string Ent.zero.k, .string Ent.zero.v, .int .i64 Ent.zero.s, .bool Ent.zero.d] 32)
  have hS3a := HS3.out.below ((Below.refl w3.heap.size w3).alloc (Nat.le_refl _) (.cells #[.string Ent.zero.k, .string Ent.zero.v, .int .i64 Ent.zero.s, .bool Ent.zero.d] 32))
  generalize w3.alloc (.cells #[.string Ent.zero.k, .string Ent.zero.v, .int .i64 Ent.zero.s, .bool Ent.zero.d] 32) = w4 at *
  have hg := Get_S w.heap.size tb exH exP S ⟨#[98]⟩ 3 w4 hS3a (by simp [exP])
  rw [exGet3] at hg
  have HS4 := Lib.hid hS3a
  have HB4 := Lib.hid hb3a
  clear hS3a hb3a HS3 HB3
  refine hg.mono ?_
  rintro e w5 ⟨rfl, hb5⟩
  have HS5 := Lib.hid (HS4.out.below hb5)
  have HB5 := Lib.hid (HB4.out.trans (hb5.mono HB4.out.size))
  clear hg hb5 HS4 HB4
  go_wp2_with fail
  have hI : Ints ((w5.alloc (.cells #[.string eB3.k, .string eB3.v, .int .i64 eB3.s, .bool eB3.d] 32)).alloc (.cells #[.int .i64 13] 3)) (w5.heap.size + 2) (some ⟨w5.heap.size + 1, 0, none⟩) [13] := fun _ => ⟨w5.heap.size + 1, 0, rfl, by omega, fun i hi => by
    match i, hi with
    | 0, _ => simp [World.cell?_alloc_at]
    | i + 1, hi => exact absurd hi (by simp)⟩
  have hc : ((w5.alloc (.cells #[.string eB3.k, .string eB3.v, .int .i64 eB3.s, .bool eB3.d] 32)).alloc (.cells #[.int .i64 13] 3)).cell? ⟨w5.heap.size, 2, none⟩ = some (.int .i64 3) := by simp [World.cell?_alloc_at, eB3]
  have hb6 := (HB5.out.alloc HB5.out.size (.cells #[.string eB3.k, .string eB3.v, .int .i64 eB3.s, .bool eB3.d] 32)).alloc (by have := HB5.out.size; simp; omega) (.cells #[.int .i64 13] 3)
  have hS6 := HS5.out.below (((Below.refl w5.heap.size w5).alloc (Nat.le_refl _) (.cells #[.string eB3.k, .string eB3.v, .int .i64 eB3.s, .bool eB3.d] 32)).alloc (by simp) (.cells #[.int .i64 13] 3))
  have hsz : w5.heap.size < ((w5.alloc (.cells #[.string eB3.k, .string eB3.v, .int .i64 eB3.s, .bool eB3.d] 32)).alloc (.cells #[.int .i64 13] 3)).heap.size := by simp; omega
  generalize (w5.alloc (.cells #[.string eB3.k, .string eB3.v, .int .i64 eB3.s, .bool eB3.d] 32)).alloc (.cells #[.int .i64 13] 3) = w6 at *
  have HS6 := Lib.hid hS6
  have HBC6 := Lib.hid (Below.refl w6.heap.size w6)
  have HB6 := Lib.hid hb6
  have HC6 : Hid (∀ wz, Below w6.heap.size w6 wz → wz.cell? ⟨w5.heap.size, 2, none⟩ = some (.int .i64 3)) := Lib.hid fun wz hz => (hz.cell (by exact hsz)).trans hc
  clear hS6 hb6 hc hsz HS5 HB5
  refine (New_bad _ _ _ [13] w6 hI (by simp) (by decide)).mono ?_
  rintro e w6' ⟨rfl, rfl⟩
  clear hI
  have hlane := fun (h : Int) (wz : World) (hz : TabS w.heap.size wz tb exH exP S) => Lane_S w.heap.size tb exH exP S h wz hz (by simp [exP])
  obtain ⟨l1, l2, l3, l4⟩ := exLane
  have hL1 := hlane 1
  have hL2 := hlane 2
  have hL3 := hlane 3
  have hL4 := hlane 4
  rw [l1] at hL1
  rw [l2] at hL2
  rw [l3] at hL3
  rw [l4] at hL4
  have HL1 := Lib.hid hL1
  have HL2 := Lib.hid hL2
  have HL3 := Lib.hid hL3
  have HL4 := Lib.hid hL4
  clear hL1 hL2 hL3 hL4 hlane l1 l2 l3 l4
  go_wp2_with fail
  refine (HL1.out _ HS6.out).mono ?_
  rintro e w7 ⟨A7, c7, rfl, hE, hb⟩
  have HE7 := Lib.hid hE
  have HB7 := Lib.hid hb
  have HS7 := Lib.hid (HS6.out.below hb)
  clear hE hb
  go_wp2_with fail
  have hE1 := (HE7.out.below ((Below.refl w7.heap.size w7).alloc (Nat.le_refl _) (.cells #[.int .i64 0, .int .i64 1, .int .i64 2] 3))).more (Nat.le_succ _)
  have hE2 := litI3 w7 0 1 2
  refine (SameInts_any A7 (some ⟨w7.heap.size, 0, none⟩) c7 3 (w7.heap.size + 1) [0, 1, 2] [0, 1, 2] _ hE1 hE2 (by simp)).mono ?_
  rintro e w7b ⟨rfl, m7, rfl⟩
  rw [show decide (([0, 1, 2] : List Int) = [0, 1, 2]) = true from decide_eq_true rfl]
  have hB7b := below_drewN ((HB6.out.trans (HB7.out.mono HB6.out.size)).alloc (Nat.le_trans HB6.out.size HB7.out.size) (.cells #[.int .i64 0, .int .i64 1, .int .i64 2] 3)) m7
  have hS7b := HS7.out.below (below_drewN ((Below.refl w7.heap.size w7).alloc (Nat.le_refl _) (.cells #[.int .i64 0, .int .i64 1, .int .i64 2] 3)) m7)
  have hC7b := below_drewN (((HBC6.out).trans (HB7.out.mono HBC6.out.size)).alloc (Nat.le_trans HBC6.out.size HB7.out.size) (.cells #[.int .i64 0, .int .i64 1, .int .i64 2] 3)) m7
  clear hE1 hE2
  generalize (w7.alloc (.cells #[.int .i64 0, .int .i64 1, .int .i64 2] 3)).drewN m7 = w7c at *
  have HB7c := Lib.hid hB7b
  have HBC7c := Lib.hid hC7b
  have HS7c := Lib.hid hS7b
  clear hB7b hC7b hS7b HE7 HB7 HS7
  go_wp2_with fail
  refine (HL2.out _ HS7c.out).mono ?_
  rintro e w8 ⟨A8, c8, rfl, hE, hb⟩
  have HE8 := Lib.hid hE
  have HB8 := Lib.hid hb
  have HS8 := Lib.hid (HS7c.out.below hb)
  clear hE hb
  go_wp2_with fail
  have hE1 := (HE8.out.below ((Below.refl w8.heap.size w8).alloc (Nat.le_refl _) (.cells #[.int .i64 1, .int .i64 2] 3))).more (Nat.le_succ _)
  have hE2 := litI2 w8 1 2
  refine (SameInts_any A8 (some ⟨w8.heap.size, 0, none⟩) c8 2 (w8.heap.size + 1) [1, 2] [1, 2] _ hE1 hE2 (by simp)).mono ?_
  rintro e w8b ⟨rfl, m8, rfl⟩
  rw [show decide (([1, 2] : List Int) = [1, 2]) = true from decide_eq_true rfl]
  have hB8b := below_drewN ((HB7c.out.trans (HB8.out.mono HB7c.out.size)).alloc (Nat.le_trans HB7c.out.size HB8.out.size) (.cells #[.int .i64 1, .int .i64 2] 3)) m8
  have hS8b := HS8.out.below (below_drewN ((Below.refl w8.heap.size w8).alloc (Nat.le_refl _) (.cells #[.int .i64 1, .int .i64 2] 3)) m8)
  have hC8b := below_drewN (((HBC7c.out).trans (HB8.out.mono HBC7c.out.size)).alloc (Nat.le_trans HBC7c.out.size HB8.out.size) (.cells #[.int .i64 1, .int .i64 2] 3)) m8
  clear hE1 hE2
  generalize (w8.alloc (.cells #[.int .i64 1, .int .i64 2] 3)).drewN m8 = w8c at *
  have HB8c := Lib.hid hB8b
  have HBC8c := Lib.hid hC8b
  have HS8c := Lib.hid hS8b
  clear hB8b hC8b hS8b HE8 HB8 HS8
  go_wp2_with fail
  refine (HL3.out _ HS8c.out).mono ?_
  rintro e w9 ⟨A9, c9, rfl, hE, hb⟩
  have HE9 := Lib.hid hE
  have HB9 := Lib.hid hb
  have HS9 := Lib.hid (HS8c.out.below hb)
  clear hE hb
  go_wp2_with fail
  have hE1 := (HE9.out.below ((Below.refl w9.heap.size w9).alloc (Nat.le_refl _) (.cells #[.int .i64 1] 3))).more (Nat.le_succ _)
  have hE2 := litI1 w9 1
  refine (SameInts_any A9 (some ⟨w9.heap.size, 0, none⟩) c9 1 (w9.heap.size + 1) [1] [1] _ hE1 hE2 (by simp)).mono ?_
  rintro e w9b ⟨rfl, m9, rfl⟩
  rw [show decide (([1] : List Int) = [1]) = true from decide_eq_true rfl]
  have hB9b := below_drewN ((HB8c.out.trans (HB9.out.mono HB8c.out.size)).alloc (Nat.le_trans HB8c.out.size HB9.out.size) (.cells #[.int .i64 1] 3)) m9
  have hS9b := HS9.out.below (below_drewN ((Below.refl w9.heap.size w9).alloc (Nat.le_refl _) (.cells #[.int .i64 1] 3)) m9)
  have hC9b := below_drewN (((HBC8c.out).trans (HB9.out.mono HBC8c.out.size)).alloc (Nat.le_trans HBC8c.out.size HB9.out.size) (.cells #[.int .i64 1] 3)) m9
  clear hE1 hE2
  generalize (w9.alloc (.cells #[.int .i64 1] 3)).drewN m9 = w9c at *
  have HB9c := Lib.hid hB9b
  have HBC9c := Lib.hid hC9b
  have HS9c := Lib.hid hS9b
  clear hB9b hC9b hS9b HE9 HB9 HS9
  go_wp2_with fail
  refine (HL4.out _ HS9c.out).mono ?_
  rintro e w10 ⟨A10, c10, rfl, hE, hb⟩
  have HE10 := Lib.hid hE
  have HB10 := Lib.hid hb
  have HS10 := Lib.hid (HS9c.out.below hb)
  have hb10 := HB9c.out.trans (hb.mono HB9c.out.size)
  have hbc10 := HBC9c.out.trans (hb.mono HBC9c.out.size)
  have hc := HC6.out w10 hbc10
  have HW10 := Lib.hid hb10
  have hcost := fun (key : ByteArray) (seq : Int) (wz : World) (hz : TabS w.heap.size wz tb exH exP S) => Cost_S w.heap.size tb exH exP S key seq wz hz (by simp [exP])
  have hco1 := hcost ⟨#[98]⟩ 3 w10 HS10.out
  rw [exCost.1] at hco1
  have HCO1 := Lib.hid hco1
  have HCost := Lib.hid hcost
  clear hE hb hb10 hbc10 hco1 hcost HE10 HB10
  go_wp2_with fail
  refine HCO1.out.mono ?_
  rintro e w11 ⟨rfl, hb11⟩
  have HS11 := Lib.hid (HS10.out.below hb11)
  have HB11 := Lib.hid (HW10.out.trans (hb11.mono HW10.out.size))
  have hco2 := HCost.out ⟨#[97]⟩ 2 w11 HS11.out
  rw [exCost.2] at hco2
  have HCO2 := Lib.hid hco2
  clear hb11 hco2 hc HCO1
  go_wp2_with fail
  refine HCO2.out.mono ?_
  rintro e w12 ⟨rfl, hb12⟩
  have HS12 := Lib.hid (HS11.out.below hb12)
  have HB12 := Lib.hid (HB11.out.trans (hb12.mono HB11.out.size))
  clear hb12 HCO2
  have hadd := Add_S w.heap.size tb exH exP S eB3 w12 HS12.out HB12.out.size (by simp [exP]) (by decide) (by decide) (by decide) (by decide)
  rw [exAdd9.1, exAdd9.2] at hadd
  have HAD := Lib.hid hadd
  clear hadd
  go_wp2_with fail
  refine HAD.out.mono ?_
  rintro e w13 ⟨rfl, S13, hS13, -, hb13, -⟩
  have HS13 := Lib.hid hS13
  have HB13 := Lib.hid (HB12.out.trans hb13)
  clear hS13 hb13 HAD
  have hadd := Add_S w.heap.size tb exH exP S13 eBad w13 HS13.out HB13.out.size (by simp [exP]) (by decide) (by decide) (by decide) (by decide)
  rw [exAdd2.1, exAdd2.2] at hadd
  have HAD := Lib.hid hadd
  clear hadd
  go_wp2_with fail
  refine HAD.out.mono ?_
  rintro e w14 ⟨rfl, S14, hS14, -, hb14, -⟩
  have HS14 := Lib.hid hS14
  have HB14 := Lib.hid (HB13.out.trans hb14)
  clear hS14 hb14 HAD
  go_wp2_with fail
  refine (Len_S w.heap.size tb exH exP S14 w14 HS14.out).mono ?_
  rintro e w15 ⟨rfl, rfl⟩
  go_wp2_with fail
  have hsz := Size_S w.heap.size tb exH exP S14 w14 HS14.out
  rw [exSize] at hsz
  refine hsz.mono ?_
  rintro e w15 ⟨rfl, rfl⟩
  clear hsz
  go_wp2
  go_ret
  exact ⟨rfl, HB14.out⟩

end Go.Proofs.Ytgineehniclkeaa
