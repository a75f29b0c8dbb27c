/- The walk of MemNil: whatever entry and question come in, it answers true; no condition. -/
import Derived.Test.YtgineehniclkeaaE3
import Derived.Test.YtgineehniclkeaaC2
namespace Go.Proofs.Ytgineehniclkeaa
open Go.RowKit

theorem zero_ne (w : World) : (binOp .neq 32 (.agg #[.string ByteArray.empty, .string ByteArray.empty, .int .i64 0, .bool false]) (.agg #[.string ByteArray.empty, .string ByteArray.empty, .int .i64 0, .bool false])).run Try.prog w = .ok (.bool false) w := by
  have := same_ne Ent.zero Ent.zero w
  rw [decide_eq_true (rfl : Ent.zero = Ent.zero)] at this
  exact this
theorem Get_nil' (p : Option Addr) (key : ByteArray) (seq : Int) (w : World) (h : NilT w p) : Calls Try.prog 17 #[.pointer p, .string key, .int .i64 seq] w fun e w' =>
    e = .returned (.tuple #[.agg #[.string ByteArray.empty, .string ByteArray.empty, .int .i64 0, .bool false], .bool false]) ∧ Below w.heap.size w w' := Get_nil p key seq w h

set_option maxRecDepth 100000 in
set_option maxHeartbeats 4000000 in
theorem MemNil_any (x : Ent) (key f t : ByteArray) (seq ln : Int) (w : World) :
    Calls Try.prog 8 #[.agg #[.string x.k, .string x.v, .int .i64 x.s, .bool x.d], .agg #[.string key, .int .i64 seq, .string f, .string t, .int .i64 ln]] w fun e w' => e = .returned (.bool true) ∧ Below w.heap.size w w' := by
  have hzn := zero_ne
  go_enter Try.func8, Try.ntmps8
  go_wp2_with fail
  obtain ⟨W0, hW0⟩ : ∃ W0, (((w.alloc (.cells #[.string x.k, .string x.v, .int .i64 x.s, .bool x.d] 32)).alloc (.cells #[.string key, .int .i64 seq, .string f, .string t, .int .i64 ln] 41)).alloc (.cells #[.string ⟨#[]⟩, .string ⟨#[]⟩, .int .i64 0, .bool false, .int .i64 0, .pointer none, .pointer none, .pointer none, .pointer none, .pointer none, .pointer none, .pointer none, .pointer none, .pointer none, .pointer none, .pointer none, .pointer none, .slice none 0 0, .int .i64 0, .int .i64 0, .bool false] 69)).alloc (.cells #[.pointer none, .pointer (some ⟨w.heap.size + 1 + 1, 0, none⟩)] 25) = W0 := ⟨_, rfl⟩
  have hB0 : Below w.heap.size w W0 := hW0 ▸ ((((Below.refl _ w).alloc (Nat.le_refl _) _).alloc (by simp) _).alloc (by simp; omega) _).alloc (by simp; omega) _
  have hsz : W0.heap.size = w.heap.size + 4 := by rw [← hW0]; simp
  have x0 : W0.cell? ⟨w.heap.size, 0, none⟩ = some (.string x.k) := by rw [← hW0]; rw [World.cell?_alloc_lt _ _ _ (by simp; try omega)]; rw [World.cell?_alloc_lt _ _ _ (by simp; try omega)]; rw [World.cell?_alloc_lt _ _ _ (by simp; try omega)]; simp [World.cell?_alloc_at]
  have x1 : W0.cell? ⟨w.heap.size, 1, none⟩ = some (.string x.v) := by rw [← hW0]; rw [World.cell?_alloc_lt _ _ _ (by simp; try omega)]; rw [World.cell?_alloc_lt _ _ _ (by simp; try omega)]; rw [World.cell?_alloc_lt _ _ _ (by simp; try omega)]; simp [World.cell?_alloc_at]
  have x2 : W0.cell? ⟨w.heap.size, 2, none⟩ = some (.int .i64 x.s) := by rw [← hW0]; rw [World.cell?_alloc_lt _ _ _ (by simp; try omega)]; rw [World.cell?_alloc_lt _ _ _ (by simp; try omega)]; rw [World.cell?_alloc_lt _ _ _ (by simp; try omega)]; simp [World.cell?_alloc_at]
  have x3 : W0.cell? ⟨w.heap.size, 3, none⟩ = some (.bool x.d) := by rw [← hW0]; rw [World.cell?_alloc_lt _ _ _ (by simp; try omega)]; rw [World.cell?_alloc_lt _ _ _ (by simp; try omega)]; rw [World.cell?_alloc_lt _ _ _ (by simp; try omega)]; simp [World.cell?_alloc_at]
  have q0 : W0.cell? ⟨w.heap.size + 1, 0, none⟩ = some (.string key) := by rw [← hW0]; rw [World.cell?_alloc_lt _ _ _ (by simp; try omega)]; rw [World.cell?_alloc_lt _ _ _ (by simp; try omega)]; simp [World.cell?_alloc_at]
  have q1 : W0.cell? ⟨w.heap.size + 1, 1, none⟩ = some (.int .i64 seq) := by rw [← hW0]; rw [World.cell?_alloc_lt _ _ _ (by simp; try omega)]; rw [World.cell?_alloc_lt _ _ _ (by simp; try omega)]; simp [World.cell?_alloc_at]
  have q2 : W0.cell? ⟨w.heap.size + 1, 2, none⟩ = some (.string f) := by rw [← hW0]; rw [World.cell?_alloc_lt _ _ _ (by simp; try omega)]; rw [World.cell?_alloc_lt _ _ _ (by simp; try omega)]; simp [World.cell?_alloc_at]
  have q3 : W0.cell? ⟨w.heap.size + 1, 3, none⟩ = some (.string t) := by rw [← hW0]; rw [World.cell?_alloc_lt _ _ _ (by simp; try omega)]; rw [World.cell?_alloc_lt _ _ _ (by simp; try omega)]; simp [World.cell?_alloc_at]
  have q4 : W0.cell? ⟨w.heap.size + 1, 4, none⟩ = some (.int .i64 ln) := by rw [← hW0]; rw [World.cell?_alloc_lt _ _ _ (by simp; try omega)]; rw [World.cell?_alloc_lt _ _ _ (by simp; try omega)]; simp [World.cell?_alloc_at]
  have t20 : W0.cell? ⟨w.heap.size + 2, 20, none⟩ = some (.bool false) := by rw [← hW0]; rw [World.cell?_alloc_lt _ _ _ (by simp; try omega)]; simp [World.cell?_alloc_at]
  have p0 : W0.cell? ⟨w.heap.size + 3, 0, none⟩ = some (.pointer none) := by rw [← hW0]; simp [World.cell?_alloc_at]
  have p1 : W0.cell? ⟨w.heap.size + 3, 1, none⟩ = some (.pointer (some ⟨w.heap.size + 1 + 1, 0, none⟩)) := by rw [← hW0]; simp [World.cell?_alloc_at]
  have HF : Hid (∀ wz, Below W0.heap.size W0 wz → Below w.heap.size w wz ∧ wz.cell? ⟨w.heap.size, 0, none⟩ = some (.string x.k) ∧ wz.cell? ⟨w.heap.size, 1, none⟩ = some (.string x.v) ∧ wz.cell? ⟨w.heap.size, 2, none⟩ = some (.int .i64 x.s) ∧ wz.cell? ⟨w.heap.size, 3, none⟩ = some (.bool x.d) ∧ wz.cell? ⟨w.heap.size + 1, 0, none⟩ = some (.string key) ∧ wz.cell? ⟨w.heap.size + 1, 1, none⟩ = some (.int .i64 seq) ∧ wz.cell? ⟨w.heap.size + 1, 2, none⟩ = some (.string f) ∧ wz.cell? ⟨w.heap.size + 1, 3, none⟩ = some (.string t) ∧ wz.cell? ⟨w.heap.size + 1, 4, none⟩ = some (.int .i64 ln)) :=
    Lib.hid fun wz hz => ⟨hB0.trans (hz.mono hB0.size), (hz.cell (by show w.heap.size < W0.heap.size; omega)).trans x0, (hz.cell (by show w.heap.size < W0.heap.size; omega)).trans x1, (hz.cell (by show w.heap.size < W0.heap.size; omega)).trans x2, (hz.cell (by show w.heap.size < W0.heap.size; omega)).trans x3, (hz.cell (by show w.heap.size + 1 < W0.heap.size; omega)).trans q0, (hz.cell (by show w.heap.size + 1 < W0.heap.size; omega)).trans q1, (hz.cell (by show w.heap.size + 1 < W0.heap.size; omega)).trans q2, (hz.cell (by show w.heap.size + 1 < W0.heap.size; omega)).trans q3, (hz.cell (by show w.heap.size + 1 < W0.heap.size; omega)).trans q4⟩
  have HP : Hid (∀ (k : Nat) wz, k < 2 → Below W0.heap.size W0 wz → ∃ p, wz.cell? ⟨w.heap.size + 1 + 1 + 1, k, none⟩ = some (.pointer p) ∧ NilT wz p) :=
    Lib.hid fun k wz hk hz => by
      match k, hk with
      | 0, _ => exact ⟨none, (hz.cell (by show w.heap.size + 3 < W0.heap.size; omega)).trans p0, .inl rfl⟩
      | 1, _ => exact ⟨_, (hz.cell (by show w.heap.size + 3 < W0.heap.size; omega)).trans p1, .inr ⟨w.heap.size + 1 + 1, rfl, (hz.cell (by show w.heap.size + 2 < W0.heap.size; omega)).trans t20⟩⟩
  have Hsz := Lib.hid hsz
  rw [hW0]
  clear hW0 hB0 hsz x0 x1 x2 x3 q0 q1 q2 q3 q4 t20 p0 p1
  go_loopw [6] (fun iv wx => ∃ k : Nat, k ≤ 2 ∧ iv = .int .i64 k ∧ Below W0.heap.size W0 wx) (fun iv _ => 2 - (intOf iv).toNat)
  case atStart => exact ⟨0, by omega, rfl, Below.refl _ _⟩
  case round =>
    obtain ⟨k, hk, rfl, hb⟩ := hrel
    have Hb := Lib.hid hb
    by_cases hlt : k < 2
    · obtain ⟨p, hp, hn⟩ := HP.out k wr hlt hb
      obtain ⟨-, x0, x1, x2, x3, q0, q1, q2, q3, q4⟩ := HF.out wr hb
      have Hn := Lib.hid hn
      clear hn hb
      go_wp2_with fail
      refine (Get_nil' p key seq wr Hn.out).mono ?_
      rintro e w1 ⟨rfl, hb1⟩
      have hB1 := Hb.out.trans (hb1.mono Hb.out.size)
      obtain ⟨w2, hw2⟩ : ∃ w2, w1.alloc (.cells #[.string ByteArray.empty, .string ByteArray.empty, .int .i64 0, .bool false] 32) = w2 := ⟨_, rfl⟩
      have hb2 : Below w1.heap.size w1 w2 := hw2 ▸ (Below.refl _ _).alloc (Nat.le_refl _) _
      have hB2 := hB1.trans (hb2.mono hB1.size)
      have hsz2 : w2.heap.size = w1.heap.size + 1 := by rw [← hw2]; simp
      have z0 : w2.cell? ⟨w1.heap.size, 0, none⟩ = some (.string ByteArray.empty) := by rw [← hw2]; simp [World.cell?_alloc_at]
      have z1 : w2.cell? ⟨w1.heap.size, 1, none⟩ = some (.string ByteArray.empty) := by rw [← hw2]; simp [World.cell?_alloc_at]
      have z2 : w2.cell? ⟨w1.heap.size, 2, none⟩ = some (.int .i64 0) := by rw [← hw2]; simp [World.cell?_alloc_at]
      have z3 : w2.cell? ⟨w1.heap.size, 3, none⟩ = some (.bool false) := by rw [← hw2]; simp [World.cell?_alloc_at]
      have hn2 := (Hn.out.below hb1).below hb2
      have HA : Hid (Calls Try.prog 12 #[.pointer p, .agg #[.string x.k, .string x.v, .int .i64 x.s, .bool x.d]] w2 fun en w3 => en = .returned (.int .i64 1) ∧ Below w2.heap.size w2 w3 ∧ Below W0.heap.size W0 w3 ∧ NilT w3 p ∧
        w3.cell? ⟨w1.heap.size, 0, none⟩ = some (.string ByteArray.empty) ∧ w3.cell? ⟨w1.heap.size, 1, none⟩ = some (.string ByteArray.empty) ∧ w3.cell? ⟨w1.heap.size, 2, none⟩ = some (.int .i64 0) ∧ w3.cell? ⟨w1.heap.size, 3, none⟩ = some (.bool false)) := Lib.hid ((Add_nil p x w2 hn2).mono fun en w3 ⟨h1, h3⟩ => ⟨h1, h3, hB2.trans (h3.mono hB2.size), hn2.below h3, (h3.cell (by show w1.heap.size < w2.heap.size; omega)).trans z0, (h3.cell (by show w1.heap.size < w2.heap.size; omega)).trans z1, (h3.cell (by show w1.heap.size < w2.heap.size; omega)).trans z2, (h3.cell (by show w1.heap.size < w2.heap.size; omega)).trans z3⟩)
      clear x0 x1 x2 x3 q0 q1 q2 q3 q4 hp z0 z1 z2 z3 hn2 hb1 hb2 hsz2
      obtain ⟨-, x0, x1, x2, x3, q0, q1, q2, q3, q4⟩ := HF.out w1 hB1
      have hl0 : w.heap.size < w1.heap.size := by have := (HF.out W0 (Below.refl _ _)).1.size; have h3 := hB1.size; have h4 := Hsz.out; omega
      have hl1 : w.heap.size + 1 < w1.heap.size := by have := (HF.out W0 (Below.refl _ _)).1.size; have h3 := hB1.size; have h4 := Hsz.out; omega
      have HB2 := Lib.hid hB2
      have HW2 := Lib.hid hw2
      clear hB1 hB2 hw2
      go_wp2_with fail
      rw [HW2.out]
      refine HA.out.mono ?_
      rintro en w3 ⟨rfl, -, hB3, hn3, z0, z1, z2, z3⟩
      clear x0 x1 x2 x3 q0 q1 q2 q3 q4 hl0 hl1
      obtain ⟨-, x0, x1, x2, x3, q0, q1, q2, q3, q4⟩ := HF.out w3 hB3
      have HB3 := Lib.hid hB3
      have Hn3 := Lib.hid hn3
      clear hB3 hn3
      go_wp2_with fail
      refine (Scan_nil p f t seq w3 Hn3.out).mono ?_
      rintro e w4 ⟨rfl, hb4⟩
      have Hn4 := Lib.hid (Hn3.out.below hb4)
      have hB4 := HB3.out.trans (hb4.mono HB3.out.size)
      clear x0 x1 x2 x3 q0 q1 q2 q3 q4 z0 z1 z2 z3 hb4 HB3 Hn3 hzn
      obtain ⟨-, x0, x1, x2, x3, q0, q1, q2, q3, q4⟩ := HF.out w4 hB4
      have HB4 := Lib.hid hB4
      clear hB4
      go_wp2_with fail
      refine (Len_nil p w4 Hn4.out).mono ?_
      rintro e w' ⟨rfl, rfl⟩
      go_wp2_with fail
      refine (Size_nil p w4 Hn4.out).mono ?_
      rintro e w' ⟨rfl, rfl⟩
      go_wp2_with fail
      refine (Lane_nil p ln w4 Hn4.out).mono ?_
      rintro e w' ⟨rfl, rfl⟩
      go_wp2_with fail
      refine (Cost_nil p key seq w4 Hn4.out).mono ?_
      rintro e w' ⟨rfl, rfl⟩
      go_wp2_with fail
      refine (all_nil p 2 w4 Hn4.out).mono ?_
      rintro e w5 ⟨rfl, hb5⟩
      have HB5 := Lib.hid (HB4.out.trans (hb5.mono HB4.out.size))
      clear x0 x1 x2 x3 q0 q1 q2 q3 q4 hb5 HB4 Hn4
      go_wp2_with fail
      go_roundw
      case rel => exact ⟨k + 1, by omega, by go_num, HB5.out⟩
      case measure => simp [intOf]; omega
    · have hB := (HF.out wr hb).1
      have HB := Lib.hid hB
      clear hB hb
      go_wp2_with fail
      refine (lives_any _).mono ?_
      rintro e w1 ⟨rfl, hb1⟩
      have HB1 := Lib.hid (HB.out.trans (hb1.mono HB.out.size))
      clear hb1
      go_wp2
      go_ret
      exact ⟨rfl, HB1.out⟩

end Go.Proofs.Ytgineehniclkeaa
