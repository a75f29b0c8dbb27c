/- The walk of MemLanes: whatever heights, entries and question come in, it answers true; lists that lie in memory. -/
import Derived.Test.YtgineehniclkeaaC2
import Derived.Test.YtgineehniclkeaaP3
import Derived.Test.YtgineehniclkeaaP4
import Derived.Test.YtgineehniclkeaaD1
import Derived.Deep.QuietTactic
import Derived.BigQuiet
namespace Go.Proofs.Ytgineehniclkeaa
open Go.RowKit

theorem ints_of_own {w : World} {base : Nat} {v : Value} {es : List Int} (h : w.ownsRow base 3 1 v es.length (es.map (Value.int .i64))) : ∃ A c, v = .slice A es.length c ∧ Ints w w.heap.size A es := by
  rcases id h.2 with ⟨rfl, h0⟩ | ⟨g, cap, cur, rfl, _, hg, _⟩
  · have he := List.eq_nil_of_length_eq_zero h0
    subst he
    exact ⟨none, 0, rfl, fun hn => absurd rfl hn⟩
  · refine ⟨_, _, rfl, fun _ => ⟨g, 0, rfl, heap_lt hg, fun i hi => ?_⟩⟩
    have := h.cells (g := g) rfl i (.int .i64 es[i]) (by simp [hi])
    rw [addr_add0] at this
    rw [Nat.zero_add]; exact this

set_option maxRecDepth 100000 in
set_option maxHeartbeats 4000000 in
theorem MemLanes_any (A A' : Option Addr) (c c' : Nat) (hs : List Int) (es : List Ent) (key f t : ByteArray) (seq ln : Int) (w : World) (hI : Ints w w.heap.size A hs) (hA : hs = [] → A = none → c = 0)
    (h : Ents w w.heap.size A' es) (hl : es.length ≤ 9223372036854775807) (hl2 : hs.length ≤ 9223372036854775807) :
    Calls Try.prog 5 #[.slice A hs.length c, .slice A' es.length c', .agg #[.string key, .int .i64 seq, .string f, .string t, .int .i64 ln]] w fun e w' => e = .returned (.bool true) ∧ Below w.heap.size w w' := by
  go_enter Try.func5, Try.ntmps5
  go_wp2_with fail
  obtain ⟨w0, hw0⟩ : ∃ w0, w.alloc (.cells #[.string key, .int .i64 seq, .string f, .string t, .int .i64 ln] 41) = w0 := ⟨_, rfl⟩
  have hb0 : Below w.heap.size w w0 := hw0 ▸ (Below.refl _ _).alloc (Nat.le_refl _) _
  have hsz : w0.heap.size = w.heap.size + 1 := by rw [← hw0]; simp
  have hk0 : w0.cell? ⟨w.heap.size, 0, none⟩ = some (.string key) := by rw [← hw0]; simp [World.cell?_alloc_at]
  have hk1 : w0.cell? ⟨w.heap.size, 1, none⟩ = some (.int .i64 seq) := by rw [← hw0]; simp [World.cell?_alloc_at]
  have HI := Lib.hid ((hI.below hb0).more (show w.heap.size ≤ w0.heap.size by omega))
  have HE := Lib.hid ((h.below hb0).more (show w.heap.size ≤ w0.heap.size by omega))
  have HB0 := Lib.hid hb0
  have HK0 := Lib.hid hk0
  have HK1 := Lib.hid hk1
  have Hsz := Lib.hid hsz
  rw [hw0]
  clear hw0 hI h hb0 hk0 hk1 hsz
  refine (lives_any _).mono ?_
  rintro e w1 ⟨rfl, hb1⟩
  have HB1 := Lib.hid hb1
  have hE1 := HE.out.below hb1
  clear hb1
  go_wp2_with fail
  refine (small_any A' c' w0.heap.size es w1 hE1 hl).mono ?_
  rintro e w1' ⟨rfl, rfl⟩
  have HR : Hid (∀ {wz : World}, Below w0.heap.size w0 wz → Below w.heap.size w wz) := Lib.hid fun hz => HB0.out.trans (hz.mono (by have := Hsz.out; omega))
  clear hE1
  cases hsm : smallB es with
  | false =>
    clear hsm
    go_wp2
    go_ret
    exact ⟨rfl, HR.out HB1.out⟩
  | true =>
    obtain ⟨hn60, hsz⟩ := smallB_sizes hsm
    have HS := Lib.hid hsz
    clear hsm hsz
    by_cases h60 : hs.length ≤ 60
    · have h60' : ¬ (60 : Int) < (hs.length : Int) := by omega
      cases hgt : hs.all hgtB with
      | false =>
        have hnb := New_bad A c w0.heap.size hs w1 (HI.out.below HB1.out) (by omega) hgt
        have HN := Lib.hid hnb
        clear hnb hgt
        go_wp2_with fail
        refine HN.out.mono ?_
        rintro e w2 ⟨rfl, rfl⟩
        go_wp2
        go_ret
        exact ⟨rfl, HR.out HB1.out⟩
      | true =>
        have hnb := New_S A c w0.heap.size hs w1 (HI.out.below HB1.out) (by omega) hA hgt
        have HN := Lib.hid hnb
        have Hgt := Lib.hid hgt
        clear hnb hgt
        go_wp2_with fail
        refine HN.out.mono ?_
        rintro e w2 ⟨tb, rfl, htb, hS, hb⟩
        have hb2 : Below w0.heap.size w0 w2 := HB1.out.trans (hb.mono HB1.out.size)
        have HT : Hid (TabS w0.heap.size w2 tb hs (adds hs []) [tb]) := Lib.hid (hS.mono HB1.out.size)
        have HB2 := Lib.hid hb2
        clear hS hb hb2 HN htb h60'
        go_wp2
        go_loopw [9] (fun i wr => ∃ (k : Nat) (S : List Nat), k ≤ es.length ∧ i = .int .i64 k ∧ TabS w0.heap.size wr tb hs (adds hs (es.take k)) S ∧ Below w0.heap.size w0 wr) (fun i _ => es.length - (intOf i).toNat)
        case atStart => exact ⟨0, [tb], Nat.zero_le _, rfl, HT.out, HB2.out⟩
        case round =>
          obtain ⟨k, S, hk, rfl, hT, hb⟩ := hrel
          by_cases hlt : k < es.length
          · obtain ⟨b, o, hA, hB, hc⟩ := (HE.out.below hb) (by intro e; subst e; simp at hlt)
            subst hA
            obtain ⟨c0, c1, c2, c3⟩ := hc k hlt
            have hs1 := HS.out es[k] (List.getElem_mem hlt)
            have hlen := adds_len hs (es.take k)
            rw [List.length_take] at hlen
            have hadd := Add_S w0.heap.size tb hs _ S es[k] wr hT hb.size (by omega) (by omega) Hgt.out (by omega) (by omega)
            have HA := Lib.hid hadd
            have HT1 := Lib.hid hT
            have HB := Lib.hid hb
            clear hadd hT hb hc hs1 hlen
            go_wp2_with fail
            refine HA.out.mono ?_
            rintro e w5 ⟨rfl, S', hS', hoff, hb, hnew⟩
            have HS' := Lib.hid hS'
            have HB' := Lib.hid (HB.out.trans hb)
            clear hS' hoff hb hnew HA c0 c1 c2 c3
            go_wp2
            go_roundw
            case rel =>
              have hsnoc : adds hs (es.take (k + 1)) = addP hs (adds hs (es.take k)) es[k] := by rw [List.take_succ_eq_append_getElem hlt, adds_snoc]
              exact ⟨k + 1, S', by omega, by go_num, by rw [hsnoc]; exact HS'.out, HB'.out⟩
            case measure => simp [intOf]; omega
          · have ek : k = es.length := by omega
            subst ek
            obtain ⟨w4, rfl⟩ : ∃ w4 : World, w4 = wr := ⟨_, rfl⟩
            have hln : (adds hs es).length ≤ 60 := by have := adds_len hs es; omega
            rw [List.take_length] at hT
            obtain ⟨hv, ns, hTb, hpr, -, -, -, -⟩ := hT
            have hnl : ns.length ≤ 60 := by rw [← hpr] at hln; unfold proj at hln; simpa using hln
            have hcs : ∀ n ∈ ns, 1 ≤ n.c := fun n hn => by have := hTb.towers n hn; omega
            have HTb := Lib.hid hTb
            have HB4 := Lib.hid hb
            have HCs := Lib.hid hcs
            clear hTb hb hpr hln hcs
            go_wp2
            go_loopw [10] (fun i wx => ∃ h : Nat, 2 ≤ h ∧ h ≤ 13 ∧ i = .int .i64 h ∧ Below w4.heap.size w4 wx) (fun i _ => 13 - (intOf i).toNat)
            case atStart => exact ⟨2, by omega, by omega, rfl, Below.refl _ _⟩
            case round =>
              obtain ⟨h, h2, h13, rfl, hbx⟩ := hrel
              by_cases hle : h ≤ 12
              · have HBx := Lib.hid hbx
                clear hbx
                go_wp2_with fail
                refine (Lane_any tb hv hs ns (h : Int) wr (HTb.out.below HBx.out) (by omega)).mono ?_
                rintro e w5 ⟨v5, rfl, hown, hb5⟩
                obtain ⟨A5, c5, rfl, hI5⟩ := ints_of_own hown
                have HB5 := Lib.hid (HBx.out.trans (hb5.mono HBx.out.size))
                have HI5 := Lib.hid hI5
                clear hown hb5 hI5 HBx
                go_wp2_with fail
                refine (Lane_any tb hv hs ns ((h : Int) - 1) w5 (HTb.out.below HB5.out) (by omega)).mono ?_
                rintro e w6 ⟨v6, rfl, hown, hb6⟩
                obtain ⟨A6, c6, rfl, hI6⟩ := ints_of_own hown
                have HB6 := Lib.hid (HB5.out.trans (hb6.mono HB5.out.size))
                have HI6 := Lib.hid hI6
                have HI5' := Lib.hid ((HI5.out.below hb6).more hb6.size)
                have hsub := laneOf_sub ns (h := (h : Int)) (by omega) (by omega)
                have hsort := laneOf_sorted ((h : Int) - 1) ns
                have hlu := laneOf_len (h : Int) ns
                have hll := laneOf_len ((h : Int) - 1) ns
                clear hown hb6 hI6 HI5 HB5
                generalize laneOf (h : Int) ns = up at *
                generalize laneOf ((h : Int) - 1) ns = low at *
                have Hsub := Lib.hid hsub
                have Hsort := Lib.hid hsort
                clear hsub hsort
                go_wp2_with fail
                go_loopw [13, 14] (fun kv iv wx => ∃ i k m : Nat, kv = .int .i64 k ∧ iv = .int .i64 i ∧ i ≤ up.length ∧ k ≤ low.length ∧ (up.drop i).Sublist (low.drop k) ∧ wx = w6.drewN m) (fun _ iv _ => up.length - (intOf iv).toNat)
                case atStart => exact ⟨0, 0, 0, rfl, rfl, Nat.zero_le _, Nat.zero_le _, Hsub.out, rfl⟩
                case round =>
                  obtain ⟨i, k, m, rfl, rfl, hi, hk, hs, rfl⟩ := hrel
                  by_cases hlt : i < up.length
                  · obtain ⟨b5, o5, hA5, -, hc5⟩ := HI5'.out (by intro e; subst e; simp at hlt)
                    have hklt := sub_lt hs hlt
                    obtain ⟨b6, o6, hA6, -, hc6⟩ := HI6.out (by intro e; subst e; simp at hklt)
                    subst hA5; subst hA6
                    have hu := hc5 i hlt
                    have HC6 := Lib.hid hc6
                    have HS0 := Lib.hid hs
                    clear hc5 hc6 hs hklt
                    go_wp2_with fail
                    go_loopw [13] (fun kv wx => ∃ k m : Nat, kv = .int .i64 k ∧ k ≤ low.length ∧ (up.drop i).Sublist (low.drop k) ∧ wx = w6.drewN m) (fun kv _ => low.length - (intOf kv).toNat)
                    case atStart => exact ⟨k, m, rfl, hk, HS0.out, rfl⟩
                    case round =>
                      obtain ⟨k, m, rfl, hk2, hs, rfl⟩ := hrel
                      have hklt := sub_lt hs hlt
                      have hk0 : (0 : Int) ≤ (k : Int) := Int.natCast_nonneg _
                      have hk1 : (k : Int) < (low.length : Int) := by omega
                      have hi0 : (0 : Int) ≤ (i : Int) := Int.natCast_nonneg _
                      have hi1 : (i : Int) < (up.length : Int) := by omega
                      have hlw := HC6.out k hklt
                      by_cases hcmp : low[k] < up[i]
                      · have HS1 := Lib.hid (sub_step hs hlt hklt (by omega))
                        clear hs
                        go_wp2_with fail
                        go_quiet (fail)
                        go_wp2_with fail
                        go_roundw
                        case rel => exact ⟨k + 1, m + nq, by go_num, by omega, HS1.out, rfl⟩
                        case measure => simp [intOf]; omega
                      · obtain ⟨heq, hs2⟩ := sub_hit hs Hsort.out hlt hklt (by omega)
                        have HS2 := Lib.hid hs2
                        have hkne : ((k : Int) == (low.length : Int)) = false := by simp; omega
                        clear hs hs2
                        go_wp2_with fail
                        go_quiet (fail)
                        obtain ⟨nq_1, hq1⟩ : ∃ n : Nat, n = nq := ⟨_, rfl⟩
                        rw [← hq1]
                        clear hq1
                        go_wp2_with fail
                        go_quiet (fail)
                        obtain ⟨nq_2, hq2⟩ : ∃ n : Nat, n = nq := ⟨_, rfl⟩
                        rw [← hq2]
                        clear hq2
                        go_wp2_with fail
                        go_roundw
                        case rel => exact ⟨i + 1, k, m + nq_1 + nq_2, rfl, by go_num, by omega, hk2, HS2.out, rfl⟩
                        case measure => simp [intOf]; omega
                  · go_wp2_with fail
                    go_roundw
                    case rel => exact ⟨h + 1, by omega, by omega, by go_num, below_drewN HB6.out _⟩
                    case measure => simp [intOf]; omega
              · have eh : h = 13 := by omega
                subst eh
                have hbx2 := HB4.out.trans (hbx.mono HB4.out.size)
                have hsz := Hsz.out
                have HR13 := Lib.hid (HR.out hbx2)
                have HBx := Lib.hid hbx
                have hkx : wr.cell? ⟨w.heap.size, 0, none⟩ = some (.string key) := (hbx2.cell (by show w.heap.size < _; omega)).trans HK0.out
                have hky : wr.cell? ⟨w.heap.size, 1, none⟩ = some (.int .i64 seq) := (hbx2.cell (by show w.heap.size < _; omega)).trans HK1.out
                clear hbx hbx2 hsz
                go_wp2_with fail
                refine (Cost_any tb hv hs ns key seq wr (HTb.out.below HBx.out) (by omega)).mono ?_
                rintro e w5 ⟨rfl, hb5⟩
                have hcl := cost_le ⟨key, ByteArray.empty, seq, false⟩ 12 ns
                generalize searchFrom ⟨key, ByteArray.empty, seq, false⟩ 12 ns = cst at *
                have HB5 := Lib.hid (HBx.out.trans (hb5.mono HBx.out.size))
                have HR5 := Lib.hid (HR13.out.trans (hb5.mono HR13.out.size))
                clear hb5 HBx hkx hky HR13
                go_wp2_with fail
                refine (Lane_any tb hv hs ns 1 w5 (HTb.out.below HB5.out) (by omega)).mono ?_
                rintro e w6 ⟨v6, rfl, hown, hb6⟩
                obtain ⟨A6, c6, rfl, -⟩ := ints_of_own hown
                have hl1 : (laneOf 1 ns).length = ns.length := by unfold laneOf; rw [if_pos (by omega)]; exact laneL_one ns 0 HCs.out
                rw [hl1]
                have HB6 := Lib.hid (HB5.out.trans (hb6.mono HB5.out.size))
                have HR6 := Lib.hid (HR5.out.trans (hb6.mono HR5.out.size))
                clear hb6 hown HB5 HR5
                go_wp2_with fail
                refine (Len_any tb hv hs ns w6 (HTb.out.below HB6.out)).mono ?_
                rintro e w7 ⟨rfl, rfl⟩
                go_wp2_with fail
                refine (Len_any tb hv hs ns w6 (HTb.out.below HB6.out)).mono ?_
                rintro e w7 ⟨rfl, rfl⟩
                go_wp2_with fail
                go_ret
                exact ⟨ret_bool (by apply decide_eq_true; omega), HR6.out⟩
    · have h60' : (60 : Int) < (hs.length : Int) := by omega
      go_wp2
      go_ret
      exact ⟨rfl, HR.out HB1.out⟩

end Go.Proofs.Ytgineehniclkeaa
