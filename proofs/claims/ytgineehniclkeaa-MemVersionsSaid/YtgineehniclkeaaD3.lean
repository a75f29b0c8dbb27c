/- The walk of MemVersions: whatever entries and question come in, it answers true; lists that lie in memory. -/
import Derived.Test.YtgineehniclkeaaB3
import Derived.Test.YtgineehniclkeaaD2
import Derived.Test.YtgineehniclkeaaQ2
namespace Go.Proofs.Ytgineehniclkeaa
open Go.RowKit

theorem ver_at {high : List Ent} {x : Ent} {k : Nat} (hp : high.Pairwise fun a b => lts a.k b.k = true) (hex : ∃ y ∈ high, y.k = x.k ∧ x.s ≤ y.s) (hlt : ∀ j (hj : j < high.length), j < k → lts high[j].k x.k = true) :
    k < high.length ∧ ∀ (hk : k < high.length), lts high[k].k x.k = false → high[k].k = x.k ∧ x.s ≤ high[k].s := by
  obtain ⟨y, hy, e1, e2⟩ := hex
  obtain ⟨j, hj, rfl⟩ := List.getElem_of_mem hy
  have hkj : k ≤ j := by
    apply Classical.byContradiction
    intro h
    have := hlt j hj (by omega)
    rw [e1, lts_irrefl] at this; cases this
  refine ⟨by omega, fun hk hn => ?_⟩
  rcases Nat.lt_or_eq_of_le hkj with h | h
  · have := List.pairwise_iff_getElem.1 hp k j hk hj h
    rw [e1, hn] at this; cases this
  · subst h; exact ⟨e1, e2⟩

def HighAt (w6 : World) (low : List Ent) (seq : Int) (u : Value) (wx : World) : Prop :=
  ∃ high A c, u = .slice A (high : List Ent).length c ∧ Ents wx wx.heap.size A high ∧ Below w6.heap.size w6 wx ∧ (∀ x ∈ low, x.s ≤ seq ∧ ∃ y ∈ high, y.k = x.k ∧ x.s ≤ y.s) ∧ (high.Pairwise fun a b => lts a.k b.k = true) ∧ high.length ≤ 60

def VerIs (low high : List Ent) (i k : Nat) : Prop := k ≤ high.length ∧ ∀ j (_hj : j < high.length), j < k → ∀ (_hi : i < low.length), lts high[j].k low[i].k = true
theorem VerIs.start (low high : List Ent) : VerIs low high 0 0 := ⟨Nat.zero_le _, fun j _ h => absurd h (Nat.not_lt_zero j)⟩
theorem VerIs.next {low high : List Ent} {i k : Nat} (hp : low.Pairwise fun a b => lts a.k b.k = true) (h : VerIs low high i k) : VerIs low high (i + 1) k :=
  ⟨h.1, fun j hj hjk hi => lts_trans (h.2 j hj hjk (by omega)) (List.pairwise_iff_getElem.1 hp i (i + 1) (by omega) hi (by omega))⟩
theorem VerIs.step {low high : List Ent} {i k : Nat} (h : VerIs low high i k) (hi : i < low.length) (hk : k < high.length) (hl : lts high[k].k low[i].k = true) : VerIs low high i (k + 1) := by
  refine ⟨hk, fun j hj hjk hi' => ?_⟩
  rcases Nat.lt_or_ge j k with hh | hh
  · exact h.2 j hj hh hi'
  · obtain rfl : j = k := by omega
    exact hl

theorem TabS.srt {B : Nat} {w : World} {tb : Nat} {hs : List Int} {ps : List (Ent × Nat)} {S : List Nat} (h : TabS B w tb hs ps S) : Srt (entsP ps) ∧ ∀ e ∈ entsP ps, 1 ≤ e.s := by
  obtain ⟨hv, ns, hT, rfl, _, _, _, h5⟩ := h
  have e1 : entsP (proj ns) = ns.map (·.e) := by unfold entsP proj; rw [List.map_map]; rfl
  rw [e1]
  refine ⟨by unfold Srt; rw [List.pairwise_map]; exact hT.sorted, fun e he => ?_⟩
  obtain ⟨n, hn, rfl⟩ := List.mem_map.1 he
  have := h5 n hn
  simp only [okB, Bool.and_eq_true, decide_eq_true_eq] at this
  omega

theorem Scan_S (B tb : Nat) (hs : List Int) (ps : List (Ent × Nat)) (S : List Nat) (f t : ByteArray) (seq : Int) (w : World) (h : TabS B w tb hs ps S) (hlen : ps.length ≤ 100000) :
    Calls Try.prog 18 #[.pointer (some ⟨tb, 0, none⟩), .agg #[.string f, .string t], .int .i64 seq] w fun e w' => ∃ A c, e = .returned (.slice A (scanL f t seq (entsP ps)).length c) ∧ Ents w' w'.heap.size A (scanL f t seq (entsP ps)) ∧ Below w.heap.size w w' := by
  obtain ⟨hv, ns, hT, rfl, _, _, _, _⟩ := id h
  have hlen' : ns.length ≤ 1000000 := by unfold proj at hlen; rw [List.length_map] at hlen; omega
  have e1 : entsP (proj ns) = ns.map (·.e) := by unfold entsP proj; rw [List.map_map]; rfl
  rw [e1]
  refine (Scan_any tb hv hs ns f t seq w hT hlen').mono ?_
  rintro e w' ⟨v, rfl, hown, hb⟩
  obtain ⟨A, c, rfl, he⟩ := ents_of_own hown
  exact ⟨A, c, rfl, he, hb⟩

set_option maxRecDepth 100000 in
set_option maxHeartbeats 4000000 in
theorem MemVersions_any (A : Option Addr) (c : Nat) (es : List Ent) (key f t : ByteArray) (seq ln more : Int) (w : World)
    (h : Ents w w.heap.size A es) (hl : es.length ≤ 9223372036854775807) :
    Calls Try.prog 4 #[.slice A es.length c, .agg #[.string key, .int .i64 seq, .string f, .string t, .int .i64 ln], .int .i64 more] w fun e w' => e = .returned (.bool true) ∧ Below w.heap.size w w' := by
  go_enter Try.func4, Try.ntmps4
  go_wp2_with fail
  obtain ⟨w0, hw0⟩ : ∃ w0, w.alloc (.cells #[.string key, .int .i64 seq, .string f, .string t, .int .i64 ln] 41) = w0 := ⟨_, rfl⟩
  have hb0 : Below w.heap.size w w0 := hw0 ▸ (Below.refl _ _).alloc (Nat.le_refl _) _
  have hsz : w0.heap.size = w.heap.size + 1 := by rw [← hw0]; simp
  have hask : ∀ wz, Below w0.heap.size w0 wz → (Below w.heap.size w wz ∧ wz.cell? ⟨w.heap.size, 0, none⟩ = some (.string key) ∧ wz.cell? ⟨w.heap.size, 1, none⟩ = some (.int .i64 seq) ∧ wz.cell? ⟨w.heap.size, 2, none⟩ = some (.string f) ∧ wz.cell? ⟨w.heap.size, 3, none⟩ = some (.string t)) := by
    intro wz hz
    have hlt : w.heap.size < w0.heap.size := by omega
    refine ⟨hb0.trans (hz.mono (by omega)), ?_, ?_, ?_, ?_⟩
    · exact (hz.cell (by exact hlt)).trans (by rw [← hw0]; simp [World.cell?_alloc_at])
    · exact (hz.cell (by exact hlt)).trans (by rw [← hw0]; simp [World.cell?_alloc_at])
    · exact (hz.cell (by exact hlt)).trans (by rw [← hw0]; simp [World.cell?_alloc_at])
    · exact (hz.cell (by exact hlt)).trans (by rw [← hw0]; simp [World.cell?_alloc_at])
  have HE := Lib.hid ((h.below hb0).more (show w.heap.size ≤ w0.heap.size by omega))
  have HASK := Lib.hid hask
  have Hsz := Lib.hid hsz
  rw [hw0]
  clear hw0 h hb0 hask hsz
  refine (lives_any _).mono ?_
  rintro e w1 ⟨rfl, hb1⟩
  have HB1 := Lib.hid hb1
  have hE1 := HE.out.below hb1
  clear hb1
  go_wp2_with fail
  refine (small_any A c w0.heap.size es w1 hE1 hl).mono ?_
  rintro e w1' ⟨rfl, rfl⟩
  clear hE1
  cases hsm : smallB es with
  | false =>
    clear hsm
    go_wp2
    go_ret
    exact ⟨rfl, (HASK.out _ HB1.out).1⟩
  | true =>
    obtain ⟨hn60, hsz⟩ := smallB_sizes hsm
    have HSZ := Lib.hid hsz
    clear hsm hsz
    go_wp2_with fail
    refine (New_S none 0 0 [] w1 Ints.nil (by decide) (fun _ _ => rfl) (by decide)).mono ?_
    rintro e w2 ⟨tb, rfl, htb, hS, hb⟩
    have HT : Hid (TabS w0.heap.size w2 tb [] (adds [] []) [tb]) := Lib.hid (hS.mono HB1.out.size)
    have HB2 := Lib.hid (HB1.out.trans (hb.mono HB1.out.size))
    clear hS hb htb
    go_wp2_with fail
    go_loopw [9, 10] (fun bv iv wx => ∃ (k : Nat) (S : List Nat), k ≤ es.length ∧ iv = .int .i64 k ∧ bv = .int .i64 (bst key seq (entsP (adds [] (es.take k)))) ∧ TabS w0.heap.size wx tb [] (adds [] (es.take k)) S ∧ Below w0.heap.size w0 wx) (fun _ iv _ => es.length - (intOf iv).toNat)
    case atStart => exact ⟨0, [tb], Nat.zero_le _, rfl, rfl, HT.out, HB2.out⟩
    case round =>
      obtain ⟨k, S, hk, rfl, rfl, hT, hb⟩ := hrel
      by_cases hlt : k < es.length
      · obtain ⟨b, o, hA, hB, hc⟩ := (HE.out) (by intro e; subst e; simp at hlt)
        subst hA
        have hc0 := hc k hlt
        have hs1 := HSZ.out es[k] (List.getElem_mem hlt)
        have hlen := adds_len [] (es.take k)
        rw [List.length_take] at hlen
        have hadd := Add_S w0.heap.size tb [] _ S es[k] wr.drew (hT.below (Below.refl _ _).drew) hb.size (by omega) (by decide) (by decide) (by omega) (by omega)
        have hent := entsP_add [] (adds [] (es.take k)) es[k]
        have hbi := bst_ins key seq (entsP (adds [] (es.take k))) es[k]
        have hsnoc : adds [] (es.take (k + 1)) = addP [] (adds [] (es.take k)) es[k] := by rw [List.take_succ_eq_append_getElem hlt, adds_snoc]
        rw [← hsnoc] at hent hadd
        have hval := addR_vals (adds [] (es.take k)) es[k]
        obtain ⟨bb, hbb⟩ : ∃ bb, bst key seq (entsP (adds [] (es.take k))) = bb := ⟨_, rfl⟩
        rw [hbb] at hbi
        obtain ⟨rr, hrr⟩ : ∃ rr, addR (adds [] (es.take k)) es[k] = rr := ⟨_, rfl⟩
        rw [hrr] at hadd hent hval
        obtain ⟨e, he⟩ : ∃ e, es[k] = e := ⟨_, rfl⟩
        rw [he] at hadd hent hbi hc0
        have HNew : Hid (bst key seq (entsP (adds [] (es.take (k + 1)))) = if rr = 0 then (if hitB key seq e then max bb e.s else bb) else bb) := Lib.hid (by
          rw [hent]
          split
          · exact hbi
          · exact hbb)
        have hS : ∀ wz, Below w0.heap.size w0 wz → (Below w0.heap.size w0 wz ∧ wz.cell? ⟨b, o + k * 4, none⟩ = some (.string e.k) ∧ wz.cell? ⟨b, o + k * 4 + 1, none⟩ = some (.string e.v) ∧
              wz.cell? ⟨b, o + k * 4 + 2, none⟩ = some (.int .i64 e.s) ∧ wz.cell? ⟨b, o + k * 4 + 3, none⟩ = some (.bool e.d) ∧
              wz.cell? ⟨w.heap.size, 0, none⟩ = some (.string key) ∧ wz.cell? ⟨w.heap.size, 1, none⟩ = some (.int .i64 seq)) := fun wz hz =>
          ⟨hz, (hz.cell hB).trans hc0.1, (hz.cell hB).trans hc0.2.1, (hz.cell hB).trans hc0.2.2.1, (hz.cell hB).trans hc0.2.2.2, (HASK.out wz hz).2.1, (HASK.out wz hz).2.2.1⟩
        have hS0 := hS wr hb
        obtain ⟨-, c0, c1, c2, c3, q0, q1⟩ := hS0
        have HA : Hid (Calls Try.prog 12 #[.pointer (some ⟨tb, 0, none⟩), .agg #[.string e.k, .string e.v, .int .i64 e.s, .bool e.d]] wr.drew fun en w' => en = .returned (.int .i64 rr) ∧ Below w0.heap.size w0 w' ∧ Hid (∃ S', TabS w0.heap.size w' tb [] (adds [] (es.take (k + 1))) S')) :=
          Lib.hid (hadd.mono fun en w' ⟨h1, S', h2, _, h3, _⟩ => ⟨h1, hb.drew.trans h3, Lib.hid ⟨S', h2⟩⟩)
        have HS := Lib.hid hS
        have hbd : Below w0.heap.size w0 wr.drew := hb.drew
        have b0 : (0 : Int) ≤ (k : Int) := Int.natCast_nonneg _
        have b1 : (k : Int) < (es.length : Int) := by omega
        rw [hbb]
        clear hadd hent hbi hsnoc hbb hrr he hS hc0 hs1 hlen hT hb
        have HC := Lib.hid hval
        clear hval
        go_wp2_with fail
        refine wp_region_noPanic ?_
        refine wp_region_any (by kernel_rfl) ?_
        change wpAny _ _ _ _ _ _ _ (World.drew _)
        refine wpAny_take (i := 0) (v := ?_) rfl (by kernel_rfl) (by kernel_rfl) (by kernel_rfl) (fun _ _ _ h => h) (Or.inl ⟨by rfl, ?_⟩) ?_
        rotate_left
        · intro wz
          go_simp
          try with_reducible rfl
        simp only [Act.put, List.setIfInBounds_toArray]
        refine wpAny_take (i := 1) (v := ?_) rfl (by kernel_rfl) (by kernel_rfl) (by kernel_rfl) (fun _ _ _ h => h) (Or.inl ⟨by rfl, ?_⟩) ?_
        rotate_left
        · intro wz
          go_simp
          try with_reducible rfl
        simp only [Act.put, List.setIfInBounds_toArray]
        refine wpAny_take (i := 2) (v := ?_) rfl (by kernel_rfl) (by kernel_rfl) (by kernel_rfl) (fun _ _ _ h => h) (Or.inl ⟨by rfl, ?_⟩) ?_
        rotate_left
        · intro wz
          go_simp
          try with_reducible rfl
        simp only [Act.put, List.setIfInBounds_toArray]
        refine wpAny_take (i := 3) (v := ?_) rfl (by kernel_rfl) (by kernel_rfl) (by kernel_rfl) (fun _ _ _ h => h) (Or.inl ⟨by rfl, ?_⟩) ?_
        rotate_left
        · intro wz
          go_simp
          try with_reducible rfl
        simp only [Act.put, List.setIfInBounds_toArray]
        refine wpAny_ready (rs := [4]) (by kernel_rfl) (by simp) (AllReady.cons rfl (fun K hK => ?_) AllReady.nil)
        go_simp
        skip
        refine hK _ _ ?_
        clear hK K
        refine wpAny_ready (rs := [5]) (by kernel_rfl) (by simp) (AllReady.cons rfl (fun K hK => ?_) AllReady.nil)
        go_simp
        go_wp2_with (go_at_call 12; refine HA.out.mono ?_; rintro ee w' ⟨rfl, hbb, HS'⟩)
        have z0 : ∀ z : After w', z.w.cell? ⟨b, o + k * 4, none⟩ = some (.string e.k) := fun z => (HS.out z.w (hbb.trans (z.b.mono hbb.size))).2.1
        have z2 : ∀ z : After w', z.w.cell? ⟨b, o + k * 4 + 2, none⟩ = some (.int .i64 e.s) := fun z => (HS.out z.w (hbb.trans (z.b.mono hbb.size))).2.2.2.1
        have z4 : ∀ z : After w', z.w.cell? ⟨w.heap.size, 0, none⟩ = some (.string key) := fun z => (HS.out z.w (hbb.trans (z.b.mono hbb.size))).2.2.2.2.2.1
        have z5 : ∀ z : After w', z.w.cell? ⟨w.heap.size, 1, none⟩ = some (.int .i64 seq) := fun z => (HS.out z.w (hbb.trans (z.b.mono hbb.size))).2.2.2.2.2.2
        clear c0 c1 c2 c3 q0 q1 hbd HA
        have hval := HC.out
        clear HC
        rcases hval with rfl | rfl | rfl
        · by_cases hkk : e.k = key
          · by_cases hss : e.s ≤ seq
            · have hh : hitB key seq e = true := by simp [hitB, hkk, hss]
              have HN : Hid (bst key seq (entsP (adds [] (es.take (k + 1)))) = if bb < e.s then e.s else bb) := Lib.hid (by rw [HNew.out, if_pos rfl, if_pos hh]; split <;> omega)
              clear hh
              subst hkk
              refine quiet_tail 6 _ rfl (by kernel_rfl) rfl (by kernel_rfl) ?_
              repeat (go_big_quiet_step (fail))
              refine wpQuiet_nil ?_
              intro z
              refine NoPanic.normal ?_
              have hbz := hbb.trans (z.b.mono hbb.size)
              obtain ⟨S', hS'⟩ := HS'.out
              have HS2 := Lib.hid (hS'.below ((z.b).mono (Nat.le_refl _)))
              clear hS'
              have y2 := z2 z
              go_wp2
              go_roundw
              case rel => exact ⟨k + 1, S', by omega, by go_num, by rw [HN.out], HS2.out, hbz⟩
              case measure => simp [intOf]; omega
            · have hh : hitB key seq e = false := by simp [hitB, hkk, hss]
              have HN : Hid (bst key seq (entsP (adds [] (es.take (k + 1)))) = bb) := Lib.hid (by rw [HNew.out, if_pos rfl, if_neg (by rw [hh]; simp)])
              clear hh
              subst hkk
              refine quiet_tail 6 _ rfl (by kernel_rfl) rfl (by kernel_rfl) ?_
              repeat (go_big_quiet_step (fail))
              refine wpQuiet_nil ?_
              intro z
              refine NoPanic.normal ?_
              have hbz := hbb.trans (z.b.mono hbb.size)
              obtain ⟨S', hS'⟩ := HS'.out
              have HS2 := Lib.hid (hS'.below ((z.b).mono (Nat.le_refl _)))
              clear hS'
              go_wp2
              go_roundw
              case rel => exact ⟨k + 1, S', by omega, by go_num, by rw [HN.out], HS2.out, hbz⟩
              case measure => simp [intOf]; omega
          · have hh : hitB key seq e = false := by simp [hitB, hkk]
            have HN : Hid (bst key seq (entsP (adds [] (es.take (k + 1)))) = bb) := Lib.hid (by rw [HNew.out, if_pos rfl, if_neg (by rw [hh]; simp)])
            have hkk2 : (e.k == key) = false := by rw [beq_texts]; exact decide_eq_false hkk
            have hkk3 : (e.k.toList == key.toList) = false := by rw [eq_texts]; exact decide_eq_false hkk
            clear hh
            refine quiet_tail 6 _ rfl (by kernel_rfl) rfl (by kernel_rfl) ?_
            repeat (go_big_quiet_step (fail))
            refine wpQuiet_nil ?_
            intro z
            refine NoPanic.normal ?_
            have hbz := hbb.trans (z.b.mono hbb.size)
            obtain ⟨S', hS'⟩ := HS'.out
            have HS2 := Lib.hid (hS'.below ((z.b).mono (Nat.le_refl _)))
            clear hS'
            go_wp2
            go_roundw
            case rel => exact ⟨k + 1, S', by omega, by go_num, by rw [HN.out], HS2.out, hbz⟩
            case measure => simp [intOf]; omega
        · have HN : Hid (bst key seq (entsP (adds [] (es.take (k + 1)))) = bb) := Lib.hid (by rw [HNew.out, if_neg (by decide)])
          refine quiet_tail 6 _ rfl (by kernel_rfl) rfl (by kernel_rfl) ?_
          repeat (go_big_quiet_step (fail))
          refine wpQuiet_nil ?_
          intro z
          refine NoPanic.normal ?_
          have hbz := hbb.trans (z.b.mono hbb.size)
          obtain ⟨S', hS'⟩ := HS'.out
          have HS2 := Lib.hid (hS'.below ((z.b).mono (Nat.le_refl _)))
          clear hS'
          go_wp2
          go_roundw
          case rel => exact ⟨k + 1, S', by omega, by go_num, by rw [HN.out], HS2.out, hbz⟩
          case measure => simp [intOf]; omega
        · have HN : Hid (bst key seq (entsP (adds [] (es.take (k + 1)))) = bb) := Lib.hid (by rw [HNew.out, if_neg (by decide)])
          refine quiet_tail 6 _ rfl (by kernel_rfl) rfl (by kernel_rfl) ?_
          repeat (go_big_quiet_step (fail))
          refine wpQuiet_nil ?_
          intro z
          refine NoPanic.normal ?_
          have hbz := hbb.trans (z.b.mono hbb.size)
          obtain ⟨S', hS'⟩ := HS'.out
          have HS2 := Lib.hid (hS'.below ((z.b).mono (Nat.le_refl _)))
          clear hS'
          go_wp2
          go_roundw
          case rel => exact ⟨k + 1, S', by omega, by go_num, by rw [HN.out], HS2.out, hbz⟩
          case measure => simp [intOf]; omega
      · have ek : k = es.length := by omega
        subst ek
        obtain ⟨w4, rfl⟩ : ∃ w4 : World, w4 = wr := ⟨_, rfl⟩
        rw [List.take_length] at hT ⊢
        have hln : (adds [] es).length ≤ 100000 := by have := adds_len [] es; omega
        have hl60 : (entsP (adds [] es)).length ≤ 60 := by have := adds_len [] es; unfold entsP; rw [List.length_map]; omega
        obtain ⟨hsr, h1s⟩ := hT.srt
        have hget := Get_S w0.heap.size tb [] _ S key seq w4 hT hln
        obtain ⟨hok, hgv⟩ := getP_bst key seq hsr h1s
        have hsc := fun (wz : World) (m : Int) (hz : Below w4.heap.size w4 wz) => Scan_S w0.heap.size tb [] _ S f t m wz (hT.below hz) hln
        generalize bst key seq (entsP (adds [] es)) = bb at *
        generalize entsP (adds [] es) = lst at *
        generalize getP (adds [] es) key seq = gp at *
        obtain ⟨gx, gok⟩ := gp
        simp only [] at hget hok hgv
        have Hsc := Lib.hid hsc
        have Hget := Lib.hid hget
        have Hsr := Lib.hid hsr
        have HB4 := Lib.hid hb
        obtain ⟨-, q0, q1, q2, q3⟩ := HASK.out w4 hb
        have Hok := Lib.hid hok
        have Hgv := Lib.hid hgv
        clear hsc hget hsr hb hT h1s hok hgv hln
        go_wp2_with fail
        refine Hget.out.mono ?_
        rintro e w5 ⟨rfl, hb5⟩
        have HB5 := Lib.hid (HB4.out.trans (hb5.mono HB4.out.size))
        have HB45 := Lib.hid hb5
        have hlt5 : w.heap.size < w5.heap.size := by have := (HASK.out w4 HB4.out).1.size; have h2 := hb5.size; have h3 := HB4.out.size; have h4 := Hsz.out; omega
        obtain ⟨-, r0, r1, r2, r3⟩ := HASK.out w5 HB5.out
        have hbA : Below w4.heap.size w4 (w5.alloc (.cells #[.string gx.k, .string gx.v, .int .i64 gx.s, .bool gx.d] 32)) := HB45.out.alloc hb5.size _
        have hsA : Calls Try.prog 18 #[.pointer (some ⟨tb, 0, none⟩), .agg #[.string f, .string t], .int .i64 seq] (w5.alloc (.cells #[.string gx.k, .string gx.v, .int .i64 gx.s, .bool gx.d] 32)) fun e w' => ∃ A c, e = .returned (.slice A (scanL f t seq lst).length c) ∧ Ents w' w'.heap.size A (scanL f t seq lst) ∧ Below w4.heap.size w4 w' :=
          (Hsc.out _ seq hbA).mono fun e w' ⟨A, c, h1, h2, h3⟩ => ⟨A, c, h1, h2, hbA.trans (h3.mono hbA.size)⟩
        have HSA := Lib.hid hsA
        have Hlt5 := Lib.hid hlt5
        have Hmore : Hid (∀ m, seq ≤ m → (∀ x ∈ scanL f t seq lst, x.s ≤ seq ∧ ∃ y ∈ scanL f t m lst, y.k = x.k ∧ x.s ≤ y.s) ∧ (scanL f t m lst).Pairwise fun a b => lts a.k b.k = true) :=
          Lib.hid fun m hm => ⟨scan_more hm Hsr.out, (scan_ok f t m lst Hsr.out).keys⟩
        have Hkeys := Lib.hid (scan_ok f t seq lst Hsr.out).keys
        have Hln : Hid (∀ m, (scanL f t m lst).length ≤ 60) := Lib.hid fun m => Nat.le_trans (scanL_len f t m lst) hl60
        have hb5w := hb5
        clear hb5 q0 q1 q2 q3 hbA hsA hl60
        have HW5 := Lib.hid hb5w
        clear hb5w
        go_upto_region 15 with fail
        go_cut [96] (fun c wx => c = .bool false ∧ w5.alloc (.cells #[.string gx.k, .string gx.v, .int .i64 gx.s, .bool gx.d] 32) = wx)
        case first =>
          cases hgk : gok
          case' false =>
            subst hgk
            have hbz : decide (0 < bb) = false := Hok.out.symm
            have hbz2 : ¬ 0 < bb := by simpa using hbz
          case' true =>
            subst hgk
            have hbz : decide (0 < bb) = true := Hok.out.symm
            have hbz2 : 0 < bb := by simpa using hbz
            obtain ⟨hs1, hk1⟩ := Hgv.out rfl
            subst hs1
            subst hk1
          all_goals
            go_wp2_with fail
            go_meet
            exact ⟨rfl, rfl⟩
        obtain ⟨rfl, rfl⟩ := hcut
        go_wp2_with fail
        refine HSA.out.mono ?_
        rintro e w6 ⟨A6, c6, rfl, hE6, hb6⟩
        have HB6 := Lib.hid hb6
        have HE6 := Lib.hid hE6
        clear hE6 r0 r1 r2 r3
        obtain ⟨-, r0, r1, r2, r3⟩ := HASK.out w6 (HB4.out.trans (hb6.mono HB4.out.size))
        have Hhi : Hid (∀ m, seq ≤ m → Calls Try.prog 18 #[.pointer (some ⟨tb, 0, none⟩), .agg #[.string f, .string t], .int .i64 m] w6 fun e w' => ∃ v, e = .returned v ∧ HighAt w6 (scanL f t seq lst) seq v w') :=
          Lib.hid fun m hm => (Hsc.out _ m HB6.out).mono fun e w' ⟨A, c, h1, h2, h3⟩ => ⟨_, h1, _, A, c, rfl, h2, h3, (Hmore.out m hm).1, (Hmore.out m hm).2, Hln.out m⟩
        have hlow := Hln.out seq
        generalize scanL f t seq lst = low at *
        clear hb6
        go_upto_region 18 with fail
        go_cut [14] (fun u wx => HighAt w6 low seq u wx)
        case first =>
          go_wp2_with fail
          all_goals
            refine (Hhi.out _ (by omega)).mono ?_
            rintro e w7 ⟨v, rfl, hv⟩
            have HV := Lib.hid hv
            clear hv
            go_wp2
            go_meet
            exact HV.out
        obtain ⟨high, A7, c7, rfl, hE7, hb7, hm, hp, hhl⟩ := hcut
        obtain ⟨w7, rfl⟩ : ∃ wz : World, wz = wc := ⟨_, rfl⟩
        have hb47 := HB6.out.trans (hb7.mono HB6.out.size)
        have hb07 := HB4.out.trans (hb47.mono HB4.out.size)
        have HB7 := Lib.hid hb07
        have HE7 := Lib.hid hE7
        have HE6' := Lib.hid ((HE6.out.below hb7).more hb7.size)
        have Hm := Lib.hid hm
        have Hp := Lib.hid hp
        clear r0 r1 r2 r3 hE7 hb7 HE6 hm hp hb47 hb07
        go_wp2_with fail
        go_loopw [15, 16] (fun kv iv wx => ∃ i k m : Nat, kv = .int .i64 k ∧ iv = .int .i64 i ∧ i ≤ low.length ∧ VerIs low high i k ∧ wx = w7.drewN m) (fun _ iv _ => low.length - (intOf iv).toNat)
        case atStart => exact ⟨0, 0, 0, rfl, rfl, Nat.zero_le _, VerIs.start _ _, rfl⟩
        case round =>
          obtain ⟨i, k, m, rfl, rfl, hi, hv, rfl⟩ := hrel
          by_cases hlt : i < low.length
          · obtain ⟨b6, o6, hA6, -, hc6⟩ := HE6'.out (by intro e; subst e; simp at hlt)
            have hx := Hm.out low[i] (List.getElem_mem hlt)
            obtain ⟨b7, o7, hA7, -, hc7⟩ := HE7.out (by intro e; subst e; obtain ⟨-, y, hy, -⟩ := hx; cases hy)
            subst hA6; subst hA7
            have hu := hc6 i hlt
            obtain ⟨hxs, hxe⟩ := hx
            have hask7 := (HASK.out w7 HB7.out).2.2.1
            have Hxe := Lib.hid hxe
            have HC7 := Lib.hid hc7
            have HV := Lib.hid hv
            obtain ⟨x, hx⟩ : ∃ x, low[i] = x := ⟨_, rfl⟩
            have Hx := Lib.hid hx
            rw [hx] at hu hxs
            obtain ⟨u0, u1, u2, u3⟩ := hu
            have hi0 : (0 : Int) ≤ (i : Int) := Int.natCast_nonneg _
            have hi1 : (i : Int) < (low.length : Int) := by omega
            clear hc6 hc7 hv hxe hx
            go_wp2_with fail
            go_loopw [15] (fun kv wx => ∃ k m : Nat, kv = .int .i64 k ∧ VerIs low high i k ∧ wx = w7.drewN m) (fun kv _ => high.length - (intOf kv).toNat)
            case atStart => exact ⟨k, m, rfl, HV.out, rfl⟩
            case round =>
              obtain ⟨k, m, rfl, hv, rfl⟩ := hrel
              obtain ⟨hklt, hnot⟩ := ver_at (k := k) Hp.out Hxe.out (fun j hj hjk => hv.2 j hj hjk hlt)
              have hk0 : (0 : Int) ≤ (k : Int) := Int.natCast_nonneg _
              have hk1 : (k : Int) < (high.length : Int) := by omega
              have hv7 := HC7.out k hklt
              obtain ⟨y, hy⟩ : ∃ y, high[k] = y := ⟨_, rfl⟩
              rw [hy] at hv7
              obtain ⟨y0, y1, y2, y3⟩ := hv7
              have Hy := Lib.hid hy
              have HV1 := Lib.hid hv
              clear hy hv
              by_cases hcmp : lts high[k].k low[i].k = true
              · have HS1 := Lib.hid (VerIs.step HV1.out hlt hklt hcmp)
                rw [Hx.out, Hy.out] at hcmp
                have hcmp1 : Op.bytesLess y.k.toList x.k.toList = true := hcmp
                clear hcmp hnot
                go_wp2_with fail
                go_quiet (fail)
                go_wp2_with fail
                go_roundw
                case rel => exact ⟨k + 1, m + nq, by go_num, HS1.out, rfl⟩
                case measure => simp [intOf]; omega
              · have hcmp0 : lts high[k].k low[i].k = false := by simpa using hcmp
                obtain ⟨hek, hes⟩ := hnot hklt hcmp0
                have HS2 := Lib.hid (VerIs.next Hkeys.out HV1.out)
                rw [Hx.out, Hy.out] at hcmp0
                rw [Hx.out, Hy.out] at hek
                rw [Hx.out, Hy.out] at hes
                have hcmp1 : Op.bytesLess y.k.toList x.k.toList = false := hcmp0
                have hek2 : (y.k == x.k) = true := by rw [beq_texts]; exact decide_eq_true hek
                have hek3 : (y.k.toList == x.k.toList) = true := by rw [eq_texts]; exact decide_eq_true hek
                have hek4 : (y.k != x.k) = false := by unfold bne; rw [hek2]; rfl
                have hkne : ((k : Int) == (high.length : Int)) = false := by simp; omega
                clear hcmp hcmp0 hnot hek
                go_wp2_with fail
                go_quiet (fail)
                obtain ⟨nq_1, hq1⟩ : ∃ n : Nat, n = nq := ⟨_, rfl⟩
                rw [← hq1]
                clear hq1
                go_wp2_with fail
                go_quiet (fail)
                obtain ⟨nq_2, hq2⟩ : ∃ n : Nat, n = nq := ⟨_, rfl⟩
                rw [← hq2]
                clear hq2
                go_wp2_with fail
                go_roundw
                case rel => exact ⟨i + 1, k, m + nq_1 + nq_2, rfl, by go_num, by omega, HS2.out, rfl⟩
                case measure => simp [intOf]; omega
          · have hb07 := HB7.out
            have hbz := (HASK.out w7 hb07).1
            have HZ := Lib.hid hbz
            clear hbz hb07
            go_wp2_with fail
            go_ret
            exact ⟨rfl, below_drewN HZ.out _⟩

end Go.Proofs.Ytgineehniclkeaa
