/- The walk of MemOrder: whatever entries come in, it answers true; a list that lies in memory, each text of at most 2^47 bytes. -/
import Derived.Test.YtgineehniclkeaaC2
import Derived.Test.YtgineehniclkeaaP3
import Derived.Deep.LoopGhost
import Derived.Deep.RegionHeld3
import Derived.Deep.DeepCutAuto
import Derived.IntWalk
namespace Go.Proofs.Ytgineehniclkeaa
open Go.RowKit

theorem addR_vals (ps : List (Ent × Nat)) (e : Ent) : addR ps e = 0 ∨ addR ps e = 2 ∨ addR ps e = 9 := by
  unfold addR
  split
  · split
    · exact .inl rfl
    · split
      · exact .inr (.inr rfl)
      · exact .inl rfl
  · exact .inr (.inl rfl)

theorem addP_len (hs : List Int) (ps : List (Ent × Nat)) (e : Ent) : (addP hs ps e).length ≤ ps.length + 1 := by
  unfold addP
  split
  · have := congrArg List.length (List.takeWhile_append_dropWhile (p := fun p : Ent × Nat => ahead p.1 e) (l := ps))
    simp only [List.length_append, List.length_cons] at this ⊢
    omega
  · omega
theorem adds_len (hs : List Int) (l : List Ent) : (adds hs l).length ≤ l.length := by
  induction l using snoc_ind with
  | h0 => exact Nat.le_refl _
  | h1 l e ih =>
    rw [adds_snoc]
    have := addP_len hs (adds hs l) e
    simp; omega

def h5 : List Int := [3, 1, 2, 1, 12]

theorem lit5 (w : World) (t : TypeId) : Ints (w.alloc (.cells #[.int .i64 3, .int .i64 1, .int .i64 2, .int .i64 1, .int .i64 12] t)) (w.heap.size + 1) (some ⟨w.heap.size, 0, none⟩) h5 := fun _ => ⟨w.heap.size, 0, rfl, Nat.lt_succ_self _, fun i hi => by
  match i, hi with
  | 0, _ => simp [h5, World.cell?_alloc_at]
  | 1, _ => simp [h5, World.cell?_alloc_at]
  | 2, _ => simp [h5, World.cell?_alloc_at]
  | 3, _ => simp [h5, World.cell?_alloc_at]
  | 4, _ => simp [h5, World.cell?_alloc_at]
  | i + 5, hi => exact absurd hi (by simp [h5])⟩

theorem smallB_sizes {es : List Ent} (h : smallB es = true) : es.length ≤ 60 ∧ ∀ e ∈ es, e.k.size ≤ 600 ∧ e.v.size ≤ 600 := by
  unfold smallB at h
  rw [Bool.and_eq_true, decide_eq_true_eq, List.all_eq_true] at h
  exact ⟨h.2, fun e he => by have := h.1 e he; simpa [smallE] using this⟩

/-- What MemOrder's first loop keeps. -/
structure Ord1 (w wr : World) (tb ub : Nat) (es : List Ent) (k : Nat) (S : List Nat) : Prop where
  t : TabS w.heap.size wr tb h5 (adds h5 (es.take k)) S
  u : TabS w.heap.size wr ub [] [] [ub]
  ne : ub ∉ S
  bel : Below w.heap.size w wr
  z : ∀ i (h : i < es.length), i < k → addR (adds h5 (es.take i)) es[i] = 0

/-- What MemOrder's second loop keeps. -/
structure Ord2 (w wr : World) (tb ub : Nat) (es : List Ent) (f k : Nat) (S U : List Nat) : Prop where
  t : TabS w.heap.size wr tb h5 (adds h5 es) S
  u : TabS w.heap.size wr ub [] (adds [] ((rot es f).take k)) U
  ne : ∀ x ∈ S, x ∉ U
  bel : Below w.heap.size w wr

set_option maxRecDepth 100000 in
set_option maxHeartbeats 4000000 in
theorem MemOrder_any (A : Option Addr) (c : Nat) (es : List Ent) (order : Int) (w : World) (h : Ents w w.heap.size A es) (hl : es.length ≤ 9223372036854775807) :
    Calls Try.prog 3 #[.slice A es.length c, .int .i64 order] w fun e w' => e = .returned (.bool true) ∧ Below w.heap.size w w' := by
  go_enter Try.func3, Try.ntmps3
  go_wp2_with fail
  refine (lives_any _).mono ?_
  rintro e w1 ⟨rfl, hb1⟩
  have hE1 := h.below hb1
  go_wp2_with fail
  refine (small_any A c w.heap.size es w1 hE1 hl).mono ?_
  rintro e w1' ⟨rfl, rfl⟩
  cases hsm : smallB es with
  | false =>
    have Hs := Lib.hid hsm
    clear hsm
    go_wp2
    go_ret
    exact ⟨rfl, hb1⟩
  | true =>
    obtain ⟨hn60, hsz⟩ := smallB_sizes hsm
    have Hsz := Lib.hid hsz
    have HB1 := Lib.hid hb1
    have HE := Lib.hid h
    clear hsm hsz hb1 hE1 hl h
    go_wp2_with fail
    refine (New_S (some ⟨w1.heap.size, 0, none⟩) 5 _ h5 _ (lit5 w1 3) (by decide) (fun h => by cases h) (by decide)).mono ?_
    rintro e w2 ⟨tb, rfl, htb, hS, hb⟩
    have hb2 : Below w.heap.size w w2 := (HB1.out.alloc HB1.out.size _).trans (hb.mono (by have := HB1.out.size; simp; omega))
    have HS := Lib.hid (hS.mono (B' := w.heap.size) (by have := HB1.out.size; simp; omega))
    have HB2 := Lib.hid hb2
    clear hS hb hb2 HB1 htb
    go_wp2_with fail
    refine (New_S none 0 0 [] w2 Ints.nil (by decide) (fun _ _ => rfl) (by decide)).mono ?_
    rintro e w3 ⟨ub, rfl, hub, hU, hb⟩
    have HO : Hid (Ord1 w w3 tb ub es 0 [tb]) := by
      have h1 := HS.out.below hb
      refine ⟨h1, hU.mono HB2.out.size, ?_, HB2.out.trans (hb.mono HB2.out.size), fun i _ hi => absurd hi (Nat.not_lt_zero _)⟩
      intro hm
      have := HS.out.lt ub hm
      omega
    clear hU hb HB2 HS hub
    go_wp2
    go_loopw [10] (fun i wr => ∃ (k : Nat) (S : List Nat), k ≤ es.length ∧ i = .int .i64 k ∧ Ord1 w wr tb ub es k S) (fun i _ => es.length - (intOf i).toNat)
    case atStart => exact ⟨0, [tb], Nat.zero_le _, rfl, HO.out⟩
    case round =>
      obtain ⟨k, S, hk, rfl, ho⟩ := hrel
      by_cases hlt : k < es.length
      · obtain ⟨b, o, hA, hB, hc⟩ := (HE.out.below ho.bel) (by intro e; subst e; simp at hlt)
        subst hA
        obtain ⟨c0, c1, c2, c3⟩ := hc k hlt
        have hs := Hsz.out es[k] (List.getElem_mem hlt)
        have hlen := adds_len h5 (es.take k)
        rw [List.length_take] at hlen
        have hadd := Add_S w.heap.size tb h5 _ S es[k] wr ho.t ho.bel.size (by omega) (by decide) (by decide) (by omega) (by omega)
        have HA := Lib.hid hadd
        have Ho := Lib.hid ho
        clear hadd ho hc hs hlen
        go_wp2_with fail
        refine HA.out.mono ?_
        rintro e w5 ⟨rfl, S', hS', hoff, hb, hnew⟩
        have Hnew := Lib.hid hnew
        have Hoff := Lib.hid hoff
        have HS' := Lib.hid hS'
        have HB' := Lib.hid (Ho.out.bel.trans hb)
        clear hS' hoff hb hnew HA
        rcases addR_vals (adds h5 (es.take k)) es[k] with hr | hr | hr
        · rw [hr]
          have Hr := Lib.hid hr
          clear hr c0 c1 c2 c3
          go_wp2
          go_roundw
          case rel =>
            have hsnoc : adds h5 (es.take (k + 1)) = addP h5 (adds h5 (es.take k)) es[k] := by rw [List.take_succ_eq_append_getElem hlt, adds_snoc]
            refine ⟨k + 1, S', by omega, by go_num, ⟨by rw [hsnoc]; exact HS'.out, Ho.out.u.off Ho.out.t Hoff.out (by intro x hx; rcases List.mem_singleton.1 hx with rfl; exact Ho.out.ne), ?_, HB'.out, fun i hi hik => ?_⟩⟩
            · intro hm
              rcases Hnew.out ub hm with hm | hm
              · exact Ho.out.ne hm
              · have := Ho.out.u.lt ub (by simp); omega
            · rcases Nat.lt_succ_iff_lt_or_eq.1 hik with h | h
              · exact Ho.out.z i hi h
              · subst h; exact Hr.out
          case measure => simp [intOf]; omega
        · rw [hr]
          clear hr c0 c1 c2 c3
          go_wp2
          go_ret
          exact ⟨rfl, HB'.out⟩
        · rw [hr]
          clear hr c0 c1 c2 c3
          go_wp2
          go_ret
          exact ⟨rfl, HB'.out⟩
      · have ek : k = es.length := by omega
        subst ek
        have Ho := Lib.hid ho
        clear ho hk hlt
        have hz := Ho.out.z
        obtain ⟨-, hEq, hSrt, hLen⟩ := order_law h5 [] es 0 (fun i hi => hz i hi hi)
        obtain ⟨f, hf1, hf2, hf3⟩ : ∃ f : Nat, order % (max 1 (es.length : Int)) = (f : Int) ∧ (0 < es.length → f < es.length) ∧ f ≤ 60 := by
          have h1 := Int.emod_nonneg order (show max 1 (es.length : Int) ≠ 0 by omega)
          have h2 := Int.emod_lt_of_pos order (show 0 < max 1 (es.length : Int) by omega)
          exact ⟨(order % (max 1 (es.length : Int))).toNat, by omega, by omega, by omega⟩
        obtain ⟨hz2, hEq2, -, -⟩ := order_law h5 [] es f (fun i hi => hz i hi hi)
        have HSrt := Lib.hid hSrt
        have HLen := Lib.hid hLen
        have HEq2 := Lib.hid hEq2
        have Hz2 := Lib.hid hz2
        have Hf1 := Lib.hid hf1
        have Hf2 := Lib.hid hf2
        clear hz hEq hSrt hLen hz2 hEq2 hf1 hf2
        have hpk : ∀ m : Int, max 1 (es.length : Int) = m → Calls Try.prog 13 #[.int .i64 order, .int .i64 m] wr fun e w' => e = .returned (.int .i64 f) ∧ wr = w' := by
          intro m hm
          subst hm
          have := Hf1.out
          rw [← this]
          exact Pick_any order _ wr (by omega) (by omega)
        have Hpk := Lib.hid hpk
        clear hpk
        go_upto_region 16 with fail
        go_cut [12] (fun u12 wx => u12 = .int .i64 f ∧ wr = wx)
        case first =>
          go_wp2_with fail
          all_goals
            refine (Hpk.out _ (by omega)).mono ?_
            rintro e w' ⟨rfl, rfl⟩
            go_wp2
            go_meet
            exact ⟨rfl, rfl⟩
        obtain ⟨rfl, rfl⟩ := hcut
        go_wp2
        all_goals
          go_loopw [13] (fun i wx => ∃ (k : Nat) (U : List Nat), k ≤ es.length ∧ i = .int .i64 k ∧ Ord2 w wx tb ub es f k S U) (fun i _ => es.length - (intOf i).toNat)
          case atStart => exact ⟨0, [ub], Nat.zero_le _, rfl, (List.take_length (l := es)) ▸ Ho.out.t, Ho.out.u, fun x hx hm => by rcases List.mem_singleton.1 hm with rfl; exact Ho.out.ne hx, Ho.out.bel⟩
          case round =>
            obtain ⟨k, U, hk, rfl, ho2⟩ := hrel
            by_cases hlt : k < es.length
            · have hff := Hf2.out (by omega)
              obtain ⟨q, hmodN, hmod, hrg⟩ : ∃ q : Nat, ∃ hq : q < es.length, ((f : Int) + (k : Int)) % (es.length : Int) = (q : Int) ∧ (rot es f)[k]'(by rw [rot_len]; exact hlt) = es[q] :=
                ⟨(f + k) % es.length, Nat.mod_lt _ (by omega), by rw [Int.natCast_emod, Int.natCast_add], rot_get es f k hff hlt⟩
              have hz := Hz2.out k (by rw [rot_len]; exact hlt)
              rw [hrg] at hz
              have htk : (rot es f).take (k + 1) = (rot es f).take k ++ [es[q]] := by rw [List.take_succ_eq_append_getElem (by rw [rot_len]; exact hlt), hrg]
              obtain ⟨b, o, hA, hB, hc⟩ := (HE.out.below ho2.bel) (by intro e; subst e; simp at hlt)
              subst hA
              obtain ⟨c0, c1, c2, c3⟩ := hc _ hmodN
              have hs := Hsz.out es[q] (List.getElem_mem hmodN)
              have hlen := adds_len [] ((rot es f).take k)
              rw [List.length_take, rot_len] at hlen
              have hadd := Add_S w.heap.size ub [] _ U es[q] wr ho2.u ho2.bel.size (by omega) (by decide) (by decide) (by omega) (by omega)
              rw [hz] at hadd
              have HA := Lib.hid hadd
              have Ho2 := Lib.hid ho2
              have Htk := Lib.hid htk
              clear hadd ho2 hc hs hlen hz hrg htk
              go_wp2_with fail
              refine HA.out.mono ?_
              rintro e w5 ⟨rfl, U', hU', hoff, hb, hnew⟩
              have Hnew := Lib.hid hnew
              have Hoff := Lib.hid hoff
              have HU' := Lib.hid hU'
              have HB' := Lib.hid (Ho2.out.bel.trans hb)
              clear hU' hoff hb hnew HA c0 c1 c2 c3 hmod
              go_wp2
              go_roundw
              case rel =>
                refine ⟨k + 1, U', by omega, by go_num, ⟨Ho2.out.t.off Ho2.out.u Hoff.out Ho2.out.ne, by rw [Htk.out, adds_snoc]; exact HU'.out, fun x hx hm => ?_, HB'.out⟩⟩
                rcases Hnew.out x hm with h | h
                · exact Ho2.out.ne x hx h
                · have := Ho2.out.t.lt x hx; omega
              case measure => simp [intOf]; omega
            · have ek : k = es.length := by omega
              subst ek
              obtain ⟨T2, U2, _, Bel2⟩ := ho2
              rw [List.take_of_length_le (by rw [rot_len]; exact Nat.le_refl _)] at U2
              obtain ⟨w4, rfl⟩ : ∃ w4 : World, w4 = wr := ⟨_, rfl⟩
              have hlA := adds_len h5 es
              have hlB := adds_len [] (rot es f)
              rw [rot_len] at hlB
              have hA := all_S w.heap.size tb h5 _ S (es.length + 1) w4 T2 (by omega)
              have hB := fun (wz : World) (h : TabS w.heap.size wz ub [] (adds [] (rot es f)) U) => all_S w.heap.size ub [] _ U (es.length + 1) wz h (by omega)
              have hn := HLen.out
              have he2 := HEq2.out
              have hsr := HSrt.out
              unfold entsP at hn he2 hsr
              rw [← he2] at hB
              generalize (adds h5 es).map (·.1) = lst at *
              rw [List.take_of_length_le (by omega), hn] at hA hB
              have Hn := Lib.hid hn
              have HA := Lib.hid hA
              have HB := Lib.hid hB
              have HU2 := Lib.hid U2
              have HBel2 := Lib.hid Bel2
              have Hsr := Lib.hid hsr
              clear hA hB hn he2 hsr T2 U2 Bel2 hlA hlB
              go_wp2_with fail
              refine HA.out.mono ?_
              rintro e w6 ⟨A1, c1, rfl, hE1, hb1⟩
              have HU6 := Lib.hid (HU2.out.below hb1)
              have HB6 := Lib.hid (HBel2.out.trans (hb1.mono HBel2.out.size))
              have HE1 := Lib.hid hE1
              clear hE1 hb1
              go_wp2_with fail
              refine (HB.out w6 HU6.out).mono ?_
              rintro e w7 ⟨A2, c2, rfl, hE2, hb2⟩
              have HE1' := Lib.hid ((HE1.out.below hb2).more hb2.size)
              have HB7 := Lib.hid (HB6.out.trans (hb2.mono HB6.out.size))
              have HE2 := Lib.hid hE2
              clear hE2 hb2 HE1
              go_wp2_with fail
              have hse := SameEntries_any A1 A2 c1 c2 w7.heap.size lst lst w7 HE1'.out HE2.out (by have := Hn.out; omega)
              rw [Hn.out, show decide (lst = lst) = true from decide_eq_true rfl] at hse
              refine hse.mono ?_
              rintro e w8 ⟨rfl, m, hm⟩
              have hb8 : Below w7.heap.size w7 w8 := hm ▸ below_drewN (Below.refl _ _) _
              have hE8 := Lib.hid ((HE1'.out.below hb8).more hb8.size)
              have HB8 := Lib.hid (HB7.out.trans (hb8.mono HB7.out.size))
              clear hm hb8 hse HE1' HE2 HB7 HB6 HU6 HBel2 HU2 HA HB
              go_wp2
              go_loopw [16] (fun i wx => ∃ k : Nat, i = .int .i64 (k + 1) ∧ k ≤ es.length ∧ Below w8.heap.size w8 wx) (fun i _ => es.length + 1 - (intOf i).toNat)
              case atStart => exact ⟨0, rfl, Nat.zero_le _, Below.refl _ _⟩
              case round =>
                obtain ⟨k, rfl, hkl, hb⟩ := hrel
                by_cases hlt : k + 1 < es.length
                · have hnl := Hn.out
                  obtain ⟨b, o, hA, hB, hc⟩ := (hE8.out) (by intro e; subst e; simp at hnl; omega)
                  subst hA
                  have hS : ∀ wz, Below w8.heap.size w8 wz → (Below w8.heap.size w8 wz ∧ wz.cell? ⟨b, o + k * 4, none⟩ = some (.string lst[k].k) ∧ wz.cell? ⟨b, o + k * 4 + 1, none⟩ = some (.string lst[k].v) ∧
                      wz.cell? ⟨b, o + k * 4 + 2, none⟩ = some (.int .i64 lst[k].s) ∧ wz.cell? ⟨b, o + k * 4 + 3, none⟩ = some (.bool lst[k].d) ∧ 
                      wz.cell? ⟨b, o + (k + 1) * 4, none⟩ = some (.string lst[k + 1].k) ∧ wz.cell? ⟨b, o + (k + 1) * 4 + 1, none⟩ = some (.string lst[k + 1].v) ∧
                      wz.cell? ⟨b, o + (k + 1) * 4 + 2, none⟩ = some (.int .i64 lst[k + 1].s) ∧ wz.cell? ⟨b, o + (k + 1) * 4 + 3, none⟩ = some (.bool lst[k + 1].d)) := by
                    intro wz hz
                    obtain ⟨c0, c1, c2, c3⟩ := hc k (by omega)
                    obtain ⟨d0, d1, d2, d3⟩ := hc (k + 1) (by omega)
                    exact ⟨hz, (hz.cell hB).trans c0, (hz.cell hB).trans c1, (hz.cell hB).trans c2, (hz.cell hB).trans c3, (hz.cell hB).trans d0, (hz.cell hB).trans d1, (hz.cell hB).trans d2, (hz.cell hB).trans d3⟩
                  have hah : ahead lst[k] lst[k + 1] = true := by
                    have := Hsr.out
                    exact List.pairwise_iff_getElem.1 this k (k + 1) (by omega) (by omega) (Nat.lt_succ_self _)
                  have hah2 := ahead_asymm hah
                  have hS0 := hS wr hb
                  have Hb := Lib.hid hb
                  obtain ⟨-, c0, c1, c2, c3, d0, d1, d2, d3⟩ := hS0
                  have b1 : (0 : Int) ≤ (k : Int) := Int.natCast_nonneg _
                  have b2 : (k : Int) < (es.length : Int) := by omega
                  have b3 : (0 : Int) ≤ (k : Int) + 1 := by omega
                  have b4 : (k : Int) + 1 < (es.length : Int) := by omega
                  have n1 : IntKind.i64.wrap ((k : Int) + 1 - 1) = (k : Int) := by rw [Int.add_sub_cancel]; exact IntWalk.i64_in _ (by omega)
                  have n0 : IntKind.i64.wrap (k : Int) = (k : Int) := IntWalk.i64_in _ (by omega)
                  have n2 : ((k : Int) + 1).toNat = k + 1 := by omega
                  obtain ⟨ea, hea⟩ : ∃ ea : Ent, lst[k] = ea := ⟨_, rfl⟩
                  obtain ⟨eb, heb⟩ : ∃ eb : Ent, lst[k + 1] = eb := ⟨_, rfl⟩
                  simp only [hea, heb] at hS hah hah2 c0 c1 c2 c3 d0 d1 d2 d3
                  have HS := Lib.hid hS
                  have hC1 : ∀ (x y : Ent) wz, Below w8.heap.size w8 wz → Calls Try.prog 16 #[.agg #[.string x.k, .string x.v, .int .i64 x.s, .bool x.d], .agg #[.string y.k, .string y.v, .int .i64 y.s, .bool y.d]] wz fun e w' => e = .returned (.bool (ahead x y)) ∧ Below w8.heap.size w8 w' := by
                    intro x y wz hz
                    exact (Ahead_any x y wz).mono fun e w' h => ⟨h.1, hz.trans (h.2.mono hz.size)⟩
                  have HC1 := Lib.hid hC1
                  clear hb hS hc hC1 hea heb
                  have hbd := Hb.out.drew
                  go_wp2
                  go_region_held3 (fun wz => Below w8.heap.size w8 wz ∧ wz.cell? ⟨b, o + k * 4, none⟩ = some (.string ea.k) ∧ wz.cell? ⟨b, o + k * 4 + 1, none⟩ = some (.string ea.v) ∧
                      wz.cell? ⟨b, o + k * 4 + 2, none⟩ = some (.int .i64 ea.s) ∧ wz.cell? ⟨b, o + k * 4 + 3, none⟩ = some (.bool ea.d) ∧ 
                      wz.cell? ⟨b, o + (k + 1) * 4, none⟩ = some (.string eb.k) ∧ wz.cell? ⟨b, o + (k + 1) * 4 + 1, none⟩ = some (.string eb.v) ∧
                      wz.cell? ⟨b, o + (k + 1) * 4 + 2, none⟩ = some (.int .i64 eb.s) ∧ wz.cell? ⟨b, o + (k + 1) * 4 + 3, none⟩ = some (.bool eb.d))
                    (exact HS.out _ (by assumption))
                    (first | (go_at_call 16; refine (HC1.out _ _ _ (by assumption)).mono ?_; rintro e w' ⟨rfl, hbb⟩))
                  go_wp2
                  go_roundw
                  case rel => exact ⟨k + 1, by go_num, by omega, by assumption⟩
                  case measure => simp [intOf]; omega
                · go_wp2
                  go_ret
                  exact ⟨rfl, HB8.out.trans (hb.mono HB8.out.size)⟩

end Go.Proofs.Ytgineehniclkeaa
