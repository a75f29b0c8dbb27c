/- The walk of the memtable's Add where it puts an entry into its place; of every table that lies in memory and every entry that may be and is not there. -/
import Derived.Test.YtgineehniclkeaaA8
namespace Go.Proofs.Ytgineehniclkeaa
open Go.RowKit

theorem own_form {w : World} {base e size n : Nat} {v : Value} {xs : List Value} (h : w.ownsRow base e size v n xs) : ∃ A c, v = .slice A n c := by
  rcases h.2 with ⟨rfl, rfl⟩ | ⟨g, cap, cur, rfl, _⟩
  · exact ⟨_, _, rfl⟩
  · exact ⟨_, _, rfl⟩

theorem addr_add0 (g j : Nat) : (⟨g, 0, none⟩ : Addr).add j = ⟨g, j, none⟩ := by unfold Addr.add; split <;> simp_all
theorem own_cell_int {w : World} {base g n c : Nat} {hs : List Int} (h : w.ownsRow base 3 1 (.slice (some ⟨g, 0, none⟩) n c) n (hs.map (Value.int .i64))) (j : Nat) (hj : j < hs.length) : w.cell? ⟨g, j, none⟩ = some (.int .i64 (hs.getD j 1)) := by
  rw [← addr_add0]
  refine h.cells (g := g) rfl j _ ?_
  rw [List.getElem?_map, List.getElem?_eq_getElem hj, List.getD_eq_getElem?_getD, List.getElem?_eq_getElem hj]; rfl

theorem nodup_new {tw dw : List Nd} {nb h c : Nat} {e : Ent} (hn : ((tw ++ dw).map (·.b)).Nodup) (hlt : ∀ n ∈ tw ++ dw, n.b < nb) : ((tw ++ newN nb e h c :: dw).map (·.b)).Nodup := by
  rw [List.map_append] at hn ⊢
  rw [List.nodup_append] at hn ⊢
  obtain ⟨h1, h2, h3⟩ := hn
  refine ⟨h1, ?_, ?_⟩
  · rw [List.map_cons, List.nodup_cons]
    refine ⟨fun hm => ?_, h2⟩
    obtain ⟨n, hn, he⟩ := List.mem_map.1 hm
    have := hlt n (List.mem_append_right _ hn)
    rw [he] at this; exact Nat.lt_irrefl _ this
  · intro a ha b hb
    rw [List.map_cons] at hb
    rcases List.mem_cons.1 hb with rfl | hb
    · obtain ⟨n, hn, rfl⟩ := List.mem_map.1 ha
      have := hlt n (List.mem_append_left _ hn)
      exact Nat.ne_of_lt this
    · exact h3 a ha b hb

def bytesOf (ns : List Nd) : Int := (ns.map fun n => (n.e.k.size : Int) + n.e.v.size).sum

theorem tower_ok {hs : List Int} (h : hs.all hgtB = true) (n : Nat) : 1 ≤ towerOf hs n ∧ towerOf hs n ≤ 12 := by
  unfold towerOf
  by_cases hn : hs = []
  · rw [if_pos hn]; omega
  · rw [if_neg hn]
    have hj : n % hs.length < hs.length := Nat.mod_lt _ (List.length_pos_iff.2 hn)
    have := List.all_eq_true.1 h _ (List.getElem_mem hj)
    rw [List.getD_eq_getElem?_getD, List.getElem?_eq_getElem hj]
    simp only [hgtB, Bool.and_eq_true, decide_eq_true_eq] at this
    simp only [Option.getD_some]
    omega

theorem row12_get (tb : Nat) (e : Ent) (ns : List Nd) (k : Nat) (hk : k < 12) :
    #[prevV tb e ns 0, prevV tb e ns 1, prevV tb e ns 2, prevV tb e ns 3, prevV tb e ns 4, prevV tb e ns 5, prevV tb e ns 6, prevV tb e ns 7, prevV tb e ns 8, prevV tb e ns 9, prevV tb e ns 10, prevV tb e ns 11][k]? = some (.pointer (some ⟨prevB tb e ns k, 0, none⟩)) := by
  match k, hk with
  | 0, _ | 1, _ | 2, _ | 3, _ | 4, _ | 5, _ | 6, _ | 7, _ | 8, _ | 9, _ | 10, _ | 11, _ => rfl
  | k + 12, hk => omega

theorem AddW.prev_ne {w W : World} {tb : Nat} {hv : Value} {len size : Int} {e : Ent} {tw dw : List Nd} {nb h c pb bx : Nat} (a : AddW w W tb hv len size e tw dw nb h c pb bx)
    (hP : prevB tb e (tw ++ dw) h = lastB tb (tw.filter fun n => decide (h < n.t))) (hn : ((tw ++ newN nb e h c :: dw).map (·.b)).Nodup) : prevB tb e (tw ++ dw) h ≠ nb := by
  rw [hP]
  rcases last_split h tw tb with ⟨h5, _⟩ | ⟨p, n, q, h5, _, _, h8⟩
  · rw [h5]; exact fun e => a.ne.1 e.symm
  · rw [h8]
    rw [List.map_append, List.nodup_append] at hn
    exact hn.2.2 n.b (List.mem_map.2 ⟨n, by rw [h5]; simp, rfl⟩) nb (List.mem_map.2 ⟨newN nb e h c, by simp, rfl⟩)

theorem mem_takeWhile_p {α : Type} (p : α → Bool) {a : α} : ∀ {l : List α}, a ∈ l.takeWhile p → p a = true
  | [], h => by simp at h
  | b :: l, h => by
    rw [List.takeWhile_cons] at h
    by_cases hb : p b = true
    · rw [if_pos hb] at h
      rcases List.mem_cons.1 h with rfl | h
      · exact hb
      · exact mem_takeWhile_p p h
    · rw [if_neg hb] at h; simp at h

theorem sorted_insert {tw dw : List Nd} {nb h c : Nat} {e : Ent} (hs : (tw ++ dw).Pairwise fun a b => ahead a.e b.e = true) (htw : ((tw ++ dw).takeWhile fun n => ahead n.e e) = tw) (hdw : ((tw ++ dw).dropWhile fun n => ahead n.e e) = dw)
    (hnot : ∀ n vs, dw = n :: vs → ¬ (n.e.k = e.k ∧ n.e.s = e.s)) : (tw ++ newN nb e h c :: dw).Pairwise fun a b => ahead a.e b.e = true := by
  rw [List.pairwise_append] at hs ⊢
  obtain ⟨h1, h2, h3⟩ := hs
  have ht : ∀ a ∈ tw, ahead a.e e = true := fun a ha => by
    rw [← htw] at ha
    exact mem_takeWhile_p (fun n : Nd => ahead n.e e) ha
  have hd : ∀ b ∈ dw, ahead e b.e = true := by
    cases dw with
    | nil => simp
    | cons n vs =>
      have hne := hnot n vs rfl
      have hna : ahead n.e e = false := by
        cases hh : ahead n.e e with
        | false => rfl
        | true =>
          have h0 := List.head_dropWhile_not (fun n : Nd => ahead n.e e) (l := tw ++ n :: vs) (by rw [hdw]; simp)
          simp only [hdw, List.head_cons] at h0
          rw [h0] at hh; cases hh
      have hen : ahead e n.e = true := by
        cases hh : ahead e n.e with
        | true => rfl
        | false => exact absurd (ahead_tri hna hh) hne
      intro b hb
      rcases List.mem_cons.1 hb with rfl | hb
      · exact hen
      · exact ahead_trans hen ((List.pairwise_cons.1 h2).1 b hb)
  refine ⟨h1, List.pairwise_cons.2 ⟨hd, h2⟩, fun a ha b hb => ?_⟩
  rcases List.mem_cons.1 hb with rfl | hb
  · exact ht a ha
  · exact h3 a ha b hb

set_option maxRecDepth 100000 in
set_option maxHeartbeats 1000000 in
theorem Add_ok (tb : Nat) (hv : Value) (hs : List Int) (tw dw : List Nd) (e : Ent) (w : World) (hT : Tbl w tb hv hs (tw ++ dw)) (hlen : (tw ++ dw).length ≤ 1000000) (hsl : hs.length ≤ 1000000) (hgt : hs.all hgtB = true)
    (hok : okB e = true) (hsum : (bytesOf (tw ++ dw)) ≤ 1000000000000) (hsum0 : 0 ≤ bytesOf (tw ++ dw)) (htw : ((tw ++ dw).takeWhile fun n => ahead n.e e) = tw) (hdw : ((tw ++ dw).dropWhile fun n => ahead n.e e) = dw)
    (hnot : ∀ n vs, dw = n :: vs → ¬ (n.e.k = e.k ∧ n.e.s = e.s)) :
    Calls Try.prog 12 #[.pointer (some ⟨tb, 0, none⟩), .agg #[.string e.k, .string e.v, .int .i64 e.s, .bool e.d]] w fun en w' => ∃ nb, en = .returned (.int .i64 0) ∧ w.heap.size ≤ nb ∧
      Tbl w' tb hv hs (tw ++ newN nb e (towerOf hs (tw ++ dw).length) (towerOf hs (tw ++ dw).length) :: dw) ∧ Off (tb :: (tw ++ dw).map (·.b)) w w' := by
  have hok' := hok
  simp only [okB, fineB, Bool.and_eq_true, decide_eq_true_eq] at hok'
  obtain ⟨hs1, hs2, hk0, hk512, hv4, _⟩ := hok'
  have hT1 : Tbl (w.alloc (.cells #[.string e.k, .string e.v, .int .i64 e.s, .bool e.d] 32)) tb hv hs (tw ++ dw) := hT.below ((Below.refl _ _).alloc (Nat.le_refl _) _)
  have Hok := Lib.hid hok
  have Htw := Lib.hid htw
  have Hdw := Lib.hid hdw
  have Hnot := Lib.hid hnot
  have Hgt := Lib.hid hgt
  clear hok htw hdw hnot hgt
  go_enter Try.func12, Try.ntmps12
  go_wp2_with fail
  refine (none_any tb hv hs (tw ++ dw) _ hT1).mono ?_
  rintro en w' ⟨rfl, rfl⟩
  go_wp2_with fail
  refine (Check_good e Hok.out (by omega) (by omega) _).mono ?_
  rintro en w2 ⟨rfl, hb⟩
  have hT2 := hT1.below hb
  have hbw2 : Below w.heap.size w w2 := ((Below.refl _ _).alloc (Nat.le_refl _) _).trans (hb.mono (by simp))
  have hB2 : w2.heap[w.heap.size]? = some (.cells #[.string e.k, .string e.v, .int .i64 e.s, .bool e.d] 32 (0, 0)) := (hb.block _ (by simp)).trans (heap_alloc_new _ _)
  have b0 := cell_of_row w2 _ 0 _ _ _ hB2
  have b1 := cell_of_row w2 _ 1 _ _ _ hB2
  have b2 := cell_of_row w2 _ 2 _ _ _ hB2
  have b3 := cell_of_row w2 _ 3 _ _ _ hB2
  simp only [List.getElem?_toArray, List.getElem?_cons_zero, List.getElem?_cons_succ] at b0 b1 b2 b3
  have HB2 := Lib.hid hB2
  clear hB2
  go_wp2_with fail
  refine (find_any tb hv hs (tw ++ dw) e _ hT2 hlen).mono ?_
  rintro en w3 ⟨rfl, hb3⟩
  have hT3 := hT2.below hb3
  have hbw3 : Below w.heap.size w w3 := hbw2.trans (hb3.mono hbw2.size)
  have hB3 := (hb3.block _ (heap_lt HB2.out)).trans HB2.out
  have d0 := cell_of_row w3 _ 0 _ _ _ hB3
  have d1 := cell_of_row w3 _ 1 _ _ _ hB3
  have d2 := cell_of_row w3 _ 2 _ _ _ hB3
  have d3 := cell_of_row w3 _ 3 _ _ _ hB3
  simp only [List.getElem?_toArray, List.getElem?_cons_zero, List.getElem?_cons_succ] at d0 d1 d2 d3
  have hlt := heap_lt hB3
  have hp := hT3.prev_next e (h := 0) (by omega)
  rw [Hdw.out] at hp
  have hplt := block_lt_of_cell hp
  simp only [Nat.add_zero] at hp hplt
  have hpv : prevV tb e (tw ++ dw) 0 = .pointer (some ⟨prevB tb e (tw ++ dw) 0, 0, none⟩) := rfl
  have HB3 := Lib.hid hB3
  have HT3 := Lib.hid hT3
  have Hbw3 := Lib.hid hbw3
  clear b0 b1 b2 b3 hb hb3 hB3 hT1 hT2 hT3 hbw2 hbw3
  go_upto_region 8 with (refine wpList_store_row rfl 65 (.tmp 6) (.tmp 23) rfl _ _ rfl rfl 65 _ (heap_alloc_new _ _) (by kernel_rfl) rfl (by simp [prevV, Value.oneCell']) ?_; rw [alloc_setRow])
  go_cut [8, 52] (fun _ b wx => b = .bool false ∧ ∃ m, wx = (w3.alloc (.cells #[.pointer (some ⟨prevB tb e (tw ++ dw) 0, 0, none⟩), prevV tb e (tw ++ dw) 1, prevV tb e (tw ++ dw) 2, prevV tb e (tw ++ dw) 3, prevV tb e (tw ++ dw) 4, prevV tb e (tw ++ dw) 5, prevV tb e (tw ++ dw) 6, prevV tb e (tw ++ dw) 7, prevV tb e (tw ++ dw) 8, prevV tb e (tw ++ dw) 9, prevV tb e (tw ++ dw) 10, prevV tb e (tw ++ dw) 11] 65)).drewN m)
  case first =>
    have hcs : dw = [] ∨ ∃ n vs, dw = n :: vs := by
      cases dw with
      | nil => exact .inl rfl
      | cons n vs => exact .inr ⟨n, vs, rfl⟩
    rcases hcs with hdd | ⟨n, vs, hdd⟩
    · have hnb' : nextB 0 dw = none := by rw [hdd]; rfl
      clear hdd
      go_quiet (fail)
      go_wp2_with fail
      go_meet
      exact ⟨rfl, _, rfl⟩
    · have hmem : n ∈ tw ++ dw := by rw [hdd]; simp
      obtain ⟨ht1, ht2, ht3⟩ := HT3.out.towers n hmem
      have hnb' : nextB 0 dw = some ⟨n.b, 0, none⟩ := by rw [hdd]; exact nextB_hit vs (by omega)
      have hch := HT3.out.chain
      rw [hdd] at hch
      obtain ⟨c0, c1, c2, c3, c4⟩ := hch.ent
      have hnlt := block_lt_of_cell c0
      have hno := Hnot.out n vs hdd
      by_cases hke : n.e.k = e.k
      · have hse : ¬ n.e.s = e.s := fun h => hno ⟨hke, h⟩
        have hkb : (n.e.k.toList == e.k.toList) = true := by rw [eq_texts]; simpa using hke
        have hsb : (n.e.s == e.s) = false := by simpa using hse
        clear hdd hch hno hke hse ht1 c4 hmem
        go_quiet (fail)
        go_wp2_with fail
        go_meet
        exact ⟨rfl, _, rfl⟩
      · have hkb : (n.e.k.toList == e.k.toList) = false := by rw [eq_texts]; simpa using hke
        clear hdd hch hno hke ht1 c4 hmem
        go_quiet (fail)
        go_wp2_with fail
        go_meet
        exact ⟨rfl, _, rfl⟩
  case rest =>
    obtain ⟨rfl, m, hwc⟩ := hcut
    obtain ⟨w4, rfl⟩ : ∃ w4 : World, w4 = wc := ⟨_, rfl⟩
    have hbW : Below w3.heap.size w3 w4 := by rw [hwc]; exact below_drewN ((Below.refl _ _).alloc (Nat.le_refl _) _) _
    have hTW := HT3.out.below hbW
    have hrow : w4.heap[w3.heap.size]? = some (.cells #[prevV tb e (tw ++ dw) 0, prevV tb e (tw ++ dw) 1, prevV tb e (tw ++ dw) 2, prevV tb e (tw ++ dw) 3, prevV tb e (tw ++ dw) 4, prevV tb e (tw ++ dw) 5, prevV tb e (tw ++ dw) 6, prevV tb e (tw ++ dw) 7, prevV tb e (tw ++ dw) 8, prevV tb e (tw ++ dw) 9, prevV tb e (tw ++ dw) 10, prevV tb e (tw ++ dw) 11] 65 (0, 0)) := by
      rw [hwc]; exact heap_alloc_new _ _
    have hbox := (hbW.block _ (heap_lt HB3.out)).trans HB3.out
    have hbelW : Below w.heap.size w w4 := Hbw3.out.trans (hbW.mono Hbw3.out.size)
    have hstart := AddW.start (w := w) hTW.blk hTW.chain hrow hbox hbelW
    have hlt3 := heap_lt hrow
    have hltb := heap_lt hbox
    have e0 := cell_of_row w4 _ 0 _ _ _ hbox
    have e1 := cell_of_row w4 _ 1 _ _ _ hbox
    have e2 := cell_of_row w4 _ 2 _ _ _ hbox
    have e3 := cell_of_row w4 _ 3 _ _ _ hbox
    simp only [List.getElem?_toArray, List.getElem?_cons_zero, List.getElem?_cons_succ] at e0 e1 e2 e3
    obtain ⟨s0, s1, s2, s3⟩ := hTW.scal
    obtain ⟨N, hN⟩ : ∃ N, N = (tw ++ dw).length := ⟨_, rfl⟩
    obtain ⟨S, hS⟩ : ∃ S, S = bytesOf (tw ++ dw) := ⟨_, rfl⟩
    rw [← hN] at s1
    have hS' : ((tw ++ dw).map fun n => (n.e.k.size : Int) + n.e.v.size).sum = S := hS.symm
    rw [hS'] at s2
    rw [← hN, hS'] at hstart
    have hN0 : N ≤ 1000000 := by omega
    have hS0 : 0 ≤ S := by omega
    have hS1 : S ≤ 1000000000000 := by omega
    have HN := Lib.hid hN
    have HS := Lib.hid hS
    have hgesz := hbelW.size
    have htlt := hTW.lt
    have HTW := Lib.hid hTW
    have hgw : w.heap.size ≤ w3.heap.size := Hbw3.out.size
    have hlit : ndCells (newN w4.heap.size e 0 1) dw = #[.string e.k, .string e.v, .int .i64 e.s, .bool e.d, .int .i64 1, .pointer none, .pointer none, .pointer none, .pointer none, .pointer none, .pointer none, .pointer none, .pointer none, .pointer none, .pointer none, .pointer none, .pointer none] := rfl
    rw [hlit] at hstart
    clear hN hS hS' hsum hsum0 hlit hwc hbW hTW hrow hbox hbelW d0 d1 d2 d3 hp hplt hpv
    obtain ⟨A, cc, hvf⟩ := own_form hT.own
    subst hvf
    have HST := Lib.hid hstart
    have hOwn := HTW.out.own
    have HOwn := Lib.hid hOwn
    clear hstart hOwn
    go_upto_if 62 with fail
    go_cut [62] (fun _ wx => AddW w wx tb (.slice A hs.length cc) N S e tw dw w4.heap.size 0 (towerOf hs N) w3.heap.size w.heap.size)
    case first =>
      by_cases hnil : hs = []
      · subst hnil
        go_wp2_with fail
        go_meet
        exact HST.out
      · obtain ⟨g, cap, hAv⟩ : ∃ g cap, Value.slice A hs.length cc = .slice (some ⟨g, 0, none⟩) hs.length cap := by
          rcases HOwn.out.2 with ⟨_, h0⟩ | ⟨g, cap, _, h1, _⟩
          · exact absurd (List.eq_nil_of_length_eq_zero h0) hnil
          · exact ⟨g, cap, h1⟩
        injection hAv with hA1 hA2 hA3
        subst hA1; subst hA3
        have hpos : 0 < hs.length := List.length_pos_iff.2 hnil
        have hj : N % hs.length < hs.length := Nat.mod_lt _ hpos
        have hmod : (N : Int) % (hs.length : Int) = ((N % hs.length : Nat) : Int) := (Int.natCast_emod N hs.length).symm
        have hcell := own_cell_int HOwn.out _ hj
        have hglt := block_lt_of_cell hcell
        have hx12 : hgtB (hs.getD (N % hs.length) 1) = true := by
          rw [List.getD_eq_getElem?_getD, List.getElem?_eq_getElem hj]
          exact List.all_eq_true.1 Hgt.out _ (List.getElem_mem hj)
        have htw : towerOf hs N = (hs.getD (N % hs.length) 1).toNat := by unfold towerOf; rw [if_neg hnil]
        obtain ⟨x, hx⟩ : ∃ x, x = hs.getD (N % hs.length) 1 := ⟨_, rfl⟩
        rw [← hx] at hcell hx12 htw
        obtain ⟨j, hjj⟩ : ∃ j, j = N % hs.length := ⟨_, rfl⟩
        rw [← hjj] at hcell hj hmod
        simp only [hgtB, Bool.and_eq_true, decide_eq_true_eq] at hx12
        obtain ⟨hx1, hx2⟩ := hx12
        have hj1 : (j : Int) < hs.length := by omega
        have Htow := Lib.hid htw
        have hmod' : (N : Int).tmod (hs.length : Int) = (j : Int) := by rw [Int.tmod_eq_emod_of_nonneg (by omega)]; exact hmod
        have hwj : IntKind.i64.wrap (j : Int) = j := IntWalk.i64_in _ ⟨by omega, by omega⟩
        have hjn : (j : Int).toNat = j := by omega
        clear hjj hx htw hmod
        go_wp2_with fail
        refine region_still_tail 15 (by kernel_rfl) (by kernel_rfl) ?_
        simp only [List.take_succ_cons, List.take_zero, List.drop_succ_cons, List.drop_zero]
        repeat still_step
        refine wpStill_nil ?_
        go_wp2_with fail
        go_meet
        have hta := (HST.out.tower (nodup_new hT.nodup (fun n hn => Nat.lt_of_lt_of_le (hT.chain.lt n hn) hgesz)) hgesz (towerOf hs N)).drew
        rw [World.setCell_alloc_at _ _ _ _ _ rfl, Htow.out, show ((x.toNat : Nat) : Int) = x from by omega] at hta
        rw [Htow.out]
        exact hta
    case rest =>
      obtain ⟨c, hcdef⟩ : ∃ c, c = towerOf hs N := ⟨_, rfl⟩
      rw [← hcdef] at hcut
      have hc12 : 1 ≤ c ∧ c ≤ 12 := by rw [hcdef]; exact tower_ok Hgt.out N
      obtain ⟨hc1, hc2⟩ := hc12
      have Hcd := Lib.hid hcdef
      obtain ⟨n1, n2, n3, n4, n5⟩ := hcut.ne
      have t4 : wc.cell? ⟨w4.heap.size, 4, none⟩ = some (.int .i64 c) := by rw [cell_of_row wc _ _ _ _ _ hcut.new]; rfl
      have Hc := Lib.hid hcut
      have HNd : Hid (∀ h, ((tw ++ newN w4.heap.size e h c :: dw).map (·.b)).Nodup) := fun h => nodup_new hT.nodup (fun n hn => Nat.lt_of_lt_of_le (hT.chain.lt n hn) hgesz)
      have HPrev : Hid (∀ h, prevB tb e (tw ++ dw) h = lastB tb (tw.filter fun n => decide (h < n.t))) := fun h => by unfold prevB; rw [Htw.out]
      have Hge := Lib.hid hgesz
      have Hrest := Lib.hid hT
      clear hcut hcdef hgesz hT e0 e1 e2 e3 s0 s1 s2 s3 HST hlt3 hltb htlt hlt hgw hlen
      go_wp2
      go_loopw [82] (fun i wr => ∃ k : Nat, k ≤ c ∧ i = .int .i64 k ∧ AddW w wr tb (.slice A hs.length cc) N S e tw dw w4.heap.size k c w3.heap.size w.heap.size) (fun i _ => c - (intOf i).toNat)
      case atStart => exact ⟨0, Nat.zero_le _, rfl, Hc.out⟩
      case round =>
        obtain ⟨k, hk, rfl, ha⟩ := hrel
        by_cases hkc : k < c
        · have r0 : wr.cell? ⟨w3.heap.size, k, none⟩ = some (.pointer (some ⟨prevB tb e (tw ++ dw) k, 0, none⟩)) := by rw [cell_of_row wr _ _ _ _ _ ha.row]; exact row12_get _ _ _ k (by omega)
          obtain ⟨r1, f1⟩ := ha.prevlink (h := k) (by omega) (HPrev.out k)
          have r2 : wr.cell? ⟨w4.heap.size, 5 + k, none⟩ = some (.pointer none) := by
            rw [cell_of_row wr _ _ _ _ _ ha.new, ndCells_link _ _ _ (by omega)]
            unfold linkV newN; rw [if_neg (Nat.lt_irrefl _)]
          have f2 := frozen_of_row wr w4.heap.size (5 + k) _ _ ha.new
          have hPne : prevB tb e (tw ++ dw) k ≠ w4.heap.size := ha.prev_ne (HPrev.out k) (HNd.out k)
          have hk12 : (k : Int) < 12 := by omega
          have Ha := Lib.hid ha
          clear ha t4 n1 n2 n3 n4 n5
          generalize hPk : prevB tb e (tw ++ dw) k = Pk at *
          have HPk := Lib.hid hPk
          clear hPk
          go_wp2
          go_region
          go_wp2
          go_roundw
          case rel => exact ⟨k + 1, by omega, by go_num, by have := (Ha.out.link (by omega) (HNd.out k) Hge.out (HPrev.out k)).drew; rw [HPk.out] at this; exact this⟩
          case measure => simp [intOf]; omega
        · have ek : k = c := by omega
          subst ek
          obtain ⟨n1, n2, n3, n4, n5⟩ := ha.ne
          have u1 : wr.cell? ⟨tb, 18, none⟩ = some (.int .i64 N) := by rw [cell_of_row wr _ _ _ _ _ ha.blk]; rfl
          have v1 := frozen_of_row wr tb 18 _ _ ha.blk
          have v2 := frozen_of_row wr tb 19 _ _ ha.blk
          have u2 : wr.cell? ⟨tb, 19, none⟩ = some (.int .i64 S) := by rw [cell_of_row wr _ _ _ _ _ ha.blk]; rfl
          have x0 := cell_of_row wr _ 0 _ _ _ ha.box
          have x1 := cell_of_row wr _ 1 _ _ _ ha.box
          simp only [List.getElem?_toArray, List.getElem?_cons_zero, List.getElem?_cons_succ] at x0 x1
          have Ha := Lib.hid ha
          have hw1 : IntKind.i64.wrap ((e.k.size : Int) + e.v.size) = (e.k.size : Int) + e.v.size := IntWalk.i64_in _ ⟨by omega, by omega⟩
          have hw2 : IntKind.i64.wrap (S + ((e.k.size : Int) + e.v.size)) = S + ((e.k.size : Int) + e.v.size) := IntWalk.i64_in _ ⟨by omega, by omega⟩
          clear ha t4
          go_wp2
          refine region_still_tail 14 (by kernel_rfl) (by kernel_rfl) ?_
          simp only [List.take_succ_cons, List.take_zero, List.drop_succ_cons, List.drop_zero]
          repeat still_step
          refine wpStill_nil ?_
          go_wp2
          go_ret
          have hfin := ((Ha.out.count (N + 1)).bytes (S + ((e.k.size : Int) + e.v.size))).drew
          have hlenN : ((tw ++ newN w4.heap.size e k k :: dw).length : Int) = N + 1 := by have := HN.out; simp only [List.length_append, List.length_cons] at this ⊢; omega
          have hsumS : ((tw ++ newN w4.heap.size e k k :: dw).map fun n => (n.e.k.size : Int) + n.e.v.size).sum = S + ((e.k.size : Int) + e.v.size) := by
            rw [HS.out]
            unfold bytesOf
            simp only [List.map_append, List.map_cons, List.sum_append, List.sum_cons, newN]
            omega
          refine ⟨w4.heap.size, rfl, Hge.out, ?_, hfin.off⟩
          rw [← HN.out, ← Hcd.out]
          refine ⟨?_, hfin.chain, HNd.out k, ?_, ?_, sorted_insert Hrest.out.sorted Htw.out Hdw.out Hnot.out⟩
          · rw [hlenN, hsumS]; exact hfin.blk
          · refine own_keep Hrest.out.own fun g hg => hfin.off.block g (Hrest.out.own.lt g hg).2 ?_
            intro hm
            rcases List.mem_cons.1 hm with rfl | hm
            · exact own_ne Hrest.out.own hg Hrest.out.blk (by decide) rfl
            · obtain ⟨n, hn, he⟩ := List.mem_map.1 hm
              obtain ⟨us, vs, hsp⟩ := List.append_of_mem hn
              have hc := Hrest.out.chain
              rw [hsp] at hc
              exact own_ne Hrest.out.own hg hc.at_ (by decide) he.symm
          · intro n hn
            rcases List.mem_append.1 hn with hn | hn
            · exact Hrest.out.towers n (List.mem_append_left _ hn)
            · rcases List.mem_cons.1 hn with rfl | hn
              · exact ⟨rfl, hc1, hc2⟩
              · exact Hrest.out.towers n (List.mem_append_right _ hn)

end Go.Proofs.Ytgineehniclkeaa
