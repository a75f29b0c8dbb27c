/- The chapter's table is made, and tells what the chapter says; the memtable's other calls as the statements see them. -/
import Derived.Test.YtgineehniclkeaaC1
namespace Go.Proofs.Ytgineehniclkeaa
open Go.RowKit

theorem TabS.mono {B B' : Nat} {w : World} {tb : Nat} {hs : List Int} {ps : List (Ent × Nat)} {S : List Nat} (h : TabS B w tb hs ps S) (hB : B' ≤ B) : TabS B' w tb hs ps S := by
  obtain ⟨hv, ns, hT, h1, h2, h3, h4, h5⟩ := h
  exact ⟨hv, ns, hT, h1, h2, fun x hx => Nat.le_trans hB (h3 x hx), fun g hg => Nat.le_trans hB (h4 g hg), h5⟩

theorem New_S (A : Option Addr) (c B : Nat) (hs : List Int) (w : World) (h : Ints w B A hs) (hl : hs.length ≤ 1000000) (hA : hs = [] → A = none → c = 0) (hok : hs.all hgtB = true) :
    Calls Try.prog 11 #[.slice A hs.length c] w fun e w' => ∃ tb, e = .returned (.tuple #[.pointer (some ⟨tb, 0, none⟩), .int .i64 0]) ∧ w.heap.size ≤ tb ∧ TabS w.heap.size w' tb hs [] [tb] ∧ Below w.heap.size w w' := by
  refine (New_ok A c B hs w h hl hA hok).mono ?_
  rintro e w' ⟨tb, hv, rfl, htb, hT, hg, hb⟩
  exact ⟨tb, rfl, htb, ⟨hv, [], hT, rfl, rfl, by simpa using htb, hg, by simp⟩, hb⟩

theorem valsL_get : ∀ (es : List Ent) (i j : Nat) (hi : i < es.length) (_hj : j < 4), (valsL es)[i * 4 + j]? = (es[i].vals)[j]?
  | e :: es, 0, j, _, hj => by
    show (e.vals ++ valsL es)[0 * 4 + j]? = _
    rw [List.getElem?_append_left (by simp [Ent.vals]; omega)]
    simp
  | e :: es, i + 1, j, hi, hj => by
    show (e.vals ++ valsL es)[(i + 1) * 4 + j]? = _
    rw [List.getElem?_append_right (by simp [Ent.vals]; omega)]
    have h4 : e.vals.length = 4 := rfl
    rw [h4, show (i + 1) * 4 + j - 4 = i * 4 + j from by omega, valsL_get es i j (by simpa using hi) hj]
    rfl

theorem ents_of_own {w : World} {base : Nat} {v : Value} {es : List Ent} (h : w.ownsRow base 32 4 v es.length (valsL es)) : ∃ A c, v = .slice A es.length c ∧ Ents w w.heap.size A es := by
  rcases id h.2 with ⟨rfl, h0⟩ | ⟨g, cap, cur, rfl, _, hg, _⟩
  · have he := List.eq_nil_of_length_eq_zero h0
    subst he
    exact ⟨none, 0, rfl, Ents.nil⟩
  · refine ⟨_, _, rfl, fun _ => ⟨g, 0, rfl, heap_lt hg, fun i hi => ?_⟩⟩
    have hc : ∀ j, j < 4 → w.cell? ⟨g, 0 + i * 4 + j, none⟩ = (es[i].vals)[j]? := by
      intro j hj
      have hv := valsL_get es i j hi hj
      have hs : ∃ u, (es[i].vals)[j]? = some u := ⟨_, List.getElem?_eq_getElem (show j < es[i].vals.length from hj)⟩
      obtain ⟨u, hu⟩ := hs
      rw [hu] at hv ⊢
      have := h.cells (g := g) rfl _ _ hv
      rw [addr_add0] at this
      rw [Nat.zero_add]; exact this
    exact ⟨hc 0 (by omega), hc 1 (by omega), hc 2 (by omega), hc 3 (by omega)⟩

theorem all_S (B tb : Nat) (hs : List Int) (ps : List (Ent × Nat)) (S : List Nat) (k : Nat) (w : World) (h : TabS B w tb hs ps S) (hlen : ps.length ≤ 100000) :
    Calls Try.prog 14 #[.pointer (some ⟨tb, 0, none⟩), .int .i64 k] w fun e w' => ∃ A c, e = .returned (.slice A ((ps.map (·.1)).take k).length c) ∧ Ents w' w'.heap.size A ((ps.map (·.1)).take k) ∧ Below w.heap.size w w' := by
  obtain ⟨hv, ns, hT, rfl, _, _, _, _⟩ := id h
  have hlen' : ns.length ≤ 1000000 := by unfold proj at hlen; rw [List.length_map] at hlen; omega
  have e1 : (proj ns).map (·.1) = ns.map (·.e) := by unfold proj; rw [List.map_map]; rfl
  rw [e1]
  refine (all_any tb hv hs ns k w hT hlen').mono ?_
  rintro e w' ⟨v, rfl, hown, hb⟩
  obtain ⟨A, c, rfl, he⟩ := ents_of_own hown
  exact ⟨A, c, rfl, he, hb⟩

def eB1 : Ent := ⟨⟨#[98]⟩, ⟨#[]⟩, 1, false⟩
def eA2 : Ent := ⟨⟨#[97]⟩, ⟨#[]⟩, 2, false⟩
def eB3 : Ent := ⟨⟨#[98]⟩, ⟨#[]⟩, 3, false⟩
def exP : List (Ent × Nat) := [(eA2, 1), (eB3, 3), (eB1, 2)]
def exH : List Int := [2, 1, 3]

theorem ltsL (a b : List UInt8) : lts ⟨a.toArray⟩ ⟨b.toArray⟩ = Op.bytesLess a b := by simp [lts]
theorem ltsBA : lts ⟨#[98]⟩ ⟨#[97]⟩ = false := ltsL [98] [97]
theorem ltsAB : lts ⟨#[97]⟩ ⟨#[98]⟩ = true := ltsL [97] [98]
theorem ltsBB : lts ⟨#[98]⟩ ⟨#[98]⟩ = false := lts_irrefl _
theorem ba_ab : ((⟨#[98]⟩ : ByteArray) = ⟨#[97]⟩) = False := by simp
theorem ab_ba : ((⟨#[97]⟩ : ByteArray) = ⟨#[98]⟩) = False := by simp
theorem okB1 : okB eB1 = true := by decide
theorem okA2 : okB eA2 = true := by decide
theorem okB3 : okB eB3 = true := by decide

theorem ex1 : addR [] eB1 = 0 ∧ addP exH [] eB1 = [(eB1, 2)] := by
  have h : addR [] eB1 = 0 := by unfold addR; rw [if_pos okB1]; rfl
  exact ⟨h, by unfold addP; rw [if_pos h]; rfl⟩
theorem ah1 : ahead eB1 eA2 = false := by simp [ahead, eB1, eA2, ltsBA]
theorem ah2 : ahead eA2 eB3 = true := by simp [ahead, eA2, eB3, ltsAB]
theorem ah3 : ahead eB1 eB3 = false := by simp [ahead, eB1, eB3, ltsBB]
theorem ex2 : addR [(eB1, 2)] eA2 = 0 ∧ addP exH [(eB1, 2)] eA2 = [(eA2, 1), (eB1, 2)] := by
  have hd : ([(eB1, 2)] : List (Ent × Nat)).dropWhile (fun p => ahead p.1 eA2) = [(eB1, 2)] := by simp [ah1]
  have h : addR [(eB1, 2)] eA2 = 0 := by unfold addR; rw [if_pos okA2, hd]; simp [eB1, eA2]
  exact ⟨h, by unfold addP; rw [if_pos h]; simp [ah1, towerOf, exH]⟩
theorem ex3 : addR [(eA2, 1), (eB1, 2)] eB3 = 0 ∧ addP exH [(eA2, 1), (eB1, 2)] eB3 = exP := by
  have hd : ([(eA2, 1), (eB1, 2)] : List (Ent × Nat)).dropWhile (fun p => ahead p.1 eB3) = [(eB1, 2)] := by simp [ah2, ah3]
  have h : addR [(eA2, 1), (eB1, 2)] eB3 = 0 := by unfold addR; rw [if_pos okB3, hd]; simp [eB1, eB3]
  exact ⟨h, by unfold addP; rw [if_pos h]; simp [ah2, ah3, towerOf, exH, exP]⟩

set_option maxRecDepth 100000 in
set_option maxHeartbeats 1000000 in
theorem example_any (w : World) : Calls Try.prog 22 #[] w fun e w' => ∃ tb S, e = .returned (.pointer (some ⟨tb, 0, none⟩)) ∧ TabS w.heap.size w' tb exH exP S ∧ Below w.heap.size w w' := by
  go_enter Try.func22, Try.ntmps22
  go_wp2_with fail
  have hI : Ints (w.alloc (.cells #[.int .i64 2, .int .i64 1, .int .i64 3] 3)) (w.heap.size + 1) (some ⟨w.heap.size, 0, none⟩) exH := fun _ => ⟨w.heap.size, 0, rfl, by omega, fun i hi => by
    match i, hi with
    | 0, _ => simp [exH]
    | 1, _ => simp [exH, World.cell?_alloc_at]
    | 2, _ => simp [exH, World.cell?_alloc_at]
    | i + 3, hi => exact absurd hi (by simp [exH])⟩
  refine (New_S (some ⟨w.heap.size, 0, none⟩) 3 _ exH _ hI (by decide) (fun h => by cases h) (by decide)).mono ?_
  rintro e w1 ⟨tb, rfl, htb, hS, hb⟩
  have hb1 : Below w.heap.size w w1 := ((Below.refl _ _).alloc (Nat.le_refl _) _).trans (hb.mono (by simp))
  have hS' := hS.mono (B' := w.heap.size) (by simp)
  have HS := Lib.hid hS'
  have HB := Lib.hid hb1
  clear hI hS hS' hb hb1 htb
  go_wp2_with fail
  refine (Add_S w.heap.size tb exH [] [tb] eB1 w1 HS.out HB.out.size (by simp) (by decide) (by decide) (by decide) (by decide)).mono ?_
  rintro e w2 ⟨rfl, S2, hS2, _, hb2, _⟩
  rw [ex1.1]
  rw [ex1.2] at hS2
  have HS2 := Lib.hid hS2
  have HB2 := Lib.hid (HB.out.trans hb2)
  clear hS2 hb2 HS HB
  go_wp2_with fail
  refine (Add_S w.heap.size tb exH _ S2 eA2 w2 HS2.out HB2.out.size (by simp) (by decide) (by decide) (by decide) (by decide)).mono ?_
  rintro e w3 ⟨rfl, S3, hS3, _, hb3, _⟩
  rw [ex2.1]
  rw [ex2.2] at hS3
  have HS3 := Lib.hid hS3
  have HB3 := Lib.hid (HB2.out.trans hb3)
  clear hS3 hb3 HS2 HB2
  go_wp2_with fail
  refine (Add_S w.heap.size tb exH _ S3 eB3 w3 HS3.out HB3.out.size (by simp) (by decide) (by decide) (by decide) (by decide)).mono ?_
  rintro e w4 ⟨rfl, S4, hS4, _, hb4, _⟩
  rw [ex3.1]
  rw [ex3.2] at hS4
  have HS4 := Lib.hid hS4
  have HB4 := Lib.hid (HB3.out.trans hb4)
  clear hS4 hb4 HS3 HB3
  go_wp2
  go_ret
  exact ⟨tb, S4, rfl, HS4.out, HB4.out⟩

theorem getEP (ps : List (Ent × Nat)) (key : ByteArray) (seq : Int) : ∀ ns, proj ns = ps → getE ns key seq = match ps.dropWhile fun p => ahead p.1 ⟨key, ByteArray.empty, seq, false⟩ with
    | [] => (Ent.zero, false)
    | p :: _ => if p.1.k = key then (p.1, true) else (Ent.zero, false) := by
  rintro ns rfl
  rw [dropWhile_proj]
  unfold getE proj
  cases ns.dropWhile fun n => ahead n.e ⟨key, ByteArray.empty, seq, false⟩ <;> rfl

/-- What Get tells. -/
def getP (ps : List (Ent × Nat)) (key : ByteArray) (seq : Int) : Ent × Bool :=
  match ps.dropWhile fun p => ahead p.1 ⟨key, ByteArray.empty, seq, false⟩ with
  | [] => (Ent.zero, false)
  | p :: _ => if p.1.k = key then (p.1, true) else (Ent.zero, false)

theorem Get_S (B tb : Nat) (hs : List Int) (ps : List (Ent × Nat)) (S : List Nat) (key : ByteArray) (seq : Int) (w : World) (h : TabS B w tb hs ps S) (hlen : ps.length ≤ 100000) :
    Calls Try.prog 17 #[.pointer (some ⟨tb, 0, none⟩), .string key, .int .i64 seq] w fun e w' =>
      e = .returned (.tuple #[.agg #[.string (getP ps key seq).1.k, .string (getP ps key seq).1.v, .int .i64 (getP ps key seq).1.s, .bool (getP ps key seq).1.d], .bool (getP ps key seq).2]) ∧ Below w.heap.size w w' := by
  obtain ⟨hv, ns, hT, hp, _, _, _, _⟩ := id h
  have hlen' : ns.length ≤ 1000000 := by rw [← hp] at hlen; unfold proj at hlen; rw [List.length_map] at hlen; omega
  have hg : getE ns key seq = getP ps key seq := getEP ps key seq ns hp
  have := Get_any tb hv hs ns key seq w hT hlen'
  rwa [hg] at this

theorem exGet : getP exP ⟨#[98]⟩ 2 = (eB1, true) := by
  have h1 : ahead eA2 ⟨⟨#[98]⟩, ByteArray.empty, 2, false⟩ = true := by simp [ahead, eA2, ltsAB]
  have h2 : ahead eB3 ⟨⟨#[98]⟩, ByteArray.empty, 2, false⟩ = true := by simp [ahead, eB3]
  have h3 : ahead eB1 ⟨⟨#[98]⟩, ByteArray.empty, 2, false⟩ = false := by simp [ahead, eB1, ltsBB]
  have hd : exP.dropWhile (fun p => ahead p.1 ⟨⟨#[98]⟩, ByteArray.empty, 2, false⟩) = [(eB1, 2)] := by simp [exP, h1, h2, h3]
  unfold getP
  rw [hd]
  simp [eB1]

theorem lit3 (w : World) (a b c : Ent) : Ents (w.alloc (.cells #[.string a.k, .string a.v, .int .i64 a.s, .bool a.d, .string b.k, .string b.v, .int .i64 b.s, .bool b.d, .string c.k, .string c.v, .int .i64 c.s, .bool c.d] 32)) (w.heap.size + 1) (some ⟨w.heap.size, 0, none⟩) [a, b, c] := fun _ =>
  ⟨w.heap.size, 0, rfl, Nat.lt_succ_self _, fun i hi => by
    match i, hi with
    | 0, _ => simp [World.cell?_alloc_at]
    | 1, _ => simp [World.cell?_alloc_at]
    | 2, _ => simp [World.cell?_alloc_at]
    | i + 3, hi => exact absurd hi (by simp)⟩

set_option maxRecDepth 100000 in
set_option maxHeartbeats 1000000 in
theorem lives_any (w : World) : Calls Try.prog 9 #[] w fun e w' => e = .returned (.bool true) ∧ Below w.heap.size w w' := by
  go_enter Try.func9, Try.ntmps9
  go_wp2_with fail
  refine (example_any _).mono ?_
  rintro e w1 ⟨tb, S, rfl, hS, hb⟩
  have HS := Lib.hid hS
  have HB := Lib.hid hb
  clear hS hb
  go_wp2_with fail
  have hget : Calls Try.prog 17 #[.pointer (some ⟨tb, 0, none⟩), .string ⟨#[98]⟩, .int .i64 2] w1 fun e w' =>
      e = .returned (.tuple #[.agg #[.string ⟨#[98]⟩, .string ⟨#[]⟩, .int .i64 1, .bool false], .bool true]) ∧ Below w1.heap.size w1 w' := by
    have := Get_S w.heap.size tb exH exP S ⟨#[98]⟩ 2 w1 HS.out (by simp [exP])
    rw [exGet] at this
    exact this
  refine hget.mono ?_
  rintro e w2 ⟨rfl, hb2⟩
  have HS2 := Lib.hid (HS.out.below hb2)
  have HB2 := Lib.hid (HB.out.trans (hb2.mono HB.out.size))
  clear hget hb2 HS HB
  go_wp2_with fail
  have HSa := HS2.out.below ((Below.refl _ w2).alloc (Nat.le_refl _) (.cells #[.string ⟨#[98]⟩, .string ⟨#[]⟩, .int .i64 1, .bool false] 32))
  refine (all_S w.heap.size tb exH exP S 9 _ HSa (by simp [exP])).mono ?_
  rintro e w3 ⟨A, c, rfl, hE, hb3⟩
  have hx : (exP.map (·.1)).take 9 = [eA2, eB3, eB1] := rfl
  rw [hx] at hE
  have hb3' : Below w.heap.size w w3 := (HB2.out.alloc HB2.out.size _).trans (hb3.mono (by have := HB2.out.size; simp; omega))
  have HE := Lib.hid hE
  have HB3 := Lib.hid hb3'
  clear hE hb3 hb3' HSa hx
  go_wp2_with fail
  rw [show min 9 exP.length = 3 from rfl]
  have hE2 := lit3 w3 eA2 eB3 eB1
  have hE1 := (HE.out.below ((Below.refl w3.heap.size w3).alloc (Nat.le_refl _) (.cells #[.string eA2.k, .string eA2.v, .int .i64 eA2.s, .bool eA2.d, .string eB3.k, .string eB3.v, .int .i64 eB3.s, .bool eB3.d, .string eB1.k, .string eB1.v, .int .i64 eB1.s, .bool eB1.d] 32))).more (Nat.le_succ _)
  refine (SameEntries_any A (some ⟨w3.heap.size, 0, none⟩) c 3 (w3.heap.size + 1) [eA2, eB3, eB1] [eA2, eB3, eB1] _ hE1 hE2 (by simp)).mono ?_
  rintro e w4 ⟨rfl, m, rfl⟩
  rw [show decide ([eA2, eB3, eB1] = [eA2, eB3, eB1]) = true from decide_eq_true rfl]
  clear hE1 hE2
  go_wp2
  go_ret
  exact ⟨rfl, below_drewN (HB3.out.alloc HB3.out.size _) _⟩

end Go.Proofs.Ytgineehniclkeaa
