/- Contracts of mem.New, Len, Size, Get, Cost, Lane; of every table that lies in memory. -/
import Derived.Test.YtgineehniclkeaaA3
import Derived.Test.YtgineehniclkeaaA4
import Derived.RangeFuncBox
import Derived.Maps.AppendAt
namespace Go.Proofs.Ytgineehniclkeaa
open Go.RowKit

/-- A slice of numbers at A reads as hs; its cells lie below block B. -/
def Ints (w : World) (B : Nat) (A : Option Addr) (hs : List Int) : Prop :=
  hs ≠ [] → ∃ b o, A = some ⟨b, o, none⟩ ∧ b < B ∧ ∀ i (h : i < hs.length), w.cell? ⟨b, o + i, none⟩ = some (.int .i64 hs[i])
theorem Ints.below {w w' : World} {B : Nat} {A : Option Addr} {es : List Int} (h : Ints w B A es) (hb : Below B w w') : Ints w' B A es := fun hn => by
  obtain ⟨b, o, e, hB, hc⟩ := h hn
  exact ⟨b, o, e, hB, fun i hi => (hb.cell (by exact hB)).trans (hc i hi)⟩
theorem Ints.more {w : World} {B B' : Nat} {A : Option Addr} {es : List Int} (h : Ints w B A es) (hB : B ≤ B') : Ints w B' A es := fun hn => by
  obtain ⟨b, o, e, hb, hc⟩ := h hn
  exact ⟨b, o, e, by omega, hc⟩
theorem Ints.nil {w : World} {B : Nat} {A : Option Addr} : Ints w B A [] := fun h => absurd rfl h

theorem Ints.news {w : World} {B : Nat} {ad : Addr} {A : Option Addr} {hs : List Int} (h : Ints w B A hs) (hA : A = some ad) : ∀ j u, (hs.map (Value.int .i64))[j]? = some u → w.cell? (ad.add j) = some u := by
  intro j u hu
  rw [List.getElem?_map] at hu
  obtain ⟨x, hx, rfl⟩ := Option.map_eq_some_iff.1 hu
  obtain ⟨hj, rfl⟩ := List.getElem?_eq_some_iff.1 hx
  obtain ⟨b, o, e, _, hc⟩ := h (by intro e; subst e; simp at hj)
  rw [e] at hA; cases hA
  rw [← hc j hj]
  unfold Addr.add
  split
  · subst_vars; rfl
  · rfl

theorem Try.info3 : (Try.prog.info? 3).map (fun i => (i.zero, i.size, i.bytes)) = some (some (.int .i64 0), 1, 8) := by kernel_rfl

/-- May a tower be as high? -/
def hgtB (h : Int) : Bool := decide (1 ≤ h) && decide (h ≤ 12)

theorem ownsRow_base {w : World} {base base' e size n : Nat} {v : Value} {xs : List Value} (h : w.ownsRow base e size v n xs) (hb : base' ≤ base) : w.ownsRow base' e size v n xs := by
  obtain ⟨h1, h2⟩ := h
  refine ⟨h1, ?_⟩
  rcases h2 with h2 | ⟨g, cap, cur, a, b, c, d⟩
  · exact .inl h2
  · exact .inr ⟨g, cap, cur, a, by omega, c, d⟩

/-- A table that has just been made. -/
theorem Tbl.new {w : World} {hv : Value} {hs : List Int} (h : w.ownsRow 0 3 1 hv hs.length (hs.map (Value.int .i64))) : Tbl (w.alloc (.cells (tbCells hv 0 0 []) 69)) w.heap.size hv hs [] :=
  ⟨heap_alloc_new _ _, trivial, by simp, h.alloc _, by simp, by simp⟩

set_option maxHeartbeats 1000000 in
theorem New_ok (A : Option Addr) (c B : Nat) (hs : List Int) (w : World) (h : Ints w B A hs) (hl : hs.length ≤ 1000000) (hA : hs = [] → A = none → c = 0) (hok : hs.all hgtB = true) :
    Calls Try.prog 11 #[.slice A hs.length c] w fun e w' => ∃ tb hv, e = .returned (.tuple #[.pointer (some ⟨tb, 0, none⟩), .int .i64 0]) ∧ w.heap.size ≤ tb ∧ Tbl w' tb hv hs [] ∧ (∀ g, hv.ownBlock = some g → w.heap.size ≤ g) ∧ Below w.heap.size w w' := by
  obtain ⟨i0, hi, hz0, hz1, hz2⟩ := info_parts Try.info3
  have hmax : hs.length ≤ 9223372036854775807 := by omega
  go_enter Try.func11, Try.ntmps11
  go_wp2
  go_loop [8] (fun i => ∃ k : Nat, k ≤ hs.length ∧ i = .int .i64 k) (fun i => hs.length - (intOf i).toNat)
  case atStart => exact ⟨0, Nat.zero_le _, rfl⟩
  case round =>
    obtain ⟨k, hk, rfl⟩ := hrel
    by_cases hlt : k < hs.length
    · have hne : hs ≠ [] := by intro e; subst e; simp at hlt
      obtain ⟨b, o, rfl, hbB, hc⟩ := h hne
      have hck := hc k hlt
      have hg : hgtB hs[k] = true := List.all_eq_true.1 hok _ (List.getElem_mem hlt)
      simp only [hgtB, Bool.and_eq_true, decide_eq_true_eq] at hg
      obtain ⟨hg1, hg2⟩ := hg
      clear h hc hok hA
      go_wp2
      go_round
      case rel => exact ⟨k + 1, by omega, by go_num⟩
      case measure => simp [intOf]; omega
    · have hend : hs.length ≤ k := by omega
      cases A with
      | none =>
        have he : hs = [] := by
          rcases hs with _ | ⟨a, l⟩
          · rfl
          · obtain ⟨_, _, e, _⟩ := h (by simp); cases e
        subst he
        obtain rfl := hA rfl rfl
        simp only [List.length_nil] at *
        go_wp2
        go_ret2
        exact ⟨w.heap.size, .slice none 0 0, rfl, Nat.le_refl _, Tbl.new (World.ownsRow_nil _ _ _ _), (fun g hg => by cases hg), (Below.refl _ _).alloc (Nat.le_refl _) _⟩
      | some ad =>
        have HN := Lib.hid (h.news (ad := ad) rfl)
        have HO := Lib.hid (ints_oneCell .i64 hs)
        clear hok hA
        go_wp2_with (at_builtin; refine wpList_append_own _ rfl _ _ 29 rfl w.heap.size 3 i0 (.int .i64 0) 1 8 Try.underlying29 hi hz0 hz1 hz2 rfl (by decide) _ 0 [] rfl (World.ownsRow_nil _ _ _ _) ad hs.length c (hs.map (Value.int .i64)) rfl (by simp) HN.out HO.out (by unfold maxLen; omega) (by omega) (Nat.le_refl _) ?_)
        intro v' w1 hown hgrow hnil
        try simp only [Nat.zero_add, List.nil_append] at hown
        have hbel : Below w.heap.size w w1 := (Below.refl _ _).grown hgrow (Nat.le_refl _) (fun k hk => by cases hk)
        have hform : ∃ ao n cap, v' = .slice ao n cap := by
          rcases hown.2 with ⟨rfl, _⟩ | ⟨g, cap, _, rfl, _⟩
          · exact ⟨_, _, _, rfl⟩
          · exact ⟨_, _, _, rfl⟩
        obtain ⟨ao, n', cap', rfl⟩ := hform
        go_wp2
        go_ret2
        exact ⟨w1.heap.size, _, rfl, hbel.size, Tbl.new (ownsRow_base hown (Nat.zero_le _)), (fun g hg => (hown.lt g hg).1), hbel.alloc hbel.size _⟩

set_option maxHeartbeats 1000000 in
theorem New_bad (A : Option Addr) (c B : Nat) (hs : List Int) (w : World) (h : Ints w B A hs) (hl : hs.length ≤ 1000000) (hbad : hs.all hgtB = false) :
    Calls Try.prog 11 #[.slice A hs.length c] w fun e w' => e = .returned (.tuple #[.pointer none, .int .i64 2]) ∧ w = w' := by
  have hmax : hs.length ≤ 9223372036854775807 := by omega
  go_enter Try.func11, Try.ntmps11
  go_wp2
  go_loop [8] (fun i => ∃ k : Nat, k ≤ hs.length ∧ i = .int .i64 k ∧ (hs.take k).all hgtB = true) (fun i => hs.length - (intOf i).toNat)
  case atStart => exact ⟨0, Nat.zero_le _, rfl, by simp⟩
  case round =>
    obtain ⟨k, hk, rfl, ht⟩ := hrel
    by_cases hlt : k < hs.length
    · have hne : hs ≠ [] := by intro e; subst e; simp at hlt
      obtain ⟨b, o, rfl, hbB, hc⟩ := h hne
      have hck := hc k hlt
      have HT := Lib.hid ht
      have HBad := Lib.hid hbad
      clear h hc hbad ht
      go_wp2
      · go_ret2
        exact ⟨rfl, rfl⟩
      · go_ret2
        exact ⟨rfl, rfl⟩
      · go_round
        case rel => exact ⟨k + 1, by omega, by go_num, by rw [all_snoc _ _ hlt, HT.out]; simp [hgtB]; omega⟩
        case measure => simp [intOf]; omega
    · have ek : k = hs.length := by omega
      subst ek
      rw [List.take_length] at ht
      rw [ht] at hbad; cases hbad

theorem Tbl.scal {w : World} {tb : Nat} {hv : Value} {hs : List Int} {ns : List Nd} (h : Tbl w tb hv hs ns) : w.cell? ⟨tb, 17, none⟩ = some hv ∧ w.cell? ⟨tb, 18, none⟩ = some (.int .i64 ns.length) ∧
    w.cell? ⟨tb, 19, none⟩ = some (.int .i64 (ns.map fun n => (n.e.k.size : Int) + n.e.v.size).sum) ∧ w.cell? ⟨tb, 20, none⟩ = some (.bool true) := by
  refine ⟨?_, ?_, ?_, ?_⟩ <;> rw [cell_of_row w _ _ _ _ _ h.blk] <;> rfl

set_option maxHeartbeats 400000 in
theorem Len_any (tb : Nat) (hv : Value) (hs : List Int) (ns : List Nd) (w : World) (hT : Tbl w tb hv hs ns) :
    Calls Try.prog 21 #[.pointer (some ⟨tb, 0, none⟩)] w fun e w' => e = .returned (.int .i64 ns.length) ∧ w = w' := by
  obtain ⟨s0, s1, s2, s3⟩ := hT.scal
  go_enter Try.func21, Try.ntmps21
  go_wp2_with (go_at_call 35; refine (none_any tb hv hs ns _ hT).mono ?_; rintro e w' ⟨rfl, rfl⟩)
  go_ret
  exact ⟨rfl, rfl⟩

set_option maxHeartbeats 400000 in
theorem Size_any (tb : Nat) (hv : Value) (hs : List Int) (ns : List Nd) (w : World) (hT : Tbl w tb hv hs ns) :
    Calls Try.prog 24 #[.pointer (some ⟨tb, 0, none⟩)] w fun e w' => e = .returned (.int .i64 (ns.map fun n => (n.e.k.size : Int) + n.e.v.size).sum) ∧ w = w' := by
  obtain ⟨s0, s1, s2, s3⟩ := hT.scal
  go_enter Try.func24, Try.ntmps24
  go_wp2_with (go_at_call 35; refine (none_any tb hv hs ns _ hT).mono ?_; rintro e w' ⟨rfl, rfl⟩)
  go_ret
  exact ⟨rfl, rfl⟩

theorem last_split (h : Nat) : ∀ (l : List Nd) (tb : Nat), (lastB tb (l.filter fun n => decide (h < n.t)) = tb ∧ ∀ n ∈ l, ¬ h < n.t) ∨
    ∃ p n q, l = p ++ n :: q ∧ h < n.t ∧ (∀ m ∈ q, ¬ h < m.t) ∧ lastB tb (l.filter fun n => decide (h < n.t)) = n.b
  | [], tb => .inl ⟨rfl, by simp⟩
  | a :: l, tb => by
    by_cases ha : h < a.t
    · rw [List.filter_cons, if_pos (by simpa using ha)]
      rcases last_split h l a.b with ⟨h1, h2⟩ | ⟨p, n, q, h1, h2, h3, h4⟩
      · exact .inr ⟨[], a, l, rfl, ha, h2, h1⟩
      · exact .inr ⟨a :: p, n, q, by rw [h1]; rfl, h2, h3, h4⟩
    · rw [List.filter_cons, if_neg (by simpa using ha)]
      rcases last_split h l tb with ⟨h1, h2⟩ | ⟨p, n, q, h1, h2, h3, h4⟩
      · exact .inl ⟨h1, fun n hn => by
          rcases List.mem_cons.1 hn with rfl | hn
          · exact ha
          · exact h2 n hn⟩
      · exact .inr ⟨a :: p, n, q, by rw [h1]; rfl, h2, h3, h4⟩

theorem Tbl.prev_next {w : World} {tb : Nat} {hv : Value} {hs : List Int} {ns : List Nd} (hT : Tbl w tb hv hs ns) (e : Ent) {h : Nat} (hh : h < 12) :
    w.cell? ⟨prevB tb e ns h, 5 + h, none⟩ = some (.pointer (nextB h (ns.dropWhile fun n => ahead n.e e))) := by
  have hsp : ns = (ns.takeWhile fun n => ahead n.e e) ++ (ns.dropWhile fun n => ahead n.e e) := (List.takeWhile_append_dropWhile).symm
  unfold prevB
  rcases last_split h (ns.takeWhile fun n => ahead n.e e) tb with ⟨h1, h2⟩ | ⟨p, n, q, h1, h2, h3, h4⟩
  · rw [h1, cell_of_row w _ _ _ _ _ hT.blk, tbCells_link _ _ _ _ _ hh]
    unfold linkV
    rw [if_pos hh]
    unfold nextB
    rw [← nextN_skip (l := ns.dropWhile fun n => ahead n.e e) h2, ← hsp]
  · rw [h4]
    have hc := hT.chain
    rw [h1, List.append_assoc, List.cons_append] at hsp
    rw [hsp] at hc
    rw [cell_of_row w _ _ _ _ _ hc.at_, ndCells_link _ _ _ hh]
    unfold linkV
    rw [if_pos h2]
    unfold nextB
    rw [nextN_skip h3]

theorem alloc_setRow (w : World) (c c' : Array Value) (t : TypeId) : (w.alloc (.cells c t)).setRow w.heap.size c' = w.alloc (.cells c' t) := by
  unfold World.setRow World.alloc
  congr 1
  apply Array.ext_getElem?
  intro i
  simp only [Array.getElem?_modify, Array.getElem?_push]
  by_cases hi : i = w.heap.size
  · subst hi; simp
  · rw [if_neg (fun e => hi e.symm), if_neg hi, if_neg hi]

/-- What Get tells. -/
def getE (ns : List Nd) (key : ByteArray) (seq : Int) : Ent × Bool :=
  match ns.dropWhile fun n => ahead n.e ⟨key, ByteArray.empty, seq, false⟩ with
  | [] => (Ent.zero, false)
  | n :: _ => if n.e.k = key then (n.e, true) else (Ent.zero, false)

set_option maxHeartbeats 1000000 in
theorem Cost_any (tb : Nat) (hv : Value) (hs : List Int) (ns : List Nd) (key : ByteArray) (seq : Int) (w : World) (hT : Tbl w tb hv hs ns) (hlen : ns.length ≤ 1000000) :
    Calls Try.prog 20 #[.pointer (some ⟨tb, 0, none⟩), .string key, .int .i64 seq] w fun e w' => e = .returned (.int .i64 (searchFrom ⟨key, ByteArray.empty, seq, false⟩ 12 ns)) ∧ Below w.heap.size w w' := by
  go_enter Try.func20, Try.ntmps20
  go_wp2_with (first | (go_at_call 35; refine (none_any tb hv hs ns _ hT).mono ?_; rintro e w' ⟨rfl, rfl⟩) | (go_at_call 36; refine (find_any tb hv hs ns ⟨key, ByteArray.empty, seq, false⟩ _ hT hlen).mono ?_; rintro e w' ⟨rfl, hb⟩) | (refine wpList_store_row rfl 65 (.tmp 7) (.tmp 17) rfl _ _ rfl rfl 65 _ (heap_alloc_new _ _) (by kernel_rfl) rfl (by simp [prevV, Value.oneCell']) ?_; rw [alloc_setRow]))
  go_ret
  exact ⟨rfl, hb.alloc hb.size _⟩

end Go.Proofs.Ytgineehniclkeaa
