/- The memtable in memory: the nodes in their blocks, each lane's links, the table's own block; how that stays while other memory is written; no condition. -/
import Derived.Test.YtgineehniclkeaaP2
namespace Go.Proofs.Ytgineehniclkeaa
open Go.RowKit

/-- What a node's link of a lane holds: the tower t, what stands behind. -/
def linkV (t h : Nat) (ys : List Nd) : Value := .pointer (if h < t then nextB h ys else none)
def links (t : Nat) (ys : List Nd) : List Value := [linkV t 0 ys, linkV t 1 ys, linkV t 2 ys, linkV t 3 ys, linkV t 4 ys, linkV t 5 ys, linkV t 6 ys, linkV t 7 ys, linkV t 8 ys, linkV t 9 ys, linkV t 10 ys, linkV t 11 ys]
def ndCells (n : Nd) (ys : List Nd) : Array Value := (n.e.vals ++ (.int .i64 n.c :: links n.t ys)).toArray
def tbCells (hv : Value) (len size : Int) (ns : List Nd) : Array Value := (Ent.zero.vals ++ (.int .i64 0 :: (links 12 ns ++ [hv, .int .i64 len, .int .i64 size, .bool true]))).toArray

theorem links_get (t : Nat) (ys : List Nd) (h : Nat) (hh : h < 12) : (links t ys)[h]? = some (linkV t h ys) := by
  match h, hh with
  | 0, _ | 1, _ | 2, _ | 3, _ | 4, _ | 5, _ | 6, _ | 7, _ | 8, _ | 9, _ | 10, _ | 11, _ => rfl
  | h + 12, hh => omega
theorem links_len (t : Nat) (ys : List Nd) : (links t ys).length = 12 := rfl

theorem ndCells_link (n : Nd) (ys : List Nd) (h : Nat) (hh : h < 12) : (ndCells n ys)[5 + h]? = some (linkV n.t h ys) := by
  match h, hh with
  | 0, _ | 1, _ | 2, _ | 3, _ | 4, _ | 5, _ | 6, _ | 7, _ | 8, _ | 9, _ | 10, _ | 11, _ => rfl
  | h + 12, hh => omega
theorem tbCells_link (hv : Value) (len size : Int) (ns : List Nd) (h : Nat) (hh : h < 12) : (tbCells hv len size ns)[5 + h]? = some (linkV 12 h ns) := by
  match h, hh with
  | 0, _ | 1, _ | 2, _ | 3, _ | 4, _ | 5, _ | 6, _ | 7, _ | 8, _ | 9, _ | 10, _ | 11, _ => rfl
  | h + 12, hh => omega

/-- The nodes lie in memory, each with its links. -/
def Chain (w : World) : List Nd → Prop
  | [] => True
  | n :: r => w.heap[n.b]? = some (.cells (ndCells n r) 67 (0, 0)) ∧ Chain w r

theorem Chain.keep {w w' : World} : ∀ {ns : List Nd}, (∀ n ∈ ns, w'.heap[n.b]? = w.heap[n.b]?) → Chain w ns → Chain w' ns
  | [], _, _ => trivial
  | n :: r, hk, h => ⟨(hk n (by simp)).trans h.1, Chain.keep (fun m hm => hk m (by simp [hm])) h.2⟩
theorem heap_lt {w : World} {g : Nat} {o : Obj} (h : w.heap[g]? = some o) : g < w.heap.size := by
  rcases Nat.lt_or_ge g w.heap.size with hlt | hge
  · exact hlt
  · rw [Array.getElem?_eq_none hge] at h; cases h
theorem Chain.lt {w : World} : ∀ {ns : List Nd}, Chain w ns → ∀ n ∈ ns, n.b < w.heap.size
  | [], _, n, hn => by simp at hn
  | m :: r, h, n, hn => by
    rcases List.mem_cons.1 hn with rfl | hn
    · exact heap_lt h.1
    · exact Chain.lt h.2 n hn
theorem Chain.at_ {w : World} : ∀ {us : List Nd} {m : Nd} {vs : List Nd}, Chain w (us ++ m :: vs) → w.heap[m.b]? = some (.cells (ndCells m vs) 67 (0, 0))
  | [], _, _, h => h.1
  | _ :: us, _, _, h => Chain.at_ (us := us) h.2

/-- The first block that is a node's. -/
structure Tbl (w : World) (tb : Nat) (hv : Value) (hs : List Int) (ns : List Nd) : Prop where
  blk : w.heap[tb]? = some (.cells (tbCells hv ns.length (ns.map fun n => (n.e.k.size : Int) + n.e.v.size).sum ns) 69 (0, 0))
  chain : Chain w ns
  nodup : (ns.map (·.b)).Nodup
  own : w.ownsRow 0 3 1 hv hs.length (hs.map (Value.int .i64))
  towers : ∀ n ∈ ns, n.t = n.c ∧ 1 ≤ n.t ∧ n.t ≤ 12
  sorted : ns.Pairwise fun a b => ahead a.e b.e = true

section
variable {w w' : World} {tb : Nat} {hv : Value} {hs : List Int} {ns : List Nd}
theorem Tbl.lt (h : Tbl w tb hv hs ns) : tb < w.heap.size := heap_lt h.blk
theorem own_keep {base e size n : Nat} {v : Value} {xs : List Value} (h : w.ownsRow base e size v n xs) (hk : ∀ g, v.ownBlock = some g → w'.heap[g]? = w.heap[g]?) : w'.ownsRow base e size v n xs := by
  obtain ⟨h1, h2⟩ := h
  refine ⟨h1, ?_⟩
  rcases h2 with h2 | ⟨g, cap, cur, a, b, c, d⟩
  · exact .inl h2
  · subst a
    exact .inr ⟨g, cap, cur, rfl, b, (hk g rfl).trans c, d⟩
theorem Tbl.below (h : Tbl w tb hv hs ns) (hb : Below w.heap.size w w') : Tbl w' tb hv hs ns :=
  ⟨(hb.block tb h.lt).trans h.blk, h.chain.keep fun n hn => hb.block _ (h.chain.lt n hn), h.nodup, own_keep h.own fun g hg => hb.block g (h.own.lt g hg).2, h.towers, h.sorted⟩
theorem own_ne {base e size n : Nat} {v : Value} {xs : List Value} (h : w.ownsRow base e size v n xs) {g b : Nat} {cs : Array Value} {t : TypeId} {fr : Nat × Nat} (hg : v.ownBlock = some g) (hb : w.heap[b]? = some (.cells cs t fr)) (hne : t ≠ e) : g ≠ b := by
  rcases h.2 with ⟨rfl, _⟩ | ⟨g', cap, cur, rfl, _, c, _⟩
  · cases hg
  · cases hg
    rintro rfl
    rw [hb] at c; cases c; exact hne rfl

/-- The link by which a search goes on from where it has come to. -/
theorem Tbl.next {e : Ent} {j : Nat} {xs ys : List Nd} (h : Tbl w tb hv hs ns) (a : At tb e ns j xs ys) (hj : j < 12) : w.cell? ⟨lastB tb xs, 5 + j, none⟩ = some (.pointer (nextB j ys)) := by
  rcases List.eq_nil_or_concat xs with rfl | ⟨us, n, rfl⟩
  · have he := a.eq
    rw [List.nil_append] at he
    subst he
    rw [show lastB tb [] = tb from rfl, cell_of_row w _ _ _ _ _ h.blk, tbCells_link _ _ _ _ _ hj]
    unfold linkV
    rw [if_pos hj]
  · have hn := a.last us n (by simp)
    have he : ns = us ++ n :: ys := by rw [a.eq]; simp
    have hc := h.chain
    rw [he] at hc
    rw [List.concat_eq_append, lastB_snoc, cell_of_row w _ _ _ _ _ hc.at_, ndCells_link _ _ _ hj]
    unfold linkV
    rw [if_pos hn]

/-- A node's entry, as it lies. -/
theorem Chain.ent {us : List Nd} {m : Nd} {vs : List Nd} (h : Chain w (us ++ m :: vs)) : w.cell? ⟨m.b, 0, none⟩ = some (.string m.e.k) ∧ w.cell? ⟨m.b, 1, none⟩ = some (.string m.e.v) ∧
    w.cell? ⟨m.b, 2, none⟩ = some (.int .i64 m.e.s) ∧ w.cell? ⟨m.b, 3, none⟩ = some (.bool m.e.d) ∧ w.cell? ⟨m.b, 4, none⟩ = some (.int .i64 m.c) := by
  have hb := h.at_
  refine ⟨?_, ?_, ?_, ?_, ?_⟩ <;> rw [cell_of_row w _ _ _ _ _ hb] <;> rfl
end

theorem lane_le (e : Ent) (h : Nat) : ∀ (l base : List Nd), (lane e h base l).1 ≤ l.length ∧ ((lane e h base l).2.length ≤ base.length ∨ (lane e h base l).2.length ≤ l.length)
  | [], base => ⟨Nat.le_refl _, .inl (Nat.le_refl _)⟩
  | n :: r, base => by
    rw [lane]
    by_cases hn : h < n.t
    · rw [if_pos hn]
      by_cases ha : ahead n.e e = true
      · rw [if_pos ha]
        have := lane_le e h r r
        simp only [List.length_cons]
        omega
      · rw [if_neg ha]
        simp only [List.length_cons]
        omega
    · rw [if_neg hn]
      have := lane_le e h r base
      simp only [List.length_cons]
      omega
theorem searchFrom_le (e : Ent) : ∀ (j : Nat) (ys : List Nd), searchFrom e j ys ≤ j * ys.length
  | 0, _ => by simp [searchFrom]
  | j + 1, ys => by
    have h1 := lane_le e j ys ys
    have h2 := searchFrom_le e j (lane e j ys ys).2
    have h3 : j * (lane e j ys ys).2.length ≤ j * ys.length := Nat.mul_le_mul_left _ (by omega)
    have h4 : (j + 1) * ys.length = j * ys.length + ys.length := Nat.succ_mul _ _
    show (lane e j ys ys).1 + searchFrom e j (lane e j ys ys).2 ≤ _
    omega

end Go.Proofs.Ytgineehniclkeaa
