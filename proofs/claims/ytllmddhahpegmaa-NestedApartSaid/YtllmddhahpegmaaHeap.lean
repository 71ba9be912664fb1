/- How a tree of nested arenas lies in memory: which blocks it has, and what becomes of it where they are written. -/
import Derived.Test.YtllmddhahpegmaaPlain
import Derived.WalkKit
namespace Go.Proofs.Ytllmddhahpegmaa
open Go.RowKit
namespace Ne

def Item.cells (x : Item) : List Value := [.int .i64 x.a, .int .i64 x.s, .int .i64 x.c]
def icells (l : List Item) : List Value := l.flatMap Item.cells

theorem icells_length (l : List Item) : (icells l).length = l.length * 3 := by
  induction l with
  | nil => rfl
  | cons x l ih => simp only [icells, List.flatMap_cons, List.length_append] at ih ⊢; simp only [Item.cells, List.length_cons, List.length_nil]; omega
theorem icells_append (l m : List Item) : icells (l ++ m) = icells l ++ icells m := by simp [icells]
theorem icells_get (l : List Item) (i : Nat) (x : Item) (h : l[i]? = some x) :
    (icells l)[i * 3]? = some (.int .i64 x.a) ∧ (icells l)[i * 3 + 1]? = some (.int .i64 x.s) ∧ (icells l)[i * 3 + 2]? = some (.int .i64 x.c) := by
  induction l generalizing i with
  | nil => simp at h
  | cons y l ih =>
    cases i with
    | zero =>
      simp at h; subst h
      exact ⟨rfl, rfl, rfl⟩
    | succ i =>
      have h' : l[i]? = some x := by simpa using h
      have hi := ih i h'
      have e : icells (y :: l) = Item.cells y ++ icells l := rfl
      have hc : (Item.cells y).length = 3 := rfl
      refine ⟨?_, ?_, ?_⟩
      · rw [e, List.getElem?_append_right (by omega), show (i + 1) * 3 - (Item.cells y).length = i * 3 by omega]; exact hi.1
      · rw [e, List.getElem?_append_right (by omega), show (i + 1) * 3 + 1 - (Item.cells y).length = i * 3 + 1 by omega]; exact hi.2.1
      · rw [e, List.getElem?_append_right (by omega), show (i + 1) * 3 + 2 - (Item.cells y).length = i * 3 + 2 by omega]; exact hi.2.2

/-- A slice of items. -/
def ItemsAt (w : World) (own : Nat → Option Nat) (i : Nat) (v : Value) (l : List Item) : Prop :=
  w.ownsRow 0 54 3 v l.length (icells l) ∧ ∀ g, v.ownBlock = some g → own g = some (2 * i + 3)

def NodeCells (n : Node) (v : Value) : Obj := .cells #[.int .i64 n.p, .int .i64 n.a, .int .i64 n.s, v, .bool false] 35 (0, 0)

def NodeAt (w : World) (own : Nat → Option Nat) (i : Nat) (v : Value) : Option Node → Prop
  | none => v = .pointer none
  | some n => ∃ b iv, v = .pointer (some ⟨b, 0, none⟩) ∧ own b = some (2 * i + 2) ∧ w.heap[b]? = some (NodeCells n iv) ∧ ItemsAt w own i iv n.l

/-- A tree: block t has the slice of arenas, block g its row. -/
structure TreeAt (w : World) (own : Nat → Option Nat) (t g cap : Nat) (cs : Array Value) (M : Tr) : Prop where
  ownT : own t = some 0
  ownG : own g = some 1
  top : w.heap[t]? = some (.cells #[.slice (some ⟨g, 0, none⟩) M.length cap] 68 (0, 0))
  row : w.heap[g]? = some (.cells cs 69 (0, 0))
  size : cs.size = cap
  len : M.length ≤ cap
  most : cap ≤ maxLen
  node : ∀ i o, M[i]? = some o → ∃ v, cs[i]? = some v ∧ NodeAt w own i v o

def Tree (w : World) (own : Nat → Option Nat) (t : Nat) (M : Tr) : Prop := ∃ g cap cs, TreeAt w own t g cap cs M

/-- What a call that works on a tree leaves: blocks that are not the tree's are as they were; no old block has become the tree's, or ceased to be. -/
structure Keeps (own own' : Nat → Option Nat) (w w' : World) : Prop where
  os : w'.os = w.os
  tape : w'.tape = w.tape
  output : w'.output = w.output
  size : w.heap.size ≤ w'.heap.size
  block : ∀ k, k < w.heap.size → own k = none → w'.heap[k]? = w.heap[k]?
  same : ∀ k, k < w.heap.size → own' k = own k
  new : ∀ k, own' k ≠ none → own k ≠ none ∨ (w.heap.size ≤ k ∧ k < w'.heap.size)

theorem Keeps.refl (own : Nat → Option Nat) (w : World) : Keeps own own w w := ⟨rfl, rfl, rfl, Nat.le_refl _, fun _ _ _ => rfl, fun _ _ => rfl, fun _ h => .inl h⟩
theorem Keeps.trans {o1 o2 o3 : Nat → Option Nat} {a b c : World} (h : Keeps o1 o2 a b) (k : Keeps o2 o3 b c) : Keeps o1 o3 a c :=
  ⟨k.os.trans h.os, k.tape.trans h.tape, k.output.trans h.output, Nat.le_trans h.size k.size,
    fun i hi hn => (k.block i (Nat.lt_of_lt_of_le hi h.size) ((h.same i hi).trans hn)).trans (h.block i hi hn),
    fun i hi => (k.same i (Nat.lt_of_lt_of_le hi h.size)).trans (h.same i hi),
    fun i hi => by
      have h1 := h.size
      have h2 := k.size
      rcases k.new i hi with h3 | h3
      · rcases h.new i h3 with h4 | h4
        · exact .inl h4
        · exact .inr ⟨h4.1, by omega⟩
      · exact .inr ⟨by omega, h3.2⟩⟩

/-- No block that is not there yet is the tree's. -/
def Fresh (own : Nat → Option Nat) (w : World) : Prop := ∀ k, own k ≠ none → k < w.heap.size
theorem Fresh.keeps {own own' : Nat → Option Nat} {w w' : World} (h : Fresh own w) (k : Keeps own own' w w') : Fresh own' w' := fun i hi => by
  rcases k.new i hi with h1 | h1
  · exact Nat.lt_of_lt_of_le (h i h1) k.size
  · exact h1.2
theorem Keeps.of_below (own : Nat → Option Nat) {w w' : World} (h : Below w.heap.size w w') : Keeps own own w w' :=
  ⟨h.os, h.tape, h.output, h.size, fun k hk _ => h.block k hk, fun _ _ => rfl, fun _ h => .inl h⟩

theorem lt_of_heap {w : World} {b : Nat} {o : Obj} (h : w.heap[b]? = some o) : b < w.heap.size := (Array.getElem?_eq_some_iff.1 h).1

/-- Rows, nodes and trees where the blocks that they have are the same. -/
theorem row_same {w w' : World} {e s n : Nat} {v : Value} {xs : List Value} (h : w.ownsRow 0 e s v n xs) (hk : ∀ g, v.ownBlock = some g → w'.heap[g]? = w.heap[g]?) : w'.ownsRow 0 e s v n xs := by
  refine ⟨h.1, ?_⟩
  rcases h.2 with hn | ⟨g, cap, cur, rfl, hb, hgg, rest⟩
  · exact .inl hn
  · exact .inr ⟨g, cap, cur, rfl, hb, by rw [hk g rfl]; exact hgg, rest⟩

theorem ItemsAt.same {w w' : World} {own own' : Nat → Option Nat} {i : Nat} {v : Value} {l : List Item} (h : ItemsAt w own i v l)
    (hk : ∀ g, own g = some (2 * i + 3) → g < w.heap.size → w'.heap[g]? = w.heap[g]? ∧ own' g = own g) : ItemsAt w' own' i v l :=
  ⟨row_same h.1 fun g hg => (hk g (h.2 g hg) (h.1.lt g hg).2).1, fun g hg => (hk g (h.2 g hg) (h.1.lt g hg).2).2.trans (h.2 g hg)⟩

theorem NodeAt.same {w w' : World} {own own' : Nat → Option Nat} {i : Nat} {v : Value} {o : Option Node} (h : NodeAt w own i v o)
    (hk : ∀ g, own g = some (2 * i + 2) ∨ own g = some (2 * i + 3) → g < w.heap.size → w'.heap[g]? = w.heap[g]? ∧ own' g = own g) : NodeAt w' own' i v o := by
  cases o with
  | none => exact h
  | some n =>
    obtain ⟨b, iv, rfl, ho, hb, hl⟩ := h
    have := hk b (.inl ho) (lt_of_heap hb)
    exact ⟨b, iv, rfl, this.2.trans ho, this.1.trans hb, hl.same fun g hg hs => hk g (.inr hg) hs⟩

theorem TreeAt.same {w w' : World} {own own' : Nat → Option Nat} {t g cap : Nat} {cs : Array Value} {M : Tr} (h : TreeAt w own t g cap cs M)
    (hk : ∀ k, own k ≠ none → k < w.heap.size → w'.heap[k]? = w.heap[k]? ∧ own' k = own k) : TreeAt w' own' t g cap cs M := by
  have hT := hk t (by rw [h.ownT]; simp) (lt_of_heap h.top)
  have hG := hk g (by rw [h.ownG]; simp) (lt_of_heap h.row)
  refine ⟨hT.2.trans h.ownT, hG.2.trans h.ownG, hT.1.trans h.top, hG.1.trans h.row, h.size, h.len, h.most, fun i o hi => ?_⟩
  obtain ⟨v, hv, hn⟩ := h.node i o hi
  exact ⟨v, hv, hn.same fun k hk' hs => hk k (by rcases hk' with e | e <;> rw [e] <;> simp) hs⟩

theorem Tree.below {w w' : World} {own : Nat → Option Nat} {t : Nat} {M : Tr} (h : Tree w own t M) (hb : Below w.heap.size w w') : Tree w' own t M := by
  obtain ⟨g, cap, cs, h⟩ := h
  exact ⟨g, cap, cs, h.same fun k _ hs => ⟨hb.block k hs, rfl⟩⟩

/-- An arena is written: its block, and the row of its items. -/
theorem TreeAt.setNode {w w' : World} {own own' : Nat → Option Nat} {t g cap : Nat} {cs : Array Value} {M : Tr} {i b : Nat} {n n' : Node} {iv : Value} (h : TreeAt w own t g cap cs M)
    (hi : M[i]? = some (some n)) (hc : cs[i]? = some (.pointer (some ⟨b, 0, none⟩)))
    (hk : ∀ k, own k ≠ none → own k ≠ some (2 * i + 2) → own k ≠ some (2 * i + 3) → k < w.heap.size → w'.heap[k]? = w.heap[k]?)
    (ho : ∀ k, k < w.heap.size → own' k = own k)
    (hb : w'.heap[b]? = some (NodeCells n' iv)) (hl : ItemsAt w' own' i iv n'.l) : TreeAt w' own' t g cap cs (M.set i (some n')) := by
  have hob : own b = some (2 * i + 2) ∧ b < w.heap.size := by
    obtain ⟨v, hv, hn⟩ := h.node i _ hi
    obtain ⟨b', iv', rfl, ho', hb', _⟩ := hn
    rw [hc] at hv
    injection hv with hv; injection hv with hv; injection hv with hv; injection hv with hv
    subst hv
    exact ⟨ho', lt_of_heap hb'⟩
  have hT := lt_of_heap h.top
  have hG := lt_of_heap h.row
  refine ⟨(ho t hT).trans h.ownT, (ho g hG).trans h.ownG, ?_, ?_, h.size, by simpa using h.len, h.most, fun j o hj => ?_⟩
  · rw [List.length_set, hk t (by rw [h.ownT]; simp) (by rw [h.ownT]; simp) (by rw [h.ownT]; simp) hT]; exact h.top
  · rw [hk g (by rw [h.ownG]; simp) (by rw [h.ownG]; simp) (by rw [h.ownG]; simp) hG]; exact h.row
  · by_cases e : j = i
    · subst e
      have hlt : j < M.length := (List.getElem?_eq_some_iff.1 hi).1
      have : o = some n' := by simpa [hlt] using hj.symm
      subst this
      exact ⟨_, hc, b, iv, rfl, (ho b hob.2).trans hob.1, hb, hl⟩
    · rw [List.getElem?_set_ne (fun x => e x.symm)] at hj
      obtain ⟨v, hv, hn⟩ := h.node j o hj
      refine ⟨v, hv, hn.same fun k hk' hs => ⟨hk k ?_ ?_ ?_ hs, ho k hs⟩⟩
      all_goals (rcases hk' with e' | e' <;> rw [e'] <;> simp <;> omega)

/-- The row of arenas is written at one place. -/
theorem TreeAt.setPtr {w w' : World} {own own' : Nat → Option Nat} {t g cap : Nat} {cs : Array Value} {M : Tr} {i : Nat} {v : Value} {o : Option Node} (h : TreeAt w own t g cap cs M)
    (hi : i < M.length)
    (hk : ∀ k, own k ≠ none → k ≠ g → k < w.heap.size → w'.heap[k]? = w.heap[k]?)
    (ho : ∀ k, k < w.heap.size → own' k = own k)
    (hg : w'.heap[g]? = some (.cells (cs.setIfInBounds i v) 69 (0, 0))) (hn : NodeAt w' own' i v o) : TreeAt w' own' t g cap (cs.setIfInBounds i v) (M.set i o) := by
  have hT := lt_of_heap h.top
  have hG := lt_of_heap h.row
  have hne : t ≠ g := fun e => by have := h.ownT; rw [e, h.ownG] at this; simp at this
  refine ⟨(ho t hT).trans h.ownT, (ho g hG).trans h.ownG, ?_, hg, by simpa using h.size, by simpa using h.len, h.most, fun j o' hj => ?_⟩
  · rw [List.length_set, hk t (by rw [h.ownT]; simp) hne hT]; exact h.top
  · have hcl := h.len
    have hsz := h.size
    by_cases e : j = i
    · subst e
      have : o' = o := by simpa [hi] using hj.symm
      subst this
      exact ⟨v, by simp [Array.getElem?_setIfInBounds]; omega, hn⟩
    · rw [List.getElem?_set_ne (fun x => e x.symm)] at hj
      obtain ⟨v', hv, hn'⟩ := h.node j o' hj
      refine ⟨v', by rw [Array.getElem?_setIfInBounds, if_neg (fun x => e x.symm)]; exact hv, hn'.same fun k hk' hs => ⟨hk k ?_ ?_ hs, ho k hs⟩⟩
      · rcases hk' with e' | e' <;> rw [e'] <;> simp
      · intro e''; subst e''; rw [h.ownG] at hk'; rcases hk' with e' | e' <;> simp at e'

/-- The slice of arenas becomes shorter. -/
theorem TreeAt.cut {w w' : World} {own : Nat → Option Nat} {t g cap : Nat} {cs : Array Value} {M : Tr} {m : Nat} (h : TreeAt w own t g cap cs M)
    (hm : m ≤ M.length) (hk : ∀ k, k ≠ t → k < w.heap.size → w'.heap[k]? = w.heap[k]?)
    (ht : w'.heap[t]? = some (.cells #[.slice (some ⟨g, 0, none⟩) m cap] 68 (0, 0))) : TreeAt w' own t g cap cs (M.take m) := by
  have hG := lt_of_heap h.row
  have hne : g ≠ t := fun e => by have := h.ownT; rw [← e, h.ownG] at this; simp at this
  have hl := h.len
  refine ⟨h.ownT, h.ownG, by rw [List.length_take, Nat.min_eq_left hm]; exact ht, by rw [hk g hne hG]; exact h.row, h.size, by simp; omega, h.most, fun j o hj => ?_⟩
  have hj' : M[j]? = some o := by
    rw [List.getElem?_take] at hj
    split at hj
    · exact hj
    · cases hj
  obtain ⟨v, hv, hn⟩ := h.node j o hj'
  refine ⟨v, hv, hn.same fun k hk' hs => ⟨hk k ?_ hs, rfl⟩⟩
  intro e; subst e; rw [h.ownT] at hk'; rcases hk' with e' | e' <;> simp at e'

theorem setCell_at (w : World) (g i : Nat) (cs : Array Value) (t : TypeId) (v : Value) (hg : w.heap[g]? = some (.cells cs t (0, 0))) :
    (w.setCell ⟨g, i, none⟩ v).heap[g]? = some (.cells (cs.setIfInBounds i v) t (0, 0)) := by
  simp [World.setCell, Array.getElem?_modify, hg]
theorem setCell_far (w : World) (a : Addr) (v : Value) (k : Nat) (h : k ≠ a.block) : (w.setCell a v).heap[k]? = w.heap[k]? := Below.heap_setCell w a v k h
theorem setCell_size (w : World) (a : Addr) (v : Value) : (w.setCell a v).heap.size = w.heap.size := by simp [World.setCell]

theorem nodeOwn {w : World} {own : Nat → Option Nat} {t g cap : Nat} {cs : Array Value} {M : Tr} {i b : Nat} {n : Node} (h : TreeAt w own t g cap cs M)
    (hi : M[i]? = some (some n)) (hc : cs[i]? = some (.pointer (some ⟨b, 0, none⟩))) : own b = some (2 * i + 2) ∧ ∃ iv, w.heap[b]? = some (NodeCells n iv) ∧ ItemsAt w own i iv n.l := by
  obtain ⟨v, hv, hn⟩ := h.node i _ hi
  obtain ⟨b', iv', rfl, ho', hb', hl⟩ := hn
  rw [hc] at hv
  injection hv with hv; injection hv with hv; injection hv with hv; injection hv with hv
  subst hv
  exact ⟨ho', iv', hb', hl⟩

/-- An arena's items are written: the slice in its block, whatever becomes of the row. -/
theorem TreeAt.setItems {w w1 : World} {own own' : Nat → Option Nat} {t g cap : Nat} {cs : Array Value} {M : Tr} {i b : Nat} {n : Node} {iv v : Value} {l : List Item} (h : TreeAt w own t g cap cs M)
    (hi : M[i]? = some (some n)) (hc : cs[i]? = some (.pointer (some ⟨b, 0, none⟩))) (hb : w.heap[b]? = some (NodeCells n iv))
    (hos : w1.os = w.os) (htp : w1.tape = w.tape) (hou : w1.output = w.output) (hsz : w.heap.size ≤ w1.heap.size)
    (hk : ∀ k, own k ≠ some (2 * i + 3) → k < w.heap.size → w1.heap[k]? = w.heap[k]?)
    (ho : ∀ k, k < w.heap.size → own' k = own k) (hn : ∀ k, own' k ≠ none → own k ≠ none ∨ (w.heap.size ≤ k ∧ k < w1.heap.size)) (hl : ItemsAt w1 own' i v l) :
    TreeAt (w1.setCell ⟨b, 3, none⟩ v) own' t g cap cs (M.set i (some { n with l := l })) ∧ Keeps own own' w (w1.setCell ⟨b, 3, none⟩ v) := by
  obtain ⟨hob, _⟩ := nodeOwn h hi hc
  have hbl := lt_of_heap hb
  have hb1 : w1.heap[b]? = some (NodeCells n iv) := by rw [hk b (by rw [hob]; simp) hbl]; exact hb
  have hbn : ∀ k, own' k = some (2 * i + 3) → k ≠ b := fun k hk e => by subst e; rw [ho _ hbl, hob] at hk; simp at hk
  refine ⟨h.setNode (iv := v) hi hc (fun k h1 h2 h3 h4 => ?_) ho ?_ ?_, hos, htp, hou, by rw [setCell_size]; exact hsz, fun k h1 h2 => ?_, ho, fun k hk' => by rw [setCell_size]; exact hn k hk'⟩
  · rw [setCell_far _ _ _ _ (fun e => h2 (by rw [e]; exact hob))]
    exact hk k h3 h4
  · rw [setCell_at _ _ _ _ _ _ hb1]; rfl
  · exact ⟨row_same hl.1 fun k hk' => setCell_far _ _ _ _ (hbn k (hl.2 k hk')), hl.2⟩
  · rw [setCell_far _ _ _ _ (fun e => by rw [e] at h2; rw [hob] at h2; simp at h2)]
    exact hk k (by rw [h2]; simp) h1

end Ne
end Go.Proofs.Ytllmddhahpegmaa
