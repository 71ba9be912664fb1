/- The plain model of a tree of nested arenas: what a tree holds, and what the calls make of it. No program here. How a tree of nested arenas lies in memory: which blocks it has, and what becomes of it where they are written. The walks of the tree's small methods: find, end, give. -/
import Derived.WalkKit
import Derived.Test.YtllmddhahpegmaaRows
import Derived.WalkSpells
import Derived.WalkLawsBesides
import Derived.Deep.QuietTactic
import Derived.BigQuiet
namespace Go.Proofs.Ytllmddhahpegmaa
namespace Ne

/-- An item: its address, its size, and what it is (-1: bytes, -2: a hole, else the number of an arena). -/
structure Item where
  a : Int
  s : Int
  c : Int

/-- An open arena. -/
structure Node where
  p : Int
  a : Int
  s : Int
  l : List Item

/-- A tree: the open arenas by their numbers. -/
abbrev Tr := List (Option Node)

def Node.fin (n : Node) : Int := match n.l.getLast? with
  | none => n.a
  | some x => x.a + x.s

def find (t : Tr) (i : Int) : Option Node := if i < 0 then none else (t[i.toNat]?).join

def badArg (sz al : Int) : Bool := decide (sz < 1) || decide (sz > 65536) || !([1, 2, 4, 8, 16, 32, 64, 128, 256, 512, 1024, 2048, 4096].contains al)

def up (x al : Int) : Int := (x + al - 1) / al * al

/-- The address, and the error, of a piece that is asked for. -/
def give (t : Tr) (i sz al : Int) : Int × Int := match find t i with
  | none => (0, 4)
  | some n => if badArg sz al then (0, 2) else if n.a + n.s < up n.fin al + sz ∨ n.l.length = 200 then (0, 5) else (up n.fin al, 0)

def addItem (t : Tr) (i : Nat) (x : Item) : Tr := match t[i]? with
  | some (some n) => t.set i (some { n with l := n.l ++ [x] })
  | _ => t

def alloc (t : Tr) (i sz al : Int) : Tr × Int × Int := if (give t i sz al).2 = 0 then (addItem t i.toNat ⟨(give t i sz al).1, sz, -1⟩, (give t i sz al).1, 0) else (t, 0, (give t i sz al).2)

def hole (t : Tr) : Nat := t.findIdx (·.isNone)

def room (t : Tr) (k : Nat) : Tr := if k < t.length then t else t ++ [none]

def begin_ (t : Tr) (i sz al : Int) : Tr × Int × Int :=
  if (give t i sz al).2 = 0 then
    if hole t = 64 then (t, 0, 5)
    else ((addItem (room t (hole t)) i.toNat ⟨(give t i sz al).1, sz, hole t⟩).set (hole t) (some ⟨i, (give t i sz al).1, sz, []⟩), hole t, 0)
  else (t, 0, (give t i sz al).2)

def mark (t : Tr) (i : Int) : Int × Int := match find t i with
  | none => (0, 4)
  | some n => (n.l.length, 0)

def roomOf (t : Tr) (i : Int) : Int × Int := match find t i with
  | none => (0, 4)
  | some n => (n.a + n.s - n.fin, 0)

/-- The items of an arena (none: no such one). -/
def itemsOf (t : Tr) (i : Nat) : List Item := match t[i]? with
  | some (some n) => n.l
  | _ => []

def live (t : Tr) : Nat → List Item → Int
  | 0, _ => 0
  | f + 1, l => (l.map fun x => if 0 ≤ x.c then live t f (itemsOf t x.c.toNat) else if x.c = -1 then x.s else 0).sum

/-- The arenas among items, and all inside of them, are closed. -/
def shut : Nat → Tr → List Item → Tr
  | 0, t, _ => t
  | f + 1, t, l => l.foldl (fun t x => if 0 ≤ x.c then (shut f t (itemsOf t x.c.toNat)).set x.c.toNat none else t) t

/-- The closing of the first arenas among items. -/
def shutStep (f : Nat) (t : Tr) (x : Item) : Tr := if 0 ≤ x.c then (shut f t (itemsOf t x.c.toNat)).set x.c.toNat none else t

/-- The closing does not fail. -/
def ShutOk : Nat → Tr → List Item → Prop
  | 0, _, _ => False
  | f + 1, t, l => ∀ j x, l[j]? = some x → 0 ≤ x.c → ∃ n, ((l.take j).foldl (shutStep f) t)[x.c.toNat]? = some (some n) ∧ n.l.length ≤ 200 ∧ ShutOk f ((l.take j).foldl (shutStep f) t) n.l

/-- The arenas inside of items are there, and not deeper than so. -/
def Deep (t : Tr) : Nat → List Item → Prop
  | 0, _ => False
  | f + 1, l => ∀ x ∈ l, 0 ≤ x.c → ∃ n, t[x.c.toNat]? = some (some n) ∧ Deep t f n.l

def trim (t : Tr) : Tr := (t.reverse.dropWhile (·.isNone)).reverse

def tidy (l : List Item) : List Item := (l.reverse.dropWhile (fun x => x.c == -2)).reverse

/-- Items lie one behind the other, between two bytes. -/
def Seq : Int → Int → List Item → Prop
  | _, _, [] => True
  | lo, hi, x :: l => lo ≤ x.a ∧ 1 ≤ x.s ∧ x.a + x.s ≤ hi ∧ Seq (x.a + x.s) hi l

/-- An arena is as it should be. -/
structure NodeOk (t : Tr) (i : Nat) (n : Node) : Prop where
  s1 : 1 ≤ n.s
  a0 : 0 ≤ n.a
  top : n.a + n.s ≤ 65536
  len : n.l.length ≤ 200
  seq : Seq n.a (n.a + n.s) n.l
  last : ∀ x, n.l.getLast? = some x → x.c ≠ -2
  low : ∀ x ∈ n.l, -2 ≤ x.c
  kid : ∀ x ∈ n.l, 0 ≤ x.c → ∃ k, t[x.c.toNat]? = some (some k) ∧ k.p = i ∧ k.a = x.a ∧ k.s = x.s
  uniq : n.l.Pairwise (fun x y => 0 ≤ x.c → x.c ≠ y.c)
  root : i = 0 → n.p = -1
  par : i ≠ 0 → 0 ≤ n.p ∧ ∃ q, t[n.p.toNat]? = some (some q) ∧ ∃ x ∈ q.l, x.c = i

/-- A tree is as it should be. -/
structure Good (t : Tr) : Prop where
  len : t.length ≤ 64
  root : ∃ r, t[0]? = some (some r) ∧ r.a = 0
  last : t.getLast? ≠ some none
  node : ∀ i n, t[i]? = some (some n) → NodeOk t i n
  rank : ∃ (d : Nat → Nat) (D : Nat), (∀ i, d i ≤ D) ∧ ∀ i n, t[i]? = some (some n) → ∀ x ∈ n.l, 0 ≤ x.c → d x.c.toNat = d i + 1

theorem Seq.mem {lo hi : Int} {l : List Item} (h : Seq lo hi l) : ∀ x ∈ l, lo ≤ x.a ∧ 1 ≤ x.s ∧ x.a + x.s ≤ hi := by
  induction l generalizing lo with
  | nil => intro x hx; cases hx
  | cons y l ih =>
    obtain ⟨h1, h2, h3, h4⟩ := h
    intro x hx
    cases hx with
    | head => exact ⟨h1, h2, h3⟩
    | tail _ hx => have := ih h4 x hx; exact ⟨by omega, this.2⟩

theorem NodeOk.fin {t : Tr} {i : Nat} {n : Node} (h : NodeOk t i n) : n.a ≤ n.fin ∧ n.fin ≤ n.a + n.s := by
  have := h.s1
  unfold Node.fin
  cases e : n.l.getLast? with
  | none => exact ⟨Int.le_refl _, by show n.a ≤ _; omega⟩
  | some x =>
    have := h.seq.mem x (List.mem_of_getLast? e)
    exact ⟨by show n.a ≤ x.a + x.s; omega, this.2.2⟩

theorem Good.pos {t : Tr} (h : Good t) : 0 < t.length := by
  obtain ⟨r, hr, _⟩ := h.root
  exact (List.getElem?_eq_some_iff.1 hr).1

theorem up_ge (x al : Int) (h : 1 ≤ al) : x ≤ up x al := by
  unfold up
  have h1 := Int.emod_lt_of_pos (x + al - 1) (show 0 < al by omega)
  have h2 := Int.mul_ediv_add_emod (x + al - 1) al
  rw [Int.mul_comm] at h2
  omega
theorem up_le (x al : Int) (h : 1 ≤ al) : up x al ≤ x + al - 1 := by
  unfold up
  have h1 := Int.emod_nonneg (x + al - 1) (show al ≠ 0 by omega)
  have h2 := Int.mul_ediv_add_emod (x + al - 1) al
  rw [Int.mul_comm] at h2
  omega

theorem badArg_no {sz al : Int} (h : badArg sz al = false) : 1 ≤ sz ∧ sz ≤ 65536 ∧ 1 ≤ al ∧ al ≤ 4096 ∧ ([1, 2, 4, 8, 16, 32, 64, 128, 256, 512, 1024, 2048, 4096] : List Int).contains al = true := by
  unfold badArg at h
  simp only [Bool.or_eq_false_iff, decide_eq_false_iff_not, Bool.not_eq_false'] at h
  obtain ⟨⟨h1, h2⟩, h3⟩ := h
  refine ⟨by omega, by omega, ?_, ?_, h3⟩ <;> (simp at h3; omega)

end Ne
end Go.Proofs.Ytllmddhahpegmaa
namespace Go.Proofs.Ytllmddhahpegmaa
open Go.RowKit
namespace Ne

def Item.cells (x : Item) : List Value := [.int .i64 x.a, .int .i64 x.s, .int .i64 x.c]
def icells (l : List Item) : List Value := l.flatMap Item.cells

theorem icells_length (l : List Item) : (icells l).length = l.length * 3 := by
  induction l with
  | nil => rfl
  | cons x l ih => simp only [icells, List.flatMap_cons, List.length_append] at ih ⊢; simp only [Item.cells, List.length_cons, List.length_nil]; omega
theorem icells_append (l m : List Item) : icells (l ++ m) = icells l ++ icells m := by simp [icells]
theorem icells_get (l : List Item) (i : Nat) (x : Item) (h : l[i]? = some x) :
    (icells l)[i * 3]? = some (.int .i64 x.a) ∧ (icells l)[i * 3 + 1]? = some (.int .i64 x.s) ∧ (icells l)[i * 3 + 2]? = some (.int .i64 x.c) := by
  induction l generalizing i with
  | nil => simp at h
  | cons y l ih =>
    cases i with
    | zero =>
      simp at h; subst h
      exact ⟨rfl, rfl, rfl⟩
    | succ i =>
      have h' : l[i]? = some x := by simpa using h
      have hi := ih i h'
      have e : icells (y :: l) = Item.cells y ++ icells l := rfl
      have hc : (Item.cells y).length = 3 := rfl
      refine ⟨?_, ?_, ?_⟩
      · rw [e, List.getElem?_append_right (by omega), show (i + 1) * 3 - (Item.cells y).length = i * 3 by omega]; exact hi.1
      · rw [e, List.getElem?_append_right (by omega), show (i + 1) * 3 + 1 - (Item.cells y).length = i * 3 + 1 by omega]; exact hi.2.1
      · rw [e, List.getElem?_append_right (by omega), show (i + 1) * 3 + 2 - (Item.cells y).length = i * 3 + 2 by omega]; exact hi.2.2

/-- A slice of items. -/
def ItemsAt (w : World) (own : Nat → Option Nat) (i : Nat) (v : Value) (l : List Item) : Prop :=
  w.ownsRow 0 54 3 v l.length (icells l) ∧ ∀ g, v.ownBlock = some g → own g = some (2 * i + 3)

def NodeCells (n : Node) (v : Value) : Obj := .cells #[.int .i64 n.p, .int .i64 n.a, .int .i64 n.s, v, .bool false] 35 (0, 0)

def NodeAt (w : World) (own : Nat → Option Nat) (i : Nat) (v : Value) : Option Node → Prop
  | none => v = .pointer none
  | some n => ∃ b iv, v = .pointer (some ⟨b, 0, none⟩) ∧ own b = some (2 * i + 2) ∧ w.heap[b]? = some (NodeCells n iv) ∧ ItemsAt w own i iv n.l

/-- A tree: block t has the slice of arenas, block g its row. -/
structure TreeAt (w : World) (own : Nat → Option Nat) (t g cap : Nat) (cs : Array Value) (M : Tr) : Prop where
  ownT : own t = some 0
  ownG : own g = some 1
  top : w.heap[t]? = some (.cells #[.slice (some ⟨g, 0, none⟩) M.length cap] 68 (0, 0))
  row : w.heap[g]? = some (.cells cs 69 (0, 0))
  size : cs.size = cap
  len : M.length ≤ cap
  most : cap ≤ maxLen
  node : ∀ i o, M[i]? = some o → ∃ v, cs[i]? = some v ∧ NodeAt w own i v o

def Tree (w : World) (own : Nat → Option Nat) (t : Nat) (M : Tr) : Prop := ∃ g cap cs, TreeAt w own t g cap cs M

/-- What a call that works on a tree leaves: blocks that are not the tree's are as they were; no old block has become the tree's, or ceased to be. -/
structure Keeps (own own' : Nat → Option Nat) (w w' : World) : Prop where
  os : w'.os = w.os
  tape : w'.tape = w.tape
  output : w'.output = w.output
  size : w.heap.size ≤ w'.heap.size
  block : ∀ k, k < w.heap.size → own k = none → w'.heap[k]? = w.heap[k]?
  same : ∀ k, k < w.heap.size → own' k = own k
  new : ∀ k, own' k ≠ none → own k ≠ none ∨ (w.heap.size ≤ k ∧ k < w'.heap.size)

theorem Keeps.refl (own : Nat → Option Nat) (w : World) : Keeps own own w w := ⟨rfl, rfl, rfl, Nat.le_refl _, fun _ _ _ => rfl, fun _ _ => rfl, fun _ h => .inl h⟩
theorem Keeps.trans {o1 o2 o3 : Nat → Option Nat} {a b c : World} (h : Keeps o1 o2 a b) (k : Keeps o2 o3 b c) : Keeps o1 o3 a c :=
  ⟨k.os.trans h.os, k.tape.trans h.tape, k.output.trans h.output, Nat.le_trans h.size k.size,
    fun i hi hn => (k.block i (Nat.lt_of_lt_of_le hi h.size) ((h.same i hi).trans hn)).trans (h.block i hi hn),
    fun i hi => (k.same i (Nat.lt_of_lt_of_le hi h.size)).trans (h.same i hi),
    fun i hi => by
      have h1 := h.size
      have h2 := k.size
      rcases k.new i hi with h3 | h3
      · rcases h.new i h3 with h4 | h4
        · exact .inl h4
        · exact .inr ⟨h4.1, by omega⟩
      · exact .inr ⟨by omega, h3.2⟩⟩

/-- No block that is not there yet is the tree's. -/
def Fresh (own : Nat → Option Nat) (w : World) : Prop := ∀ k, own k ≠ none → k < w.heap.size
theorem Fresh.keeps {own own' : Nat → Option Nat} {w w' : World} (h : Fresh own w) (k : Keeps own own' w w') : Fresh own' w' := fun i hi => by
  rcases k.new i hi with h1 | h1
  · exact Nat.lt_of_lt_of_le (h i h1) k.size
  · exact h1.2
theorem Keeps.of_below (own : Nat → Option Nat) {w w' : World} (h : Below w.heap.size w w') : Keeps own own w w' :=
  ⟨h.os, h.tape, h.output, h.size, fun k hk _ => h.block k hk, fun _ _ => rfl, fun _ h => .inl h⟩

theorem lt_of_heap {w : World} {b : Nat} {o : Obj} (h : w.heap[b]? = some o) : b < w.heap.size := (Array.getElem?_eq_some_iff.1 h).1

/-- Rows, nodes and trees where the blocks that they have are the same. -/
theorem row_same {w w' : World} {e s n : Nat} {v : Value} {xs : List Value} (h : w.ownsRow 0 e s v n xs) (hk : ∀ g, v.ownBlock = some g → w'.heap[g]? = w.heap[g]?) : w'.ownsRow 0 e s v n xs := by
  refine ⟨h.1, ?_⟩
  rcases h.2 with hn | ⟨g, cap, cur, rfl, hb, hgg, rest⟩
  · exact .inl hn
  · exact .inr ⟨g, cap, cur, rfl, hb, by rw [hk g rfl]; exact hgg, rest⟩

theorem ItemsAt.same {w w' : World} {own own' : Nat → Option Nat} {i : Nat} {v : Value} {l : List Item} (h : ItemsAt w own i v l)
    (hk : ∀ g, own g = some (2 * i + 3) → g < w.heap.size → w'.heap[g]? = w.heap[g]? ∧ own' g = own g) : ItemsAt w' own' i v l :=
  ⟨row_same h.1 fun g hg => (hk g (h.2 g hg) (h.1.lt g hg).2).1, fun g hg => (hk g (h.2 g hg) (h.1.lt g hg).2).2.trans (h.2 g hg)⟩

theorem NodeAt.same {w w' : World} {own own' : Nat → Option Nat} {i : Nat} {v : Value} {o : Option Node} (h : NodeAt w own i v o)
    (hk : ∀ g, own g = some (2 * i + 2) ∨ own g = some (2 * i + 3) → g < w.heap.size → w'.heap[g]? = w.heap[g]? ∧ own' g = own g) : NodeAt w' own' i v o := by
  cases o with
  | none => exact h
  | some n =>
    obtain ⟨b, iv, rfl, ho, hb, hl⟩ := h
    have := hk b (.inl ho) (lt_of_heap hb)
    exact ⟨b, iv, rfl, this.2.trans ho, this.1.trans hb, hl.same fun g hg hs => hk g (.inr hg) hs⟩

theorem TreeAt.same {w w' : World} {own own' : Nat → Option Nat} {t g cap : Nat} {cs : Array Value} {M : Tr} (h : TreeAt w own t g cap cs M)
    (hk : ∀ k, own k ≠ none → k < w.heap.size → w'.heap[k]? = w.heap[k]? ∧ own' k = own k) : TreeAt w' own' t g cap cs M := by
  have hT := hk t (by rw [h.ownT]; simp) (lt_of_heap h.top)
  have hG := hk g (by rw [h.ownG]; simp) (lt_of_heap h.row)
  refine ⟨hT.2.trans h.ownT, hG.2.trans h.ownG, hT.1.trans h.top, hG.1.trans h.row, h.size, h.len, h.most, fun i o hi => ?_⟩
  obtain ⟨v, hv, hn⟩ := h.node i o hi
  exact ⟨v, hv, hn.same fun k hk' hs => hk k (by rcases hk' with e | e <;> rw [e] <;> simp) hs⟩

theorem Tree.below {w w' : World} {own : Nat → Option Nat} {t : Nat} {M : Tr} (h : Tree w own t M) (hb : Below w.heap.size w w') : Tree w' own t M := by
  obtain ⟨g, cap, cs, h⟩ := h
  exact ⟨g, cap, cs, h.same fun k _ hs => ⟨hb.block k hs, rfl⟩⟩

/-- An arena is written: its block, and the row of its items. -/
theorem TreeAt.setNode {w w' : World} {own own' : Nat → Option Nat} {t g cap : Nat} {cs : Array Value} {M : Tr} {i b : Nat} {n n' : Node} {iv : Value} (h : TreeAt w own t g cap cs M)
    (hi : M[i]? = some (some n)) (hc : cs[i]? = some (.pointer (some ⟨b, 0, none⟩)))
    (hk : ∀ k, own k ≠ none → own k ≠ some (2 * i + 2) → own k ≠ some (2 * i + 3) → k < w.heap.size → w'.heap[k]? = w.heap[k]?)
    (ho : ∀ k, k < w.heap.size → own' k = own k)
    (hb : w'.heap[b]? = some (NodeCells n' iv)) (hl : ItemsAt w' own' i iv n'.l) : TreeAt w' own' t g cap cs (M.set i (some n')) := by
  have hob : own b = some (2 * i + 2) ∧ b < w.heap.size := by
    obtain ⟨v, hv, hn⟩ := h.node i _ hi
    obtain ⟨b', iv', rfl, ho', hb', _⟩ := hn
    rw [hc] at hv
    injection hv with hv; injection hv with hv; injection hv with hv; injection hv with hv
    subst hv
    exact ⟨ho', lt_of_heap hb'⟩
  have hT := lt_of_heap h.top
  have hG := lt_of_heap h.row
  refine ⟨(ho t hT).trans h.ownT, (ho g hG).trans h.ownG, ?_, ?_, h.size, by simpa using h.len, h.most, fun j o hj => ?_⟩
  · rw [List.length_set, hk t (by rw [h.ownT]; simp) (by rw [h.ownT]; simp) (by rw [h.ownT]; simp) hT]; exact h.top
  · rw [hk g (by rw [h.ownG]; simp) (by rw [h.ownG]; simp) (by rw [h.ownG]; simp) hG]; exact h.row
  · by_cases e : j = i
    · subst e
      have hlt : j < M.length := (List.getElem?_eq_some_iff.1 hi).1
      have : o = some n' := by simpa [hlt] using hj.symm
      subst this
      exact ⟨_, hc, b, iv, rfl, (ho b hob.2).trans hob.1, hb, hl⟩
    · rw [List.getElem?_set_ne (fun x => e x.symm)] at hj
      obtain ⟨v, hv, hn⟩ := h.node j o hj
      refine ⟨v, hv, hn.same fun k hk' hs => ⟨hk k ?_ ?_ ?_ hs, ho k hs⟩⟩
      all_goals (rcases hk' with e' | e' <;> rw [e'] <;> simp <;> omega)

/-- The row of arenas is written at one place. -/
theorem TreeAt.setPtr {w w' : World} {own own' : Nat → Option Nat} {t g cap : Nat} {cs : Array Value} {M : Tr} {i : Nat} {v : Value} {o : Option Node} (h : TreeAt w own t g cap cs M)
    (hi : i < M.length)
    (hk : ∀ k, own k ≠ none → k ≠ g → k < w.heap.size → w'.heap[k]? = w.heap[k]?)
    (ho : ∀ k, k < w.heap.size → own' k = own k)
    (hg : w'.heap[g]? = some (.cells (cs.setIfInBounds i v) 69 (0, 0))) (hn : NodeAt w' own' i v o) : TreeAt w' own' t g cap (cs.setIfInBounds i v) (M.set i o) := by
  have hT := lt_of_heap h.top
  have hG := lt_of_heap h.row
  have hne : t ≠ g := fun e => by have := h.ownT; rw [e, h.ownG] at this; simp at this
  refine ⟨(ho t hT).trans h.ownT, (ho g hG).trans h.ownG, ?_, hg, by simpa using h.size, by simpa using h.len, h.most, fun j o' hj => ?_⟩
  · rw [List.length_set, hk t (by rw [h.ownT]; simp) hne hT]; exact h.top
  · have hcl := h.len
    have hsz := h.size
    by_cases e : j = i
    · subst e
      have : o' = o := by simpa [hi] using hj.symm
      subst this
      exact ⟨v, by simp [Array.getElem?_setIfInBounds]; omega, hn⟩
    · rw [List.getElem?_set_ne (fun x => e x.symm)] at hj
      obtain ⟨v', hv, hn'⟩ := h.node j o' hj
      refine ⟨v', by rw [Array.getElem?_setIfInBounds, if_neg (fun x => e x.symm)]; exact hv, hn'.same fun k hk' hs => ⟨hk k ?_ ?_ hs, ho k hs⟩⟩
      · rcases hk' with e' | e' <;> rw [e'] <;> simp
      · intro e''; subst e''; rw [h.ownG] at hk'; rcases hk' with e' | e' <;> simp at e'

/-- The slice of arenas becomes shorter. -/
theorem TreeAt.cut {w w' : World} {own : Nat → Option Nat} {t g cap : Nat} {cs : Array Value} {M : Tr} {m : Nat} (h : TreeAt w own t g cap cs M)
    (hm : m ≤ M.length) (hk : ∀ k, k ≠ t → k < w.heap.size → w'.heap[k]? = w.heap[k]?)
    (ht : w'.heap[t]? = some (.cells #[.slice (some ⟨g, 0, none⟩) m cap] 68 (0, 0))) : TreeAt w' own t g cap cs (M.take m) := by
  have hG := lt_of_heap h.row
  have hne : g ≠ t := fun e => by have := h.ownT; rw [← e, h.ownG] at this; simp at this
  have hl := h.len
  refine ⟨h.ownT, h.ownG, by rw [List.length_take, Nat.min_eq_left hm]; exact ht, by rw [hk g hne hG]; exact h.row, h.size, by simp; omega, h.most, fun j o hj => ?_⟩
  have hj' : M[j]? = some o := by
    rw [List.getElem?_take] at hj
    split at hj
    · exact hj
    · cases hj
  obtain ⟨v, hv, hn⟩ := h.node j o hj'
  refine ⟨v, hv, hn.same fun k hk' hs => ⟨hk k ?_ hs, rfl⟩⟩
  intro e; subst e; rw [h.ownT] at hk'; rcases hk' with e' | e' <;> simp at e'

theorem setCell_at (w : World) (g i : Nat) (cs : Array Value) (t : TypeId) (v : Value) (hg : w.heap[g]? = some (.cells cs t (0, 0))) :
    (w.setCell ⟨g, i, none⟩ v).heap[g]? = some (.cells (cs.setIfInBounds i v) t (0, 0)) := by
  simp [World.setCell, Array.getElem?_modify, hg]
theorem setCell_far (w : World) (a : Addr) (v : Value) (k : Nat) (h : k ≠ a.block) : (w.setCell a v).heap[k]? = w.heap[k]? := Below.heap_setCell w a v k h
theorem setCell_size (w : World) (a : Addr) (v : Value) : (w.setCell a v).heap.size = w.heap.size := by simp [World.setCell]

theorem nodeOwn {w : World} {own : Nat → Option Nat} {t g cap : Nat} {cs : Array Value} {M : Tr} {i b : Nat} {n : Node} (h : TreeAt w own t g cap cs M)
    (hi : M[i]? = some (some n)) (hc : cs[i]? = some (.pointer (some ⟨b, 0, none⟩))) : own b = some (2 * i + 2) ∧ ∃ iv, w.heap[b]? = some (NodeCells n iv) ∧ ItemsAt w own i iv n.l := by
  obtain ⟨v, hv, hn⟩ := h.node i _ hi
  obtain ⟨b', iv', rfl, ho', hb', hl⟩ := hn
  rw [hc] at hv
  injection hv with hv; injection hv with hv; injection hv with hv; injection hv with hv
  subst hv
  exact ⟨ho', iv', hb', hl⟩

/-- An arena's items are written: the slice in its block, whatever becomes of the row. -/
theorem TreeAt.setItems {w w1 : World} {own own' : Nat → Option Nat} {t g cap : Nat} {cs : Array Value} {M : Tr} {i b : Nat} {n : Node} {iv v : Value} {l : List Item} (h : TreeAt w own t g cap cs M)
    (hi : M[i]? = some (some n)) (hc : cs[i]? = some (.pointer (some ⟨b, 0, none⟩))) (hb : w.heap[b]? = some (NodeCells n iv))
    (hos : w1.os = w.os) (htp : w1.tape = w.tape) (hou : w1.output = w.output) (hsz : w.heap.size ≤ w1.heap.size)
    (hk : ∀ k, own k ≠ some (2 * i + 3) → k < w.heap.size → w1.heap[k]? = w.heap[k]?)
    (ho : ∀ k, k < w.heap.size → own' k = own k) (hn : ∀ k, own' k ≠ none → own k ≠ none ∨ (w.heap.size ≤ k ∧ k < w1.heap.size)) (hl : ItemsAt w1 own' i v l) :
    TreeAt (w1.setCell ⟨b, 3, none⟩ v) own' t g cap cs (M.set i (some { n with l := l })) ∧ Keeps own own' w (w1.setCell ⟨b, 3, none⟩ v) := by
  obtain ⟨hob, _⟩ := nodeOwn h hi hc
  have hbl := lt_of_heap hb
  have hb1 : w1.heap[b]? = some (NodeCells n iv) := by rw [hk b (by rw [hob]; simp) hbl]; exact hb
  have hbn : ∀ k, own' k = some (2 * i + 3) → k ≠ b := fun k hk e => by subst e; rw [ho _ hbl, hob] at hk; simp at hk
  refine ⟨h.setNode (iv := v) hi hc (fun k h1 h2 h3 h4 => ?_) ho ?_ ?_, hos, htp, hou, by rw [setCell_size]; exact hsz, fun k h1 h2 => ?_, ho, fun k hk' => by rw [setCell_size]; exact hn k hk'⟩
  · rw [setCell_far _ _ _ _ (fun e => h2 (by rw [e]; exact hob))]
    exact hk k h3 h4
  · rw [setCell_at _ _ _ _ _ _ hb1]; rfl
  · exact ⟨row_same hl.1 fun k hk' => setCell_far _ _ _ _ (hbn k (hl.2 k hk')), hl.2⟩
  · rw [setCell_far _ _ _ _ (fun e => by rw [e] at h2; rw [hob] at h2; simp at h2)]
    exact hk k (by rw [h2]; simp) h1

end Ne
end Go.Proofs.Ytllmddhahpegmaa
namespace Go.Proofs.Ytllmddhahpegmaa
open Go.RowKit
namespace Ne

theorem rowOpen {w : World} {v : Value} {l : List Item} (h : w.ownsRow 0 54 3 v l.length (icells l)) :
    (v = .slice none 0 0 ∧ l = []) ∨ ∃ g cap cur, v = .slice (some ⟨g, 0, none⟩) l.length cap ∧ l.length ≤ cap ∧ cap ≤ maxLen ∧ w.heap[g]? = some (.cells cur 54 (0, 0)) ∧ cur.size = cap * 3 ∧
      ∀ j x, l[j]? = some x → w.cell? ⟨g, j * 3, none⟩ = some (.int .i64 x.a) ∧ w.cell? ⟨g, j * 3 + 1, none⟩ = some (.int .i64 x.s) ∧ w.cell? ⟨g, j * 3 + 2, none⟩ = some (.int .i64 x.c) := by
  rcases h.2 with ⟨rfl, hl⟩ | ⟨g, cap, cur, rfl, _, hg, hlc, hcm, hcs, htake⟩
  · exact .inl ⟨rfl, List.eq_nil_of_length_eq_zero hl⟩
  · refine .inr ⟨g, cap, cur, rfl, hlc, hcm, hg, hcs, fun j x hx => ?_⟩
    have hj : j < l.length := (List.getElem?_eq_some_iff.1 hx).1
    obtain ⟨h1, h2, h3⟩ := icells_get l j x hx
    rw [← htake] at h1 h2 h3
    rw [cell_of_row w g _ cur _ _ hg, cell_of_row w g _ cur _ _ hg, cell_of_row w g _ cur _ _ hg]
    rw [List.getElem?_take] at h1 h2 h3
    refine ⟨?_, ?_, ?_⟩
    · split at h1 <;> simp_all
    · split at h2 <;> simp_all
    · split at h3 <;> simp_all

/-- The cells of an arena's block. -/
theorem nodeOpen {w : World} {b : Nat} {n : Node} {v : Value} (h : w.heap[b]? = some (NodeCells n v)) :
    w.cell? ⟨b, 0, none⟩ = some (.int .i64 n.p) ∧ w.cell? ⟨b, 1, none⟩ = some (.int .i64 n.a) ∧ w.cell? ⟨b, 2, none⟩ = some (.int .i64 n.s) ∧ w.cell? ⟨b, 3, none⟩ = some v ∧ w.cell? ⟨b, 4, none⟩ = some (.bool false) ∧ ∀ o, w.frozen? ⟨b, o, none⟩ = false := by
  simp [NodeCells] at h
  refine ⟨?_, ?_, ?_, ?_, ?_, ?_⟩ <;> simp [World.cell?, World.frozen?, h]

set_option maxHeartbeats 400000 in
theorem made_nil (w : World) :
    Calls Try.prog 29 #[.pointer none] w fun e w' => e = .returned (.bool false) ∧ w = w' := by
  go_enter Try.func29, Try.ntmps29
  go_wp2
  go_ret
  exact ⟨rfl, rfl⟩
set_option maxHeartbeats 400000 in
theorem made_ok (w : World) (b : Nat) (A : Option Addr) (m c : Nat) (hm : 0 < m) (h : w.cell? ⟨b, 0, none⟩ = some (.slice A m c)) :
    Calls Try.prog 29 #[.pointer (some ⟨b, 0, none⟩)] w fun e w' => e = .returned (.bool true) ∧ w = w' := by
  go_enter Try.func29, Try.ntmps29
  go_wp2
  go_ret
  exact ⟨rfl, rfl⟩
set_option maxHeartbeats 400000 in
theorem find_in (w : World) (b g : Nat) (m c : Nat) (i : Int) (x : Option Addr) (h0 : 0 ≤ i) (hi : i < m) (hm : m ≤ 64) (h : w.cell? ⟨b, 0, none⟩ = some (.slice (some ⟨g, 0, none⟩) m c)) (hx : w.cell? ⟨g, i.toNat, none⟩ = some (.pointer x)) :
    Calls Try.prog 37 #[.pointer (some ⟨b, 0, none⟩), .int .i64 i] w fun e w' => e = .returned (.tuple #[.pointer x, .int .i64 (if x = none then 4 else 0)]) ∧ w = w' := by
  obtain ⟨j, rfl⟩ := Int.eq_ofNat_of_zero_le h0
  rw [Int.toNat_natCast] at hx
  cases x
  all_goals
    go_enter Try.func37, Try.ntmps37
    go_wp2_with (go_at_call 29; refine (made_ok _ _ _ _ _ (by omega) h).mono ?_; rintro e w' ⟨rfl, rfl⟩)
    go_ret2
    exact ⟨rfl, rfl⟩
set_option maxHeartbeats 400000 in
theorem find_out (w : World) (b g : Nat) (m c : Nat) (i : Int) (hi : i < 0 ∨ m ≤ i) (hm : 0 < m ∧ m ≤ 64) (h : w.cell? ⟨b, 0, none⟩ = some (.slice (some ⟨g, 0, none⟩) m c)) :
    Calls Try.prog 37 #[.pointer (some ⟨b, 0, none⟩), .int .i64 i] w fun e w' => e = .returned (.tuple #[.pointer none, .int .i64 4]) ∧ w = w' := by
  by_cases h0 : i < 0
  all_goals
    go_enter Try.func37, Try.ntmps37
    go_wp2_with (go_at_call 29; refine (made_ok _ _ _ _ _ (by omega) h).mono ?_; rintro e w' ⟨rfl, rfl⟩)
    go_ret2
    exact ⟨rfl, rfl⟩
set_option maxHeartbeats 400000 in
theorem find_nil (w : World) (i : Int) :
    Calls Try.prog 37 #[.pointer none, .int .i64 i] w fun e w' => e = .returned (.tuple #[.pointer none, .int .i64 1]) ∧ w = w' := by
  go_enter Try.func37, Try.ntmps37
  go_wp2_with (go_at_call 29; refine (made_nil _).mono ?_; rintro e w' ⟨rfl, rfl⟩)
  go_ret2
  exact ⟨rfl, rfl⟩

/-- What find returns of a tree: the block of the arena, or none. -/
def Found (w : World) (own : Nat → Option Nat) (cs : Array Value) (M : Tr) (i : Int) (e : Ending) : Prop :=
  (find M i = none ∧ e = .returned (.tuple #[.pointer none, .int .i64 4])) ∨
  ∃ n b iv, find M i = some n ∧ 0 ≤ i ∧ M[i.toNat]? = some (some n) ∧ cs[i.toNat]? = some (.pointer (some ⟨b, 0, none⟩)) ∧ own b = some (2 * i.toNat + 2) ∧ w.heap[b]? = some (NodeCells n iv) ∧ ItemsAt w own i.toNat iv n.l ∧
    e = .returned (.tuple #[.pointer (some ⟨b, 0, none⟩), .int .i64 0])

theorem find_tree (w : World) (own : Nat → Option Nat) (t g cap : Nat) (cs : Array Value) (M : Tr) (i : Int) (h : TreeAt w own t g cap cs M) (hm : 0 < M.length ∧ M.length ≤ 64) :
    Calls Try.prog 37 #[.pointer (some ⟨t, 0, none⟩), .int .i64 i] w fun e w' => Found w own cs M i e ∧ w = w' := by
  have ht : w.cell? ⟨t, 0, none⟩ = some (.slice (some ⟨g, 0, none⟩) M.length cap) := by simp [World.cell?, h.top]
  by_cases hi : i < 0 ∨ (M.length : Int) ≤ i
  · refine (find_out w t g M.length cap i hi hm ht).mono ?_
    rintro e w' ⟨rfl, rfl⟩
    refine ⟨.inl ⟨?_, rfl⟩, rfl⟩
    unfold find
    split
    · rfl
    · rw [List.getElem?_eq_none (by omega)]; rfl
  · have h0 : ¬ i < 0 := fun x => hi (.inl x)
    have hlt : i.toNat < M.length := by omega
    obtain ⟨o, ho⟩ : ∃ o, M[i.toNat]? = some o := ⟨_, List.getElem?_eq_getElem hlt⟩
    obtain ⟨v, hv, hn⟩ := h.node _ _ ho
    have hf : find M i = o := by unfold find; rw [if_neg h0, ho]; rfl
    cases o with
    | none =>
      have hn' : v = .pointer none := hn
      subst hn'
      refine (find_in w t g M.length cap i none (by omega) (by omega) hm.2 ht (by rw [cell_of_row w g _ cs _ _ h.row, hv])).mono ?_
      rintro e w' ⟨rfl, rfl⟩
      exact ⟨.inl ⟨hf, rfl⟩, rfl⟩
    | some n =>
      obtain ⟨b, iv, rfl, hob, hb, hl⟩ := hn
      refine (find_in w t g M.length cap i _ (by omega) (by omega) hm.2 ht (by rw [cell_of_row w g _ cs _ _ h.row, hv])).mono ?_
      rintro e w' ⟨rfl, rfl⟩
      exact ⟨.inr ⟨n, b, iv, hf, by omega, ho, hv, hob, hb, hl, rfl⟩, rfl⟩

/-- Every item lies so that sums stay small. -/
def Small (l : List Item) : Prop := ∀ x ∈ l, 0 ≤ x.a ∧ 0 ≤ x.s ∧ x.a + x.s ≤ 65536

set_option maxHeartbeats 400000 in
theorem end_ok (w : World) (b : Nat) (n : Node) (v : Value) (h : w.heap[b]? = some (NodeCells n v)) (hr : w.ownsRow 0 54 3 v n.l.length (icells n.l)) (hs : Small n.l) (hl : n.l.length ≤ 200) :
    Calls Try.prog 42 #[.pointer (some ⟨b, 0, none⟩)] w fun e w' => e = .returned (.int .i64 n.fin) ∧ ∃ k, w' = w.drewN k := by
  obtain ⟨c0, c1, c2, c3, c4, _⟩ := nodeOpen h
  rcases rowOpen hr with ⟨rfl, hn⟩ | ⟨g, cap, cur, rfl, hlc, hcm, hg, hcs, hc⟩
  · have hf : n.fin = n.a := by simp [Node.fin, hn]
    rw [hf]
    clear hr hs hf
    go_enter Try.func42, Try.ntmps42
    go_wp2
    go_ret
    exact ⟨rfl, 0, rfl⟩
  · by_cases hn : n.l = []
    · have hf : n.fin = n.a := by simp [Node.fin, hn]
      rw [hn] at c3
      rw [hf]
      clear hr hs hf hc
      go_enter Try.func42, Try.ntmps42
      go_wp2
      go_ret
      exact ⟨rfl, 0, rfl⟩
    · have hp : 0 < n.l.length := List.length_pos_iff.2 hn
      obtain ⟨x, hx⟩ : ∃ x, n.l[n.l.length - 1]? = some x := ⟨_, List.getElem?_eq_getElem (by omega)⟩
      have hf : n.fin = x.a + x.s := by simp [Node.fin, List.getLast?_eq_getElem?, hx]
      obtain ⟨h1, h2, h3⟩ := hc _ _ hx
      obtain ⟨b1, b2, b3⟩ := hs x (List.mem_of_getElem? hx)
      rw [hf]
      generalize hL : n.l.length = L at *
      clear hr hs hf hc hL hx hg hcs h3 hn
      unfold maxLen at hcm
      go_enter Try.func42, Try.ntmps42
      go_wp2
      go_quiet (fail)
      go_wp2
      go_ret
      exact ⟨rfl, _, rfl⟩
end Ne
end Go.Proofs.Ytllmddhahpegmaa
