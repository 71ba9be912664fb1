/- What the walks share: blocks that are kept, ranges over functions. How blocks and rows of integers lie in memory. Slices of any elements of some cells: how they lie, how they are appended. Rows of integers, of numbers. -/
import Derived.RangeFuncNested
import Derived.RangeFuncBound
import Derived.RangeFuncCalls
import Derived.RangeFuncLeaves
import Derived.Shelf.Abstract
import Derived.Shelf.RegionOpen
import Derived.WalkKit
import Derived.OwnWalk
import Derived.OwnWalkIn
import Derived.TacticsInMore
import Derived.LoopNIn
import Derived.LoopIn
import Derived.LoopTactic
import Derived.Lib.Hide
import Derived.Deep.QuietTactic
import Derived.BigQuiet
import Derived.Deep.CutRange
import Derived.Deep.RegionHeld3
import Derived.Deep.AppendLies
import Derived.Laws.Rows
import Derived.Test.YtionocafkaemiaaDoorProg
import Derived.Laws.AppendOwn
import Derived.Laws.AppendOwnNone
import Derived.Deep.RegionLaw
import Derived.Maps.AppendAt
import Derived.Laws.MakeOwn
import Derived.Laws.OwnMore
namespace Go.Proofs.YtionocafkaemiaaDoor
open Go.RowKit Go.Shelf
namespace Sx

/-- Blocks that nobody owns are as they were. -/
structure Keeps (own own' : Nat → Option Nat) (w w' : World) : Prop where
  os : w'.os = w.os
  tape : w'.tape = w.tape
  output : w'.output = w.output
  size : w.heap.size ≤ w'.heap.size
  block : ∀ k, k < w.heap.size → own k = none → w'.heap[k]? = w.heap[k]?
  same : ∀ k, k < w.heap.size → own' k = own k
  new : ∀ k, own' k ≠ none → own k ≠ none ∨ (w.heap.size ≤ k ∧ k < w'.heap.size)

theorem Keeps.refl (own : Nat → Option Nat) (w : World) : Keeps own own w w := ⟨rfl, rfl, rfl, Nat.le_refl _, fun _ _ _ => rfl, fun _ _ => rfl, fun _ h => .inl h⟩
theorem Keeps.trans {o1 o2 o3 : Nat → Option Nat} {a b c : World} (h : Keeps o1 o2 a b) (k : Keeps o2 o3 b c) : Keeps o1 o3 a c :=
  ⟨k.os.trans h.os, k.tape.trans h.tape, k.output.trans h.output, Nat.le_trans h.size k.size,
    fun i hi hn => (k.block i (Nat.lt_of_lt_of_le hi h.size) ((h.same i hi).trans hn)).trans (h.block i hi hn),
    fun i hi => (k.same i (Nat.lt_of_lt_of_le hi h.size)).trans (h.same i hi),
    fun i hi => by
      have h1 := h.size
      have h2 := k.size
      rcases k.new i hi with h3 | h3
      · rcases h.new i h3 with h4 | h4
        · exact .inl h4
        · exact .inr ⟨h4.1, by omega⟩
      · exact .inr ⟨by omega, h3.2⟩⟩

/-- No block that is not there yet is the tree's. -/
def Fresh (own : Nat → Option Nat) (w : World) : Prop := ∀ k, own k ≠ none → k < w.heap.size
theorem Fresh.keeps {own own' : Nat → Option Nat} {w w' : World} (h : Fresh own w) (k : Keeps own own' w w') : Fresh own' w' := fun i hi => by
  rcases k.new i hi with h1 | h1
  · exact Nat.lt_of_lt_of_le (h i h1) k.size
  · exact h1.2
theorem Keeps.of_below (own : Nat → Option Nat) {w w' : World} (h : Below w.heap.size w w') : Keeps own own w w' :=
  ⟨h.os, h.tape, h.output, h.size, fun k hk _ => h.block k hk, fun _ _ => rfl, fun _ h => .inl h⟩

theorem lt_of_heap {w : World} {b : Nat} {o : Obj} (h : w.heap[b]? = some o) : b < w.heap.size := (Array.getElem?_eq_some_iff.1 h).1

theorem row_same {w w' : World} {e s n : Nat} {v : Value} {xs : List Value} (h : w.ownsRow 0 e s v n xs) (hk : ∀ g, v.ownBlock = some g → w'.heap[g]? = w.heap[g]?) : w'.ownsRow 0 e s v n xs := by
  refine ⟨h.1, ?_⟩
  rcases h.2 with hn | ⟨g, cap, cur, rfl, hb, hgg, rest⟩
  · exact .inl hn
  · exact .inr ⟨g, cap, cur, rfl, hb, by rw [hk g rfl]; exact hgg, rest⟩
theorem setCell_at (w : World) (g i : Nat) (cs : Array Value) (t : TypeId) (v : Value) (hg : w.heap[g]? = some (.cells cs t (0, 0))) :
    (w.setCell ⟨g, i, none⟩ v).heap[g]? = some (.cells (cs.setIfInBounds i v) t (0, 0)) := by
  simp [World.setCell, Array.getElem?_modify, hg]
theorem setCell_far (w : World) (a : Addr) (v : Value) (k : Nat) (h : k ≠ a.block) : (w.setCell a v).heap[k]? = w.heap[k]? := Below.heap_setCell w a v k h
theorem setCell_size (w : World) (a : Addr) (v : Value) : (w.setCell a v).heap.size = w.heap.size := by simp [World.setCell]

theorem heapAlloc (w : World) (o : Obj) (k : Nat) : (w.alloc o).heap[k]? = if k = w.heap.size then some o else w.heap[k]? := by
  show (w.heap.push o)[k]? = _
  rw [Array.getElem?_push]
theorem alloc_old (w : World) (o : Obj) (k : Nat) (h : k < w.heap.size) : (w.alloc o).heap[k]? = w.heap[k]? := by rw [heapAlloc, if_neg (by omega)]
structure Grow1 (g : Nat) (w w' : World) : Prop where
  os : w'.os = w.os
  tape : w'.tape = w.tape
  output : w'.output = w.output
  size : w.heap.size ≤ w'.heap.size
  block : ∀ k, k < w.heap.size → k ≠ g → w'.heap[k]? = w.heap[k]?

theorem Grow1.refl (g : Nat) (w : World) : Grow1 g w w := ⟨rfl, rfl, rfl, Nat.le_refl _, fun _ _ _ => rfl⟩
theorem Grow1.trans {g : Nat} {a b c : World} (h : Grow1 g a b) (k : Grow1 g b c) : Grow1 g a c :=
  ⟨k.os.trans h.os, k.tape.trans h.tape, k.output.trans h.output, Nat.le_trans h.size k.size, fun i hi hn => (k.block i (Nat.lt_of_lt_of_le hi h.size) hn).trans (h.block i hi hn)⟩
theorem Grow1.alloc {g : Nat} {a b : World} (h : Grow1 g a b) (o : Obj) : Grow1 g a (b.alloc o) :=
  h.trans ⟨rfl, rfl, rfl, by simp, fun k hk _ => by rw [heapAlloc, if_neg (by omega)]⟩
theorem Grow1.drew {g : Nat} {a b : World} (h : Grow1 g a b) : Grow1 g a b.drew := ⟨h.os, h.tape, h.output, h.size, h.block⟩
theorem Grow1.setCell {g : Nat} {a b : World} (h : Grow1 g a b) (o : Nat) (v : Value) : Grow1 g a (b.setCell ⟨g, o, none⟩ v) :=
  h.trans ⟨rfl, rfl, rfl, by rw [setCell_size]; exact Nat.le_refl _, fun k _ hn => setCell_far _ _ _ _ hn⟩

theorem info_open {P : Program} {t n s b : Nat} (h : (P.info? t).map (fun i => (i.zero.isSome, i.zero.map (fun z => z.cells.size), i.size, i.bytes)) = some (true, some n, s, b)) :
    ∃ i z, P.info? t = some i ∧ i.zero = some z ∧ i.size = s ∧ i.bytes = b ∧ z.cells.size = n := by
  cases hi : P.info? t with
  | none => rw [hi] at h; cases h
  | some i =>
    rw [hi] at h
    simp at h
    obtain ⟨h1, h2, h3, h4⟩ := h
    cases hz : i.zero with
    | none => rw [hz] at h1; cases h1
    | some z =>
      rw [hz] at h2
      obtain ⟨a, ha, hb⟩ := h2
      injection ha with ha
      subst ha
      exact ⟨i, z, rfl, hz, h3, h4, hb⟩
theorem below_box (w : World) (ob : Obj) : Below w.heap.size w (w.alloc ob) := (Below.refl _ _).alloc (Nat.le_refl _) _
theorem one_cell {w : World} {b T : Nat} {x : Value} (h : w.heap[b]? = some (.cells #[x] T (0, 0))) : w.cell? ⟨b, 0, none⟩ = some x ∧ w.frozen? ⟨b, 0, none⟩ = false := by
  constructor <;> simp [World.cell?, World.frozen?, h]
theorem cell_keep {w1 w2 : World} (hb : Below w1.heap.size w1 w2) {b : Nat} {v : Value} (h : w1.cell? ⟨b, 0, none⟩ = some v) : w2.cell? ⟨b, 0, none⟩ = some v :=
  (hb.cell (p := ⟨b, 0, none⟩) (World.block_lt_of_cell? w1 _ h)).trans h
theorem row_below {w w' : World} {B e s n : Nat} {v : Value} {xs : List Value} (h : w.ownsRow B e s v n xs) (hb : Below w.heap.size w w') : w'.ownsRow B e s v n xs := by
  refine ⟨h.1, ?_⟩
  rcases h.2 with hn | ⟨g, cap, cur, rfl, hB, hgg, rest⟩
  · exact .inl hn
  · exact .inr ⟨g, cap, cur, rfl, hB, by rw [hb.block g (lt_of_heap hgg)]; exact hgg, rest⟩
theorem row_keep {w w' : World} {B e s n : Nat} {v : Value} {xs : List Value} (h : w.ownsRow B e s v n xs) (hk : ∀ g, B ≤ g → g < w.heap.size → w'.heap[g]? = w.heap[g]?) : w'.ownsRow B e s v n xs := by
  refine ⟨h.1, ?_⟩
  rcases h.2 with hn | ⟨g, cap, cur, rfl, hB, hgg, rest⟩
  · exact .inl hn
  · exact .inr ⟨g, cap, cur, rfl, hB, by rw [hk g hB (lt_of_heap hgg)]; exact hgg, rest⟩
/-- Only one block is written. -/
structure OnlyB (b : Option Nat) (w w' : World) : Prop where
  os : w'.os = w.os
  tape : w'.tape = w.tape
  output : w'.output = w.output
  size : w'.heap.size = w.heap.size
  block : ∀ k, b ≠ some k → w'.heap[k]? = w.heap[k]?
abbrev Ow := Nat → Option Nat

/-- What is said of a world hangs on the blocks that one owns alone. -/
def Framed {β : Type} (I : Ow → β → World → Prop) : Prop :=
  ∀ own s W W', I own s W → W.heap.size ≤ W'.heap.size → (∀ k, own k ≠ none → k < W.heap.size → W'.heap[k]? = W.heap[k]?) → I own s W'

variable {F : Fence} {n : Nat} {P : Program}

/-- An iterator's contract: it reads what D says, in the blocks of R; whatever the caller owns it leaves as it is; all else that lay stays as it lay. -/
def SeqZ {α : Type} (F : Fence) (n : Nat) (P : Program) (g : Nat) (lb : Array Value) (encs : α → Array Value) (D E : World → Prop) (R : Nat → Prop) (S Sp : List α → Prop) (A : List α → α → Prop) : Prop :=
  ∀ (l : Nat) (J Jx : Ow → List α → World → Prop) (own0 : Ow) (W : World), D W → (∀ k, R k → own0 k = none) → (∀ own pre W1, J own pre W1 → E W1) → Fresh own0 W → Framed J → Framed Jx →
    (∀ own pre x W1, J own pre W1 → Fresh own W1 → A pre x → YieldAt F (n - 1) P l (encs x) W1 fun e W' =>
      ∃ own', Keeps own own' W1 W' ∧ ((e = .returned (.bool true) ∧ J own' (pre ++ [x]) W') ∨ (e = .returned (.bool false) ∧ Jx own' (pre ++ [x]) W'))) →
    J own0 [] W →
    CallsIn F n P g (#[.func (.yield l) #[] #[]] ++ lb) W fun e W' => (∃ v, e = .returned v) ∧ ∃ own', Keeps own0 own' W W' ∧ ((∃ xs, S xs ∧ J own' xs W') ∨ (∃ pre, Sp pre ∧ Jx own' pre W'))

/-- How the body of a round may be left. -/
def postY {α : Type} (I : Ow → List α → World → Prop) (Ix : Code → Ow → List α → World → Prop) (own : Ow) (xs : List α) (W : World) : Exit → Act → World → Prop
  | .normal, _, W' => ∃ own', Keeps own own' W W' ∧ I own' xs W'
  | .ret, _, W' => ∃ own', Keeps own own' W W' ∧ Ix .ret own' xs W'
  | .exit id, _, W' => ∃ own', Keeps own own' W W' ∧ Ix (.exit id) own' xs W'
  | .goto t, _, W' => ∃ own', Keeps own own' W W' ∧ Ix (.goto t) own' xs W'
  | .panic _, _, _ => False
  | .outgrown, _, _ => False

/-- With two blocks more. -/
def cov (d r : Nat) (own : Ow) : Ow := fun k => if k = d ∨ k = r then some 0 else own k

theorem cov_ne {d r k : Nat} {own : Ow} (h : own k ≠ none) : cov d r own k ≠ none := by
  unfold cov; split <;> simp_all
theorem cov_none {d r k : Nat} {own : Ow} (h : cov d r own k = none) : k ≠ d ∧ k ≠ r ∧ own k = none := by
  unfold cov at h
  split at h
  · cases h
  · next e => exact ⟨fun x => e (.inl x), fun x => e (.inr x), h⟩
theorem cov_of {d r k : Nat} {own : Ow} (h1 : k ≠ d) (h2 : k ≠ r) : cov d r own k = own k := by
  unfold cov; rw [if_neg (by rintro (e | e) <;> contradiction)]

/-- A round, with the record's turns before and behind it. -/
theorem keeps_round {d r : Nat} {own own' : Ow} {W1 W2 W3 : World} {o1 o2 : Obj} (h : Keeps own own' (W1.putObj r o1) W2) (e : W3 = W2.putObj r o2) : Keeps (cov d r own) (cov d r own') W1 W3 := by
  subst e
  have hs : (W1.putObj r o1).heap.size = W1.heap.size := by simp
  refine ⟨h.os, h.tape, h.output, by have := h.size; simp at this ⊢; omega, fun k hk hn => ?_, fun k hk => ?_, fun k hk => ?_⟩
  · obtain ⟨h1, h2, h3⟩ := cov_none hn
    rw [World.putObj_heap_other h2, h.block k (by omega) h3, World.putObj_heap_other h2]
  · by_cases e : k = d ∨ k = r
    · simp [cov, e]
    · rw [cov_of (fun x => e (.inl x)) (fun x => e (.inr x)), cov_of (fun x => e (.inl x)) (fun x => e (.inr x))]
      exact h.same k (by omega)
  · by_cases e : k = d ∨ k = r
    · left; simp [cov, e]
    · rw [cov_of (fun x => e (.inl x)) (fun x => e (.inr x))] at hk ⊢
      rcases h.new k hk with h1 | h1
      · exact .inl h1
      · exact .inr ⟨by omega, by simp; exact h1.2⟩

theorem rangeZ {α : Type} {g : Operand} {ps : Array Tmp} {assign body : Code} {Q : Exit → Act → World → Prop} {a : Act} {w : World}
    (hro : F.round = none) (h1 : 1 ≤ n) {gf : Nat} {lb : Array Value} (hg : a.eval g = .func (.func gf) #[] lb) (hFg : F.fn gf) (eg : ∀ args w, (callFunc gf args).run P w = .ok (.enter gf args) w)
    {encs : α → Array Value} {D E : World → Prop} {R : Nat → Prop} {S Sp : List α → Prop} {A : List α → α → Prop} (hseq : SeqZ F (n - 1) P gf lb encs D E R S Sp A)
    (own0 : Ow) (hf0 : Fresh own0 w) (hD : ∀ W, Below w.heap.size w W → D W) (hR : ∀ k, R k → own0 k = none ∧ k < w.heap.size) (hps : ∀ x, (encs x).size = ps.size)
    (I : Ow → List α → World → Prop) (Ix : Code → Ow → List α → World → Prop) (hE : ∀ own pre W, I own pre W → E W) (hI : Framed I) (hIx : ∀ c, Framed (Ix c)) (h0 : I own0 [] w) (a₁ : α → Act)
    (hassign : ∀ (l : Nat) (x : α) (W : World) (K : Act → World → Prop), K (a₁ x) W →
      assign.wpIn (F.inRound l) (n - 1 - 1) P (Exit.then K (fun _ _ _ => False)) { tmps := (ps.zip (encs x)).foldl (fun t (p, v) => t.setIfInBounds p v) a.tmps, defers := [] } W)
    (hbody : ∀ (l : Nat) (own : Ow) (pre : List α) (x : α) (W : World), I own pre W → Fresh own W → A pre x → body.wpIn (F.inRound l) (n - 1 - 1) P (postY I Ix own (pre ++ [x]) W) (a₁ x) W)
    (hdone : ∀ (own : Ow) (xs : List α) (W : World), S xs → I own xs W → Keeps own0 own w W → own w.heap.size = none → W.heap[w.heap.size]? = some (.deferred (some [])) → Q .normal { a with defers := { target := .collected w.heap.size, args := #[] } :: a.defers } W)
    (hstop : ∀ (own : Ow) (c : Code) (pre : List α) (W : World), Sp pre → Ix c own pre W → Keeps own0 own w W → own w.heap.size = none → W.heap[w.heap.size]? = some (.deferred (some [])) → c.wpIn F n P Q { a with defers := { target := .collected w.heap.size, args := #[] } :: a.defers } W) :
    (Code.rangeFunc g ps assign body).wpIn F n P Q a w := by
  refine wpIn_rangeFunc ?_
  intro fn hfn
  rw [hro]
  obtain ⟨rec, hrec⟩ : ∃ rec : LoopState → Option Code → Loop, rec = fun st pe => { state := st, pending := pe, fn, tmps := a.tmps, params := ps, assign, body, defers := w.heap.size } := ⟨_, rfl⟩
  obtain ⟨W1, hW1⟩ : ∃ W1, (w.alloc (.deferred (some []))).alloc (.loop (rec .ready none)) = W1 := ⟨_, rfl⟩
  have hL1 : W1.heap[w.heap.size + 1]? = some (.loop (rec .ready none)) := by
    rw [← hW1]; have := World.alloc_heap_new (w.alloc (.deferred (some []))) (.loop (rec .ready none)); rwa [World.size_alloc] at this
  have hK1 : W1.heap[w.heap.size]? = some (.deferred (some [])) := by
    rw [← hW1]; exact (Below.heap_alloc _ _ _ (by simp)).trans (World.alloc_heap_new w _)
  have hb1 : Below w.heap.size w W1 := by
    rw [← hW1]; exact ((Below.refl _ w).alloc (Nat.le_refl _) _).alloc (by simp) _
  have hs1 : W1.heap.size = w.heap.size + 2 := by rw [← hW1]; simp
  have hfr : ∀ k, w.heap.size ≤ k → own0 k = none := fun k hk => by
    cases e : own0 k with
    | none => rfl
    | some v => exact absurd (hf0 k (by rw [e]; simp)) (by omega)
  have hI1 : I own0 [] W1 := hI own0 [] w W1 h0 (by omega) fun k _ hk => hb1.block k hk
  refine ⟨w.heap.size + 1, [{ target := .collected w.heap.size, args := #[] }], W1, { target := .fn (.func gf) lb, args := #[.func (.yield (w.heap.size + 1)) #[] #[]] }, W1, gf,
    #[.func (.yield (w.heap.size + 1)) #[] #[]] ++ lb, W1, ?_, ?_, ?_, ?_, fun _ => h1, ?_⟩
  · rw [← hW1, hrec]; exact run_enterLoop_outer _ _ _ _ _
  · simp only [resolve, hg]
    simp [go_sem]
  · intro f' hf'; simp [Target.leads] at hf'; subst hf'; exact hFg
  · simp [invoke, go_sem, eg]
  · -- what the iterator is told of the caller
    have hfc : Fresh (cov w.heap.size (w.heap.size + 1) own0) W1 := fun k hk => by
      by_cases e : k = w.heap.size ∨ k = w.heap.size + 1
      · omega
      · rw [cov_of (fun x => e (.inl x)) (fun x => e (.inr x))] at hk
        have := hf0 k hk; omega
    refine (hseq (w.heap.size + 1)
      (fun own2 pre W => ∃ own, I own pre W ∧ Fresh own W ∧ own2 = cov w.heap.size (w.heap.size + 1) own ∧ own w.heap.size = none ∧ own (w.heap.size + 1) = none ∧ W.heap[w.heap.size + 1]? = some (.loop (rec .ready none)) ∧ W.heap[w.heap.size]? = some (.deferred (some [])))
      (fun own2 pre W => ∃ own c, Ix c own pre W ∧ Fresh own W ∧ own2 = cov w.heap.size (w.heap.size + 1) own ∧ own w.heap.size = none ∧ own (w.heap.size + 1) = none ∧ W.heap[w.heap.size + 1]? = some (.loop (rec .done (some c))) ∧ W.heap[w.heap.size]? = some (.deferred (some [])))
      (cov w.heap.size (w.heap.size + 1) own0) W1 (hD W1 hb1)
      (fun k hk => by obtain ⟨e1, e2⟩ := hR k hk; rw [cov_of (by omega) (by omega)]; exact e1) (fun own2 pre W h => by obtain ⟨own, hi, _⟩ := h; exact hE own pre W hi) hfc ?_ ?_ ?_ ⟨own0, hI1, fun k hk => by have := hf0 k hk; omega, rfl, hfr _ (Nat.le_refl _), hfr _ (by omega), hL1, hK1⟩).mono ?_
    · rintro own2 pre W W' ⟨own, hi, hfo, rfl, hd, hr, hl, hk⟩ hsz hb
      have hlr := lt_of_heap hl
      have hld := lt_of_heap hk
      exact ⟨own, hI own pre W W' hi hsz (fun k hk1 hk2 => hb k (cov_ne hk1) hk2), fun k hk1 => Nat.lt_of_lt_of_le (hfo k hk1) hsz, rfl, hd, hr, (hb _ (by simp [cov]) hlr).trans hl, (hb _ (by simp [cov]) hld).trans hk⟩
    · rintro own2 pre W W' ⟨own, c, hi, hfo, rfl, hd, hr, hl, hk⟩ hsz hb
      have hlr := lt_of_heap hl
      have hld := lt_of_heap hk
      exact ⟨own, c, hIx c own pre W W' hi hsz (fun k hk1 hk2 => hb k (cov_ne hk1) hk2), fun k hk1 => Nat.lt_of_lt_of_le (hfo k hk1) hsz, rfl, hd, hr, (hb _ (by simp [cov]) hlr).trans hl, (hb _ (by simp [cov]) hld).trans hk⟩
    · -- a round
      rintro own2 pre x W ⟨own, hi, hfo, rfl, hd, hr, hl, hk⟩ _ hlen
      have hlr := lt_of_heap hl
      have hld := lt_of_heap hk
      have hy := run_yield (P := P) (args := encs x) hl (by rw [hrec]; exact hps x)
      rw [hrec] at hy
      refine ⟨fn, _, assign, body, hy, roundIn_of_wpIn hfn (hassign _ x W _ ⟨_, run_beginRound hl (by rw [hrec]), ?_⟩)⟩
      have hl2 : (W.putObj (w.heap.size + 1) (.loop { rec .ready none with state := .busy })).heap[w.heap.size + 1]? = some (.loop { rec .ready none with state := .busy }) := World.putObj_heap_same hlr
      have hs2 : (W.putObj (w.heap.size + 1) (.loop { rec .ready none with state := .busy })).heap.size = W.heap.size := by simp
      have hk2 : (W.putObj (w.heap.size + 1) (.loop { rec .ready none with state := .busy })).heap[w.heap.size]? = some (.deferred (some [])) := (World.putObj_heap_other (by omega)).trans hk
      have hi2 : I own pre (W.putObj (w.heap.size + 1) (.loop { rec .ready none with state := .busy })) := hI own pre W _ hi (by omega) fun k hk1 _ => World.putObj_heap_other fun e => by subst e; exact hk1 hr
      refine wpIn_mono (hbody _ own pre x _ hi2 (fun k hk1 => by rw [hs2]; exact hfo k hk1) hlen) ?_
      have fin : ∀ (jump : Option Code) (own' : Ow) (W3 : World), Keeps own own' (W.putObj (w.heap.size + 1) (.loop { rec .ready none with state := .busy })) W3 →
          (Instr.endRound (w.heap.size + 1) jump).run P W3 = .ok (.bool jump.isNone) (W3.putObj (w.heap.size + 1) (.loop (rec (if jump.isNone then .ready else .done) jump))) ∧
          own' w.heap.size = none ∧ own' (w.heap.size + 1) = none ∧ Fresh own' (W3.putObj (w.heap.size + 1) (.loop (rec (if jump.isNone then .ready else .done) jump))) ∧
          (W3.putObj (w.heap.size + 1) (.loop (rec (if jump.isNone then .ready else .done) jump))).heap[w.heap.size + 1]? = some (.loop (rec (if jump.isNone then .ready else .done) jump)) ∧
          (W3.putObj (w.heap.size + 1) (.loop (rec (if jump.isNone then .ready else .done) jump))).heap[w.heap.size]? = some (.deferred (some [])) ∧
          (∀ k, own' k ≠ none → (W3.putObj (w.heap.size + 1) (.loop (rec (if jump.isNone then .ready else .done) jump))).heap[k]? = W3.heap[k]?) := fun jump own' W3 hk3 => by
        have hl3 := (hk3.block (w.heap.size + 1) (by omega) hr).trans hl2
        have hd3 : own' w.heap.size = none := (hk3.same _ (by omega)).trans hd
        have hr3 : own' (w.heap.size + 1) = none := (hk3.same _ (by omega)).trans hr
        have := run_endRound (P := P) jump hl3
        rw [hrec] at this ⊢
        refine ⟨this, hd3, hr3, fun k hk' => ?_, World.putObj_heap_same (lt_of_heap hl3), (World.putObj_heap_other (by omega)).trans ((hk3.block _ (by omega) hd).trans hk2), fun k hk' => World.putObj_heap_other fun e => by subst e; exact hk' hr3⟩
        have := (show Fresh own (W.putObj (w.heap.size + 1) (.loop { rec .ready none with state := .busy })) from fun k hk1 => by rw [hs2]; exact hfo k hk1).keeps hk3 k hk'
        simpa using this
      rintro e a3 W3 hp
      cases e with
      | normal =>
        obtain ⟨own', hk3, hi3⟩ := hp
        obtain ⟨hr4, hd3, hr3, hf3, hl4, hk4, hb4⟩ := fin none own' W3 hk3
        exact ⟨_, _, hr4, cov w.heap.size (w.heap.size + 1) own', keeps_round hk3 rfl, .inl ⟨rfl, own', hI own' _ W3 _ hi3 (by simp) (fun k h _ => hb4 k h), hf3, rfl, hd3, hr3, hl4, hk4⟩⟩
      | ret =>
        obtain ⟨own', hk3, hi3⟩ := hp
        obtain ⟨hr4, hd3, hr3, hf3, hl4, hk4, hb4⟩ := fin (some .ret) own' W3 hk3
        exact ⟨_, _, hr4, cov w.heap.size (w.heap.size + 1) own', keeps_round hk3 rfl, .inr ⟨rfl, own', .ret, hIx _ own' _ W3 _ hi3 (by simp) (fun k h _ => hb4 k h), hf3, rfl, hd3, hr3, hl4, hk4⟩⟩
      | exit id =>
        obtain ⟨own', hk3, hi3⟩ := hp
        obtain ⟨hr4, hd3, hr3, hf3, hl4, hk4, hb4⟩ := fin (some (.exit id)) own' W3 hk3
        exact ⟨_, _, hr4, cov w.heap.size (w.heap.size + 1) own', keeps_round hk3 rfl, .inr ⟨rfl, own', .exit id, hIx _ own' _ W3 _ hi3 (by simp) (fun k h _ => hb4 k h), hf3, rfl, hd3, hr3, hl4, hk4⟩⟩
      | goto t =>
        obtain ⟨own', hk3, hi3⟩ := hp
        obtain ⟨hr4, hd3, hr3, hf3, hl4, hk4, hb4⟩ := fin (some (.goto t)) own' W3 hk3
        exact ⟨_, _, hr4, cov w.heap.size (w.heap.size + 1) own', keeps_round hk3 rfl, .inr ⟨rfl, own', .goto t, hIx _ own' _ W3 _ hi3 (by simp) (fun k h _ => hb4 k h), hf3, rfl, hd3, hr3, hl4, hk4⟩⟩
      | panic ch => exact hp.elim
      | outgrown => exact hp.elim
    · -- behind the iterator
      have fin : ∀ (own own2 : Ow) (W2 : World) (o : Obj), Keeps (cov w.heap.size (w.heap.size + 1) own0) own2 W1 W2 → own2 = cov w.heap.size (w.heap.size + 1) own → own w.heap.size = none → own (w.heap.size + 1) = none → Keeps own0 own w (W2.putObj (w.heap.size + 1) o) := by
        intro own own2 W2 o hK he hd hr
        subst he
        refine ⟨hK.os.trans hb1.os, hK.tape.trans hb1.tape, hK.output.trans hb1.output, ?_, fun k hk hn => ?_, fun k hk => ?_, fun k hk => ?_⟩
        · have := hK.size; simp; omega
        · rw [World.putObj_heap_other (by omega), hK.block k (by omega) (by rw [cov_of (by omega) (by omega)]; exact hn)]
          exact hb1.block k hk
        · have := hK.same k (by omega)
          rwa [cov_of (by omega) (by omega), cov_of (by omega) (by omega)] at this
        · have hkd : k ≠ w.heap.size := fun e => by subst e; exact hk hd
          have hkr : k ≠ w.heap.size + 1 := fun e => by subst e; exact hk hr
          rcases hK.new k (by rw [cov_of hkd hkr]; exact hk) with h1 | h1
          · rw [cov_of hkd hkr] at h1; exact .inl h1
          · exact .inr ⟨by omega, by simp; exact h1.2⟩
      rintro e W2 ⟨⟨v, rfl⟩, own2, hK, (⟨xs, hS, own, hi, hfo, he, hd, hr, hl, hk⟩ | ⟨pre, hSp, own, c, hi, hfo, he, hd, hr, hl, hk⟩)⟩
      · have hend := run_endLoop (P := P) hl (by rw [hrec]; simp)
        rw [hrec] at hend
        exact ⟨none, _, hend, hdone own xs _ hS (hI own xs W2 _ hi (by simp) fun k h1 _ => World.putObj_heap_other fun e => by subst e; exact h1 hr) (fin own own2 W2 _ hK he hd hr) hd ((World.putObj_heap_other (by omega)).trans hk)⟩
      · have hend := run_endLoop (P := P) hl (by rw [hrec]; simp)
        rw [hrec] at hend
        exact ⟨some c, _, hend, hstop own c pre _ hSp (hIx c own pre W2 _ hi (by simp) fun k h1 _ => World.putObj_heap_other fun e => by subst e; exact h1 hr) (fin own own2 W2 _ hK he hd hr) hd ((World.putObj_heap_other (by omega)).trans hk)⟩
end Sx
end Go.Proofs.YtionocafkaemiaaDoor
namespace Go.Proofs.YtionocafkaemiaaDoor
open Go.RowKit
namespace Sx
abbrev addr (A : List Int) (i : Nat) : Int := A.getD i 0

theorem below_drewN {n : Nat} {w w' : World} (h : Below n w w') (q : Nat) : Below n w (w'.drewN q) := ⟨h.os, h.tape, h.output, h.size, h.block⟩
theorem below_drew {n : Nat} {w w' : World} (h : Below n w w') : Below n w w'.drew := ⟨h.os, h.tape, h.output, h.size, h.block⟩
theorem bcell {W w1 : World} {n : Nat} (hb : Below n W w1) : (∀ b o, b < n → w1.cell? ⟨b, o, none⟩ = W.cell? ⟨b, o, none⟩) ∧ (∀ b o, b < n → w1.frozen? ⟨b, o, none⟩ = W.frozen? ⟨b, o, none⟩) :=
  ⟨fun b o h => hb.cell (p := ⟨b, o, none⟩) h, fun b o h => hb.frozen (p := ⟨b, o, none⟩) h⟩
theorem add_plain (g o n : Nat) : (⟨g, o, none⟩ : Addr).add n = ⟨g, o + n, none⟩ := by
  unfold Addr.add
  split
  · next h => rw [h]; rfl
  · rfl

/-- A slice of integers that lies somewhere. -/
def IAt (w : World) (A : Option Addr) (c : Nat) (M : List Int) : Prop :=
  M.length ≤ c ∧ c ≤ maxLen ∧ ∀ (j : Nat) (x : Int), M[j]? = some x → ∃ g o, A = some ⟨g, o, none⟩ ∧ g < w.heap.size ∧ w.cell? ⟨g, o + j, none⟩ = some (.int .i64 x)
theorem IAt.keep {w w' : World} {A : Option Addr} {c : Nat} {M : List Int} (h : IAt w A c M) (hs : w.heap.size ≤ w'.heap.size) (hk : ∀ g, A.map (·.block) = some g → g < w.heap.size → w'.heap[g]? = w.heap[g]?) : IAt w' A c M := by
  refine ⟨h.1, h.2.1, fun j x hx => ?_⟩
  obtain ⟨g, o, hA, hg, h1⟩ := h.2.2 j x hx
  exact ⟨g, o, hA, by omega, (World.cell?_of_block (a := ⟨g, _, none⟩) (hk g (by rw [hA]; rfl) hg)).trans h1⟩
theorem IAt.below {w w' : World} {n : Nat} {A : Option Addr} {c : Nat} {M : List Int} (h : IAt w A c M) (hb : Below n w w') (hn : w.heap.size ≤ n) : IAt w' A c M :=
  h.keep hb.size fun g _ hg => hb.block g (by omega)
theorem IAt.at {w : World} {A : Option Addr} {c : Nat} {M : List Int} (h : IAt w A c M) {j : Nat} (hj : j < M.length) : ∃ g o, A = some ⟨g, o, none⟩ ∧ g < w.heap.size ∧ w.cell? ⟨g, o + j, none⟩ = some (.int .i64 (addr M j)) :=
  h.2.2 j _ (by unfold addr; rw [List.getD_eq_getElem?_getD, List.getElem?_eq_getElem hj]; rfl)
theorem IAt.head {w : World} {A : Option Addr} {c : Nat} {M : List Int} (h : IAt w A c M) (hp : 0 < M.length) : ∃ g o, A = some ⟨g, o, none⟩ ∧ g < w.heap.size := by
  obtain ⟨g, o, h1, h2, _⟩ := h.at hp
  exact ⟨g, o, h1, h2⟩
theorem IAt.block {w : World} {g o c : Nat} {M : List Int} (h : IAt w (.some ⟨g, o, none⟩) c M) (hp : 0 < M.length) : g < w.heap.size := by
  obtain ⟨g', o', h1, h2, _⟩ := h.at hp
  injection h1 with h1; injection h1 with h1 _
  rw [h1]; exact h2
theorem IAt.take {w : World} {A : Option Addr} {c : Nat} {M : List Int} (h : IAt w A c M) (k c' : Nat) (hk : min k M.length ≤ c') (hc : c' ≤ maxLen) : IAt w A c' (M.take k) :=
  ⟨by rw [List.length_take]; exact hk, hc, fun j x hx => by
    rw [List.getElem?_take] at hx
    split at hx
    · exact h.2.2 j x hx
    · cases hx⟩
theorem IAt.drop {w : World} {g o c k : Nat} {M : List Int} (h : IAt w (some ⟨g, o, none⟩) c M) (hk : k ≤ M.length) : IAt w (some ⟨g, o + k, none⟩) (c - k) (M.drop k) := by
  have h1 := h.1
  have h2 := h.2.1
  refine ⟨by rw [List.length_drop]; omega, by omega, fun j x hx => ?_⟩
  rw [List.getElem?_drop] at hx
  obtain ⟨g', o', hA, hg, d⟩ := h.2.2 _ x hx
  injection hA with hA; injection hA with e1 e2
  subst e1; subst e2
  exact ⟨g, o + k, rfl, hg, by rw [Nat.add_assoc]; exact d⟩
theorem iat_nil (w : World) : IAt w none 0 [] := ⟨Nat.le_refl _, Nat.zero_le _, fun j x hx => by simp at hx⟩

/-- The cells of a row of integers. -/
def ci (M : List Int) : List Value := M.map (.int .i64)
theorem ci_len (M : List Int) : (ci M).length = M.length := List.length_map _
theorem ci_add (M N : List Int) : ci (M ++ N) = ci M ++ ci N := List.map_append ..
theorem ci_get {M : List Int} {j : Nat} {x : Int} (h : M[j]? = some x) : (ci M)[j]? = some (.int .i64 x) := by unfold ci; rw [List.getElem?_map, h]; rfl
theorem ci_one (M : List Int) : ∀ u ∈ ci M, u.oneCell' = true := by
  intro u hu
  obtain ⟨x, _, rfl⟩ := List.mem_map.1 hu
  rfl
theorem i_addr {w : World} {A : Option Addr} {ad : Addr} {c : Nat} {M : List Int} (h : IAt w A c M) (hA : A = some ad) : ∀ j u, (ci M)[j]? = some u → w.cell? (ad.add j) = some u := by
  intro j u hu
  have hj : j < M.length := by have := (List.getElem?_eq_some_iff.1 hu).1; rwa [ci_len] at this
  obtain ⟨x, hx⟩ : ∃ x, M[j]? = some x := ⟨_, List.getElem?_eq_getElem hj⟩
  rw [ci_get hx] at hu
  injection hu with hu
  obtain ⟨g, o, h1, _, h3⟩ := h.2.2 j x hx
  rw [hA] at h1
  injection h1 with h1
  rw [h1, ← hu, add_plain]
  exact h3
/-- A row of one's own: of the type T. -/
abbrev OwnI (w : World) (B T : Nat) (A : Option Addr) (c : Nat) (M : List Int) : Prop := w.ownsRow B T 1 (.slice A M.length c) M.length (ci M)
theorem row_at {w : World} {B T s n c g : Nat} {xs : List Value} (h : w.ownsRow B T s (.slice (some ⟨g, 0, none⟩) n c) n xs) {j : Nat} {v : Value} (hj : xs[j]? = some v) : w.cell? ⟨g, j, none⟩ = some v := by
  have := h.cells (g := g) rfl _ _ hj
  rwa [add_plain, Nat.zero_add] at this
theorem OwnI.at {w : World} {B T c : Nat} {A : Option Addr} {M : List Int} (h : OwnI w B T A c M) : IAt w A c M ∧ ∀ g, A.map (·.block) = some g → B ≤ g ∧ g < w.heap.size := by
  rcases h.2 with ⟨hv, h0⟩ | ⟨g, cp, cur, hv, hB, hg, h1, h2, _⟩
  · injection hv with e1 e2 e3
    subst e1; subst e3
    exact ⟨⟨by omega, by unfold maxLen; omega, fun j x hx => by have := (List.getElem?_eq_some_iff.1 hx).1; omega⟩, fun g hg => by cases hg⟩
  · injection hv with e1 e2 e3
    subst e1; subst e3
    refine ⟨⟨h1, h2, fun j x hx => ⟨g, 0, rfl, lt_of_heap hg, by rw [Nat.zero_add]; exact row_at h (ci_get hx)⟩⟩, fun g' hg' => ?_⟩
    injection hg' with hg'
    exact ⟨by rw [← hg']; exact hB, by rw [← hg']; exact lt_of_heap hg⟩
theorem OwnI.nil {w : World} {B T c : Nat} {A : Option Addr} {M : List Int} (h : OwnI w B T A c M) : A = none → c = 0 ∧ M = [] := by
  rintro rfl
  rcases h.2 with ⟨hv, h0⟩ | ⟨g, cp, cur, hv, _⟩
  · injection hv with e1 e2 e3
    exact ⟨e3, List.length_eq_zero_iff.1 h0⟩
  · injection hv with h1; cases h1
theorem row_own {w : World} {B T s n : Nat} {xs : List Value} {v : Value} (h : w.ownsRow B T s v n xs) : ∃ A c, v = .slice A n c := by
  rcases h.2 with ⟨hv, h0⟩ | ⟨g, cp, cur, hv, _⟩
  · exact ⟨_, _, by rw [hv, h0]⟩
  · exact ⟨_, _, hv⟩
theorem own_nil (w : World) (B T : Nat) : OwnI w B T none 0 [] := ⟨rfl, .inl ⟨rfl, rfl⟩⟩
theorem row_low {w : World} {B B' e s n : Nat} {v : Value} {xs : List Value} (h : w.ownsRow B e s v n xs) (hB : B' ≤ B) : w.ownsRow B' e s v n xs := by
  refine ⟨h.1, ?_⟩
  rcases h.2 with hn | ⟨g, cap, cur, hv, hb, rest⟩
  · exact .inl hn
  · exact .inr ⟨g, cap, cur, hv, Nat.le_trans hB hb, rest⟩

/-- A block of integers, written in place. -/
def RowI (T : TypeId) (w : World) (g : Nat) (M : List Int) : Prop := ∃ cs : Array Value, w.heap[g]? = some (.cells cs T (0, 0)) ∧ cs.toList = ci M
theorem RowI.lt {T : TypeId} {w : World} {g : Nat} {M : List Int} (h : RowI T w g M) : g < w.heap.size := by
  obtain ⟨cs, h1, _⟩ := h; exact lt_of_heap h1
theorem RowI.keep {T : TypeId} {w w' : World} {g : Nat} {M : List Int} (h : RowI T w g M) (hk : w'.heap[g]? = w.heap[g]?) : RowI T w' g M := by
  obtain ⟨cs, h1, h2⟩ := h; exact ⟨cs, hk.trans h1, h2⟩
theorem RowI.cell {T : TypeId} {w : World} {g : Nat} {M : List Int} (h : RowI T w g M) {j : Nat} (hj : j < M.length) : w.cell? ⟨g, j, none⟩ = some (.int .i64 (addr M j)) := by
  obtain ⟨cs, h1, h2⟩ := h
  rw [cell_of_row _ _ _ _ _ _ h1, ← Array.getElem?_toList, h2]
  exact ci_get (by unfold addr; rw [List.getD_eq_getElem?_getD, List.getElem?_eq_getElem hj]; rfl)
theorem RowI.frozen {T : TypeId} {w : World} {g : Nat} {M : List Int} (h : RowI T w g M) (j : Nat) : w.frozen? ⟨g, j, none⟩ = false := by
  obtain ⟨cs, h1, _⟩ := h; simp [World.frozen?, h1]
theorem RowI.set {T : TypeId} {w : World} {g : Nat} {M : List Int} (h : RowI T w g M) (j : Nat) (v : Int) : RowI T (w.setCell ⟨g, j, none⟩ (.int .i64 v)) g (M.set j v) := by
  obtain ⟨cs, h1, h2⟩ := h
  refine ⟨_, setCell_at _ _ _ _ _ _ h1, ?_⟩
  rw [Array.toList_setIfInBounds, h2]
  unfold ci
  rw [List.map_set]
theorem RowI.at {T : TypeId} {w : World} {g : Nat} {M : List Int} (h : RowI T w g M) (hm : M.length ≤ maxLen) : IAt w (some ⟨g, 0, none⟩) M.length M :=
  ⟨Nat.le_refl _, hm, fun j x hx => ⟨g, 0, rfl, h.lt, by
    rw [Nat.zero_add]
    obtain ⟨cs, h1, h2⟩ := h
    rw [cell_of_row _ _ _ _ _ _ h1, ← Array.getElem?_toList, h2]
    exact ci_get hx⟩⟩
/-- Naturals as integers. -/
abbrev zs (l : List Nat) : List Int := l.map fun (n : Nat) => (n : Int)
theorem zs_get {l : List Nat} {j x : Nat} (h : l[j]? = some x) : (zs l)[j]? = some (x : Int) := by rw [List.getElem?_map, h]; rfl
theorem iat_nat {w : World} {A : Option Addr} {c : Nat} {l : List Nat} (h : IAt w A c (zs l)) {j x : Nat} (hj : l[j]? = some x) : ∃ g o, A = some ⟨g, o, none⟩ ∧ g < w.heap.size ∧ w.cell? ⟨g, o + j, none⟩ = some (.int .i64 (x : Int)) := h.2.2 j _ (zs_get hj)

theorem cell_keep2 {w1 w2 : World} (hb : Below w1.heap.size w1 w2) {b o : Nat} {v : Value} (h : w1.cell? ⟨b, o, none⟩ = some v) : w2.cell? ⟨b, o, none⟩ = some v :=
  (hb.cell (p := ⟨b, o, none⟩) (World.block_lt_of_cell? w1 _ h)).trans h
theorem three_at {W : World} {B T : Nat} {x0 x1 x2 : Value} (h : W.heap[B]? = some (.cells #[x0, x1, x2] T (0, 0))) : W.cell? ⟨B, 0, none⟩ = some x0 ∧ W.cell? ⟨B, 1, none⟩ = some x1 ∧ W.cell? ⟨B, 2, none⟩ = some x2 := by
  refine ⟨?_, ?_, ?_⟩ <;> (rw [cell_of_row _ _ _ _ _ _ h]; rfl)
end Sx
end Go.Proofs.YtionocafkaemiaaDoor
namespace Go.Proofs.YtionocafkaemiaaDoor
open Go.RowKit
namespace Sx

/-- An element's cells. -/
structure Enc {α : Type} (enc : α → List Value) (k : Nat) : Prop where
  pos : 0 < k
  len : ∀ x, (enc x).length = k
  one : ∀ x u, u ∈ enc x → u.oneCell' = true
section
variable {α : Type} {enc : α → List Value} {k : Nat}
def ce (enc : α → List Value) (L : List α) : List Value := L.flatMap enc
theorem ce_len (E : Enc enc k) : ∀ L : List α, (ce enc L).length = L.length * k
  | [] => by simp [ce]
  | x :: L => by
    have ih := ce_len E L
    unfold ce at *
    rw [List.flatMap_cons, List.length_append, E.len, ih, List.length_cons, Nat.succ_mul]; omega
theorem ce_add (L M : List α) : ce enc (L ++ M) = ce enc L ++ ce enc M := by unfold ce; rw [List.flatMap_append]
theorem ce_one (E : Enc enc k) (L : List α) : ∀ u ∈ ce enc L, u.oneCell' = true := by
  intro u hu
  unfold ce at hu
  obtain ⟨x, _, h⟩ := List.mem_flatMap.1 hu
  exact E.one x u h
theorem ce_get (E : Enc enc k) : ∀ {L : List α} {j : Nat} {x : α}, L[j]? = some x → ∀ {i : Nat}, i < k → (ce enc L)[j * k + i]? = (enc x)[i]?
  | [], j, x, h, i, _ => by simp at h
  | y :: L, 0, x, h, i, hi => by
    have e : y = x := by simpa using h
    subst e
    unfold ce
    rw [List.flatMap_cons, Nat.zero_mul, Nat.zero_add, List.getElem?_append_left (by rw [E.len]; exact hi)]
  | y :: L, j + 1, x, h, i, hi => by
    have h' : L[j]? = some x := by simpa using h
    have ih := ce_get E h' hi
    unfold ce at *
    rw [List.flatMap_cons, List.getElem?_append_right (by rw [E.len, Nat.succ_mul]; omega), E.len]
    rw [← ih]; congr 1; rw [Nat.succ_mul]; omega
theorem ce_at (E : Enc enc k) {L : List α} {n : Nat} (h : n < L.length * k) : ∃ j i x, n = j * k + i ∧ i < k ∧ L[j]? = some x := by
  have hp := E.pos
  refine ⟨n / k, n % k, ?_⟩
  have h1 : n / k < L.length := Nat.div_lt_of_lt_mul (by rw [Nat.mul_comm]; exact h)
  refine ⟨_, ?_, Nat.mod_lt _ hp, List.getElem?_eq_getElem h1⟩
  rw [Nat.mul_comm]; exact (Nat.div_add_mod n k).symm
/-- A slice of elements that lies somewhere. -/
def EAt (enc : α → List Value) (k : Nat) (w : World) (A : Option Addr) (c : Nat) (L : List α) : Prop :=
  L.length ≤ c ∧ c ≤ maxLen ∧ ∀ (j : Nat) (x : α), L[j]? = some x → ∃ g o, A = some ⟨g, o, none⟩ ∧ g < w.heap.size ∧ ∀ i v, i < k → (enc x)[i]? = some v → w.cell? ⟨g, o + j * k + i, none⟩ = some v
theorem EAt.keep {w w' : World} {A : Option Addr} {c : Nat} {L : List α} (h : EAt enc k w A c L) (hs : w.heap.size ≤ w'.heap.size) (hk : ∀ g, A.map (·.block) = some g → g < w.heap.size → w'.heap[g]? = w.heap[g]?) : EAt enc k w' A c L := by
  refine ⟨h.1, h.2.1, fun j x hx => ?_⟩
  obtain ⟨g, o, hA, hg, h1⟩ := h.2.2 j x hx
  have e := hk g (by rw [hA]; rfl) hg
  exact ⟨g, o, hA, by omega, fun i v hi hv => (World.cell?_of_block (a := ⟨g, _, none⟩) e).trans (h1 i v hi hv)⟩
theorem EAt.below {w w' : World} {n : Nat} {A : Option Addr} {c : Nat} {L : List α} (h : EAt enc k w A c L) (hb : Below n w w') (hn : w.heap.size ≤ n) : EAt enc k w' A c L :=
  h.keep hb.size fun g _ hg => hb.block g (by omega)
theorem EAt.take {w : World} {A : Option Addr} {c : Nat} {L : List α} (h : EAt enc k w A c L) (n c' : Nat) (hk : min n L.length ≤ c') (hc : c' ≤ maxLen) : EAt enc k w A c' (L.take n) :=
  ⟨by rw [List.length_take]; exact hk, hc, fun j x hx => by
    rw [List.getElem?_take] at hx
    split at hx
    · exact h.2.2 j x hx
    · cases hx⟩
theorem EAt.drop {w : World} {g o c n : Nat} {L : List α} (h : EAt enc k w (some ⟨g, o, none⟩) c L) (hk : n ≤ L.length) : EAt enc k w (some ⟨g, o + n * k, none⟩) (c - n) (L.drop n) := by
  have h1 := h.1
  have h2 := h.2.1
  refine ⟨by rw [List.length_drop]; omega, by omega, fun j x hx => ?_⟩
  rw [List.getElem?_drop] at hx
  obtain ⟨g', o', hA, hg, d⟩ := h.2.2 _ x hx
  injection hA with hA; injection hA with e1 e2
  subst e1; subst e2
  refine ⟨g, o + n * k, rfl, hg, fun i v hi hv => ?_⟩
  have := d i v hi hv
  rw [Nat.add_mul] at this
  rw [show o + n * k + j * k + i = o + (n * k + j * k) + i by omega]; exact this
theorem eat_nil (w : World) : EAt enc k w none 0 [] := ⟨Nat.le_refl _, Nat.zero_le _, fun j x hx => by simp at hx⟩
theorem EAt.addr (E : Enc enc k) {w : World} {ad : Addr} {c : Nat} {L : List α} (h : EAt enc k w (some ad) c L) : ∀ (j : Nat) (u : Value), (ce enc L)[j]? = some u → w.cell? (ad.add j) = some u := by
  intro j u hu
  have hj := (List.getElem?_eq_some_iff.1 hu).1
  rw [ce_len E] at hj
  obtain ⟨q, i, x, rfl, hi, hx⟩ := ce_at E hj
  rw [ce_get E hx hi] at hu
  obtain ⟨g, o, hA, _, d⟩ := h.2.2 q x hx
  injection hA with hA
  subst hA
  rw [add_plain, ← Nat.add_assoc]
  exact d i u hi hu
/-- A row of one's own. -/
abbrev OwnE (enc : α → List Value) (k : Nat) (w : World) (B T : Nat) (A : Option Addr) (c : Nat) (L : List α) : Prop := w.ownsRow B T k (.slice A L.length c) L.length (ce enc L)
theorem OwnE.at (E : Enc enc k) {w : World} {B T c : Nat} {A : Option Addr} {L : List α} (h : OwnE enc k w B T A c L) : EAt enc k w A c L ∧ ∀ g, A.map (·.block) = some g → B ≤ g ∧ g < w.heap.size := by
  rcases h.2 with ⟨hv, h0⟩ | ⟨g, cp, cur, hv, hB, hg, h1, h2, _⟩
  · injection hv with e1 e2 e3
    subst e1; subst e3
    exact ⟨⟨by omega, by unfold maxLen; omega, fun j x hx => by have := (List.getElem?_eq_some_iff.1 hx).1; omega⟩, fun g hg => by cases hg⟩
  · injection hv with e1 e2 e3
    subst e1; subst e3
    refine ⟨⟨h1, h2, fun j x hx => ?_⟩, fun g' hg' => ?_⟩
    · have hjl := (List.getElem?_eq_some_iff.1 hx).1
      refine ⟨g, 0, rfl, lt_of_heap hg, fun i v hi hvv => ?_⟩
      rw [← ce_get E hx hi] at hvv
      have := h.cells (g := g) rfl _ _ hvv
      rw [add_plain] at this
      rw [Nat.zero_add]; rw [Nat.zero_add] at this; exact this
    · injection hg' with hg'
      exact ⟨by rw [← hg']; exact hB, by rw [← hg']; exact lt_of_heap hg⟩
theorem OwnE.nil {w : World} {B T c : Nat} {A : Option Addr} {L : List α} (h : OwnE enc k w B T A c L) : A = none → c = 0 ∧ L = [] := by
  rintro rfl
  rcases h.2 with ⟨hv, h0⟩ | ⟨g, cp, cur, hv, _⟩
  · injection hv with e1 e2 e3
    exact ⟨e3, List.length_eq_zero_iff.1 h0⟩
  · injection hv with h1; cases h1
theorem owne_nil (w : World) (B T : Nat) : OwnE enc k w B T none 0 [] := ⟨by simp [ce], .inl ⟨rfl, rfl⟩⟩
theorem owne_new (w : World) (T : TypeId) : OwnE enc k (w.alloc (.cells #[] T)) w.heap.size T (some ⟨w.heap.size, 0, none⟩) 0 [] :=
  ⟨by simp [ce], .inr ⟨w.heap.size, 0, #[], rfl, Nat.le_refl _, by rw [heapAlloc, if_pos rfl], Nat.le_refl _, Nat.zero_le _, by simp, by simp [ce]⟩⟩
theorem owne_one (E : Enc enc k) (w : World) (T : TypeId) (x : α) (cs : Array Value) (hcs : cs.toList = enc x) : OwnE enc k (w.alloc (.cells cs T)) w.heap.size T (some ⟨w.heap.size, 0, none⟩) 1 [x] := by
  have hc : ce enc [x] = enc x := by simp [ce]
  have hl : cs.size = k := by rw [← Array.length_toList, hcs, E.len]
  refine ⟨by rw [hc, E.len]; simp, .inr ⟨w.heap.size, 1, cs, rfl, Nat.le_refl _, by rw [heapAlloc, if_pos rfl], Nat.le_refl _, by unfold maxLen; omega, by rw [hl]; simp, ?_⟩⟩
  rw [hc, hcs]
  exact List.take_of_length_le (by rw [E.len]; simp)
theorem grown_refl (w : World) (row : Option Nat) : w.grownBy w row := ⟨rfl, rfl, rfl, Nat.le_refl _, fun _ _ _ => rfl⟩
theorem below_grown {w w' : World} {v : Value} {n : Nat} (h : w.grownBy w' v.ownBlock) (hn : n ≤ w.heap.size) (hv : ∀ g, v.ownBlock = some g → n ≤ g) : Below n w w' :=
  ⟨h.os, h.tape, h.output, h.size, fun k hk => h.block k (by omega) fun e => by have := hv k e.symm; omega⟩
set_option maxRecDepth 100000 in
/-- Appending to a row of one's own, with the place of the result. -/
theorem run_append_e (E : Enc enc k) {ts te : TypeId} {by_ : Nat} (hts : Tryd.prog.underlying ts = some (.slice te)) (hte : (Tryd.prog.info? te).map (fun i => (i.zero.isSome, i.zero.map (fun z => z.cells.size), i.size, i.bytes)) = some (true, some k, k, by_)) (hby : by_ ≤ 1000000)
    (w : World) (ty : TypeId) (base : Nat) (A0 : Option Addr) (c0 : Nat) (X : List α) (hown : OwnE enc k w base te A0 c0 X)
    (A : Option Addr) (c : Nat) (M : List α) (hM : EAt enc k w A c M) (hn : A = none → c = 0) (hlen : X.length + M.length ≤ 100000) (hbase : base ≤ w.heap.size) :
    ∃ A' c' w', (Builtin.append_ #[ts, ts] ty #[.slice A0 X.length c0, .slice A M.length c]).run Tryd.prog w = .ok (.slice A' (X ++ M).length c') w' ∧ OwnE enc k w' base te A' c' (X ++ M) ∧ w.grownBy w' (Value.slice A0 X.length c0).ownBlock ∧ (A'.map (·.block) = A0.map (·.block) ∨ A'.map (·.block) = some w.heap.size) := by
  obtain ⟨i0, z0, hi0, hz0, hz1, hz2, hz3⟩ := info_open hte
  have hkp := E.pos
  cases A with
  | none =>
    obtain rfl := hn rfl
    have hM0 : M = [] := List.length_eq_zero_iff.1 (by have := hM.1; omega)
    subst hM0
    have hrun := run_append_owned_none (P := Tryd.prog) (w := w) base ts ty te i0 k hts hi0 _ X.length (ce enc X) hown
    rw [List.append_nil]
    exact ⟨A0, c0, w, hrun, hown, grown_refl _ _, .inl rfl⟩
  | some ad =>
    have hbb : (X.length + M.length) * by_ ≤ 100000 * 1000000 := Nat.mul_le_mul hlen hby
    obtain ⟨v', w', hr, h2, h3, _, h5⟩ := run_append_own_at (P := Tryd.prog) (w := w) base ts ty te i0 z0 k by_ hts hi0 hz0 hz1 hz2 hz3 (by omega) _ X.length (ce enc X) hown ad M.length c (ce enc M) (ce_len E M) (hM.addr E) (ce_one E M) (by unfold maxLen; omega) (by omega) hbase
    rw [← List.length_append, ← ce_add] at h2
    obtain ⟨A', c', rfl⟩ := row_own h2
    refine ⟨A', c', w', hr, h2, h3, ?_⟩
    cases A' with
    | none =>
      rcases h5 with h5 | h5
      · left
        cases A0 with
        | none => rfl
        | some a => cases h5
      · cases h5
    | some b =>
      rcases h5 with h5 | h5
      · left
        cases A0 with
        | none => cases h5
        | some a => exact h5
      · right; exact h5
theorem own_blk {A0 : Option Addr} {n c0 g : Nat} (h : (Value.slice A0 n c0).ownBlock = some g) : A0.map (·.block) = some g := by
  cases A0 with
  | none => cases h
  | some a => exact h
theorem wp_append_run {ts : TypeId} {o : Oper} {a : Act} {w : World} {K : Act → World → Prop} {Q : Exit → Act → World → Prop} (s x : Operand) (ho : o.op = .call { callee := .builtin .append, args := #[s, x], argTypes := #[ts, ts] })
    (v u r : Value) (hs : a.eval s = v) (hx : a.eval x = u) (w' : World) (hrun : (Builtin.append_ #[ts, ts] o.type #[v, u]).run Tryd.prog w = .ok r w') (h : K (a.put o.dst r) w') : o.wp Tryd.prog a w K Q := by
  unfold Oper.wp
  simp only [execOp, ho, resolve, invoke, builtin, Sem.run_bind, Sem.run_pure, Result.andThen_ok, List.map_toArray, List.map_cons, List.map_nil, hs, hx, hrun]
  exact h
theorem step_of {w : World} {ops : Array Oper} {o : Oper} {a : Act} {K : Act → World → Prop} {Q : Exit → Act → World → Prop} {E : Prop} (hgd : o.guard = none) (h : Oper.wp Tryd.prog o a w K Q) :
    if Region.wanted o (yielded ops a.tmps) = true then Oper.wp Tryd.prog o a w K Q else E := by
  have hw : Region.wanted o (yielded ops a.tmps) = true := by simp [Region.wanted, hgd]
  rw [if_pos hw]; exact h
set_option maxRecDepth 100000 in
/-- Appending, in a region that draws. -/
theorem step_e (E : Enc enc k) {ts te : TypeId} {by_ : Nat} (hts : Tryd.prog.underlying ts = some (.slice te)) (hte : (Tryd.prog.info? te).map (fun i => (i.zero.isSome, i.zero.map (fun z => z.cells.size), i.size, i.bytes)) = some (true, some k, k, by_)) (hby : by_ ≤ 1000000)
    {w : World} {ops : Array Oper} {o : Oper} {a : Act} {K : Act → World → Prop} {Q : Exit → Act → World → Prop} {F : Prop} (hgd : o.guard = none) (s x : Operand) (ho : o.op = .call { callee := .builtin .append, args := #[s, x], argTypes := #[ts, ts] })
    (n : Nat) (A0 : Option Addr) (c0 : Nat) (X : List α) (hs : a.eval s = .slice A0 X.length c0) (ht : OwnE enc k w n te A0 c0 X)
    (A : Option Addr) (c : Nat) (M : List α) (hx : a.eval x = .slice A M.length c) (hM : EAt enc k w A c M) (hn : A = none → c = 0) (hlen : X.length + M.length ≤ 100000) (hb : n ≤ w.heap.size)
    (h : ∀ A' c' w', OwnE enc k w' n te A' c' (X ++ M) → Below n w w' → K (a.put o.dst (.slice A' (X ++ M).length c')) w') :
    if Region.wanted o (yielded ops a.tmps) = true then Oper.wp Tryd.prog o a w K Q else F := by
  obtain ⟨A', c', w', hrun, h1, h2, _⟩ := run_append_e E hts hte hby w o.type n A0 c0 X ht A c M hM hn hlen hb
  have hbel : Below n w w' := below_grown h2 hb fun g e => ((OwnE.at E ht).2 g (own_blk e)).1
  exact step_of hgd (wp_append_run s x ho _ _ _ hs hx w' hrun (h A' c' w' h1 hbel))
set_option maxRecDepth 100000 in
/-- The same, where the order is that of the text. -/
theorem wpList_e (E : Enc enc k) {ts te : TypeId} {by_ : Nat} (hts : Tryd.prog.underlying ts = some (.slice te)) (hte : (Tryd.prog.info? te).map (fun i => (i.zero.isSome, i.zero.map (fun z => z.cells.size), i.size, i.bytes)) = some (true, some k, k, by_)) (hby : by_ ≤ 1000000)
    {w : World} {ops : Array Oper} {rest : List Oper} {o : Oper} {a : Act} {Q : Exit → Act → World → Prop} (hgd : o.guard = none) (s x : Operand) (ho : o.op = .call { callee := .builtin .append, args := #[s, x], argTypes := #[ts, ts] })
    (n : Nat) (A0 : Option Addr) (c0 : Nat) (X : List α) (hs : a.eval s = .slice A0 X.length c0) (ht : OwnE enc k w n te A0 c0 X)
    (A : Option Addr) (c : Nat) (M : List α) (hx : a.eval x = .slice A M.length c) (hM : EAt enc k w A c M) (hn : A = none → c = 0) (hlen : X.length + M.length ≤ 100000) (hb : n ≤ w.heap.size)
    (h : ∀ A' c' w', OwnE enc k w' n te A' c' (X ++ M) → Below n w w' → (∀ g, g < w.heap.size → A0.map (·.block) ≠ some g → w'.heap[g]? = w.heap[g]?) → (A'.map (·.block) = A0.map (·.block) ∨ A'.map (·.block) = some w.heap.size) → wpList Tryd.prog ops Q rest (a.put o.dst (.slice A' (X ++ M).length c')) w') : wpList Tryd.prog ops Q (o :: rest) a w := by
  obtain ⟨A', c', w', hrun, h1, h2, h3⟩ := run_append_e E hts hte hby w o.type n A0 c0 X ht A c M hM hn hlen hb
  have hbel : Below n w w' := below_grown h2 hb fun g e => ((OwnE.at E ht).2 g (own_blk e)).1
  exact wpList_plain hgd fun _ hK => wp_append_run s x ho _ _ _ hs hx w' hrun (hK _ _ (h A' c' w' h1 hbel (fun g hg hne => h2.block g hg fun e => hne (own_blk e.symm)) h3))
end

end Sx
end Go.Proofs.YtionocafkaemiaaDoor
namespace Go.Proofs.YtionocafkaemiaaDoor
open Go.RowKit
namespace Sx

abbrev enN (n : Nat) : List Value := [.int .i64 (n : Int)]
abbrev enI (n : Int) : List Value := [.int .i64 n]
theorem EN : Enc enN 1 := ⟨by omega, fun _ => rfl, fun x u h => by
  simp only [List.mem_cons, List.not_mem_nil, or_false] at h
  rw [h]; rfl⟩
theorem EI : Enc enI 1 := ⟨by omega, fun _ => rfl, fun x u h => by
  simp only [List.mem_cons, List.not_mem_nil, or_false] at h
  rw [h]; rfl⟩
theorem iat_I {w : World} {A : Option Addr} {c : Nat} {M : List Int} : IAt w A c M ↔ EAt enI 1 w A c M := by
  constructor
  · rintro ⟨h1, h2, h3⟩
    refine ⟨h1, h2, fun j x hx => ?_⟩
    obtain ⟨g, o, hA, hg, d0⟩ := h3 j x hx
    refine ⟨g, o, hA, hg, fun i v hi hv => ?_⟩
    have hi0 : i = 0 := by omega
    subst hi0
    simp at hv
    rw [← hv, Nat.mul_one]; exact d0
  · rintro ⟨h1, h2, h3⟩
    refine ⟨h1, h2, fun j x hx => ?_⟩
    obtain ⟨g, o, hA, hg, d⟩ := h3 j x hx
    have := d 0 _ (by omega) rfl
    rw [Nat.mul_one] at this
    exact ⟨g, o, hA, hg, this⟩
theorem iat_N {w : World} {A : Option Addr} {c : Nat} {K : List Nat} : IAt w A c (zs K) ↔ EAt enN 1 w A c K := by
  constructor
  · rintro ⟨h1, h2, h3⟩
    refine ⟨by rwa [List.length_map] at h1, h2, fun j x hx => ?_⟩
    obtain ⟨g, o, hA, hg, d0⟩ := h3 j x (zs_get hx)
    refine ⟨g, o, hA, hg, fun i v hi hv => ?_⟩
    have hi0 : i = 0 := by omega
    subst hi0
    simp at hv
    rw [← hv, Nat.mul_one]; exact d0
  · rintro ⟨h1, h2, h3⟩
    refine ⟨by rwa [List.length_map], h2, fun j x hx => ?_⟩
    rw [List.getElem?_map] at hx
    cases hk : K[j]? with
    | none => rw [hk] at hx; cases hx
    | some n =>
      rw [hk] at hx
      injection hx with hx
      obtain ⟨g, o, hA, hg, d⟩ := h3 j n hk
      have := d 0 _ (by omega) rfl
      rw [Nat.mul_one] at this
      exact ⟨g, o, hA, hg, by rw [← hx]; exact this⟩
theorem int_info : (Tryd.prog.info? 3).map (fun i => (i.zero.isSome, i.zero.map (fun z => z.cells.size), i.size, i.bytes)) = some (true, some 1, 1, 8) := by kernel_rfl
theorem i64_info : (Tryd.prog.info? 2).map (fun i => (i.zero.isSome, i.zero.map (fun z => z.cells.size), i.size, i.bytes)) = some (true, some 1, 1, 8) := by kernel_rfl
/-- A new row with one number in it. -/
theorem oneN (w : World) (T : TypeId) (n : Nat) : EAt enN 1 (w.alloc (.cells #[.int .i64 (n : Int)] T)) (some ⟨w.heap.size, 0, none⟩) 1 [n] := (OwnE.at EN (owne_one EN w T n _ rfl)).1
theorem oneI (w : World) (T : TypeId) (n : Int) : EAt enI 1 (w.alloc (.cells #[.int .i64 n] T)) (some ⟨w.heap.size, 0, none⟩) 1 [n] := (OwnE.at EI (owne_one EI w T n _ rfl)).1
end Sx
end Go.Proofs.YtionocafkaemiaaDoor
