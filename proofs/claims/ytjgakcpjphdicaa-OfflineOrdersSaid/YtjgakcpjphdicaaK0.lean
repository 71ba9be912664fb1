/- What the walks share: blocks that are kept, ranges over functions. Plain: blocks, what is wrong with them, the least free address, laying. -/
import Derived.RangeFuncNested
import Derived.RangeFuncBound
import Derived.RangeFuncCalls
import Derived.RangeFuncLeaves
import Derived.Shelf.Abstract
import Derived.Shelf.RegionOpen
import Derived.WalkKit
import Derived.OwnWalk
import Derived.OwnWalkIn
import Derived.TacticsInMore
import Derived.LoopNIn
import Derived.LoopIn
import Derived.LoopTactic
import Derived.Lib.Hide
import Derived.Deep.QuietTactic
import Derived.BigQuiet
import Derived.Deep.CutRange
import Derived.Deep.RegionHeld3
import Derived.Deep.AppendLies
import Derived.Laws.Rows
namespace Go.Proofs.Ytjgakcpjphdicaa
open Go.RowKit Go.Shelf
namespace Of

/-- Blocks that nobody owns are as they were. -/
structure Keeps (own own' : Nat → Option Nat) (w w' : World) : Prop where
  os : w'.os = w.os
  tape : w'.tape = w.tape
  output : w'.output = w.output
  size : w.heap.size ≤ w'.heap.size
  block : ∀ k, k < w.heap.size → own k = none → w'.heap[k]? = w.heap[k]?
  same : ∀ k, k < w.heap.size → own' k = own k
  new : ∀ k, own' k ≠ none → own k ≠ none ∨ (w.heap.size ≤ k ∧ k < w'.heap.size)

theorem Keeps.refl (own : Nat → Option Nat) (w : World) : Keeps own own w w := ⟨rfl, rfl, rfl, Nat.le_refl _, fun _ _ _ => rfl, fun _ _ => rfl, fun _ h => .inl h⟩
theorem Keeps.trans {o1 o2 o3 : Nat → Option Nat} {a b c : World} (h : Keeps o1 o2 a b) (k : Keeps o2 o3 b c) : Keeps o1 o3 a c :=
  ⟨k.os.trans h.os, k.tape.trans h.tape, k.output.trans h.output, Nat.le_trans h.size k.size,
    fun i hi hn => (k.block i (Nat.lt_of_lt_of_le hi h.size) ((h.same i hi).trans hn)).trans (h.block i hi hn),
    fun i hi => (k.same i (Nat.lt_of_lt_of_le hi h.size)).trans (h.same i hi),
    fun i hi => by
      have h1 := h.size
      have h2 := k.size
      rcases k.new i hi with h3 | h3
      · rcases h.new i h3 with h4 | h4
        · exact .inl h4
        · exact .inr ⟨h4.1, by omega⟩
      · exact .inr ⟨by omega, h3.2⟩⟩

/-- No block that is not there yet is the tree's. -/
def Fresh (own : Nat → Option Nat) (w : World) : Prop := ∀ k, own k ≠ none → k < w.heap.size
theorem Fresh.keeps {own own' : Nat → Option Nat} {w w' : World} (h : Fresh own w) (k : Keeps own own' w w') : Fresh own' w' := fun i hi => by
  rcases k.new i hi with h1 | h1
  · exact Nat.lt_of_lt_of_le (h i h1) k.size
  · exact h1.2
theorem Keeps.of_below (own : Nat → Option Nat) {w w' : World} (h : Below w.heap.size w w') : Keeps own own w w' :=
  ⟨h.os, h.tape, h.output, h.size, fun k hk _ => h.block k hk, fun _ _ => rfl, fun _ h => .inl h⟩

theorem lt_of_heap {w : World} {b : Nat} {o : Obj} (h : w.heap[b]? = some o) : b < w.heap.size := (Array.getElem?_eq_some_iff.1 h).1

theorem row_same {w w' : World} {e s n : Nat} {v : Value} {xs : List Value} (h : w.ownsRow 0 e s v n xs) (hk : ∀ g, v.ownBlock = some g → w'.heap[g]? = w.heap[g]?) : w'.ownsRow 0 e s v n xs := by
  refine ⟨h.1, ?_⟩
  rcases h.2 with hn | ⟨g, cap, cur, rfl, hb, hgg, rest⟩
  · exact .inl hn
  · exact .inr ⟨g, cap, cur, rfl, hb, by rw [hk g rfl]; exact hgg, rest⟩
theorem setCell_at (w : World) (g i : Nat) (cs : Array Value) (t : TypeId) (v : Value) (hg : w.heap[g]? = some (.cells cs t (0, 0))) :
    (w.setCell ⟨g, i, none⟩ v).heap[g]? = some (.cells (cs.setIfInBounds i v) t (0, 0)) := by
  simp [World.setCell, Array.getElem?_modify, hg]
theorem setCell_far (w : World) (a : Addr) (v : Value) (k : Nat) (h : k ≠ a.block) : (w.setCell a v).heap[k]? = w.heap[k]? := Below.heap_setCell w a v k h
theorem setCell_size (w : World) (a : Addr) (v : Value) : (w.setCell a v).heap.size = w.heap.size := by simp [World.setCell]

theorem heapAlloc (w : World) (o : Obj) (k : Nat) : (w.alloc o).heap[k]? = if k = w.heap.size then some o else w.heap[k]? := by
  show (w.heap.push o)[k]? = _
  rw [Array.getElem?_push]
theorem alloc_old (w : World) (o : Obj) (k : Nat) (h : k < w.heap.size) : (w.alloc o).heap[k]? = w.heap[k]? := by rw [heapAlloc, if_neg (by omega)]
structure Grow1 (g : Nat) (w w' : World) : Prop where
  os : w'.os = w.os
  tape : w'.tape = w.tape
  output : w'.output = w.output
  size : w.heap.size ≤ w'.heap.size
  block : ∀ k, k < w.heap.size → k ≠ g → w'.heap[k]? = w.heap[k]?

theorem Grow1.refl (g : Nat) (w : World) : Grow1 g w w := ⟨rfl, rfl, rfl, Nat.le_refl _, fun _ _ _ => rfl⟩
theorem Grow1.trans {g : Nat} {a b c : World} (h : Grow1 g a b) (k : Grow1 g b c) : Grow1 g a c :=
  ⟨k.os.trans h.os, k.tape.trans h.tape, k.output.trans h.output, Nat.le_trans h.size k.size, fun i hi hn => (k.block i (Nat.lt_of_lt_of_le hi h.size) hn).trans (h.block i hi hn)⟩
theorem Grow1.alloc {g : Nat} {a b : World} (h : Grow1 g a b) (o : Obj) : Grow1 g a (b.alloc o) :=
  h.trans ⟨rfl, rfl, rfl, by simp, fun k hk _ => by rw [heapAlloc, if_neg (by omega)]⟩
theorem Grow1.drew {g : Nat} {a b : World} (h : Grow1 g a b) : Grow1 g a b.drew := ⟨h.os, h.tape, h.output, h.size, h.block⟩
theorem Grow1.setCell {g : Nat} {a b : World} (h : Grow1 g a b) (o : Nat) (v : Value) : Grow1 g a (b.setCell ⟨g, o, none⟩ v) :=
  h.trans ⟨rfl, rfl, rfl, by rw [setCell_size]; exact Nat.le_refl _, fun k _ hn => setCell_far _ _ _ _ hn⟩

theorem info_open {P : Program} {t n s b : Nat} (h : (P.info? t).map (fun i => (i.zero.isSome, i.zero.map (fun z => z.cells.size), i.size, i.bytes)) = some (true, some n, s, b)) :
    ∃ i z, P.info? t = some i ∧ i.zero = some z ∧ i.size = s ∧ i.bytes = b ∧ z.cells.size = n := by
  cases hi : P.info? t with
  | none => rw [hi] at h; cases h
  | some i =>
    rw [hi] at h
    simp at h
    obtain ⟨h1, h2, h3, h4⟩ := h
    cases hz : i.zero with
    | none => rw [hz] at h1; cases h1
    | some z =>
      rw [hz] at h2
      obtain ⟨a, ha, hb⟩ := h2
      injection ha with ha
      subst ha
      exact ⟨i, z, rfl, hz, h3, h4, hb⟩
theorem below_box (w : World) (ob : Obj) : Below w.heap.size w (w.alloc ob) := (Below.refl _ _).alloc (Nat.le_refl _) _
theorem one_cell {w : World} {b T : Nat} {x : Value} (h : w.heap[b]? = some (.cells #[x] T (0, 0))) : w.cell? ⟨b, 0, none⟩ = some x ∧ w.frozen? ⟨b, 0, none⟩ = false := by
  constructor <;> simp [World.cell?, World.frozen?, h]
theorem cell_keep {w1 w2 : World} (hb : Below w1.heap.size w1 w2) {b : Nat} {v : Value} (h : w1.cell? ⟨b, 0, none⟩ = some v) : w2.cell? ⟨b, 0, none⟩ = some v :=
  (hb.cell (p := ⟨b, 0, none⟩) (World.block_lt_of_cell? w1 _ h)).trans h
theorem row_below {w w' : World} {B e s n : Nat} {v : Value} {xs : List Value} (h : w.ownsRow B e s v n xs) (hb : Below w.heap.size w w') : w'.ownsRow B e s v n xs := by
  refine ⟨h.1, ?_⟩
  rcases h.2 with hn | ⟨g, cap, cur, rfl, hB, hgg, rest⟩
  · exact .inl hn
  · exact .inr ⟨g, cap, cur, rfl, hB, by rw [hb.block g (lt_of_heap hgg)]; exact hgg, rest⟩
theorem row_keep {w w' : World} {B e s n : Nat} {v : Value} {xs : List Value} (h : w.ownsRow B e s v n xs) (hk : ∀ g, B ≤ g → g < w.heap.size → w'.heap[g]? = w.heap[g]?) : w'.ownsRow B e s v n xs := by
  refine ⟨h.1, ?_⟩
  rcases h.2 with hn | ⟨g, cap, cur, rfl, hB, hgg, rest⟩
  · exact .inl hn
  · exact .inr ⟨g, cap, cur, rfl, hB, by rw [hk g hB (lt_of_heap hgg)]; exact hgg, rest⟩
/-- Only one block is written. -/
structure OnlyB (b : Option Nat) (w w' : World) : Prop where
  os : w'.os = w.os
  tape : w'.tape = w.tape
  output : w'.output = w.output
  size : w'.heap.size = w.heap.size
  block : ∀ k, b ≠ some k → w'.heap[k]? = w.heap[k]?
abbrev Ow := Nat → Option Nat

/-- What is said of a world hangs on the blocks that one owns alone. -/
def Framed {β : Type} (I : Ow → β → World → Prop) : Prop :=
  ∀ own s W W', I own s W → W.heap.size ≤ W'.heap.size → (∀ k, own k ≠ none → k < W.heap.size → W'.heap[k]? = W.heap[k]?) → I own s W'

variable {F : Fence} {n : Nat} {P : Program}

/-- An iterator's contract: it reads what D says, in the blocks of R; whatever the caller owns it leaves as it is; all else that lay stays as it lay. -/
def SeqZ {α : Type} (F : Fence) (n : Nat) (P : Program) (g : Nat) (lb : Array Value) (encs : α → Array Value) (D E : World → Prop) (R : Nat → Prop) (S Sp : List α → Prop) (A : List α → α → Prop) : Prop :=
  ∀ (l : Nat) (J Jx : Ow → List α → World → Prop) (own0 : Ow) (W : World), D W → (∀ k, R k → own0 k = none) → (∀ own pre W1, J own pre W1 → E W1) → Fresh own0 W → Framed J → Framed Jx →
    (∀ own pre x W1, J own pre W1 → Fresh own W1 → A pre x → YieldAt F (n - 1) P l (encs x) W1 fun e W' =>
      ∃ own', Keeps own own' W1 W' ∧ ((e = .returned (.bool true) ∧ J own' (pre ++ [x]) W') ∨ (e = .returned (.bool false) ∧ Jx own' (pre ++ [x]) W'))) →
    J own0 [] W →
    CallsIn F n P g (#[.func (.yield l) #[] #[]] ++ lb) W fun e W' => (∃ v, e = .returned v) ∧ ∃ own', Keeps own0 own' W W' ∧ ((∃ xs, S xs ∧ J own' xs W') ∨ (∃ pre, Sp pre ∧ Jx own' pre W'))

/-- How the body of a round may be left. -/
def postY {α : Type} (I : Ow → List α → World → Prop) (Ix : Code → Ow → List α → World → Prop) (own : Ow) (xs : List α) (W : World) : Exit → Act → World → Prop
  | .normal, _, W' => ∃ own', Keeps own own' W W' ∧ I own' xs W'
  | .ret, _, W' => ∃ own', Keeps own own' W W' ∧ Ix .ret own' xs W'
  | .exit id, _, W' => ∃ own', Keeps own own' W W' ∧ Ix (.exit id) own' xs W'
  | .goto t, _, W' => ∃ own', Keeps own own' W W' ∧ Ix (.goto t) own' xs W'
  | .panic _, _, _ => False
  | .outgrown, _, _ => False

/-- With two blocks more. -/
def cov (d r : Nat) (own : Ow) : Ow := fun k => if k = d ∨ k = r then some 0 else own k

theorem cov_ne {d r k : Nat} {own : Ow} (h : own k ≠ none) : cov d r own k ≠ none := by
  unfold cov; split <;> simp_all
theorem cov_none {d r k : Nat} {own : Ow} (h : cov d r own k = none) : k ≠ d ∧ k ≠ r ∧ own k = none := by
  unfold cov at h
  split at h
  · cases h
  · next e => exact ⟨fun x => e (.inl x), fun x => e (.inr x), h⟩
theorem cov_of {d r k : Nat} {own : Ow} (h1 : k ≠ d) (h2 : k ≠ r) : cov d r own k = own k := by
  unfold cov; rw [if_neg (by rintro (e | e) <;> contradiction)]

/-- A round, with the record's turns before and behind it. -/
theorem keeps_round {d r : Nat} {own own' : Ow} {W1 W2 W3 : World} {o1 o2 : Obj} (h : Keeps own own' (W1.putObj r o1) W2) (e : W3 = W2.putObj r o2) : Keeps (cov d r own) (cov d r own') W1 W3 := by
  subst e
  have hs : (W1.putObj r o1).heap.size = W1.heap.size := by simp
  refine ⟨h.os, h.tape, h.output, by have := h.size; simp at this ⊢; omega, fun k hk hn => ?_, fun k hk => ?_, fun k hk => ?_⟩
  · obtain ⟨h1, h2, h3⟩ := cov_none hn
    rw [World.putObj_heap_other h2, h.block k (by omega) h3, World.putObj_heap_other h2]
  · by_cases e : k = d ∨ k = r
    · simp [cov, e]
    · rw [cov_of (fun x => e (.inl x)) (fun x => e (.inr x)), cov_of (fun x => e (.inl x)) (fun x => e (.inr x))]
      exact h.same k (by omega)
  · by_cases e : k = d ∨ k = r
    · left; simp [cov, e]
    · rw [cov_of (fun x => e (.inl x)) (fun x => e (.inr x))] at hk ⊢
      rcases h.new k hk with h1 | h1
      · exact .inl h1
      · exact .inr ⟨by omega, by simp; exact h1.2⟩

theorem rangeZ {α : Type} {g : Operand} {ps : Array Tmp} {assign body : Code} {Q : Exit → Act → World → Prop} {a : Act} {w : World}
    (hro : F.round = none) (h1 : 1 ≤ n) {gf : Nat} {lb : Array Value} (hg : a.eval g = .func (.func gf) #[] lb) (hFg : F.fn gf) (eg : ∀ args w, (callFunc gf args).run P w = .ok (.enter gf args) w)
    {encs : α → Array Value} {D E : World → Prop} {R : Nat → Prop} {S Sp : List α → Prop} {A : List α → α → Prop} (hseq : SeqZ F (n - 1) P gf lb encs D E R S Sp A)
    (own0 : Ow) (hf0 : Fresh own0 w) (hD : ∀ W, Below w.heap.size w W → D W) (hR : ∀ k, R k → own0 k = none ∧ k < w.heap.size) (hps : ∀ x, (encs x).size = ps.size)
    (I : Ow → List α → World → Prop) (Ix : Code → Ow → List α → World → Prop) (hE : ∀ own pre W, I own pre W → E W) (hI : Framed I) (hIx : ∀ c, Framed (Ix c)) (h0 : I own0 [] w) (a₁ : α → Act)
    (hassign : ∀ (l : Nat) (x : α) (W : World) (K : Act → World → Prop), K (a₁ x) W →
      assign.wpIn (F.inRound l) (n - 1 - 1) P (Exit.then K (fun _ _ _ => False)) { tmps := (ps.zip (encs x)).foldl (fun t (p, v) => t.setIfInBounds p v) a.tmps, defers := [] } W)
    (hbody : ∀ (l : Nat) (own : Ow) (pre : List α) (x : α) (W : World), I own pre W → Fresh own W → A pre x → body.wpIn (F.inRound l) (n - 1 - 1) P (postY I Ix own (pre ++ [x]) W) (a₁ x) W)
    (hdone : ∀ (own : Ow) (xs : List α) (W : World), S xs → I own xs W → Keeps own0 own w W → own w.heap.size = none → W.heap[w.heap.size]? = some (.deferred (some [])) → Q .normal { a with defers := { target := .collected w.heap.size, args := #[] } :: a.defers } W)
    (hstop : ∀ (own : Ow) (c : Code) (pre : List α) (W : World), Sp pre → Ix c own pre W → Keeps own0 own w W → own w.heap.size = none → W.heap[w.heap.size]? = some (.deferred (some [])) → c.wpIn F n P Q { a with defers := { target := .collected w.heap.size, args := #[] } :: a.defers } W) :
    (Code.rangeFunc g ps assign body).wpIn F n P Q a w := by
  refine wpIn_rangeFunc ?_
  intro fn hfn
  rw [hro]
  obtain ⟨rec, hrec⟩ : ∃ rec : LoopState → Option Code → Loop, rec = fun st pe => { state := st, pending := pe, fn, tmps := a.tmps, params := ps, assign, body, defers := w.heap.size } := ⟨_, rfl⟩
  obtain ⟨W1, hW1⟩ : ∃ W1, (w.alloc (.deferred (some []))).alloc (.loop (rec .ready none)) = W1 := ⟨_, rfl⟩
  have hL1 : W1.heap[w.heap.size + 1]? = some (.loop (rec .ready none)) := by
    rw [← hW1]; have := World.alloc_heap_new (w.alloc (.deferred (some []))) (.loop (rec .ready none)); rwa [World.size_alloc] at this
  have hK1 : W1.heap[w.heap.size]? = some (.deferred (some [])) := by
    rw [← hW1]; exact (Below.heap_alloc _ _ _ (by simp)).trans (World.alloc_heap_new w _)
  have hb1 : Below w.heap.size w W1 := by
    rw [← hW1]; exact ((Below.refl _ w).alloc (Nat.le_refl _) _).alloc (by simp) _
  have hs1 : W1.heap.size = w.heap.size + 2 := by rw [← hW1]; simp
  have hfr : ∀ k, w.heap.size ≤ k → own0 k = none := fun k hk => by
    cases e : own0 k with
    | none => rfl
    | some v => exact absurd (hf0 k (by rw [e]; simp)) (by omega)
  have hI1 : I own0 [] W1 := hI own0 [] w W1 h0 (by omega) fun k _ hk => hb1.block k hk
  refine ⟨w.heap.size + 1, [{ target := .collected w.heap.size, args := #[] }], W1, { target := .fn (.func gf) lb, args := #[.func (.yield (w.heap.size + 1)) #[] #[]] }, W1, gf,
    #[.func (.yield (w.heap.size + 1)) #[] #[]] ++ lb, W1, ?_, ?_, ?_, ?_, fun _ => h1, ?_⟩
  · rw [← hW1, hrec]; exact run_enterLoop_outer _ _ _ _ _
  · simp only [resolve, hg]
    simp [go_sem]
  · intro f' hf'; simp [Target.leads] at hf'; subst hf'; exact hFg
  · simp [invoke, go_sem, eg]
  · -- what the iterator is told of the caller
    have hfc : Fresh (cov w.heap.size (w.heap.size + 1) own0) W1 := fun k hk => by
      by_cases e : k = w.heap.size ∨ k = w.heap.size + 1
      · omega
      · rw [cov_of (fun x => e (.inl x)) (fun x => e (.inr x))] at hk
        have := hf0 k hk; omega
    refine (hseq (w.heap.size + 1)
      (fun own2 pre W => ∃ own, I own pre W ∧ Fresh own W ∧ own2 = cov w.heap.size (w.heap.size + 1) own ∧ own w.heap.size = none ∧ own (w.heap.size + 1) = none ∧ W.heap[w.heap.size + 1]? = some (.loop (rec .ready none)) ∧ W.heap[w.heap.size]? = some (.deferred (some [])))
      (fun own2 pre W => ∃ own c, Ix c own pre W ∧ Fresh own W ∧ own2 = cov w.heap.size (w.heap.size + 1) own ∧ own w.heap.size = none ∧ own (w.heap.size + 1) = none ∧ W.heap[w.heap.size + 1]? = some (.loop (rec .done (some c))) ∧ W.heap[w.heap.size]? = some (.deferred (some [])))
      (cov w.heap.size (w.heap.size + 1) own0) W1 (hD W1 hb1)
      (fun k hk => by obtain ⟨e1, e2⟩ := hR k hk; rw [cov_of (by omega) (by omega)]; exact e1) (fun own2 pre W h => by obtain ⟨own, hi, _⟩ := h; exact hE own pre W hi) hfc ?_ ?_ ?_ ⟨own0, hI1, fun k hk => by have := hf0 k hk; omega, rfl, hfr _ (Nat.le_refl _), hfr _ (by omega), hL1, hK1⟩).mono ?_
    · rintro own2 pre W W' ⟨own, hi, hfo, rfl, hd, hr, hl, hk⟩ hsz hb
      have hlr := lt_of_heap hl
      have hld := lt_of_heap hk
      exact ⟨own, hI own pre W W' hi hsz (fun k hk1 hk2 => hb k (cov_ne hk1) hk2), fun k hk1 => Nat.lt_of_lt_of_le (hfo k hk1) hsz, rfl, hd, hr, (hb _ (by simp [cov]) hlr).trans hl, (hb _ (by simp [cov]) hld).trans hk⟩
    · rintro own2 pre W W' ⟨own, c, hi, hfo, rfl, hd, hr, hl, hk⟩ hsz hb
      have hlr := lt_of_heap hl
      have hld := lt_of_heap hk
      exact ⟨own, c, hIx c own pre W W' hi hsz (fun k hk1 hk2 => hb k (cov_ne hk1) hk2), fun k hk1 => Nat.lt_of_lt_of_le (hfo k hk1) hsz, rfl, hd, hr, (hb _ (by simp [cov]) hlr).trans hl, (hb _ (by simp [cov]) hld).trans hk⟩
    · -- a round
      rintro own2 pre x W ⟨own, hi, hfo, rfl, hd, hr, hl, hk⟩ _ hlen
      have hlr := lt_of_heap hl
      have hld := lt_of_heap hk
      have hy := run_yield (P := P) (args := encs x) hl (by rw [hrec]; exact hps x)
      rw [hrec] at hy
      refine ⟨fn, _, assign, body, hy, roundIn_of_wpIn hfn (hassign _ x W _ ⟨_, run_beginRound hl (by rw [hrec]), ?_⟩)⟩
      have hl2 : (W.putObj (w.heap.size + 1) (.loop { rec .ready none with state := .busy })).heap[w.heap.size + 1]? = some (.loop { rec .ready none with state := .busy }) := World.putObj_heap_same hlr
      have hs2 : (W.putObj (w.heap.size + 1) (.loop { rec .ready none with state := .busy })).heap.size = W.heap.size := by simp
      have hk2 : (W.putObj (w.heap.size + 1) (.loop { rec .ready none with state := .busy })).heap[w.heap.size]? = some (.deferred (some [])) := (World.putObj_heap_other (by omega)).trans hk
      have hi2 : I own pre (W.putObj (w.heap.size + 1) (.loop { rec .ready none with state := .busy })) := hI own pre W _ hi (by omega) fun k hk1 _ => World.putObj_heap_other fun e => by subst e; exact hk1 hr
      refine wpIn_mono (hbody _ own pre x _ hi2 (fun k hk1 => by rw [hs2]; exact hfo k hk1) hlen) ?_
      have fin : ∀ (jump : Option Code) (own' : Ow) (W3 : World), Keeps own own' (W.putObj (w.heap.size + 1) (.loop { rec .ready none with state := .busy })) W3 →
          (Instr.endRound (w.heap.size + 1) jump).run P W3 = .ok (.bool jump.isNone) (W3.putObj (w.heap.size + 1) (.loop (rec (if jump.isNone then .ready else .done) jump))) ∧
          own' w.heap.size = none ∧ own' (w.heap.size + 1) = none ∧ Fresh own' (W3.putObj (w.heap.size + 1) (.loop (rec (if jump.isNone then .ready else .done) jump))) ∧
          (W3.putObj (w.heap.size + 1) (.loop (rec (if jump.isNone then .ready else .done) jump))).heap[w.heap.size + 1]? = some (.loop (rec (if jump.isNone then .ready else .done) jump)) ∧
          (W3.putObj (w.heap.size + 1) (.loop (rec (if jump.isNone then .ready else .done) jump))).heap[w.heap.size]? = some (.deferred (some [])) ∧
          (∀ k, own' k ≠ none → (W3.putObj (w.heap.size + 1) (.loop (rec (if jump.isNone then .ready else .done) jump))).heap[k]? = W3.heap[k]?) := fun jump own' W3 hk3 => by
        have hl3 := (hk3.block (w.heap.size + 1) (by omega) hr).trans hl2
        have hd3 : own' w.heap.size = none := (hk3.same _ (by omega)).trans hd
        have hr3 : own' (w.heap.size + 1) = none := (hk3.same _ (by omega)).trans hr
        have := run_endRound (P := P) jump hl3
        rw [hrec] at this ⊢
        refine ⟨this, hd3, hr3, fun k hk' => ?_, World.putObj_heap_same (lt_of_heap hl3), (World.putObj_heap_other (by omega)).trans ((hk3.block _ (by omega) hd).trans hk2), fun k hk' => World.putObj_heap_other fun e => by subst e; exact hk' hr3⟩
        have := (show Fresh own (W.putObj (w.heap.size + 1) (.loop { rec .ready none with state := .busy })) from fun k hk1 => by rw [hs2]; exact hfo k hk1).keeps hk3 k hk'
        simpa using this
      rintro e a3 W3 hp
      cases e with
      | normal =>
        obtain ⟨own', hk3, hi3⟩ := hp
        obtain ⟨hr4, hd3, hr3, hf3, hl4, hk4, hb4⟩ := fin none own' W3 hk3
        exact ⟨_, _, hr4, cov w.heap.size (w.heap.size + 1) own', keeps_round hk3 rfl, .inl ⟨rfl, own', hI own' _ W3 _ hi3 (by simp) (fun k h _ => hb4 k h), hf3, rfl, hd3, hr3, hl4, hk4⟩⟩
      | ret =>
        obtain ⟨own', hk3, hi3⟩ := hp
        obtain ⟨hr4, hd3, hr3, hf3, hl4, hk4, hb4⟩ := fin (some .ret) own' W3 hk3
        exact ⟨_, _, hr4, cov w.heap.size (w.heap.size + 1) own', keeps_round hk3 rfl, .inr ⟨rfl, own', .ret, hIx _ own' _ W3 _ hi3 (by simp) (fun k h _ => hb4 k h), hf3, rfl, hd3, hr3, hl4, hk4⟩⟩
      | exit id =>
        obtain ⟨own', hk3, hi3⟩ := hp
        obtain ⟨hr4, hd3, hr3, hf3, hl4, hk4, hb4⟩ := fin (some (.exit id)) own' W3 hk3
        exact ⟨_, _, hr4, cov w.heap.size (w.heap.size + 1) own', keeps_round hk3 rfl, .inr ⟨rfl, own', .exit id, hIx _ own' _ W3 _ hi3 (by simp) (fun k h _ => hb4 k h), hf3, rfl, hd3, hr3, hl4, hk4⟩⟩
      | goto t =>
        obtain ⟨own', hk3, hi3⟩ := hp
        obtain ⟨hr4, hd3, hr3, hf3, hl4, hk4, hb4⟩ := fin (some (.goto t)) own' W3 hk3
        exact ⟨_, _, hr4, cov w.heap.size (w.heap.size + 1) own', keeps_round hk3 rfl, .inr ⟨rfl, own', .goto t, hIx _ own' _ W3 _ hi3 (by simp) (fun k h _ => hb4 k h), hf3, rfl, hd3, hr3, hl4, hk4⟩⟩
      | panic ch => exact hp.elim
      | outgrown => exact hp.elim
    · -- behind the iterator
      have fin : ∀ (own own2 : Ow) (W2 : World) (o : Obj), Keeps (cov w.heap.size (w.heap.size + 1) own0) own2 W1 W2 → own2 = cov w.heap.size (w.heap.size + 1) own → own w.heap.size = none → own (w.heap.size + 1) = none → Keeps own0 own w (W2.putObj (w.heap.size + 1) o) := by
        intro own own2 W2 o hK he hd hr
        subst he
        refine ⟨hK.os.trans hb1.os, hK.tape.trans hb1.tape, hK.output.trans hb1.output, ?_, fun k hk hn => ?_, fun k hk => ?_, fun k hk => ?_⟩
        · have := hK.size; simp; omega
        · rw [World.putObj_heap_other (by omega), hK.block k (by omega) (by rw [cov_of (by omega) (by omega)]; exact hn)]
          exact hb1.block k hk
        · have := hK.same k (by omega)
          rwa [cov_of (by omega) (by omega), cov_of (by omega) (by omega)] at this
        · have hkd : k ≠ w.heap.size := fun e => by subst e; exact hk hd
          have hkr : k ≠ w.heap.size + 1 := fun e => by subst e; exact hk hr
          rcases hK.new k (by rw [cov_of hkd hkr]; exact hk) with h1 | h1
          · rw [cov_of hkd hkr] at h1; exact .inl h1
          · exact .inr ⟨by omega, by simp; exact h1.2⟩
      rintro e W2 ⟨⟨v, rfl⟩, own2, hK, (⟨xs, hS, own, hi, hfo, he, hd, hr, hl, hk⟩ | ⟨pre, hSp, own, c, hi, hfo, he, hd, hr, hl, hk⟩)⟩
      · have hend := run_endLoop (P := P) hl (by rw [hrec]; simp)
        rw [hrec] at hend
        exact ⟨none, _, hend, hdone own xs _ hS (hI own xs W2 _ hi (by simp) fun k h1 _ => World.putObj_heap_other fun e => by subst e; exact h1 hr) (fin own own2 W2 _ hK he hd hr) hd ((World.putObj_heap_other (by omega)).trans hk)⟩
      · have hend := run_endLoop (P := P) hl (by rw [hrec]; simp)
        rw [hrec] at hend
        exact ⟨some c, _, hend, hstop own c pre _ hSp (hIx c own pre W2 _ hi (by simp) fun k h1 _ => World.putObj_heap_other fun e => by subst e; exact h1 hr) (fin own own2 W2 _ hK he hd hr) hd ((World.putObj_heap_other (by omega)).trans hk)⟩
end Of
end Go.Proofs.Ytjgakcpjphdicaa
namespace Go.Proofs.Ytjgakcpjphdicaa.Of

/-- A block: size, alignment, first step, step behind the last. -/
structure OB where
  s : Int
  a : Int
  f : Int
  t : Int
instance : Inhabited OB := ⟨⟨1, 1, 0, 1⟩⟩

def isPow (n : Int) : Bool := (List.range 13).any fun k => n == 2 ^ k
def okB (b : OB) : Bool := decide (1 ≤ b.s) && decide (b.s ≤ 65536) && isPow b.a && decide (0 ≤ b.f) && decide (b.f < b.t) && decide (b.t ≤ 1000)
def checkV (L : List OB) : Int := if 500 < L.length then 3 else if L.all okB then 0 else 7

theorem isPow_iff (n : Int) : isPow n = true ↔ ∃ k : Nat, k < 13 ∧ n = 2 ^ k := by
  unfold isPow
  rw [List.any_eq_true]
  constructor
  · rintro ⟨k, hk, h⟩
    exact ⟨k, List.mem_range.1 hk, by simpa using h⟩
  · rintro ⟨k, hk, rfl⟩
    exact ⟨k, List.mem_range.2 hk, by simp⟩
theorem isPow_bd {n : Int} (h : isPow n = true) : 1 ≤ n ∧ n ≤ 4096 := by
  obtain ⟨k, hk, rfl⟩ := (isPow_iff n).1 h
  have h1 : (1 : Nat) ≤ 2 ^ k := Nat.one_le_two_pow
  have h2 : (2 : Nat) ^ k ≤ 2 ^ 12 := Nat.pow_le_pow_right (by decide) (by omega)
  have e : ((2 : Int) ^ k) = ((2 ^ k : Nat) : Int) := by norm_cast
  rw [e]; omega

structure Ok (b : OB) : Prop where
  s1 : 1 ≤ b.s
  s2 : b.s ≤ 65536
  a0 : isPow b.a = true
  f0 : 0 ≤ b.f
  ft : b.f < b.t
  t1 : b.t ≤ 1000
theorem okB_iff (b : OB) : okB b = true ↔ Ok b := by
  unfold okB
  simp only [Bool.and_eq_true, decide_eq_true_eq]
  constructor
  · rintro ⟨⟨⟨⟨⟨h1, h2⟩, h3⟩, h4⟩, h5⟩, h6⟩; exact ⟨h1, h2, h3, h4, h5, h6⟩
  · rintro ⟨h1, h2, h3, h4, h5, h6⟩; exact ⟨⟨⟨⟨⟨h1, h2⟩, h3⟩, h4⟩, h5⟩, h6⟩
/-- All blocks are as stated. -/
def OkL (L : List OB) : Prop := L.length ≤ 500 ∧ ∀ b, b ∈ L → Ok b
theorem checkV_ok (L : List OB) : checkV L = 0 ↔ OkL L := by
  unfold checkV OkL
  have hall : L.all okB = true ↔ ∀ b, b ∈ L → Ok b := by
    rw [List.all_eq_true]; exact ⟨fun h b hb => (okB_iff b).1 (h b hb), fun h b hb => (okB_iff b).2 (h b hb)⟩
  split
  · constructor
    · intro h; omega
    · intro h; omega
  · split
    · next h1 h2 => exact ⟨fun _ => ⟨by omega, hall.1 h2⟩, fun _ => rfl⟩
    · next h1 h2 => exact ⟨fun h => by omega, fun h => absurd (hall.2 h.2) h2⟩
theorem checkV_cases (L : List OB) : checkV L = 0 ∨ checkV L = 3 ∨ checkV L = 7 := by unfold checkV; split <;> (try split) <;> simp

abbrev blk (L : List OB) (i : Nat) : OB := L.getD i default
abbrev addr (A : List Int) (i : Nat) : Int := A.getD i 0
theorem OkL.blk {L : List OB} (h : OkL L) (i : Nat) : Ok (blk L i) := by
  rcases Nat.lt_or_ge i L.length with hi | hi
  · have : Of.blk L i ∈ L := by unfold Of.blk; rw [List.getD_eq_getElem?_getD, List.getElem?_eq_getElem hi]; exact List.getElem_mem hi
    exact h.2 _ this
  · unfold Of.blk
    rw [List.getD_eq_getElem?_getD, List.getElem?_eq_none hi]
    exact ⟨by decide, by decide, by decide, by decide, by decide, by decide⟩

def meet (x y : OB) : Bool := decide (x.f < y.t) && decide (y.f < x.t)
theorem meet_comm (x y : OB) : meet x y = meet y x := by unfold meet; exact Bool.and_comm _ _

/-- The least multiple that is not below. -/
def up (x a : Int) : Int := (x + a - 1) / a * a
theorem up_le {x a : Int} (h : 1 ≤ a) : x ≤ up x a ∧ up x a ≤ x + a - 1 := by
  unfold up
  have h1 := Int.emod_add_mul_ediv (x + a - 1) a
  have h2 := Int.emod_nonneg (x + a - 1) (show a ≠ 0 by omega)
  have h3 := Int.emod_lt_of_pos (x + a - 1) (show 0 < a by omega)
  rw [Int.mul_comm] at h1
  omega
theorem up_dvd (x a : Int) : a ∣ up x a := ⟨_, Int.mul_comm _ _⟩
theorem up_min {x a q : Int} (h : 1 ≤ a) (hd : a ∣ q) (hq : x ≤ q) : up x a ≤ q := by
  obtain ⟨c, rfl⟩ := hd
  unfold up
  have h1 : (x + a - 1) / a ≤ c := by
    have : (x + a - 1) / a < c + 1 := by
      rw [Int.ediv_lt_iff_lt_mul (by omega)]
      have : (c + 1) * a = a * c + a := by rw [Int.add_mul, Int.mul_comm]; omega
      omega
    omega
  calc (x + a - 1) / a * a ≤ c * a := Int.mul_le_mul_of_nonneg_right h1 (by omega)
    _ = a * c := Int.mul_comm _ _

/-- Is an address free for a block, beside those that were laid? -/
def free (L : List OB) (A : List Int) (S : List Nat) (b : OB) (p : Int) : Bool :=
  S.all fun k => !meet b (blk L k) || decide (addr A k + (blk L k).s ≤ p) || decide (p + b.s ≤ addr A k)
theorem free_iff {L : List OB} {A : List Int} {S : List Nat} {b : OB} {p : Int} :
    free L A S b p = true ↔ ∀ k, k ∈ S → meet b (blk L k) = true → addr A k + (blk L k).s ≤ p ∨ p + b.s ≤ addr A k := by
  unfold free
  rw [List.all_eq_true]
  refine forall_congr' fun k => forall_congr' fun _ => ?_
  cases meet b (blk L k) <;> simp

/-- The least free address that is a multiple. -/
structure IsFit (L : List OB) (A : List Int) (S : List Nat) (b : OB) (p : Int) : Prop where
  pos : 0 ≤ p
  dvd : b.a ∣ p
  free : free L A S b p = true
  least : ∀ q, 0 ≤ q → b.a ∣ q → Of.free L A S b q = true → p ≤ q
theorem IsFit.uniq {L : List OB} {A : List Int} {S : List Nat} {b : OB} {p q : Int} (h : IsFit L A S b p) (k : IsFit L A S b q) : p = q :=
  Int.le_antisymm (h.least q k.pos k.dvd k.free) (k.least p h.pos h.dvd h.free)
theorem IsFit.congr {L : List OB} {A A' : List Int} {S S' : List Nat} {b : OB} {p : Int} (h : IsFit L A S b p) (hS : ∀ k, k ∈ S ↔ k ∈ S') (hA : ∀ k, k ∈ S → addr A' k = addr A k) : IsFit L A' S' b p := by
  have e : ∀ q, Of.free L A' S' b q = Of.free L A S b q := fun q => by
    rw [Bool.eq_iff_iff, free_iff, free_iff]
    constructor
    · intro h1 k hk hm; have := h1 k ((hS k).1 hk) hm; rwa [hA k hk] at this
    · intro h1 k hk hm; have hk' := (hS k).2 hk; rw [hA k hk']; exact h1 k hk' hm
  exact ⟨h.pos, h.dvd, by rw [e]; exact h.free, fun q h1 h2 h3 => h.least q h1 h2 (by rw [← e]; exact h3)⟩

/-- The least of some numbers that pass. -/
def leastOf (f : Int → Bool) : List Int → Option Int
  | [] => none
  | p :: l => match leastOf f l with
    | none => if f p then some p else none
    | some q => if f p && decide (p ≤ q) then some p else some q
theorem leastOf_none {f : Int → Bool} : ∀ {l : List Int}, leastOf f l = none → ∀ q, q ∈ l → f q = false
  | [], _, q, hq => by cases hq
  | y :: l, h, q, hq => by
    unfold leastOf at h
    cases hl : leastOf f l with
    | some z => rw [hl] at h; simp at h; split at h <;> cases h
    | none =>
      rw [hl] at h
      rcases List.mem_cons.1 hq with rfl | hq
      · cases hf : f q with
        | false => rfl
        | true => simp [hf] at h
      · exact leastOf_none hl q hq
theorem leastOf_some {f : Int → Bool} : ∀ {l : List Int} {p : Int}, leastOf f l = some p → p ∈ l ∧ f p = true ∧ ∀ q, q ∈ l → f q = true → p ≤ q
  | [], p, h => by cases h
  | x :: l, p, h => by
    unfold leastOf at h
    cases hl : leastOf f l with
    | none =>
      rw [hl] at h
      have hn := leastOf_none hl
      simp at h
      obtain ⟨h1, rfl⟩ := h
      refine ⟨List.mem_cons_self .., h1, fun q hq hf => ?_⟩
      cases hq with
      | head => exact Int.le_refl _
      | tail _ hq => rw [hn q hq] at hf; cases hf
    | some z =>
      rw [hl] at h
      obtain ⟨h1, h2, h3⟩ := leastOf_some hl
      simp only at h
      split at h
      · next hc =>
        injection h with h; subst h
        simp at hc
        refine ⟨List.mem_cons_self .., hc.1, fun q hq hf => ?_⟩
        cases hq with
        | head => exact Int.le_refl _
        | tail _ hq => exact Int.le_trans hc.2 (h3 q hq hf)
      · next hc =>
        injection h with h; subst h
        refine ⟨List.mem_cons_of_mem _ h1, h2, fun q hq hf => ?_⟩
        cases hq with
        | head => simp [hf] at hc; omega
        | tail _ hq => exact h3 q hq hf
theorem leastOf_is {f : Int → Bool} : ∀ {l : List Int} {p : Int}, p ∈ l → f p = true → ∃ q, leastOf f l = some q
  | x :: l, p, hp, hf => by
    unfold leastOf
    cases hl : leastOf f l with
    | some z => simp only; split <;> exact ⟨_, rfl⟩
    | none =>
      rcases List.mem_cons.1 hp with rfl | hp
      · exact ⟨p, by simp [hf]⟩
      · obtain ⟨q, hq⟩ := leastOf_is hp hf; rw [hl] at hq; cases hq

def cands (L : List OB) (A : List Int) (S : List Nat) (b : OB) : List Int := 0 :: S.map fun k => up (addr A k + (blk L k).s) b.a
def fit (L : List OB) (A : List Int) (S : List Nat) (b : OB) : Int := (leastOf (fun p => decide (0 ≤ p) && free L A S b p) (cands L A S b)).getD 0

/-- Below each free address there is one of the candidates that is free. -/
theorem cand_below {L : List OB} {A : List Int} {b : OB} (hb : Ok b) : ∀ (S : List Nat) (q : Int), 0 ≤ q → b.a ∣ q →
    ∃ p, p ∈ cands L A S b ∧ 0 ≤ p ∧ p ≤ q ∧ ∀ k, k ∈ S → meet b (blk L k) = true → addr A k + (blk L k).s ≤ q → addr A k + (blk L k).s ≤ p := by
  intro S q hq hd
  have ha := isPow_bd hb.a0
  induction S with
  | nil => exact ⟨0, List.mem_cons_self .., Int.le_refl _, hq, fun k hk => by cases hk⟩
  | cons x S ih =>
    obtain ⟨p, h1, h2, h3, h4⟩ := ih
    have hup := up_le (x := addr A x + (blk L x).s) ha.1
    by_cases hx : addr A x + (blk L x).s ≤ q ∧ p < up (addr A x + (blk L x).s) b.a
    · refine ⟨up (addr A x + (blk L x).s) b.a, by simp [cands], by omega, up_min ha.1 hd hx.1, fun k hk hm hle => ?_⟩
      cases hk with
      | head => exact hup.1
      | tail _ hk => have := h4 k hk hm hle; omega
    · refine ⟨p, ?_, h2, h3, fun k hk hm hle => ?_⟩
      · unfold cands at h1 ⊢
        cases h1 with
        | head => exact List.mem_cons_self ..
        | tail _ h1 => exact List.mem_cons_of_mem _ (List.mem_cons_of_mem _ h1)
      · cases hk with
        | head => omega
        | tail _ hk => exact h4 k hk hm hle
theorem cand_free {L : List OB} {A : List Int} {b : OB} (hb : Ok b) (S : List Nat) (q : Int) (h0 : 0 ≤ q) (hd : b.a ∣ q) (hf : free L A S b q = true) :
    ∃ p, p ∈ cands L A S b ∧ 0 ≤ p ∧ p ≤ q ∧ free L A S b p = true := by
  obtain ⟨p, h1, h2, h3, h4⟩ := cand_below (L := L) (A := A) hb S q h0 hd
  refine ⟨p, h1, h2, h3, free_iff.2 fun k hk hm => ?_⟩
  rcases free_iff.1 hf k hk hm with h | h
  · exact .inl (h4 k hk hm h)
  · exact .inr (by omega)
theorem cand_dvd {L : List OB} {A : List Int} {S : List Nat} {b : OB} {p : Int} (h : p ∈ cands L A S b) : b.a ∣ p := by
  unfold cands at h
  cases h with
  | head => exact Int.dvd_zero _
  | tail _ h => obtain ⟨k, _, rfl⟩ := List.mem_map.1 h; exact up_dvd _ _

/-- A great multiple is free. -/
theorem far_free {L : List OB} {A : List Int} {b : OB} (hb : Ok b) : ∀ (S : List Nat), ∃ q, 0 ≤ q ∧ b.a ∣ q ∧ ∀ k, k ∈ S → addr A k + (blk L k).s ≤ q := by
  have ha := isPow_bd hb.a0
  intro S
  induction S with
  | nil => exact ⟨0, Int.le_refl _, Int.dvd_zero _, fun k hk => by cases hk⟩
  | cons x S ih =>
    obtain ⟨q, h1, h2, h3⟩ := ih
    have hup := up_le (x := addr A x + (blk L x).s) ha.1
    by_cases hx : q < up (addr A x + (blk L x).s) b.a
    · exact ⟨up (addr A x + (blk L x).s) b.a, by omega, up_dvd _ _, fun k hk => by
        cases hk with
        | head => exact hup.1
        | tail _ hk => have := h3 k hk; omega⟩
    · exact ⟨q, h1, h2, fun k hk => by
        cases hk with
        | head => omega
        | tail _ hk => exact h3 k hk⟩
theorem fit_is {L : List OB} {A : List Int} {b : OB} (hb : Ok b) (S : List Nat) : IsFit L A S b (fit L A S b) := by
  obtain ⟨q, h1, h2, h3⟩ := far_free (L := L) (A := A) hb S
  have hq : free L A S b q = true := free_iff.2 fun k hk _ => .inl (h3 k hk)
  obtain ⟨p, e1, e2, e3, e4⟩ := cand_free hb S q h1 h2 hq
  obtain ⟨r, hr⟩ := leastOf_is (f := fun p => decide (0 ≤ p) && free L A S b p) e1 (by simp [e2, e4])
  obtain ⟨g1, g2, g3⟩ := leastOf_some hr
  have hfr : fit L A S b = r := by unfold fit; rw [hr]; rfl
  rw [hfr]
  simp at g2
  refine ⟨g2.1, cand_dvd g1, g2.2, fun x h0 hd hf => ?_⟩
  obtain ⟨p', d1, d2, d3, d4⟩ := cand_free hb S x h0 hd hf
  exact Int.le_trans (g3 p' d1 (by simp [d2, d4])) d3
theorem fit_le {L : List OB} {A : List Int} {b : OB} (hb : Ok b) (S : List Nat) (T : Int) (hT : 0 ≤ T) (h : ∀ k, k ∈ S → addr A k + (blk L k).s ≤ T) : fit L A S b ≤ T + 4095 := by
  have ha := isPow_bd hb.a0
  have hup := up_le (x := T) ha.1
  have := (fit_is (L := L) (A := A) hb S).least (up T b.a) (by omega) (up_dvd _ _) (free_iff.2 fun k hk _ => .inl (by have := h k hk; omega))
  omega

/-! The program's way: through those that were laid, by their addresses. -/
def placeGo (L : List OB) (A : List Int) (b : OB) : List Nat → Int → Int
  | [], at_ => at_
  | k :: ks, at_ => if meet b (blk L k) then (if at_ + b.s ≤ addr A k then at_ else placeGo L A b ks (max at_ (up (addr A k + (blk L k).s) b.a))) else placeGo L A b ks at_
def Asc (A : List Int) (I : List Nat) : Prop := I.Pairwise fun j k => addr A j ≤ addr A k

theorem placeGo_is {L : List OB} {A : List Int} {b : OB} (hb : Ok b) (hL : OkL L) (All : List Nat) : ∀ (I pre : List Nat) (cur : Int), (∀ k, k ∈ All ↔ k ∈ pre ∨ k ∈ I) → Asc A I → 0 ≤ cur → b.a ∣ cur →
    (∀ k, k ∈ pre → meet b (blk L k) = true → addr A k + (blk L k).s ≤ cur) → (∀ q, 0 ≤ q → b.a ∣ q → free L A All b q = true → cur ≤ q) → IsFit L A All b (placeGo L A b I cur) := by
  have ha := isPow_bd hb.a0
  intro I
  induction I with
  | nil =>
    intro pre cur hAll _ h0 hd hp hl
    unfold placeGo
    exact ⟨h0, hd, free_iff.2 fun k hk hm => .inl (hp k (by simpa using (hAll k).1 hk) hm), hl⟩
  | cons x I ih =>
    intro pre cur hAll hs h0 hd hp hl
    have hs' := List.pairwise_cons.1 hs
    have hmem : ∀ k, k ∈ All ↔ k ∈ x :: pre ∨ k ∈ I := fun k => by rw [hAll k, List.mem_cons, List.mem_cons]; exact ⟨fun h => by rcases h with h | h | h <;> simp [h], fun h => by rcases h with (h | h) | h <;> simp [h]⟩
    have hx : x ∈ All := (hmem x).2 (.inl (List.mem_cons_self ..))
    unfold placeGo
    split
    · next hm =>
      split
      · next hle =>
        refine ⟨h0, hd, free_iff.2 fun k hk hmk => ?_, hl⟩
        rcases (hAll k).1 hk with h | h
        · exact .inl (hp k h hmk)
        · cases h with
          | head => exact .inr hle
          | tail _ h => have := hs'.1 k h; exact .inr (by omega)
      · next hle =>
        have hup := up_le (x := addr A x + (blk L x).s) ha.1
        refine ih (x :: pre) _ hmem hs'.2 (by omega) ?_ (fun k hk hmk => ?_) fun q q0 qd qf => ?_
        · rcases Int.le_total cur (up (addr A x + (blk L x).s) b.a) with h | h
          · rw [Int.max_eq_right h]; exact up_dvd _ _
          · rw [Int.max_eq_left h]; exact hd
        · cases hk with
          | head => omega
          | tail _ hk => have := hp k hk hmk; omega
        · have h1 := hl q q0 qd qf
          rcases free_iff.1 qf x hx hm with h | h
          · have := up_min ha.1 qd h; omega
          · have := (hL.blk x).s1; omega
    · next hm =>
      refine ih (x :: pre) cur hmem hs'.2 h0 hd (fun k hk hmk => ?_) hl
      cases hk with
      | head => exact absurd hmk hm
      | tail _ hk => exact hp k hk hmk
theorem place_fit {L : List OB} {A : List Int} {b : OB} (hb : Ok b) (hL : OkL L) {I S : List Nat} (hI : ∀ k, k ∈ I ↔ k ∈ S) (hs : Asc A I) : placeGo L A b I 0 = fit L A S b :=
  ((placeGo_is hb hL I I [] 0 (fun k => by simp) hs (Int.le_refl _) (Int.dvd_zero _) (fun k hk => by cases hk) fun q h _ _ => h).congr hI (fun _ _ => rfl)).uniq (fit_is hb S)

/-! Laying. -/
structure St where
  A : List Int
  S : List Nat
  T : Int
def St.next (L : List OB) (x : St) (i : Nat) : St :=
  ⟨x.A.set i (fit L x.A x.S (blk L i)), x.S ++ [i], max x.T (fit L x.A x.S (blk L i) + (blk L i).s)⟩
def st0 (n : Nat) : St := ⟨List.replicate n 0, [], 0⟩
def lays (L : List OB) (o : List Nat) : St := o.foldl (St.next L) (st0 L.length)
theorem lays_snoc (L : List OB) (o : List Nat) (i : Nat) : lays L (o ++ [i]) = (lays L o).next L i := by unfold lays; rw [List.foldl_append]; rfl
theorem next_len (L : List OB) (x : St) (i : Nat) : (x.next L i).A.length = x.A.length := List.length_set ..
theorem foldl_len (L : List OB) : ∀ (o : List Nat) (x : St), (o.foldl (St.next L) x).A.length = x.A.length
  | [], _ => rfl
  | i :: o, x => by rw [List.foldl_cons, foldl_len L o, next_len]
theorem lays_len (L : List OB) (o : List Nat) : (lays L o).A.length = L.length := by unfold lays; rw [foldl_len]; exact List.length_replicate ..
theorem foldl_S (L : List OB) : ∀ (o : List Nat) (x : St), (o.foldl (St.next L) x).S = x.S ++ o
  | [], x => by simp
  | i :: o, x => by rw [List.foldl_cons, foldl_S L o]; simp [St.next]
theorem lays_S (L : List OB) (o : List Nat) : (lays L o).S = o := by unfold lays; rw [foldl_S]; simp [st0]

/-- What holds while laying: what was laid lies below the top. -/
structure Good (L : List OB) (x : St) : Prop where
  len : x.A.length = L.length
  t0 : 0 ≤ x.T
  in_ : ∀ k, k ∈ x.S → k < L.length
  pos : ∀ k, k ∈ x.S → 0 ≤ addr x.A k
  top : ∀ k, k ∈ x.S → addr x.A k + (blk L k).s ≤ x.T
  least : x.S = [] → x.T = 0
  tops : x.S ≠ [] → ∃ k, k ∈ x.S ∧ addr x.A k + (blk L k).s = x.T
  bd : x.T ≤ x.S.length * 69632
theorem addr_set {A : List Int} {i k : Nat} {v : Int} (hi : i < A.length) : addr (A.set i v) k = if k = i then v else addr A k := by
  unfold addr
  rw [List.getD_eq_getElem?_getD, List.getD_eq_getElem?_getD, List.getElem?_set]
  by_cases h : k = i
  · subst h; simp [hi]
  · rw [if_neg (fun e => h e.symm), if_neg h]
theorem good0 (L : List OB) : Good L (st0 L.length) := ⟨by simp [st0], Int.le_refl _, fun k hk => (by cases hk), fun k hk => (by cases hk), fun k hk => (by cases hk), fun _ => rfl, fun h => absurd rfl h, by simp [st0]⟩
theorem Good.next {L : List OB} {x : St} (hL : OkL L) (h : Good L x) {i : Nat} (hi : i < L.length) (hn : i ∉ x.S) : Good L (x.next L i) := by
  have hb := hL.blk i
  have hf := fit_is (L := L) (A := x.A) hb x.S
  have hle := fit_le (L := L) (A := x.A) hb x.S x.T h.t0 h.top
  have hs := hb.s2
  have hs1 := hb.s1
  have hil : i < x.A.length := by rw [h.len]; exact hi
  have hp := hf.pos
  have ho : ∀ k, k ∈ x.S → addr (x.A.set i (fit L x.A x.S (blk L i))) k = addr x.A k := fun k hk => by rw [addr_set hil, if_neg (fun e => hn (by rw [← e]; exact hk))]
  refine ⟨by rw [next_len]; exact h.len, by have := h.t0; show 0 ≤ max _ _; omega, fun k hk => ?_, fun k hk => ?_, fun k hk => ?_, fun e => ?_, fun _ => ?_, ?_⟩
  · rcases List.mem_append.1 hk with h1 | h1
    · exact h.in_ k h1
    · simp at h1; omega
  · rcases List.mem_append.1 hk with h1 | h1
    · show 0 ≤ addr (x.A.set i _) k
      rw [ho k h1]; exact h.pos k h1
    · simp at h1; subst h1
      show 0 ≤ addr (x.A.set k _) k
      rw [addr_set hil, if_pos rfl]; exact hp
  · rcases List.mem_append.1 hk with h1 | h1
    · show addr (x.A.set i _) k + _ ≤ max _ _
      rw [ho k h1]; have := h.top k h1; omega
    · simp at h1; subst h1
      show addr (x.A.set k _) k + _ ≤ max _ _
      rw [addr_set hil, if_pos rfl]; omega
  · simp [St.next] at e
  · rcases Int.le_total x.T (fit L x.A x.S (blk L i) + (blk L i).s) with h1 | h1
    · exact ⟨i, by simp [St.next], by show addr (x.A.set i _) i + _ = max _ _; rw [addr_set hil, if_pos rfl, Int.max_eq_right h1]⟩
    · have hne : x.S ≠ [] := fun e => by have := h.least e; omega
      obtain ⟨k, hk, hkt⟩ := h.tops hne
      exact ⟨k, by simp [St.next, hk], by show addr (x.A.set i _) k + _ = max _ _; rw [ho k hk, hkt, Int.max_eq_left h1]⟩
  · have := h.bd
    show max _ _ ≤ (((x.S ++ [i]).length : Nat) : Int) * 69632
    rw [List.length_append]
    simp only [List.length_cons, List.length_nil]
    have e : ((x.S.length + (0 + 1) : Nat) : Int) * 69632 = x.S.length * 69632 + 69632 := by omega
    omega
/-- An order of some indices, each at most once. -/
def Ord (n : Nat) (o : List Nat) : Prop := o.Nodup ∧ ∀ i, i ∈ o → i < n
theorem Ord.snoc {n : Nat} {o : List Nat} {i : Nat} (h : Ord n (o ++ [i])) : Ord n o ∧ i < n ∧ i ∉ o := by
  obtain ⟨h1, h2⟩ := h
  rw [List.nodup_append] at h1
  exact ⟨⟨h1.1, fun k hk => h2 k (by simp [hk])⟩, h2 i (by simp), fun hi => h1.2.2 i hi i (by simp) rfl⟩
theorem Ord.push {n : Nat} {o : List Nat} {i : Nat} (h : Ord n o) (hi : i < n) (hn : i ∉ o) : Ord n (o ++ [i]) := by
  refine ⟨?_, fun k hk => ?_⟩
  · rw [List.nodup_append]
    exact ⟨h.1, by simp, fun a ha b hb => by simp at hb; subst hb; intro e; subst e; exact hn ha⟩
  · rcases List.mem_append.1 hk with h1 | h1
    · exact h.2 k h1
    · simp at h1; omega
theorem snoc_cases (o : List Nat) : o = [] ∨ ∃ p i, o = p ++ [i] := by
  rcases List.eq_nil_or_concat o with h | ⟨p, i, h⟩
  · exact .inl h
  · exact .inr ⟨p, i, by rw [h, List.concat_eq_append]⟩
theorem lays_good {L : List OB} (hL : OkL L) : ∀ (m : Nat) (o : List Nat), o.length = m → Ord L.length o → Good L (lays L o) := by
  intro m
  induction m with
  | zero => intro o ho _; rw [List.length_eq_zero_iff.1 ho]; exact good0 L
  | succ m ih =>
    intro o ho h
    rcases snoc_cases o with rfl | ⟨p, i, rfl⟩
    · simp at ho
    · obtain ⟨h1, h2, h3⟩ := h.snoc
      rw [lays_snoc]
      exact (ih p (by simpa using ho) h1).next hL h2 (by rw [lays_S]; exact h3)
theorem good {L : List OB} (hL : OkL L) {o : List Nat} (h : Ord L.length o) : Good L (lays L o) := lays_good hL _ o rfl h
theorem ord_len {n : Nat} {o : List Nat} (h : Ord n o) : o.length ≤ n := by
  have : o.length ≤ (List.range n).length := h.1.length_le_of_subset (fun i hi => List.mem_range.2 (h.2 i hi))
  simpa using this
end Go.Proofs.Ytjgakcpjphdicaa.Of
