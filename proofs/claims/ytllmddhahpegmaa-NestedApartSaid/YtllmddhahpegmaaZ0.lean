/- A row of integers beside a tree: the arenas that were begun since. -/
import Derived.Test.YtllmddhahpegmaaW
import Derived.Test.YtllmddhahpegmaaY
import Derived.Test.YtllmddhahpegmaaPlain9
namespace Go.Proofs.Ytllmddhahpegmaa
open Go.RowKit
namespace Ne

theorem Held.grown {w0 w w' : World} {own : Nat → Option Nat} {t : Nat} {M : Tr} (h : Held w0 w own t M) {r : Option Nat} (hg : w.grownBy w' r) (hr : ∀ k, r = some k → own k = none ∧ w0.heap.size ≤ k) : Held w0 w' own t M := by
  obtain ⟨g, cap, cs, hT⟩ := h.tree
  refine ⟨⟨g, cap, cs, hT.same fun k hk hs => ⟨hg.block k hs fun e => hk (hr k e.symm).1, rfl⟩⟩, h.good, fun k hk => Nat.lt_of_lt_of_le (h.fresh k hk) hg.size, h.low, ?_⟩
  exact ⟨hg.os.trans h.below.os, hg.tape.trans h.below.tape, hg.output.trans h.below.output, Nat.le_trans h.below.size hg.size,
    fun k hk => (hg.block k (Nat.lt_of_lt_of_le hk h.below.size) fun e => by have := (hr k e.symm).2; omega).trans (h.below.block k hk)⟩

/-- The row of the arenas begun since. -/
structure FrRow (B0 : Nat) (own : Nat → Option Nat) (w : World) (v : Value) (fr : List Int) : Prop where
  row : w.ownsRow 0 3 1 v fr.length (fr.map fun f => .int .i64 f)
  out : ∀ g, v.ownBlock = some g → B0 ≤ g ∧ own g = none

theorem FrRow.nil (B0 : Nat) (own : Nat → Option Nat) (w : World) : FrRow B0 own w (.slice none 0 0) [] :=
  ⟨World.ownsRow_nil _ _ _ _, fun g hg => by cases hg⟩

theorem FrRow.keeps {B0 : Nat} {own own' : Nat → Option Nat} {w w' : World} {v : Value} {fr : List Int} (h : FrRow B0 own w v fr) (hk : Keeps own own' w w') : FrRow B0 own' w' v fr :=
  ⟨row_same h.row fun g hg => hk.block g (h.row.lt g hg).2 (h.out g hg).2, fun g hg => ⟨(h.out g hg).1, (hk.same g (h.row.lt g hg).2).trans (h.out g hg).2⟩⟩

/-- What lay there when the state was saved, and is no tree's, still does. -/
def Old (B0 : Nat) (own4 : Nat → Option Nat) (W6 : World) (own : Nat → Option Nat) (w : World) : Prop :=
  B0 ≤ w.heap.size ∧ ∀ k, k < B0 → own4 k = none → w.heap[k]? = W6.heap[k]? ∧ own k = none

theorem Old.keeps {B0 : Nat} {own4 own own' : Nat → Option Nat} {W6 w w' : World} (h : Old B0 own4 W6 own w) (hk : Keeps own own' w w') : Old B0 own4 W6 own' w' :=
  ⟨Nat.le_trans h.1 hk.size, fun k h1 h2 => ⟨(hk.block k (Nat.lt_of_lt_of_le h1 h.1) (h.2 k h1 h2).2).trans (h.2 k h1 h2).1, (hk.same k (Nat.lt_of_lt_of_le h1 h.1)).trans (h.2 k h1 h2).2⟩⟩

theorem Old.grown {B0 : Nat} {own4 own : Nat → Option Nat} {W6 w w' : World} (h : Old B0 own4 W6 own w) {r : Option Nat} (hg : w.grownBy w' r) (hr : ∀ k, r = some k → B0 ≤ k) : Old B0 own4 W6 own w' :=
  ⟨Nat.le_trans h.1 hg.size, fun k h1 h2 => ⟨(hg.block k (Nat.lt_of_lt_of_le h1 h.1) fun e => by have := hr k e.symm; omega).trans (h.2 k h1 h2).1, (h.2 k h1 h2).2⟩⟩

theorem FrRow.app {B0 : Nat} {own own4 : Nat → Option Nat} {W6 w w' : World} {v : Value} {fr : List Int} (h : FrRow B0 own w v fr) (ho : Old B0 own4 W6 own w) (hf : Fresh own w) {g cap : Nat} {x : Int}
    (h1 : w'.ownsRow 0 3 1 (.slice (some ⟨g, 0, none⟩) (fr.length + 1) cap) (fr.length + 1) ((fr.map fun f => .int .i64 f) ++ [.int .i64 x])) (h3 : v.ownBlock = some g ∨ g = w.heap.size) :
    FrRow B0 own w' (.slice (some ⟨g, 0, none⟩) (fr.length + 1) cap) (fr ++ [x]) := by
  refine ⟨by simpa using h1, fun g' hg' => ?_⟩
  obtain rfl : g = g' := by simpa [Value.ownBlock] using hg'
  rcases h3 with e | e
  · exact h.out g e
  · refine ⟨by rw [e]; exact ho.1, ?_⟩
    cases hv : own g with
    | none => rfl
    | some z => exact absurd (hf g (by rw [hv]; simp)) (by omega)
theorem begun {w0 w9 w' W6 : World} {own4 own : Nat → Option Nat} {t B0 : Nat} {M : Tr} {v : Value} {fs : List Int} {ob : Obj} {g cap : Nat} {x : Int} (H : Held w0 w9 own t M) (hO : Old B0 own4 W6 own w9) (hF : FrRow B0 own w9 v fs) (hB : w0.heap.size ≤ B0)
    (hg : (w9.alloc ob).grownBy w' v.ownBlock) (h1 : w'.ownsRow 0 3 1 (.slice (some ⟨g, 0, none⟩) (fs.length + 1) cap) (fs.length + 1) ((fs.map fun f => .int .i64 f) ++ [.int .i64 x])) (h3 : v.ownBlock = some g ∨ g = w9.heap.size + 1) :
    Held w0 w' own t M ∧ Old B0 own4 W6 own w' ∧ FrRow B0 own w' (.slice (some ⟨g, 0, none⟩) (fs.length + 1) cap) (fs ++ [x]) := by
  have hb : Below w9.heap.size w9 (w9.alloc ob) := (Below.refl _ _).alloc (Nat.le_refl _) ob
  have hA : Keeps own own w9 (w9.alloc ob) := .of_below own hb
  have H' := H.of_below hb
  exact ⟨H'.grown hg fun g' hg' => ⟨(hF.out g' hg').2, Nat.le_trans hB (hF.out g' hg').1⟩, (hO.keeps hA).grown hg fun g' hg' => (hF.out g' hg').1,
    (hF.keeps hA).app (hO.keeps hA) H'.fresh h1 (by simpa using h3)⟩
end Ne
end Go.Proofs.Ytllmddhahpegmaa
