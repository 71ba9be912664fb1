/- Ranges over functions within a loop: the marks on the frame. -/
import Derived.Test.YtdanhbbdkcbapaaSH
import Derived.Sort.LoopGhostIn
namespace Go.Proofs.Ytdanhbbdkcbapaa
open Go.RowKit
namespace Bu

/-- The marks that ranges left on a frame: each names a block of deferred calls that holds none. -/
def Marks (lo : Nat) (W : World) : Nat → List Deferred → Prop
  | _, [] => True
  | hi, d :: ds => ∃ r, lo ≤ r ∧ r < hi ∧ d = { target := .collected r, args := #[] } ∧ W.heap[r]? = some (.deferred (some [])) ∧ Marks lo W r ds

theorem Marks.keep {lo : Nat} {W W' : World} : ∀ {ds : List Deferred} {hi hi' : Nat}, Marks lo W hi ds → hi ≤ hi' → (∀ k, lo ≤ k → W.heap[k]? = some (.deferred (some [])) → W'.heap[k]? = some (.deferred (some []))) → Marks lo W' hi' ds := by
  intro ds
  induction ds with
  | nil => intro _ _ _ _ _; trivial
  | cons d ds ih =>
    rintro hi hi' ⟨r, h1, h2, h3, h4, h5⟩ hle hk
    exact ⟨r, h1, by omega, h3, hk r h1 h4, ih h5 (Nat.le_refl _) hk⟩

/-- Two worlds that differ in blocks of deferred calls from lo on alone. -/
structure Shut (lo : Nat) (W W' : World) : Prop where
  os : W'.os = W.os
  tape : W'.tape = W.tape
  output : W'.output = W.output
  size : W'.heap.size = W.heap.size
  block : ∀ k, k < lo → W'.heap[k]? = W.heap[k]?

theorem Shut.refl (lo : Nat) (W : World) : Shut lo W W := ⟨rfl, rfl, rfl, rfl, fun _ _ => rfl⟩

theorem leaves_marks {F : Fence} {n : Nat} {P : Program} {fn : Func} {tmps : Array Value} {R : Ending → World → Prop} (lo : Nat) : ∀ (ds : List Deferred) (hi : Nat) (W : World), Marks lo W hi ds →
    (∀ W', Shut lo W W' → ∃ v, (results fn tmps).run P W' = .ok v W' ∧ R (.returned v) W') → LeavesInM F n P fn tmps R ds .returning W := by
  intro ds
  induction ds with
  | nil => intro _ W _ h; exact h W (Shut.refl _ _)
  | cons d ds ih =>
    rintro hi W ⟨r, h1, h2, rfl, h4, h5⟩ h
    refine ⟨by simp, .inl ⟨r, _, rfl, run_takeDeferred h4, ih r _ ?_ ?_⟩⟩
    · have key : ∀ (ds : List Deferred) (hi : Nat), hi ≤ r → Marks lo W hi ds → Marks lo (W.putObj r (.deferred none)) hi ds := by
        intro ds
        induction ds with
        | nil => intro _ _ _; trivial
        | cons d ds ih2 =>
          rintro hi hle ⟨q, g1, g2, g3, g4, g5⟩
          exact ⟨q, g1, g2, g3, by rw [World.putObj_heap_other (by omega)]; exact g4, ih2 q (by omega) g5⟩
      exact key ds r (Nat.le_refl _) h5
    · intro W' hs
      refine h W' ⟨hs.os, hs.tape, hs.output, by rw [hs.size]; simp, fun k hk => ?_⟩
      rw [hs.block k hk, World.putObj_heap_other (by omega)]

theorem loopK {F : Fence} {rm : Nat} {P : Program} {Q : Exit → Act → World → Prop} {a : Act} {w : World} {c : Code} (I : Nat → Act → World → Prop) (n₀ : Nat) (h₀ : I n₀ a w)
    (round : ∀ n a w, I n a w → ∀ K : Act → World → Prop, (∀ k a' w', k < n → I k a' w' → K a' w') → c.wpIn F rm P (Exit.then K Q) a w) : (Code.loop c).wpIn F rm P Q a w :=
  wpIn_loop_ghost I n₀ h₀ fun n a w h => round n a w h _ fun k _ _ h1 h2 => ⟨k, h1, h2⟩
end Bu
end Go.Proofs.Ytdanhbbdkcbapaa
