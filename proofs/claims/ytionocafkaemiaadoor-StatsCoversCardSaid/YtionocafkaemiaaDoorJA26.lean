/- Add: slices.Clone, a value that is set. -/
import Derived.Test.YtionocafkaemiaaDoorJS2
import Derived.Test.YtionocafkaemiaaDoorJR1
import Derived.Test.YtionocafkaemiaaDoorJPA
import Derived.Lib.SliceRun
namespace Go.Proofs.YtionocafkaemiaaDoor
open Go.RowKit Go.Lib
namespace Sx
attribute [local irreducible] wpQuiet
theorem heap_keep {w w' : World} {k : Nat} {cs : Array Value} {T : TypeId} (hk : w.heap[k]? = some (.cells cs T (0, 0))) (hb : Below w.heap.size w w') : w'.heap[k]? = some (.cells cs T (0, 0)) := (hb.block k (lt_of_heap hk)).trans hk
theorem frozen_at {w : World} {p T : Nat} {cs : Array Value} (h : w.heap[p]? = some (.cells cs T (0, 0))) (j : Nat) : w.frozen? ⟨p, j, none⟩ = false := by simp [World.frozen?, h]
theorem owne_empty (w : World) (T : TypeId) : OwnE Sx.es 2 (w.alloc (.cells #[] T)) w.heap.size T (some ⟨w.heap.size, 0, none⟩) 0 [] :=
  ⟨rfl, .inr ⟨w.heap.size, 0, #[], rfl, Nat.le_refl _, new_at _ _, Nat.le_refl _, Nat.zero_le _, rfl, rfl⟩⟩
theorem ce_set (v : Int) : ∀ (X : List Sm) (j : Nat), j < X.length → (ce es X).set (j * 2 + 1) (.int .i64 v) = ce es (X.set j ⟨(sm X j).a, v⟩)
  | [], j, h => by simp at h
  | x :: X, 0, _ => rfl
  | x :: X, j + 1, h => by
    have := ce_set v X j (by simpa using h)
    show (([.int .i64 x.a, .int .i64 x.v] : List Value) ++ ce es X).set ((j + 1) * 2 + 1) _ = ([.int .i64 x.a, .int .i64 x.v] : List Value) ++ ce es (X.set j ⟨(sm X j).a, v⟩)
    rw [← this, show (j + 1) * 2 + 1 = (j * 2 + 1) + 2 by omega]
    rfl
theorem OwnE.setv {w : World} {B T c : Nat} {A : Option Addr} {X : List Sm} (h : OwnE Sx.es 2 w B T A c X) {j : Nat} (hj : j < X.length) (v : Int) :
    ∃ g, A = some ⟨g, 0, none⟩ ∧ B ≤ g ∧ OwnE Sx.es 2 (w.setCell ⟨g, j * 2 + 1, none⟩ (.int .i64 v)) B T A c (X.set j ⟨(sm X j).a, v⟩) ∧ (∀ i, w.frozen? ⟨g, i, none⟩ = false) ∧ w.cell? ⟨g, j * 2, none⟩ = some (.int .i64 (sm X j).a) ∧ w.cell? ⟨g, j * 2 + 1, none⟩ = some (.int .i64 (sm X j).v) := by
  have hat := (OwnE.at ES h).1
  obtain ⟨g', o', hA, _, d0, d1⟩ := hat.s2 hj
  rcases h.2 with ⟨_, h0⟩ | ⟨g, cap, cur, hv, hB, hg, h1, h2, h3, h4⟩
  · omega
  · injection hv with e1 e2 e3
    rw [hA] at e1
    injection e1 with e1; injection e1 with e4 e5
    subst e4; subst e5; subst e3
    simp only [Nat.zero_add] at d0 d1
    refine ⟨g', hA, hB, ⟨by rw [ce_len ES, List.length_set], .inr ⟨g', c, cur.setIfInBounds (j * 2 + 1) (.int .i64 v), by rw [hA, List.length_set], hB, ?_, by rw [List.length_set]; exact h1, h2, by simpa using h3, ?_⟩⟩, fun i => by simp [World.frozen?, hg], d0, d1⟩
    · simp [World.setCell, Array.getElem?_modify, hg]
    · rw [List.length_set, Array.toList_setIfInBounds, ← ce_set v X j hj, ← h4, List.take_set]
set_option maxRecDepth 100000 in
set_option maxHeartbeats 2000000 in
theorem clone_ok (A : Option Addr) (c : Nat) (L : List Sm) (W : World) (hL : SAt W A c L) (hn : A = none → c = 0) (hl : L.length ≤ 1000) :
    Calls Tryd.prog 62 #[.slice A L.length c] W fun e w' => ∃ A' c', e = .returned (.slice A' L.length c') ∧ OwnE Sx.es 2 w' W.heap.size 49 A' c' L ∧ Below W.heap.size W w' := by
  cases A with
  | none =>
    have h0 : L = [] := List.length_eq_zero_iff.1 (by have := hL.1; have := hn rfl; omega)
    subst h0
    have hc := hn rfl
    subst hc
    have hq := fun w : World => Lib.run_eql_slice_nil (P := Tryd.prog) w 22 _ none 0 0 0 0 Tryd.underlying22
    go_enter Tryd.func62, Tryd.ntmps62
    go_wp2_with (fail)
    go_ret
    exact ⟨none, 0, rfl, owne_nil _ _ _, Below.refl _ _⟩
  | some ad =>
    have hx := below_box W (.cells #[] 49)
    have hE := owne_empty W 49
    have hLx := hL.below hx (Nat.le_refl _)
    have HX := Lib.hid (And.intro hx (And.intro hE hLx))
    clear hx hE hLx hL hn
    have hq := fun w : World => Lib.run_eql_slice_nil (P := Tryd.prog) w 22 _ (some ad) L.length c 0 0 Tryd.underlying22
    go_enter Tryd.func62, Tryd.ntmps62
    go_wp2_with (at_builtin; refine wpList_e ES Tryd.underlying22 sample_info (by decide) ?_ (.tmp 5) (.tmp 6) ?_ W.heap.size (some ⟨W.heap.size, 0, none⟩) 0 [] ?_ HX.out.2.1 (some ad) c L ?_ HX.out.2.2 (fun h => by cases h) ?_ ?_ ?_; (exact rfl); (exact rfl); (exact rfl); (exact rfl); (simp; omega); (simp); intro A8 c8 w8 h8 b8 _ _; have H8 := Lib.hid (And.intro h8 b8); clear h8 b8)
    go_ret
    exact ⟨A8, c8, rfl, H8.out.1, (HX.out.1.mono (Nat.le_refl _)).trans H8.out.2⟩
end Sx
end Go.Proofs.YtionocafkaemiaaDoor
