/- How blocks and rows of integers lie in memory. -/
import Derived.Test.YtnkkhbmbbkmfhaaJBase
import Derived.Test.YtnkkhbmbbkmfhaaK0
namespace Go.Proofs.Ytnkkhbmbbkmfhaa
open Go.RowKit
namespace Py
abbrev addr (A : List Int) (i : Nat) : Int := A.getD i 0

theorem below_drewN {n : Nat} {w w' : World} (h : Below n w w') (q : Nat) : Below n w (w'.drewN q) := ⟨h.os, h.tape, h.output, h.size, h.block⟩
theorem below_drew {n : Nat} {w w' : World} (h : Below n w w') : Below n w w'.drew := ⟨h.os, h.tape, h.output, h.size, h.block⟩
theorem bcell {W w1 : World} {n : Nat} (hb : Below n W w1) : (∀ b o, b < n → w1.cell? ⟨b, o, none⟩ = W.cell? ⟨b, o, none⟩) ∧ (∀ b o, b < n → w1.frozen? ⟨b, o, none⟩ = W.frozen? ⟨b, o, none⟩) :=
  ⟨fun b o h => hb.cell (p := ⟨b, o, none⟩) h, fun b o h => hb.frozen (p := ⟨b, o, none⟩) h⟩
theorem add_plain (g o n : Nat) : (⟨g, o, none⟩ : Addr).add n = ⟨g, o + n, none⟩ := by
  unfold Addr.add
  split
  · next h => rw [h]; rfl
  · rfl

/-- A slice of uses, or of gaps, that lies somewhere. -/
def UAt (w : World) (A : Option Addr) (c : Nat) (L : List PU) : Prop :=
  L.length ≤ c ∧ c ≤ maxLen ∧ ∀ (j : Nat) (b : PU), L[j]? = some b → ∃ g o, A = some ⟨g, o, none⟩ ∧ g < w.heap.size ∧
    w.cell? ⟨g, o + j * 3, none⟩ = some (.int .i64 b.p) ∧ w.cell? ⟨g, o + j * 3 + 1, none⟩ = some (.int .i64 b.f) ∧ w.cell? ⟨g, o + j * 3 + 2, none⟩ = some (.int .i64 b.t)
theorem UAt.keep {w w' : World} {A : Option Addr} {c : Nat} {L : List PU} (h : UAt w A c L) (hs : w.heap.size ≤ w'.heap.size) (hk : ∀ g, A.map (·.block) = some g → g < w.heap.size → w'.heap[g]? = w.heap[g]?) : UAt w' A c L := by
  refine ⟨h.1, h.2.1, fun j x hx => ?_⟩
  obtain ⟨g, o, hA, hg, h1, h2, h3⟩ := h.2.2 j x hx
  have e := hk g (by rw [hA]; rfl) hg
  exact ⟨g, o, hA, by omega, (World.cell?_of_block (a := ⟨g, _, none⟩) e).trans h1, (World.cell?_of_block (a := ⟨g, _, none⟩) e).trans h2, (World.cell?_of_block (a := ⟨g, _, none⟩) e).trans h3⟩
theorem UAt.below {w w' : World} {n : Nat} {A : Option Addr} {c : Nat} {L : List PU} (h : UAt w A c L) (hb : Below n w w') (hn : w.heap.size ≤ n) : UAt w' A c L :=
  h.keep hb.size fun g _ hg => hb.block g (by omega)
theorem UAt.at {w : World} {A : Option Addr} {c : Nat} {L : List PU} (h : UAt w A c L) {j : Nat} (hj : j < L.length) : ∃ g o, A = some ⟨g, o, none⟩ ∧ g < w.heap.size ∧
    w.cell? ⟨g, o + j * 3, none⟩ = some (.int .i64 (use L j).p) ∧ w.cell? ⟨g, o + j * 3 + 1, none⟩ = some (.int .i64 (use L j).f) ∧ w.cell? ⟨g, o + j * 3 + 2, none⟩ = some (.int .i64 (use L j).t) :=
  h.2.2 j _ (use_get hj)
theorem UAt.head {w : World} {A : Option Addr} {c : Nat} {L : List PU} (h : UAt w A c L) (hp : 0 < L.length) : ∃ g o, A = some ⟨g, o, none⟩ ∧ g < w.heap.size := by
  obtain ⟨g, o, h1, h2, _⟩ := h.at hp
  exact ⟨g, o, h1, h2⟩
theorem UAt.block {w : World} {g o c : Nat} {L : List PU} (h : UAt w (.some ⟨g, o, none⟩) c L) (hp : 0 < L.length) : g < w.heap.size := by
  obtain ⟨g', o', h1, h2, _⟩ := h.at hp
  injection h1 with h1; injection h1 with h1 _
  rw [h1]; exact h2
theorem uat_nil (w : World) : UAt w none 0 [] := ⟨Nat.le_refl _, Nat.zero_le _, fun j x hx => by simp at hx⟩

/-- A slice of integers that lies somewhere. -/
def IAt (w : World) (A : Option Addr) (c : Nat) (M : List Int) : Prop :=
  M.length ≤ c ∧ c ≤ maxLen ∧ ∀ (j : Nat) (x : Int), M[j]? = some x → ∃ g o, A = some ⟨g, o, none⟩ ∧ g < w.heap.size ∧ w.cell? ⟨g, o + j, none⟩ = some (.int .i64 x)
theorem IAt.keep {w w' : World} {A : Option Addr} {c : Nat} {M : List Int} (h : IAt w A c M) (hs : w.heap.size ≤ w'.heap.size) (hk : ∀ g, A.map (·.block) = some g → g < w.heap.size → w'.heap[g]? = w.heap[g]?) : IAt w' A c M := by
  refine ⟨h.1, h.2.1, fun j x hx => ?_⟩
  obtain ⟨g, o, hA, hg, h1⟩ := h.2.2 j x hx
  exact ⟨g, o, hA, by omega, (World.cell?_of_block (a := ⟨g, _, none⟩) (hk g (by rw [hA]; rfl) hg)).trans h1⟩
theorem IAt.below {w w' : World} {n : Nat} {A : Option Addr} {c : Nat} {M : List Int} (h : IAt w A c M) (hb : Below n w w') (hn : w.heap.size ≤ n) : IAt w' A c M :=
  h.keep hb.size fun g _ hg => hb.block g (by omega)
theorem IAt.at {w : World} {A : Option Addr} {c : Nat} {M : List Int} (h : IAt w A c M) {j : Nat} (hj : j < M.length) : ∃ g o, A = some ⟨g, o, none⟩ ∧ g < w.heap.size ∧ w.cell? ⟨g, o + j, none⟩ = some (.int .i64 (addr M j)) :=
  h.2.2 j _ (by unfold addr; rw [List.getD_eq_getElem?_getD, List.getElem?_eq_getElem hj]; rfl)
theorem IAt.head {w : World} {A : Option Addr} {c : Nat} {M : List Int} (h : IAt w A c M) (hp : 0 < M.length) : ∃ g o, A = some ⟨g, o, none⟩ ∧ g < w.heap.size := by
  obtain ⟨g, o, h1, h2, _⟩ := h.at hp
  exact ⟨g, o, h1, h2⟩
theorem IAt.block {w : World} {g o c : Nat} {M : List Int} (h : IAt w (.some ⟨g, o, none⟩) c M) (hp : 0 < M.length) : g < w.heap.size := by
  obtain ⟨g', o', h1, h2, _⟩ := h.at hp
  injection h1 with h1; injection h1 with h1 _
  rw [h1]; exact h2
theorem IAt.take {w : World} {A : Option Addr} {c : Nat} {M : List Int} (h : IAt w A c M) (k c' : Nat) (hk : min k M.length ≤ c') (hc : c' ≤ maxLen) : IAt w A c' (M.take k) :=
  ⟨by rw [List.length_take]; exact hk, hc, fun j x hx => by
    rw [List.getElem?_take] at hx
    split at hx
    · exact h.2.2 j x hx
    · cases hx⟩
theorem IAt.drop {w : World} {g o c k : Nat} {M : List Int} (h : IAt w (some ⟨g, o, none⟩) c M) (hk : k ≤ M.length) : IAt w (some ⟨g, o + k, none⟩) (c - k) (M.drop k) := by
  have h1 := h.1
  have h2 := h.2.1
  refine ⟨by rw [List.length_drop]; omega, by omega, fun j x hx => ?_⟩
  rw [List.getElem?_drop] at hx
  obtain ⟨g', o', hA, hg, d⟩ := h.2.2 _ x hx
  injection hA with hA; injection hA with e1 e2
  subst e1; subst e2
  exact ⟨g, o + k, rfl, hg, by rw [Nat.add_assoc]; exact d⟩
theorem iat_nil (w : World) : IAt w none 0 [] := ⟨Nat.le_refl _, Nat.zero_le _, fun j x hx => by simp at hx⟩

/-- The cells of a row of integers. -/
def ci (M : List Int) : List Value := M.map (.int .i64)
theorem ci_len (M : List Int) : (ci M).length = M.length := List.length_map _
theorem ci_add (M N : List Int) : ci (M ++ N) = ci M ++ ci N := List.map_append ..
theorem ci_get {M : List Int} {j : Nat} {x : Int} (h : M[j]? = some x) : (ci M)[j]? = some (.int .i64 x) := by unfold ci; rw [List.getElem?_map, h]; rfl
theorem ci_one (M : List Int) : ∀ u ∈ ci M, u.oneCell' = true := by
  intro u hu
  obtain ⟨x, _, rfl⟩ := List.mem_map.1 hu
  rfl
theorem i_addr {w : World} {A : Option Addr} {ad : Addr} {c : Nat} {M : List Int} (h : IAt w A c M) (hA : A = some ad) : ∀ j u, (ci M)[j]? = some u → w.cell? (ad.add j) = some u := by
  intro j u hu
  have hj : j < M.length := by have := (List.getElem?_eq_some_iff.1 hu).1; rwa [ci_len] at this
  obtain ⟨x, hx⟩ : ∃ x, M[j]? = some x := ⟨_, List.getElem?_eq_getElem hj⟩
  rw [ci_get hx] at hu
  injection hu with hu
  obtain ⟨g, o, h1, _, h3⟩ := h.2.2 j x hx
  rw [hA] at h1
  injection h1 with h1
  rw [h1, ← hu, add_plain]
  exact h3
/-- A row of one's own: of the type T. -/
abbrev OwnI (w : World) (B T : Nat) (A : Option Addr) (c : Nat) (M : List Int) : Prop := w.ownsRow B T 1 (.slice A M.length c) M.length (ci M)
theorem row_at {w : World} {B T s n c g : Nat} {xs : List Value} (h : w.ownsRow B T s (.slice (some ⟨g, 0, none⟩) n c) n xs) {j : Nat} {v : Value} (hj : xs[j]? = some v) : w.cell? ⟨g, j, none⟩ = some v := by
  have := h.cells (g := g) rfl _ _ hj
  rwa [add_plain, Nat.zero_add] at this
theorem OwnI.at {w : World} {B T c : Nat} {A : Option Addr} {M : List Int} (h : OwnI w B T A c M) : IAt w A c M ∧ ∀ g, A.map (·.block) = some g → B ≤ g ∧ g < w.heap.size := by
  rcases h.2 with ⟨hv, h0⟩ | ⟨g, cp, cur, hv, hB, hg, h1, h2, _⟩
  · injection hv with e1 e2 e3
    subst e1; subst e3
    exact ⟨⟨by omega, by unfold maxLen; omega, fun j x hx => by have := (List.getElem?_eq_some_iff.1 hx).1; omega⟩, fun g hg => by cases hg⟩
  · injection hv with e1 e2 e3
    subst e1; subst e3
    refine ⟨⟨h1, h2, fun j x hx => ⟨g, 0, rfl, lt_of_heap hg, by rw [Nat.zero_add]; exact row_at h (ci_get hx)⟩⟩, fun g' hg' => ?_⟩
    injection hg' with hg'
    exact ⟨by rw [← hg']; exact hB, by rw [← hg']; exact lt_of_heap hg⟩
theorem OwnI.nil {w : World} {B T c : Nat} {A : Option Addr} {M : List Int} (h : OwnI w B T A c M) : A = none → c = 0 ∧ M = [] := by
  rintro rfl
  rcases h.2 with ⟨hv, h0⟩ | ⟨g, cp, cur, hv, _⟩
  · injection hv with e1 e2 e3
    exact ⟨e3, List.length_eq_zero_iff.1 h0⟩
  · injection hv with h1; cases h1
theorem row_own {w : World} {B T s n : Nat} {xs : List Value} {v : Value} (h : w.ownsRow B T s v n xs) : ∃ A c, v = .slice A n c := by
  rcases h.2 with ⟨hv, h0⟩ | ⟨g, cp, cur, hv, _⟩
  · exact ⟨_, _, by rw [hv, h0]⟩
  · exact ⟨_, _, hv⟩
theorem own_nil (w : World) (B T : Nat) : OwnI w B T none 0 [] := ⟨rfl, .inl ⟨rfl, rfl⟩⟩
theorem row_low {w : World} {B B' e s n : Nat} {v : Value} {xs : List Value} (h : w.ownsRow B e s v n xs) (hB : B' ≤ B) : w.ownsRow B' e s v n xs := by
  refine ⟨h.1, ?_⟩
  rcases h.2 with hn | ⟨g, cap, cur, hv, hb, rest⟩
  · exact .inl hn
  · exact .inr ⟨g, cap, cur, hv, Nat.le_trans hB hb, rest⟩

/-- A block of integers, written in place. -/
def RowI (T : TypeId) (w : World) (g : Nat) (M : List Int) : Prop := ∃ cs : Array Value, w.heap[g]? = some (.cells cs T (0, 0)) ∧ cs.toList = ci M
theorem RowI.lt {T : TypeId} {w : World} {g : Nat} {M : List Int} (h : RowI T w g M) : g < w.heap.size := by
  obtain ⟨cs, h1, _⟩ := h; exact lt_of_heap h1
theorem RowI.keep {T : TypeId} {w w' : World} {g : Nat} {M : List Int} (h : RowI T w g M) (hk : w'.heap[g]? = w.heap[g]?) : RowI T w' g M := by
  obtain ⟨cs, h1, h2⟩ := h; exact ⟨cs, hk.trans h1, h2⟩
theorem RowI.cell {T : TypeId} {w : World} {g : Nat} {M : List Int} (h : RowI T w g M) {j : Nat} (hj : j < M.length) : w.cell? ⟨g, j, none⟩ = some (.int .i64 (addr M j)) := by
  obtain ⟨cs, h1, h2⟩ := h
  rw [cell_of_row _ _ _ _ _ _ h1, ← Array.getElem?_toList, h2]
  exact ci_get (by unfold addr; rw [List.getD_eq_getElem?_getD, List.getElem?_eq_getElem hj]; rfl)
theorem RowI.frozen {T : TypeId} {w : World} {g : Nat} {M : List Int} (h : RowI T w g M) (j : Nat) : w.frozen? ⟨g, j, none⟩ = false := by
  obtain ⟨cs, h1, _⟩ := h; simp [World.frozen?, h1]
theorem RowI.set {T : TypeId} {w : World} {g : Nat} {M : List Int} (h : RowI T w g M) (j : Nat) (v : Int) : RowI T (w.setCell ⟨g, j, none⟩ (.int .i64 v)) g (M.set j v) := by
  obtain ⟨cs, h1, h2⟩ := h
  refine ⟨_, setCell_at _ _ _ _ _ _ h1, ?_⟩
  rw [Array.toList_setIfInBounds, h2]
  unfold ci
  rw [List.map_set]
theorem RowI.at {T : TypeId} {w : World} {g : Nat} {M : List Int} (h : RowI T w g M) (hm : M.length ≤ maxLen) : IAt w (some ⟨g, 0, none⟩) M.length M :=
  ⟨Nat.le_refl _, hm, fun j x hx => ⟨g, 0, rfl, h.lt, by
    rw [Nat.zero_add]
    obtain ⟨cs, h1, h2⟩ := h
    rw [cell_of_row _ _ _ _ _ _ h1, ← Array.getElem?_toList, h2]
    exact ci_get hx⟩⟩
/-- Naturals as integers. -/
abbrev zs (l : List Nat) : List Int := l.map fun (n : Nat) => (n : Int)
theorem zs_get {l : List Nat} {j x : Nat} (h : l[j]? = some x) : (zs l)[j]? = some (x : Int) := by rw [List.getElem?_map, h]; rfl
theorem iat_nat {w : World} {A : Option Addr} {c : Nat} {l : List Nat} (h : IAt w A c (zs l)) {j x : Nat} (hj : l[j]? = some x) : ∃ g o, A = some ⟨g, o, none⟩ ∧ g < w.heap.size ∧ w.cell? ⟨g, o + j, none⟩ = some (.int .i64 (x : Int)) := h.2.2 j _ (zs_get hj)

theorem cell_keep2 {w1 w2 : World} (hb : Below w1.heap.size w1 w2) {b o : Nat} {v : Value} (h : w1.cell? ⟨b, o, none⟩ = some v) : w2.cell? ⟨b, o, none⟩ = some v :=
  (hb.cell (p := ⟨b, o, none⟩) (World.block_lt_of_cell? w1 _ h)).trans h
/-- The box of a use. -/
abbrev ub (b : PU) : Value := .agg #[.int .i64 b.p, .int .i64 b.f, .int .i64 b.t]
/-- The box of costs. -/
abbrev cbx (h w : Int) : Value := .agg #[.int .i64 h, .int .i64 w]
theorem three_at {W : World} {B T : Nat} {x0 x1 x2 : Value} (h : W.heap[B]? = some (.cells #[x0, x1, x2] T (0, 0))) : W.cell? ⟨B, 0, none⟩ = some x0 ∧ W.cell? ⟨B, 1, none⟩ = some x1 ∧ W.cell? ⟨B, 2, none⟩ = some x2 := by
  refine ⟨?_, ?_, ?_⟩ <;> (rw [cell_of_row _ _ _ _ _ _ h]; rfl)
end Py
end Go.Proofs.Ytnkkhbmbbkmfhaa
