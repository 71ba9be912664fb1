/- The argument: a slice of calls, and the range of what is to be rewound to. -/
import Derived.Test.YtllmddhahpegmaaX
namespace Go.Proofs.Ytllmddhahpegmaa
namespace Ne
open Go.ChangeShapes Go.WideShapes Go.ChangeAt Go.RowKit Go.Deep Go.Joins

theorem wf_i64 {n : Int} (h : (Lit.int .i64 n).wf = true) : -9223372036854775808 ≤ n ∧ n ≤ 9223372036854775807 := by
  simp only [Lit.wf, Bool.and_eq_true, decide_eq_true_eq] at h
  exact h

section
variable {H : Type} {enc : TypeId × Value → H} {W : World} {v : Value} {d : DataW H} {p : List MemPlace}

set_option maxRecDepth 100000 in
theorem open_calls_in {r : Reach} {b0 : Nat} (hv : Value.okWide Try.prog W r b0 22 v) (h : DataW.Trod enc Try.prog W 0 (fun _ => true) true 22 v d p) :
    ∃ (A : Option Addr) (c : Nat) (l : List Cl), v = .slice A l.length c ∧ CallsAt W A c l ∧ ∀ x ∈ l, (-9223372036854775808 ≤ x.items ∧ x.items ≤ 9223372036854775807) := by
  obtain ⟨A, len, cap, rfl⟩ := okWide_slice Try.underlying22 hv
  obtain ⟨fuel, hf⟩ := h
  rcases open_slice_fields Try.underlying22 Try.underlying49 (by kernel_rfl) (by kernel_rfl) hf with ⟨hcs, _⟩ | ⟨a, l, c, m, D, Pl, hcs, _, hl, hm, hmm, _, hi⟩
  · simp only [Value.cells, List.cons.injEq, Value.slice.injEq, and_true] at hcs
    obtain ⟨rfl, rfl, rfl⟩ := hcs
    exact ⟨none, 0, [], rfl, ⟨Nat.le_refl _, Nat.zero_le _, fun j x hx => by simp at hx⟩, fun x hx => by simp at hx⟩
  · simp only [Value.cells, List.cons.injEq, Value.slice.injEq, and_true] at hcs
    obtain ⟨rfl, rfl, rfl⟩ := hcs
    have hlm : len ≤ m := by rw [hmm]; split <;> omega
    have hspot : 0 < len → a.spot = none := by
      intro h0
      obtain ⟨ys, n, _, _, _, hfl⟩ := hi 0 (by omega)
      obtain ⟨v0, y0, c0, _, t0⟩ := hfl 0 _ rfl
      have := World.cell?_spot c0
      rwa [Nat.zero_mul, Addr.add, if_pos rfl] at this
    have key : ∀ j : Nat, j < len → ∃ x : Cl, ∃ g o, some a = some ⟨g, o, none⟩ ∧ g < W.heap.size ∧ 0 ≤ x.what ∧ x.what ≤ 255 ∧
        W.cell? ⟨g, o + j * 5, none⟩ = some (.int .u8 x.what) ∧ W.cell? ⟨g, o + j * 5 + 1, none⟩ = some (.int .i64 x.node) ∧ W.cell? ⟨g, o + j * 5 + 2, none⟩ = some (.int .i64 x.items) ∧
        W.cell? ⟨g, o + j * 5 + 3, none⟩ = some (.int .i64 x.size) ∧ W.cell? ⟨g, o + j * 5 + 4, none⟩ = some (.int .i64 x.align) ∧ (-9223372036854775808 ≤ x.items ∧ x.items ≤ 9223372036854775807) := by
      intro j hj
      obtain ⟨ys, n, _, _, _, hfl⟩ := hi j (by omega)
      obtain ⟨v0, y0, c0, _, t0⟩ := hfl 0 _ rfl
      obtain ⟨v1, y1, c1, _, t1⟩ := hfl 1 _ rfl
      obtain ⟨v2, y2, c2, _, t2⟩ := hfl 2 _ rfl
      obtain ⟨v3, y3, c3, _, t3⟩ := hfl 3 _ rfl
      obtain ⟨v4, y4, c4, _, t4⟩ := hfl 4 _ rfl
      obtain ⟨n0, e0, _, w0⟩ := DataW.trod_int Try.underlying5 t0
      obtain ⟨n1, e1, _, _⟩ := DataW.trod_int Try.underlying3 t1
      obtain ⟨n2, e2, _, w3⟩ := DataW.trod_int Try.underlying3 t2
      obtain ⟨n3, e3, _, _⟩ := DataW.trod_int Try.underlying2 t3
      obtain ⟨n4, e4, _, _⟩ := DataW.trod_int Try.underlying2 t4
      simp only [List.cons.injEq, and_true] at e0 e1 e2 e3 e4
      subst e0 e1 e2 e3 e4
      obtain ⟨g, o, spot⟩ := a
      obtain rfl : spot = none := hspot (by omega)
      obtain ⟨w1, w2⟩ := wf_u8 w0
      rw [add_plain] at c0 c1 c2 c3 c4
      have hg : g < W.heap.size := World.block_lt_of_cell? _ (a := ⟨g, _, none⟩) c0
      exact ⟨⟨n0, n1, n2, n3, n4⟩, g, o, rfl, hg, w1, w2, by simpa [Nat.add_assoc] using c0, by simpa [Nat.add_assoc] using c1, by simpa [Nat.add_assoc] using c2, by simpa [Nat.add_assoc] using c3, by simpa [Nat.add_assoc] using c4, wf_i64 w3⟩
    obtain ⟨l, rfl, hp⟩ := list_of _ len key
    refine ⟨some a, cap, l, rfl, ⟨hl, hm, fun j x hx => ?_⟩, fun x hx => ?_⟩
    · obtain ⟨g, o, h0, h1, h2, h3, h4, h5, h6, h7, h8, _⟩ := hp j x hx
      exact ⟨g, o, h0, h1, h2, h3, h4, h5, h6, h7, h8⟩
    · obtain ⟨j, hj⟩ := List.getElem?_of_mem hx
      obtain ⟨_, _, _, _, _, _, _, _, _, _, _, h9⟩ := hp j x hj
      exact h9

end
end Ne
end Go.Proofs.Ytllmddhahpegmaa
