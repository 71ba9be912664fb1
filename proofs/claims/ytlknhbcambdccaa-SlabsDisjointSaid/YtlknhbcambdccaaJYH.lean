/- SlabsDisjoint: all shapes; the arguments. -/
import Derived.Test.YtlknhbcambdccaaJYG
namespace Go.Proofs.Ytlknhbcambdccaa
open Go.RowKit
namespace Sl
open Bu

set_option maxRecDepth 100000 in
set_option maxHeartbeats 4000000 in
theorem disj_bad (w : World) (P : Nat) (hP : P < 256) (size order keep : Int) (hs : sizesB size order keep = false) (At : Option Addr) (ct : Nat) (T : List (Nat × Int)) (hTl : T.length ≤ 100) :
    Calls Try.prog 5 #[.agg #[.int .u8 (P : Int), .int .i64 size, .int .i64 order, .int .i64 keep], .slice At T.length ct] w fun e w' => e = .returned (.bool true) ∧ Below w.heap.size w w' := by
  obtain ⟨W1, hW1⟩ : ∃ W1, W1 = w.alloc (.cells #[.int .u8 (P : Int), .int .i64 size, .int .i64 order, .int .i64 keep] 42) := ⟨_, rfl⟩
  have hb1 : Below w.heap.size w W1 := by rw [hW1]; exact below_box w _
  have hB1 : W1.heap[w.heap.size]? = some (.cells #[.int .u8 (P : Int), .int .i64 size, .int .i64 order, .int .i64 keep] 42 (0, 0)) := by rw [hW1, heapAlloc, if_pos rfl]
  have hs1 : W1.heap.size = w.heap.size + 1 := by rw [hW1]; simp
  have hbx : ∀ V, Below W1.heap.size W1 V → V.cell? ⟨w.heap.size, 0, none⟩ = some (.int .u8 (P : Int)) ∧ V.cell? ⟨w.heap.size, 1, none⟩ = some (.int .i64 size) ∧ V.cell? ⟨w.heap.size, 2, none⟩ = some (.int .i64 order) ∧ V.cell? ⟨w.heap.size, 3, none⟩ = some (.int .i64 keep) := fun V hV => four_at ((hV.block w.heap.size (by omega)).trans hB1)
  obtain ⟨N, hN⟩ : ∃ N, N = P % 8 := ⟨_, rfl⟩
  have hNi : (P : Int) % 8 = (N : Int) := by omega
  obtain ⟨b0, b1', b2', b3'⟩ := hbx W1 (Below.refl _ _)
  have hp0 : (0 : Int) ≤ (P : Int) := by omega
  have hp1 : (P : Int) ≤ 255 := by omega
  have t1 : ¬ (T.length : Int) > 100 := by omega
  have HN := Lib.hid (newL_ok W1 N (by omega))
  have HW := Lib.hid hW1
  have HBX := Lib.hid hbx
  have HX := Lib.hid (And.intro hb1 hs)
  have hq : ∀ (w : World) (p : Option Addr), (binOp .eql 22 (.pointer p) (.pointer none)).run Try.prog w = .ok (.bool p.isNone) w := fun w p => run_eql_ptr_nil Try.prog w 22 _ p Try.underlying22
  clear hb1 hB1 hs1 hN hTl hs hW1 hbx b1' b2' b3'
  go_enter Try.func5, Try.ntmps5
  go_wp2_with (fail)
  rw [← HW.out]
  go_wp2_with (go_at_call 15; fail)
  refine HN.out.mono ?_
  rintro _ W2 ⟨rfl, hB2, hb2⟩
  obtain ⟨c0, c1, c2, c3⟩ := HBX.out W2 hb2
  have HC := Lib.hid (Mine.bad (size := size) (order := order) (keep := keep) hB2 HX.out.2)
  have H2 := Lib.hid hb2
  obtain ⟨b, hb⟩ : ∃ b, b = W1.heap.size := ⟨_, rfl⟩
  rw [← hb] at HC ⊢
  clear hB2 hb2 HN b0 hb
  go_wp2_with (go_at_call 16; fail)
  refine HC.out.mono ?_
  rintro _ W3 ⟨rfl, hb3⟩
  have HS := Lib.hid (shown_ok W3)
  have H3 := Lib.hid hb3
  clear hb3 c0 c1 c2 c3 HC
  go_wp2_with (go_at_call 17; fail)
  refine HS.out.mono ?_
  rintro _ W4 ⟨rfl, hb4⟩
  have H4 := Lib.hid hb4
  clear hb4 HS
  go_wp2
  go_ret
  exact ⟨rfl, below_step (below_step (below_step HX.out.1 H2.out (Nat.le_refl _)) H3.out (Nat.le_refl _)) H4.out (Nat.le_refl _)⟩

set_option maxRecDepth 100000 in
set_option maxHeartbeats 2000000 in
theorem disj_long (w : World) (P : Nat) (size order keep : Int) (At : Option Addr) (ct : Nat) (T : List (Nat × Int)) (hTl : 100 < T.length) :
    Calls Try.prog 5 #[.agg #[.int .u8 (P : Int), .int .i64 size, .int .i64 order, .int .i64 keep], .slice At T.length ct] w fun e w' => e = .returned (.bool true) ∧ Below w.heap.size w w' := by
  have t1 : (T.length : Int) > 100 := by omega
  have HS := Lib.hid (fun W : World => shown_ok W)
  go_enter Try.func5, Try.ntmps5
  go_wp2_with (go_at_call 17; fail)
  refine (HS.out _).mono ?_
  rintro _ W4 ⟨rfl, hb4⟩
  have H4 := Lib.hid hb4
  clear hb4
  go_wp2
  go_ret
  exact ⟨rfl, below_step (below_box w _) H4.out (Nat.le_refl _)⟩

theorem disj_walk (w : World) (P : Nat) (hP : P < 256) (size order keep : Int) (At : Option Addr) (ct : Nat) (T : List (Nat × Int)) (hT : ActAt w At ct T) :
    Calls Try.prog 5 #[.agg #[.int .u8 (P : Int), .int .i64 size, .int .i64 order, .int .i64 keep], .slice At T.length ct] w fun e w' => e = .returned (.bool true) ∧ Below w.heap.size w w' := by
  by_cases h : T.length ≤ 100
  · cases hs : sizesB size order keep with
    | true => exact disj_in w P hP size order keep hs At ct T hT h
    | false => exact disj_bad w P hP size order keep hs At ct T h
  · exact disj_long w P size order keep At ct T (by omega)

section
variable {H : Type} {enc : TypeId × Value → H} {W : World} {v : Value} {d : DataW H} {p : List MemPlace}
open Go.ChangeShapes Go.WideShapes Go.ChangeAt Go.RowKit Go.Deep Go.Joins
set_option maxRecDepth 100000 in
theorem open_acts {r : Reach} {b0 : Nat} (hv : Value.okWide Try.prog W r b0 55 v) (h : DataW.Trod enc Try.prog W 0 (fun _ => true) true 55 v d p) :
    ∃ (A : Option Addr) (c : Nat) (T : List (Nat × Int)), v = .slice A T.length c ∧ ActAt W A c T := by
  obtain ⟨A, len, cap, rfl⟩ := okWide_slice Try.underlying55 hv
  obtain ⟨fuel, hf⟩ := h
  rcases open_slice_fields Try.underlying55 Try.underlying57 (by kernel_rfl) (by kernel_rfl) hf with ⟨hcs, _⟩ | ⟨a, len, cap, m, D, Pl, hcs, _, hl, hm, hmm, _, hi⟩
  · simp only [Value.cells, List.cons.injEq, Value.slice.injEq, and_true] at hcs
    obtain ⟨rfl, rfl, rfl⟩ := hcs
    exact ⟨none, 0, [], rfl, Nat.le_refl _, Nat.zero_le _, fun j x hx => by simp at hx⟩
  · simp only [Value.cells, List.cons.injEq, Value.slice.injEq, and_true] at hcs
    obtain ⟨rfl, rfl, rfl⟩ := hcs
    have hlm : len ≤ m := by rw [hmm]; split <;> omega
    have hspot : 0 < len → a.spot = none := by
      intro h0
      obtain ⟨ys, n, _, _, _, hfl⟩ := hi 0 (by omega)
      obtain ⟨v0, y0, c0, _, t0⟩ := hfl 0 _ rfl
      have := World.cell?_spot c0
      rwa [Nat.zero_mul, Addr.add, if_pos rfl] at this
    have key : ∀ j : Nat, j < len → ∃ x : Nat × Int, ∃ g o, some a = some ⟨g, o, none⟩ ∧ g < W.heap.size ∧ W.cell? ⟨g, o + j * 2, none⟩ = some (.int .u8 (x.1 : Int)) ∧ W.cell? ⟨g, o + j * 2 + 1, none⟩ = some (.int .i64 x.2) ∧ x.1 < 256 ∧ -9223372036854775808 ≤ x.2 ∧ x.2 < 9223372036854775808 := by
      intro j hj
      obtain ⟨ys, n, _, _, _, hfl⟩ := hi j (by omega)
      obtain ⟨v0, y0, c0, _, t0⟩ := hfl 0 _ rfl
      obtain ⟨v1, y1, c1, _, t1⟩ := hfl 1 _ rfl
      obtain ⟨n0, e0, _, w0⟩ := DataW.trod_int Try.underlying5 t0
      obtain ⟨n1, e1, _, w1⟩ := DataW.trod_int Try.underlying2 t1
      simp only [List.cons.injEq, and_true] at e0 e1
      subst e0 e1
      obtain ⟨k, rfl, hk⟩ := wf_u8 w0
      obtain ⟨w2, w3⟩ := wf_i64 w1
      obtain ⟨g, o, spot⟩ := a
      obtain rfl : spot = none := hspot (by omega)
      rw [Bu.add_plain] at c0 c1
      have hg : g < W.heap.size := World.block_lt_of_cell? _ (a := ⟨g, _, none⟩) c0
      exact ⟨(k, n1), g, o, rfl, hg, by simpa [Nat.add_assoc] using c0, by simpa [Nat.add_assoc] using c1, hk, w2, w3⟩
    obtain ⟨l, rfl, hp⟩ := list_of _ len key
    exact ⟨some a, cap, l, rfl, hl, hm, hp⟩
end
end Sl
end Go.Proofs.Ytlknhbcambdccaa
