/- SlabsBack: all shapes; the arguments. -/
import Derived.Test.YtlknhbcambdccaaJYB
import Derived.Test.YtlknhbcambdccaaK17
import Derived.Lib.SmallJoins
namespace Go.Proofs.Ytlknhbcambdccaa
open Go.RowKit
namespace Sl
open Bu

set_option maxRecDepth 100000 in
set_option maxHeartbeats 4000000 in
theorem back_bad (w : World) (P many : Nat) (hP : P < 256) (size order keep : Int) (hs : sizesB size order keep = false) (At : Option Addr) (ct : Nat) (T : List Nat) (hTl : T.length ≤ 200) :
    Calls Try.prog 4 #[.agg #[.int .u8 (P : Int), .int .i64 size, .int .i64 order, .int .i64 keep], .int .u8 (many : Int), .slice At T.length ct] w fun e w' => e = .returned (.bool true) ∧ Below w.heap.size w w' := by
  obtain ⟨W1, hW1⟩ : ∃ W1, W1 = w.alloc (.cells #[.int .u8 (P : Int), .int .i64 size, .int .i64 order, .int .i64 keep] 42) := ⟨_, rfl⟩
  have hb1 : Below w.heap.size w W1 := by rw [hW1]; exact below_box w _
  have hB1 : W1.heap[w.heap.size]? = some (.cells #[.int .u8 (P : Int), .int .i64 size, .int .i64 order, .int .i64 keep] 42 (0, 0)) := by rw [hW1, heapAlloc, if_pos rfl]
  have hs1 : W1.heap.size = w.heap.size + 1 := by rw [hW1]; simp
  obtain ⟨N, hN⟩ : ∃ N, N = P % 8 := ⟨_, rfl⟩
  have hNi : (P : Int) % 8 = (N : Int) := by omega
  have b0 : W1.cell? ⟨w.heap.size, 0, none⟩ = some (.int .u8 (P : Int)) := by rw [cell_of_row _ _ _ _ _ _ hB1]; rfl
  have hp0 : (0 : Int) ≤ (P : Int) := by omega
  have hp1 : (P : Int) ≤ 255 := by omega
  have t1 : ¬ (T.length : Int) > 200 := by omega
  have HN := Lib.hid (newL_ok W1 N (by omega))
  have HW := Lib.hid hW1
  have HX := Lib.hid (And.intro hb1 (And.intro hB1 (And.intro hs1 hs)))
  have hq : ∀ (w : World) (p : Option Addr), (binOp .eql 22 (.pointer p) (.pointer none)).run Try.prog w = .ok (.bool p.isNone) w := fun w p => run_eql_ptr_nil Try.prog w 22 _ p Try.underlying22
  clear hb1 hB1 hs1 hN hTl hs hW1
  go_enter Try.func4, Try.ntmps4
  go_wp2_with (fail)
  rw [← HW.out]
  go_wp2_with (go_at_call 15; fail)
  refine HN.out.mono ?_
  rintro _ W2 ⟨rfl, hB2, hb2⟩
  have hB2s := (hb2.block w.heap.size (by have := HX.out.2.2.1; omega)).trans HX.out.2.1
  have c1 : W2.cell? ⟨w.heap.size, 1, none⟩ = some (.int .i64 size) := by rw [cell_of_row _ _ _ _ _ _ hB2s]; rfl
  have c2 : W2.cell? ⟨w.heap.size, 2, none⟩ = some (.int .i64 order) := by rw [cell_of_row _ _ _ _ _ _ hB2s]; rfl
  have c3 : W2.cell? ⟨w.heap.size, 3, none⟩ = some (.int .i64 keep) := by rw [cell_of_row _ _ _ _ _ _ hB2s]; rfl
  have HC := Lib.hid (Mine.bad (size := size) (order := order) (keep := keep) hB2 HX.out.2.2.2)
  have H2 := Lib.hid hb2
  obtain ⟨b, hb⟩ : ∃ b, b = W1.heap.size := ⟨_, rfl⟩
  rw [← hb] at HC ⊢
  clear hB2 hB2s hb2 HN b0 hb
  go_wp2_with (go_at_call 16; fail)
  refine HC.out.mono ?_
  rintro _ W3 ⟨rfl, hb3⟩
  have HS := Lib.hid (shown_ok W3)
  have H3 := Lib.hid hb3
  clear hb3 c1 c2 c3 HC
  go_wp2_with (go_at_call 17; fail)
  refine HS.out.mono ?_
  rintro _ W4 ⟨rfl, hb4⟩
  have H4 := Lib.hid hb4
  clear hb4 HS
  go_wp2
  go_ret
  exact ⟨rfl, below_step (below_step (below_step HX.out.1 H2.out (Nat.le_refl _)) H3.out (Nat.le_refl _)) H4.out (Nat.le_refl _)⟩

set_option maxRecDepth 100000 in
set_option maxHeartbeats 2000000 in
theorem back_long (w : World) (P many : Nat) (size order keep : Int) (At : Option Addr) (ct : Nat) (T : List Nat) (hTl : 200 < T.length) :
    Calls Try.prog 4 #[.agg #[.int .u8 (P : Int), .int .i64 size, .int .i64 order, .int .i64 keep], .int .u8 (many : Int), .slice At T.length ct] w fun e w' => e = .returned (.bool true) ∧ Below w.heap.size w w' := by
  have t1 : (T.length : Int) > 200 := by omega
  have HS := Lib.hid (fun W : World => shown_ok W)
  go_enter Try.func4, Try.ntmps4
  go_wp2_with (go_at_call 17; fail)
  refine (HS.out _).mono ?_
  rintro _ W4 ⟨rfl, hb4⟩
  have H4 := Lib.hid hb4
  clear hb4
  go_wp2
  go_ret
  exact ⟨rfl, below_step (below_box w _) H4.out (Nat.le_refl _)⟩

theorem back_walk (w : World) (P many : Nat) (hP : P < 256) (hmany : many < 256) (size order keep : Int) (At : Option Addr) (ct : Nat) (T : List Nat) (hT : U8At w At ct T) :
    Calls Try.prog 4 #[.agg #[.int .u8 (P : Int), .int .i64 size, .int .i64 order, .int .i64 keep], .int .u8 (many : Int), .slice At T.length ct] w fun e w' => e = .returned (.bool true) ∧ Below w.heap.size w w' := by
  by_cases h : T.length ≤ 200
  · cases hs : sizesB size order keep with
    | true => exact back_in w P many hP hmany size order keep hs At ct T hT h
    | false => exact back_bad w P many hP size order keep hs At ct T h
  · exact back_long w P many size order keep At ct T (by omega)

section
variable {H : Type} {enc : TypeId × Value → H} {W : World} {v : Value} {d : DataW H} {p : List MemPlace}
open Go.ChangeShapes Go.WideShapes Go.ChangeAt Go.RowKit Go.Deep Go.Joins

set_option maxRecDepth 100000 in
theorem wf_u8 {n : Int} (h : (Lit.int .u8 n).wf = true) : ∃ k : Nat, n = (k : Int) ∧ k < 256 := by
  simp only [Lit.wf, IntKind.min, IntKind.max, IntKind.signed, IntKind.bits, Bool.and_eq_true, decide_eq_true_eq, if_true, Bool.false_eq_true, if_false] at h
  obtain ⟨k, rfl⟩ := Int.eq_ofNat_of_zero_le (show 0 ≤ n by omega)
  exact ⟨k, rfl, by omega⟩
set_option maxRecDepth 100000 in
theorem wf_i64 {n : Int} (h : (Lit.int .i64 n).wf = true) : -9223372036854775808 ≤ n ∧ n < 9223372036854775808 := by
  simp only [Lit.wf, IntKind.min, IntKind.max, IntKind.signed, IntKind.bits, Bool.and_eq_true, decide_eq_true_eq, if_true, Bool.false_eq_true, if_false] at h
  omega

set_option maxRecDepth 100000 in
theorem open_shape {r : Reach} {b0 : Nat} (hv : Value.okWide Try.prog W r b0 42 v) (h : DataW.Trod enc Try.prog W 0 (fun _ => true) true 42 v d p) :
    ∃ (P : Nat) (size order keep : Int), v = .agg #[.int .u8 (P : Int), .int .i64 size, .int .i64 order, .int .i64 keep] ∧ P < 256 := by
  obtain ⟨v0, v1, v2, v3, y0, y1, y2, y3, n, rfl, _, _, t0, t1, t2, t3⟩ := open_agg4 Try.underlying42 (by kernel_rfl) (by kernel_rfl) hv h
  obtain ⟨n0, e0, _, w0⟩ := DataW.trod_int Try.underlying5 t0
  obtain ⟨n1, e1, _, _⟩ := DataW.trod_int Try.underlying3 t1
  obtain ⟨n2, e2, _, _⟩ := DataW.trod_int Try.underlying3 t2
  obtain ⟨n3, e3, _, _⟩ := DataW.trod_int Try.underlying3 t3
  simp only [List.cons.injEq, and_true] at e0 e1 e2 e3
  subst e0 e1 e2 e3
  obtain ⟨k, rfl, hk⟩ := wf_u8 w0
  exact ⟨k, n1, n2, n3, rfl, hk⟩
set_option maxRecDepth 100000 in
theorem open_u8 {r : Reach} {b0 : Nat} (hv : Value.okWide Try.prog W r b0 5 v) (h : DataW.Trod enc Try.prog W 0 (fun _ => true) true 5 v d p) : ∃ k : Nat, v = .int .u8 (k : Int) ∧ k < 256 := by
  obtain ⟨n, rfl, _, _, hw⟩ := open_int Try.underlying5 hv h
  obtain ⟨k, rfl, hk⟩ := wf_u8 hw
  exact ⟨k, rfl, hk⟩
set_option maxRecDepth 100000 in
theorem open_u8s {r : Reach} {b0 : Nat} (hv : Value.okWide Try.prog W r b0 43 v) (h : DataW.Trod enc Try.prog W 0 (fun _ => true) true 43 v d p) :
    ∃ (A : Option Addr) (c : Nat) (T : List Nat), v = .slice A T.length c ∧ U8At W A c T := by
  obtain ⟨A, len, cap, rfl⟩ := okWide_slice Try.underlying43 hv
  obtain ⟨fuel, hf⟩ := h
  rcases open_ints Try.underlying43 Try.underlying5 (by kernel_rfl) hf with ⟨hcs, _⟩ | ⟨a, l, c, zs, hcs, _, hl, hm, hz, _, hc, hwf⟩
  · simp only [Value.cells, List.cons.injEq, Value.slice.injEq, and_true] at hcs
    obtain ⟨rfl, rfl, rfl⟩ := hcs
    exact ⟨none, 0, [], rfl, Nat.le_refl _, Nat.zero_le _, fun j x hx => by simp at hx⟩
  · simp only [Value.cells, List.cons.injEq, Value.slice.injEq, and_true] at hcs
    obtain ⟨rfl, rfl, rfl⟩ := hcs
    have hlm : len ≤ zs.length := by rw [hz]; split <;> omega
    have key : ∀ j : Nat, j < len → ∃ x : Nat, ∃ g o, some a = some ⟨g, o, none⟩ ∧ g < W.heap.size ∧ W.cell? ⟨g, o + j, none⟩ = some (.int .u8 (x : Int)) ∧ x < 256 := by
      intro j hj
      have h1 := hc j (by omega)
      have hmem : zs.getD j 0 ∈ zs := by
        rw [List.getD_eq_getElem?_getD, List.getElem?_eq_getElem (by omega)]
        exact List.getElem_mem _
      obtain ⟨x, hx, hx8⟩ := wf_u8 (hwf _ hmem)
      obtain ⟨g, o, spot⟩ := a
      have h0 := World.cell?_spot (hc 0 (by omega))
      rw [Addr.add, if_pos rfl] at h0
      have h0 : spot = none := h0
      subst h0
      rw [Bu.add_plain] at h1
      rw [hx] at h1
      exact ⟨x, g, o, rfl, World.block_lt_of_cell? _ (a := ⟨g, _, none⟩) h1, h1, hx8⟩
    obtain ⟨l, rfl, hp⟩ := list_of _ len key
    exact ⟨some a, cap, l, rfl, hl, hm, hp⟩
end
end Sl
end Go.Proofs.Ytlknhbcambdccaa
