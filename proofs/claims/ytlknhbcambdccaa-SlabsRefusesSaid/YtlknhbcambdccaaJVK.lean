/- SlabsPlays: the walk. -/
import Derived.Test.YtlknhbcambdccaaK37
import Derived.Test.YtlknhbcambdccaaK26
namespace Go.Proofs.Ytlknhbcambdccaa
open Go.RowKit
namespace Sl
open Bu

theorem Wld.below {w0 : World} {x b r N : Nat} {W W' : World} (h : Wld w0 x b r N W) (hb : Below W.heap.size W W') : Wld w0 x b r N W' := by
  obtain ⟨c, own, own2, C, L, q, A, cG, O, Ao, co, h⟩ := h
  exact ⟨c, own, own2, C, L, q, A, cG, O, Ao, co, h.below hb⟩
theorem Wld.grow {w0 : World} {x b r N : Nat} {W : World} (h : Wld w0 x b r N W) : Below w0.heap.size w0 W := by
  obtain ⟨c, own, own2, C, L, q, A, cG, O, Ao, co, h⟩ := h
  exact h.prog.below
theorem Wld.agrees {w0 : World} {x b r N : Nat} {W : World} (h : Wld w0 x b r N W) : Calls Try.prog 31 #[.pointer (some ⟨x, 0, none⟩)] W fun e W' => e = .returned (.bool true) ∧ Wld w0 x b r N W' := by
  obtain ⟨c, own, own2, C, L, q, A, cG, O, Ao, co, hd⟩ := h
  exact (agrees_ok _ _ _ _ _ _ _ _ _ _ _ _ _ _ _ _ _ W hd.toDuo).mono fun e W' ⟨he, hb⟩ => ⟨he, c, own, own2, C, L, q, A, cG, O, Ao, co, hd.below hb⟩
theorem run_nil_world (w : World) (p : Option Addr) : (binOp .eql 63 (.pointer p) (.pointer none)).run Try.prog w = .ok (.bool p.isNone) w := run_eql_ptr_nil Try.prog w 63 _ p Try.underlying63
theorem run_some_world (w : World) (p : Option Addr) : (binOp .neq 63 (.pointer p) (.pointer none)).run Try.prog w = .ok (.bool p.isSome) w := run_neq_ptr_nil Try.prog w 63 _ p Try.underlying63

/-- An act at a later world. -/
theorem act_any {w w' : World} {A : Option Addr} {c : Nat} {T : List (Nat × Int)} (h : ActAt w A c T) (hb : Below w.heap.size w w') {j : Nat} {x : Nat × Int} (hj : T[j]? = some x) :
    ∃ g o, A = some ⟨g, o, none⟩ ∧ w'.cell? ⟨g, o + j * 2, none⟩ = some (.int .u8 (x.1 : Int)) ∧ w'.cell? ⟨g, o + j * 2 + 1, none⟩ = some (.int .i64 x.2) ∧ x.1 < 256 ∧ -9223372036854775808 ≤ x.2 ∧ x.2 < 9223372036854775808 := by
  obtain ⟨g, o, hA, hg, h1, h2, h3, h4, h5⟩ := h.2.2 j x hj
  exact ⟨g, o, hA, (hb.cell (p := ⟨g, o + j * 2, none⟩) hg).trans h1, (hb.cell (p := ⟨g, o + j * 2 + 1, none⟩) hg).trans h2, h3, h4, h5⟩

set_option maxRecDepth 100000 in
set_option maxHeartbeats 8000000 in
theorem plays_walk (w : World) (P : Nat) (hP : P < 256) (s o kp : Int) (A : Option Addr) (cT : Nat) (T : List (Nat × Int)) (hT : ActAt w A cT T) :
    Calls Try.prog 8 #[.agg #[.int .u8 (P : Int), .int .i64 s, .int .i64 o, .int .i64 kp], .slice A T.length cT] w fun e w' => e = .returned (.bool true) ∧ Below w.heap.size w w' := by
  obtain ⟨n, hn⟩ : ∃ n, n = T.length := ⟨_, rfl⟩
  obtain ⟨W1, hW1⟩ : ∃ W1, W1 = w.alloc (.cells #[.int .u8 (P : Int), .int .i64 s, .int .i64 o, .int .i64 kp] 42) := ⟨_, rfl⟩
  have hb1 : Below w.heap.size w W1 := by rw [hW1]; exact below_box w _
  have hg1 : W1.heap[w.heap.size]? = some (.cells #[.int .u8 (P : Int), .int .i64 s, .int .i64 o, .int .i64 kp] 42 (0, 0)) := by rw [hW1, heapAlloc, if_pos rfl]
  obtain ⟨g0, g1, g2, g3⟩ := four_at hg1
  have hnc := hT.1
  have hcm := hT.2.1
  unfold maxLen at hcm
  rw [← hn] at hnc ⊢
  have HB := Lib.hid (begin_ok W1 P hP s o kp)
  have HX := Lib.hid (And.intro hb1 (And.intro hn hT))
  have HW := Lib.hid hW1
  have HSh := Lib.hid (fun W => shown_ok W)
  clear hb1 hn hT hg1 hW1 hP
  by_cases h100 : 100 < n
  · have d100 : decide (100 < n) = true := decide_eq_true h100
    go_enter Try.func8, Try.ntmps8
    go_upto_region 1 with (fail)
    rw [← HW.out]
    go_wp2_with (go_at_call 17; refine (HSh.out _).mono ?_; rintro _ W9 ⟨rfl, hb9⟩; have H9 := Lib.hid hb9; clear hb9)
    go_ret
    exact ⟨rfl, below_step HX.out.1 H9.out (Nat.le_refl _)⟩
  have d100 : decide (100 < n) = false := decide_eq_false h100
  have hneq := run_some_world
  go_enter Try.func8, Try.ntmps8
  go_upto_region 1 with (fail)
  rw [← HW.out]
  go_wp2_with (go_at_call 25; fail)
  refine HB.out.mono ?_
  intro e W2 hbg
  rcases hbg with ⟨x, b, r, N, rfl, hw2⟩ | ⟨rfl, hb2⟩
  · have H2 := Lib.hid hw2
    clear hw2 g0 g1 g2 g3
    go_wp2_with (fail)
    go_loopw [7] (fun iv wr => ∃ k : Nat, k ≤ n ∧ iv = .int .i64 (k : Int) ∧ Wld W1 x b r N wr) (fun iv _ => n - (intOf iv).toNat)
    case atStart => exact ⟨0, Nat.zero_le _, rfl, H2.out⟩
    case round =>
      obtain ⟨k, hk, rfl, hw⟩ := hrel
      have e0 : (0 : Int) ≤ (k : Int) := by omega
      by_cases hlt : k < n
      · have e1 : (k : Int) < (n : Int) := by omega
        have e2 : decide (k < n) = true := decide_eq_true hlt
        have hkk : IntKind.i64.wrap ((k : Int) + 1) = ((k + 1 : Nat) : Int) := by rw [IntWalk.i64_in _ (by omega)]; rfl
        obtain ⟨⟨a1, a2⟩, hx⟩ : ∃ x, T[k]? = some x := ⟨_, List.getElem?_eq_getElem (by have := HX.out.2.1; omega)⟩
        obtain ⟨g, oo, rfl, t0, t1, h256, hl1, hl2⟩ := act_any HX.out.2.2 (HX.out.1.trans (hw.grow.mono HX.out.1.size)) hx
        dsimp only at t0 t1 h256 hl1 hl2
        have HD := Lib.hid (does_ok W1 x b r N a1 h256 a2 hl1 hl2 wr hw)
        clear hx hw h256 hl1 hl2
        go_wp2_with (go_at_call 26; fail)
        refine HD.out.mono ?_
        rintro _ W4 ⟨rfl, hw4⟩
        have H4 := Lib.hid hw4
        clear hw4 t0 t1
        go_wp2_with (go_at_call 31; fail)
        refine H4.out.agrees.mono ?_
        rintro _ W5 ⟨rfl, hw5⟩
        have H5 := Lib.hid hw5
        clear hw5
        go_wp2_with (fail)
        go_roundw
        case rel => exact ⟨k + 1, by omega, by go_num, H5.out⟩
        case measure => simp [intOf]; omega
      · obtain rfl : k = n := by omega
        have e1 : ¬ ((k : Nat) : Int) < (k : Int) := by omega
        have H5 := Lib.hid hw
        clear hw
        go_wp2_with (go_at_call 17; refine (HSh.out _).mono ?_; rintro _ W9 ⟨rfl, hb9⟩; have H9 := Lib.hid hb9; clear hb9)
        go_ret
        exact ⟨rfl, below_step (HX.out.1.trans (H5.out.grow.mono HX.out.1.size)) H9.out (Nat.le_refl _)⟩
  · have H2 := Lib.hid hb2
    clear hb2 g0 g1 g2 g3
    go_wp2_with (fail)
    go_loop [7] (fun iv => iv = .int .i64 0) (fun _ => 0)
    case atStart => rfl
    case round =>
      obtain rfl := hrel
      by_cases hlt : 0 < n
      · have e2 : decide (0 < n) = true := decide_eq_true hlt
        have e3 : decide ((0 : Int) < (n : Int)) = true := decide_eq_true (by omega)
        go_wp2_with (go_at_call 17; refine (HSh.out _).mono ?_; rintro _ W9 ⟨rfl, hb9⟩; have H9 := Lib.hid hb9; clear hb9)
        go_ret
        exact ⟨rfl, below_step (below_step HX.out.1 H2.out (Nat.le_refl _)) H9.out (Nat.le_refl _)⟩
      · have e2 : decide (0 < n) = false := decide_eq_false hlt
        have e3 : decide ((0 : Int) < (n : Int)) = false := decide_eq_false (by omega)
        go_wp2_with (go_at_call 17; refine (HSh.out _).mono ?_; rintro _ W9 ⟨rfl, hb9⟩; have H9 := Lib.hid hb9; clear hb9)
        go_ret
        exact ⟨rfl, below_step (below_step HX.out.1 H2.out (Nat.le_refl _)) H9.out (Nat.le_refl _)⟩
section
variable {H : Type} {enc : TypeId × Value → H} {W : World} {v : Value} {d : DataW H} {p : List MemPlace}
open Go.ChangeShapes Go.WideShapes Go.ChangeAt Go.RowKit Go.Deep Go.Joins
set_option maxRecDepth 100000 in
theorem open_shape {r : Reach} {b0 : Nat} (hv : Value.okWide Try.prog W r b0 42 v) (h : DataW.Trod enc Try.prog W 0 (fun _ => true) true 42 v d p) :
    ∃ (P : Nat) (size order keep : Int), v = .agg #[.int .u8 (P : Int), .int .i64 size, .int .i64 order, .int .i64 keep] ∧ P < 256 := by
  obtain ⟨v0, v1, v2, v3, y0, y1, y2, y3, n, rfl, _, _, t0, t1, t2, t3⟩ := open_agg4 Try.underlying42 (by kernel_rfl) (by kernel_rfl) hv h
  obtain ⟨n0, e0, _, w0⟩ := DataW.trod_int Try.underlying5 t0
  obtain ⟨n1, e1, _, _⟩ := DataW.trod_int Try.underlying3 t1
  obtain ⟨n2, e2, _, _⟩ := DataW.trod_int Try.underlying3 t2
  obtain ⟨n3, e3, _, _⟩ := DataW.trod_int Try.underlying3 t3
  simp only [List.cons.injEq, and_true] at e0 e1 e2 e3
  subst e0 e1 e2 e3
  obtain ⟨k, rfl, hk⟩ := wf_u8 w0
  exact ⟨k, n1, n2, n3, rfl, hk⟩
end
end Sl
end Go.Proofs.Ytlknhbcambdccaa
