/- The program: Worst. -/
import Derived.Test.YtnkkhbmbbkmfhaaJA9
import Derived.Test.YtnkkhbmbbkmfhaaJR10
namespace Go.Proofs.Ytnkkhbmbbkmfhaa
open Go.RowKit Go.Sort Go.Lib
namespace Py

theorem out_iff (x m : Int) : outV x m = true ↔ x < 0 ∨ m < x := by
  rw [out_in]; unfold inR; simp <;> omega
set_option maxRecDepth 100000 in
set_option maxHeartbeats 4000000 in
theorem Worst_ok (h w age n : Int) (W : World) :
    Calls Try.prog 25 #[cbx h w, .int .i64 age, .int .i64 n] W (UsesOut W (worstE h w age n) (worstL age n.toNat)) := by
  have hb := below_box W (.cells #[.int .i64 h, .int .i64 w] 24)
  have hnb : (W.alloc (.cells #[.int .i64 h, .int .i64 w] 24)).heap[W.heap.size]? = some (.cells #[.int .i64 h, .int .i64 w] 24 (0, 0)) := by rw [heapAlloc, if_pos rfl]
  have HX := Lib.hid (And.intro hb hnb)
  clear hb hnb
  have hbad : (costV h w ≠ 0 ∨ age < 0 ∨ 1000000000 < age ∨ n < 1 ∨ 200 < n) → worstE h w age n = 7 := fun e => by unfold worstE; rw [if_pos e]
  have hco := cost_out h w
  have h3 := out_iff age 1000000000
  have H1 := Lib.hid (fun V => outside_ok h 1000 V)
  have H2 := Lib.hid (fun V => outside_ok w 1000000000 V)
  have H3 := Lib.hid (fun V => outside_ok age 1000000000 V)
  generalize outV h 1000 = b1 at *
  generalize outV w 1000000000 = b2 at *
  generalize outV age 1000000000 = b3 at *
  cases b1 with
  | true =>
    have hE := hbad (.inl (by rw [hco]; simp))
    rw [hE]
    clear hbad hE hco h3
    unfold UsesOut
    go_enter Try.func25, Try.ntmps25
    go_upto_region 1 with (fail)
    generalize W.alloc (.cells #[.int .i64 h, .int .i64 w] 24) = V at *
    have x0 : V.cell? ⟨W.heap.size, 0, none⟩ = some (.int .i64 h) := by rw [cell_of_row _ _ _ _ _ _ HX.out.2]; rfl
    have x1 : V.cell? ⟨W.heap.size, 1, none⟩ = some (.int .i64 w) := by rw [cell_of_row _ _ _ _ _ _ HX.out.2]; rfl
    go_wp2_with (first
      | (go_at_call 38; with_reducible refine (H1.out _).mono ?_; rintro e w1 ⟨rfl, rfl⟩)
      | (go_at_call 38; with_reducible refine (H2.out _).mono ?_; rintro e w1 ⟨rfl, rfl⟩)
      | (go_at_call 38; with_reducible refine (H3.out _).mono ?_; rintro e w1 ⟨rfl, rfl⟩))
    go_ret2
    exact ⟨fun _ => rfl, fun e => absurd e (by decide), HX.out.1⟩
  | false =>
    cases b2 with
    | true =>
      have hE := hbad (.inl (by rw [hco]; simp))
      rw [hE]
      clear hbad hE hco h3
      unfold UsesOut
      go_enter Try.func25, Try.ntmps25
      go_upto_region 1 with (fail)
      generalize W.alloc (.cells #[.int .i64 h, .int .i64 w] 24) = V at *
      have x0 : V.cell? ⟨W.heap.size, 0, none⟩ = some (.int .i64 h) := by rw [cell_of_row _ _ _ _ _ _ HX.out.2]; rfl
      have x1 : V.cell? ⟨W.heap.size, 1, none⟩ = some (.int .i64 w) := by rw [cell_of_row _ _ _ _ _ _ HX.out.2]; rfl
      go_wp2_with (first
        | (go_at_call 38; with_reducible refine (H1.out _).mono ?_; rintro e w1 ⟨rfl, rfl⟩)
        | (go_at_call 38; with_reducible refine (H2.out _).mono ?_; rintro e w1 ⟨rfl, rfl⟩)
        | (go_at_call 38; with_reducible refine (H3.out _).mono ?_; rintro e w1 ⟨rfl, rfl⟩))
      go_ret2
      exact ⟨fun _ => rfl, fun e => absurd e (by decide), HX.out.1⟩
    | false =>
      have hc0 : costV h w = 0 := by rw [hco]; rfl
      cases b3 with
      | true =>
        have hE := hbad (by have := h3.1 rfl; omega)
        rw [hE]
        clear hbad hE hco h3 hc0
        unfold UsesOut
        go_enter Try.func25, Try.ntmps25
        go_upto_region 1 with (fail)
        generalize W.alloc (.cells #[.int .i64 h, .int .i64 w] 24) = V at *
        have x0 : V.cell? ⟨W.heap.size, 0, none⟩ = some (.int .i64 h) := by rw [cell_of_row _ _ _ _ _ _ HX.out.2]; rfl
        have x1 : V.cell? ⟨W.heap.size, 1, none⟩ = some (.int .i64 w) := by rw [cell_of_row _ _ _ _ _ _ HX.out.2]; rfl
        go_wp2_with (first
          | (go_at_call 38; with_reducible refine (H1.out _).mono ?_; rintro e w1 ⟨rfl, rfl⟩)
          | (go_at_call 38; with_reducible refine (H2.out _).mono ?_; rintro e w1 ⟨rfl, rfl⟩)
          | (go_at_call 38; with_reducible refine (H3.out _).mono ?_; rintro e w1 ⟨rfl, rfl⟩))
        go_ret2
        exact ⟨fun _ => rfl, fun e => absurd e (by decide), HX.out.1⟩
      | false =>
        have hab : 0 ≤ age ∧ age ≤ 1000000000 := by
          have : ¬ (age < 0 ∨ 1000000000 < age) := fun e => by have := h3.2 e; cases this
          omega
        by_cases hn0 : n < 1
        · have hE := hbad (by omega)
          rw [hE]
          clear hbad hE hco h3 hc0
          unfold UsesOut
          go_enter Try.func25, Try.ntmps25
          go_upto_region 1 with (fail)
          generalize W.alloc (.cells #[.int .i64 h, .int .i64 w] 24) = V at *
          have x0 : V.cell? ⟨W.heap.size, 0, none⟩ = some (.int .i64 h) := by rw [cell_of_row _ _ _ _ _ _ HX.out.2]; rfl
          have x1 : V.cell? ⟨W.heap.size, 1, none⟩ = some (.int .i64 w) := by rw [cell_of_row _ _ _ _ _ _ HX.out.2]; rfl
          go_wp2_with (first
            | (go_at_call 38; with_reducible refine (H1.out _).mono ?_; rintro e w1 ⟨rfl, rfl⟩)
            | (go_at_call 38; with_reducible refine (H2.out _).mono ?_; rintro e w1 ⟨rfl, rfl⟩)
            | (go_at_call 38; with_reducible refine (H3.out _).mono ?_; rintro e w1 ⟨rfl, rfl⟩))
          go_ret2
          exact ⟨fun _ => rfl, fun e => absurd e (by decide), HX.out.1⟩
        by_cases hn1 : 200 < n
        · have hn2 : n > 200 := hn1
          have hE := hbad (by omega)
          rw [hE]
          clear hbad hE hco h3 hc0
          unfold UsesOut
          go_enter Try.func25, Try.ntmps25
          go_upto_region 1 with (fail)
          generalize W.alloc (.cells #[.int .i64 h, .int .i64 w] 24) = V at *
          have x0 : V.cell? ⟨W.heap.size, 0, none⟩ = some (.int .i64 h) := by rw [cell_of_row _ _ _ _ _ _ HX.out.2]; rfl
          have x1 : V.cell? ⟨W.heap.size, 1, none⟩ = some (.int .i64 w) := by rw [cell_of_row _ _ _ _ _ _ HX.out.2]; rfl
          go_wp2_with (first
            | (go_at_call 38; with_reducible refine (H1.out _).mono ?_; rintro e w1 ⟨rfl, rfl⟩)
            | (go_at_call 38; with_reducible refine (H2.out _).mono ?_; rintro e w1 ⟨rfl, rfl⟩)
            | (go_at_call 38; with_reducible refine (H3.out _).mono ?_; rintro e w1 ⟨rfl, rfl⟩))
          go_ret2
          exact ⟨fun _ => rfl, fun e => absurd e (by decide), HX.out.1⟩
        obtain ⟨m, rfl⟩ : ∃ m : Nat, n = ((m + 1 : Nat) : Int) := ⟨(n - 1).toNat, by omega⟩
        have hm : m + 1 ≤ 200 := by omega
        have hE : worstE h w age ((m + 1 : Nat) : Int) = if 1000000000 < 1 + (m : Int) * (age + 2) then 2 else 0 := by
          unfold worstE
          rw [if_neg (by omega)]
          have e : (((m + 1 : Nat) : Int) - 1) = (m : Int) := by omega
          rw [e]
        rw [hE, Int.toNat_natCast]
        have hmb := worst_bd hab.1 hab.2 (Nat.le_refl m) (by omega)
        obtain ⟨y, hy⟩ : ∃ y, y = (m : Int) * (age + 2) := ⟨_, rfl⟩
        rw [← hy] at hmb ⊢
        have qy : (m : Int) * (age + 2) = y := hy.symm
        have qm : ((m + 1 : Nat) : Int) - 1 = (m : Int) := by omega
        obtain ⟨a0, a1⟩ := hab
        obtain ⟨y0, _, y1⟩ := hmb
        have HY := Lib.hid hy
        clear hbad hE hy hn0 hn1 hco h3 hc0
        by_cases hy2 : 1000000000 < 1 + y
        · have hy3 : 1 + y > 1000000000 := hy2
          rw [if_pos hy2]
          unfold UsesOut
          go_enter Try.func25, Try.ntmps25
          go_upto_region 1 with (fail)
          generalize W.alloc (.cells #[.int .i64 h, .int .i64 w] 24) = V at *
          have x0 : V.cell? ⟨W.heap.size, 0, none⟩ = some (.int .i64 h) := by rw [cell_of_row _ _ _ _ _ _ HX.out.2]; rfl
          have x1 : V.cell? ⟨W.heap.size, 1, none⟩ = some (.int .i64 w) := by rw [cell_of_row _ _ _ _ _ _ HX.out.2]; rfl
          go_wp2_with (first
            | (go_at_call 38; with_reducible refine (H1.out _).mono ?_; rintro e w1 ⟨rfl, rfl⟩)
            | (go_at_call 38; with_reducible refine (H2.out _).mono ?_; rintro e w1 ⟨rfl, rfl⟩)
            | (go_at_call 38; with_reducible refine (H3.out _).mono ?_; rintro e w1 ⟨rfl, rfl⟩))
          go_ret2
          exact ⟨fun _ => rfl, fun e => absurd e (by decide), HX.out.1⟩
        · have hy3 : ¬ 1 + y > 1000000000 := hy2
          rw [if_neg hy2]
          go_enter Try.func25, Try.ntmps25
          go_upto_region 1 with (fail)
          generalize W.alloc (.cells #[.int .i64 h, .int .i64 w] 24) = V at *
          have x0 : V.cell? ⟨W.heap.size, 0, none⟩ = some (.int .i64 h) := by rw [cell_of_row _ _ _ _ _ _ HX.out.2]; rfl
          have x1 : V.cell? ⟨W.heap.size, 1, none⟩ = some (.int .i64 w) := by rw [cell_of_row _ _ _ _ _ _ HX.out.2]; rfl
          go_upto_region 6 with (first
            | (go_at_call 38; with_reducible refine (H1.out _).mono ?_; rintro e w1 ⟨rfl, rfl⟩)
            | (go_at_call 38; with_reducible refine (H2.out _).mono ?_; rintro e w1 ⟨rfl, rfl⟩)
            | (go_at_call 38; with_reducible refine (H3.out _).mono ?_; rintro e w1 ⟨rfl, rfl⟩))
          clear qy qm x0 x1
          have H0 := Lib.hid (owne_nil (enc := eu) (k := 3) w1 w1.heap.size 86)
          go_wp2_with (fail)
          go_loopw [8, 40] (fun v i wr => ∃ (k : Nat) (B : Option Addr) (d : Nat) (M : List PU), k ≤ m + 1 ∧ i = .int .i64 k ∧ v = .slice B M.length d ∧ M = worstL age k ∧ OwnE eu 3 wr w1.heap.size 86 B d M ∧ Below w1.heap.size w1 wr) (fun _ i _ => m + 1 - (intOf i).toNat)
          case atStart => exact ⟨0, none, 0, [], Nat.zero_le _, rfl, rfl, rfl, H0.out, Below.refl _ _⟩
          case round =>
            obtain ⟨k, B, d, M, hk, rfl, rfl, hM, hrow, hbw⟩ := hrel
            have hMl : M.length = k := by rw [hM, worstL_len]
            by_cases hlt : k < m + 1
            · have hkb := worst_bd a0 a1 (show k ≤ m by omega) (by omega)
              rw [← HY.out] at hkb
              have hnx := worstL_succ age k
              obtain ⟨x, hx⟩ : ∃ x, x = (k : Int) * (age + 2) := ⟨_, rfl⟩
              have hu : worstU age k = ⟨0, x, x + 1⟩ := by rw [hx]; rfl
              rw [← hx] at hkb
              obtain ⟨x0, x1, _⟩ := hkb
              have qx : (k : Int) * (age + 2) = x := hx.symm
              have HR := Lib.hid (And.intro hM (And.intro hrow (And.intro hbw (And.intro hnx (And.intro hu hMl)))))
              have hsz := hbw.size
              have hM2 : M.length ≤ 200 := by omega
              clear hx hM hrow hbw hnx hu hMl
              go_wp2_with (at_builtin; refine wpList_e EU Try.underlying22 use_info (by decide) ?_ (.tmp 43) (.tmp 54) ?_ w1.heap.size B d M ?_ (HR.out.2.1.alloc _) (some ⟨wr.heap.size, 0, none⟩) 1 [⟨0, x, x + 1⟩] ?_ (oneU _ _ _) (fun h => by cases h) ?_ ?_ ?_; (exact rfl); (exact rfl); (exact rfl); (exact rfl); (simp; omega); (simp; omega); intro A8 c8 w8 h8 b8 _ _; obtain ⟨U, hU⟩ : ∃ U, U = M ++ [⟨0, x, x + 1⟩] := ⟨_, rfl⟩; rw [← hU] at h8 ⊢; have H8 := Lib.hid (And.intro h8 (And.intro b8 hU)); clear h8 b8 hU)
              go_roundw
              case rel => exact ⟨k + 1, A8, c8, U, by omega, by go_num, rfl, by rw [H8.out.2.2, HR.out.2.2.2.1, HR.out.2.2.2.2.1, HR.out.1], H8.out.1, (HR.out.2.2.1.alloc hsz _).trans H8.out.2.1⟩
              case measure => simp [intOf]; omega
            · obtain rfl : k = m + 1 := by omega
              have HR := Lib.hid (And.intro hM (And.intro (OwnE.at EU hrow).1 hbw))
              clear hM hrow hbw hMl
              go_wp2
              go_ret2
              rw [← HR.out.1]
              exact ⟨fun e => absurd rfl e, fun _ => ⟨B, d, rfl, HR.out.2.1⟩, HX.out.1.trans (HR.out.2.2.mono HX.out.1.size)⟩
end Py
end Go.Proofs.Ytnkkhbmbbkmfhaa
