/- PolicyTwice: the walk. -/
import Derived.Test.YtnkkhbmbbkmfhaaJS3
import Derived.Test.YtnkkhbmbbkmfhaaK2
namespace Go.Proofs.Ytnkkhbmbbkmfhaa
open Go.RowKit Go.Sort Go.Lib
namespace Py

theorem SC.below {W w1 w2 : World} {n b : Nat} {h w : Int} (s : Below n W w1 ∧ w1.cell? ⟨b, 0, none⟩ = some (.int .i64 h) ∧ w1.cell? ⟨b, 1, none⟩ = some (.int .i64 w)) (hb : Below w1.heap.size w1 w2) (hn : n ≤ W.heap.size := by exact Nat.le_refl _) : Below n W w2 ∧ w2.cell? ⟨b, 0, none⟩ = some (.int .i64 h) ∧ w2.cell? ⟨b, 1, none⟩ = some (.int .i64 w) :=
  ⟨s.1.trans (hb.mono (Nat.le_trans hn s.1.size)), cell_keep2 hb s.2.1, cell_keep2 hb s.2.2⟩
set_option maxRecDepth 100000 in
set_option maxHeartbeats 8000000 in
theorem twice_walk (W : World) (A : Option Addr) (c : Nat) (L : List PU) (hL : UAt W A c L) (h w : Int) : Calls Try.prog 4 #[.slice A L.length c, cbx h w] W fun e w' => e = .returned (.bool true) ∧ Below W.heap.size W w' := by
  have hb2 := below_box W (.cells #[.int .i64 h, .int .i64 w] 24)
  have k1 : (W.alloc (.cells #[.int .i64 h, .int .i64 w] 24)).heap[W.heap.size]? = some (.cells #[.int .i64 h, .int .i64 w] 24 (0, 0)) := by rw [heapAlloc, if_pos rfl]
  have hA := fun V (hV : Below W.heap.size W V) => (Least_ok A c L h w V (hL.below hV (Nat.le_refl _))).mono fun e w' h => keep_any h
  have hC := fun q V (hV : Below W.heap.size W V) => Cost_ok A c L h w 3 q 0 V (hL.below hV (Nat.le_refl _))
  have hcm := hL.2.1
  unfold maxLen at hcm
  have hlc := hL.1
  have HX := Lib.hid (And.intro hb2 k1)
  have HFA := Lib.hid (fun V => far_ok V A c L.length 210)
  by_cases hask : askV L h w = 0
  · obtain ⟨hokL, hokC⟩ := ask_ok.1 hask
    rw [hask] at hA hC
    have hn1 : numX 0 (leastV L h w) = leastV L h w := if_pos rfl
    rw [hn1] at hA
    have hnn := least_nn hokL hokC
    have hcx : ∀ q, 0 ≤ q → q ≤ 1000000000 → costX L h w 3 q 0 0 = (agedV L h w q, 0) := fun q q0 q1 => by
      unfold costX
      rw [if_neg (by omega), if_pos (by unfold polB; simp; omega)]
      rfl
    have hle := fun q (q0 : (0 : Int) ≤ q) => least_le_aged hokL hokC q0
    have htw : 1 ≤ h → agedV L h w (min (w / h) 1000000000) - leastV L h w ≤ leastV L h w := fun h1 => twice hokL hokC h1 rfl
    have h0 := hokC.h0; have w0 := hokC.w0; have h9 := hokC.h1; have w9 := hokC.w1
    have hbd := fun q (q0 : (0 : Int) ≤ q) => aged_nn hokL hokC q0
    generalize leastV L h w = lv at *
    generalize keepX 0 (leastL h w (gapsV L) (gapsV L).length) = K at *
    have HA := Lib.hid hA
    have HC := Lib.hid (And.intro hC (And.intro hcx (And.intro hle (And.intro htw hbd))))
    clear hb2 k1 hA hC hL hask hokL hokC hn1 hcx hle htw hbd
    generalize hLn : L.length = n at *
    have HLn := Lib.hid hLn
    clear hLn
    go_enter Try.func4, Try.ntmps4
    go_upto_region 1 with (fail)
    generalize hV : W.alloc (.cells #[.int .i64 h, .int .i64 w] 24) = V at *
    have c0 : V.cell? ⟨W.heap.size, 0, none⟩ = some (.int .i64 h) := by rw [cell_of_row _ _ _ _ _ _ HX.out.2]; rfl
    have c1 : V.cell? ⟨W.heap.size, 1, none⟩ = some (.int .i64 w) := by rw [cell_of_row _ _ _ _ _ _ HX.out.2]; rfl
    clear hV
    have H1 := Lib.hid HX.out.1
    cases hf : farB n 210 with
    | true =>
      rw [hf] at HFA
      clear hf
      go_wp2_with (first | (go_at_call 11; refine (HFA.out _).mono ?_; rintro e w1 ⟨rfl, hw⟩; have hw := hw.symm; subst hw) | (go_at_call 12; refine (awake_ok _).mono ?_; rintro e w2 ⟨rfl, hb⟩; have HZ := Lib.hid hb; clear hb))
      go_ret
      exact ⟨rfl, H1.out.trans (HZ.out.mono H1.out.size)⟩
    | false =>
      rw [hf] at HFA
      clear hf
      go_upto_region 3 with (go_at_call 11; refine (HFA.out _).mono ?_; rintro e w1 ⟨rfl, hw⟩; have hw := hw.symm; subst hw)
      go_upto_region 4 with (go_at_call 15; refine (HA.out _ H1.out).mono ?_; rintro e w2 ⟨A2, d2, rfl, -, hb2⟩)
      replace c0 := cell_keep2 hb2 c0
      replace c1 := cell_keep2 hb2 c1
      have H2 := Lib.hid (H1.out.trans (hb2.mono H1.out.size))
      clear hb2
      by_cases h1 : h < 1
      · go_wp2_with (go_at_call 12; refine (awake_ok _).mono ?_; rintro e w3 ⟨rfl, hb⟩; have HZ := Lib.hid hb; clear hb)
        go_ret
        exact ⟨rfl, H2.out.trans (HZ.out.mono H2.out.size)⟩
      · have h1' : decide (h < 1) = false := decide_eq_false h1
        have hz : (h == 0) = false := by simp; omega
        have hz2 : h ≠ 0 := by omega
        have hq0 : 0 ≤ w / h := Int.ediv_nonneg w0 h0
        have hqw : w / h ≤ w := Int.ediv_le_self _ w0
        have htd : w.tdiv h = w / h := Int.tdiv_eq_ediv_of_nonneg w0
        have htw := HC.out.2.2.2.1 (by omega)
        generalize w / h = q at *
        have hle := HC.out.2.2.1 (min q 1000000000) (by omega)
        have hbd := HC.out.2.2.2.2 (min q 1000000000) (by omega)
        have hco := fun V hV => HC.out.1 (min q 1000000000) V hV
        rw [HC.out.2.1 (min q 1000000000) (by omega) (by omega)] at hco
        dsimp only at hco
        generalize agedV L h w (min q 1000000000) = ag at *
        have HCO := Lib.hid hco
        have h6 : ag ≥ lv := hle
        have h7 : ag - lv ≤ lv := htw
        have hw1 : wrap64 (w.tdiv h) = q := by rw [htd]; exact IntWalk.wrap64_in _ (by omega)
        have hw3 : IntKind.i64.wrap (w.tdiv h) = q := by rw [htd]; exact IntWalk.i64_in _ (by omega)
        have hw2 : wrap64 q = q := IntWalk.wrap64_in _ (by omega)
        obtain ⟨ga, hga⟩ : ∃ ga, ga = min q 1000000000 := ⟨_, rfl⟩
        rw [← hga] at HCO
        have hmin : min q 1000000000 = ga := hga.symm
        obtain ⟨ag0, ag1⟩ := hbd
        clear htd hga hq0 hqw htw hle
        have h5 : lv ≥ 0 := hnn
        have h8 : IntKind.i64.wrap (ag - lv) = ag - lv := IntWalk.i64_in _ (by omega)
        clear hco
        go_upto_region 6 with (fail)
        have s0 : Below W.heap.size W w2.drew ∧ w2.drew.cell? ⟨W.heap.size, 0, none⟩ = some (.int .i64 h) ∧ w2.drew.cell? ⟨W.heap.size, 1, none⟩ = some (.int .i64 w) := ⟨below_drew H2.out, c0, c1⟩
        go_region_held3 (fun w' => Below W.heap.size W w' ∧ w'.cell? ⟨W.heap.size, 0, none⟩ = some (.int .i64 h) ∧ w'.cell? ⟨W.heap.size, 1, none⟩ = some (.int .i64 w))
          (first | assumption | exact SC.below (by assumption) hb3)
          (first | (go_at_call 13; with_reducible refine (HCO.out _ (And.left (by assumption))).mono ?_; rintro e w3 ⟨rfl, hb3⟩))
        all_goals
          have H3 := Lib.hid (H2.out.trans ((show Below w2.heap.size w2 w3 from ⟨hb3.os, hb3.tape, hb3.output, hb3.size, hb3.block⟩).mono H2.out.size))
          clear hb3
          go_wp2_with (go_at_call 12; refine (awake_ok _).mono ?_; rintro e w4 ⟨rfl, hb⟩; have HZ := Lib.hid (H3.out.trans (hb.mono H3.out.size)); clear hb)
          go_ret
          exact ⟨rfl, HZ.out⟩
  · have hnz := hask
    generalize hy : askV L h w = y at *
    have hne : (y != 0) = true := by simp [hnz]
    generalize keepX y (leastL h w (gapsV L) (gapsV L).length) = K at *
    generalize numX y (leastV L h w) = lv at *
    have HA := Lib.hid hA
    clear hb2 k1 hA hC hL hask hnz hy
    generalize L.length = n at *
    go_enter Try.func4, Try.ntmps4
    go_upto_region 1 with (fail)
    generalize hV : W.alloc (.cells #[.int .i64 h, .int .i64 w] 24) = V at *
    have c0 : V.cell? ⟨W.heap.size, 0, none⟩ = some (.int .i64 h) := by rw [cell_of_row _ _ _ _ _ _ HX.out.2]; rfl
    have c1 : V.cell? ⟨W.heap.size, 1, none⟩ = some (.int .i64 w) := by rw [cell_of_row _ _ _ _ _ _ HX.out.2]; rfl
    clear hV
    have H1 := Lib.hid HX.out.1
    cases hf : farB n 210 with
    | true =>
      rw [hf] at HFA
      clear hf
      go_wp2_with (first | (go_at_call 11; refine (HFA.out _).mono ?_; rintro e w1 ⟨rfl, hw⟩; have hw := hw.symm; subst hw) | (go_at_call 12; refine (awake_ok _).mono ?_; rintro e w2 ⟨rfl, hb⟩; have HZ := Lib.hid hb; clear hb))
      go_ret
      exact ⟨rfl, H1.out.trans (HZ.out.mono H1.out.size)⟩
    | false =>
      rw [hf] at HFA
      clear hf
      go_wp2_with (first | (go_at_call 11; refine (HFA.out _).mono ?_; rintro e w1 ⟨rfl, hw⟩; have hw := hw.symm; subst hw) | (go_at_call 15; refine (HA.out _ H1.out).mono ?_; rintro e w2 ⟨A2, d2, rfl, -, hb2⟩; have H2 := Lib.hid (H1.out.trans (hb2.mono H1.out.size)); clear hb2))
      go_wp2_with (go_at_call 12; refine (awake_ok _).mono ?_; rintro e w3 ⟨rfl, hb⟩; have HZ := Lib.hid (H2.out.trans (hb.mono H2.out.size)); clear hb)
      go_ret
      exact ⟨rfl, HZ.out⟩
end Py
end Go.Proofs.Ytnkkhbmbbkmfhaa
