/- PolicyTuned: the walk. -/
import Derived.Test.YtnkkhbmbbkmfhaaJS5
namespace Go.Proofs.Ytnkkhbmbbkmfhaa
open Go.RowKit Go.Sort Go.Lib
namespace Py

set_option maxRecDepth 100000 in
set_option maxHeartbeats 8000000 in
theorem tuned_walk (W : World) (A : Option Addr) (c : Nat) (L : List PU) (hL : UAt W A c L) (h w age : Int) : Calls Try.prog 5 #[.slice A L.length c, cbx h w, .int .i64 age] W fun e w' => e = .returned (.bool true) ∧ Below W.heap.size W w' := by
  have hb2 := below_box W (.cells #[.int .i64 h, .int .i64 w] 24)
  have k1 : (W.alloc (.cells #[.int .i64 h, .int .i64 w] 24)).heap[W.heap.size]? = some (.cells #[.int .i64 h, .int .i64 w] 24 (0, 0)) := by rw [heapAlloc, if_pos rfl]
  have hA := fun V (hV : Below W.heap.size W V) => Tune_ok A c L h w V (hL.below hV (Nat.le_refl _))
  have hC := fun q V (hV : Below W.heap.size W V) => Cost_ok A c L h w 3 q 0 V (hL.below hV (Nat.le_refl _))
  have hD := fun V (hV : Below W.heap.size W V) => (checkR_ok A c L V (hL.below hV (Nat.le_refl _))).mono fun e w' h => checkR_any h
  have hcc := fun V => costR_ok h w V
  have hcm := hL.2.1
  unfold maxLen at hcm
  have hlc := hL.1
  have HX := Lib.hid (And.intro hb2 k1)
  have HFA := Lib.hid (fun V => far_ok V A c L.length 210)
  have HD := Lib.hid hD
  have HCC := Lib.hid hcc
  have hgood : checkV L = 0 → costV h w = 0 → 0 ≤ age → age ≤ 1000000000 →
      (∀ V, Below W.heap.size W V → Calls Try.prog 18 #[.slice A L.length c, cbx h w] V fun e w' => e = .returned (.tuple #[.int .i64 (tuneV L h w).1, .int .i64 (tuneV L h w).2, .int .i64 0]) ∧ Below V.heap.size V w') ∧
      (∀ q, 0 ≤ q → q ≤ 1000000000 → ∀ V, Below W.heap.size W V → Calls Try.prog 13 #[.slice A L.length c, cbx h w, pb 3 q 0] V fun e w' => e = .returned (.tuple #[.int .i64 (agedV L h w q), .int .i64 0]) ∧ Below V.heap.size V w') ∧
      (0 ≤ (tuneV L h w).1 ∧ (tuneV L h w).1 ≤ 1000000000) ∧ ((tuneV L h w).2 = agedV L h w (tuneV L h w).1 ∧ (tuneV L h w).2 ≤ agedV L h w age ∧ (age < (tuneV L h w).1 → (tuneV L h w).2 < agedV L h w age)) := fun g1 g2 g3 g4 => by
    have hask : askV L h w = 0 := by unfold askV; rw [if_pos g1]; exact g2
    obtain ⟨hokL, hokC⟩ := ask_ok.1 hask
    refine ⟨fun V hV => (hA V hV).mono fun e w' h => ⟨h.2.1 hask, h.2.2⟩, fun q q0 q1 V hV => ?_, tune_bd hokL h w, tuned L hokC g3⟩
    have := hC q V hV
    rw [hask] at this
    have hcx : costX L h w 3 q 0 0 = (agedV L h w q, 0) := by
      unfold costX
      rw [if_neg (by omega), if_pos (by unfold polB; simp; omega)]
      rfl
    rw [hcx] at this
    exact this
  have HG := Lib.hid hgood
  clear hb2 k1 hA hC hL hD hcc hgood
  generalize L.length = n at *
  generalize checkV L = z at *
  generalize costV h w = z2 at *
  go_enter Try.func5, Try.ntmps5
  go_upto_region 1 with (fail)
  generalize hV : W.alloc (.cells #[.int .i64 h, .int .i64 w] 24) = V at *
  have c0 : V.cell? ⟨W.heap.size, 0, none⟩ = some (.int .i64 h) := by rw [cell_of_row _ _ _ _ _ _ HX.out.2]; rfl
  have c1 : V.cell? ⟨W.heap.size, 1, none⟩ = some (.int .i64 w) := by rw [cell_of_row _ _ _ _ _ _ HX.out.2]; rfl
  clear hV
  have H1 := Lib.hid HX.out.1
  obtain ⟨bv, hbv⟩ : ∃ bv : Bool, bv = (farB n 210 || (z != 0) || (z2 != 0) || decide (age < 0) || decide (1000000000 < age)) := ⟨_, rfl⟩
  have HBV := Lib.hid hbv
  go_cut [33] from 14 to 32 (fun b wx => b = .bool bv ∧ Below V.heap.size V wx)
  case first =>
    cases hf : farB n 210 with
    | true =>
      rw [hf] at HFA hbv
      clear hf
      go_wp2_with (go_at_call 11; refine (HFA.out _).mono ?_; rintro e w1 ⟨rfl, hw⟩; have hw := hw.symm; subst hw)
      go_meet
      exact ⟨by rw [hbv]; rfl, Below.refl _ _⟩
    | false =>
      rw [hf] at HFA hbv
      clear hf
      cases hz : (z != 0) with
      | true =>
        rw [hz] at hbv
        go_wp2_with (first | (go_at_call 11; refine (HFA.out _).mono ?_; rintro e w1 ⟨rfl, hw⟩; have hw := hw.symm; subst hw) | (go_at_call 16; refine (HD.out _ H1.out).mono ?_; rintro e w2 ⟨rfl, hb⟩; have H2 := Lib.hid hb; clear hb))
        go_meet
        exact ⟨by rw [hbv]; rfl, H2.out⟩
      | false =>
        rw [hz] at hbv
        cases hz2 : (z2 != 0) with
        | true =>
          rw [hz2] at hbv
          go_wp2_with (first | (go_at_call 11; refine (HFA.out _).mono ?_; rintro e w1 ⟨rfl, hw⟩; have hw := hw.symm; subst hw) | (go_at_call 16; refine (HD.out _ H1.out).mono ?_; rintro e w2 ⟨rfl, hb⟩; replace c0 := cell_keep2 hb c0; replace c1 := cell_keep2 hb c1; have H2 := Lib.hid hb; clear hb) | (go_at_call 17; refine (HCC.out _).mono ?_; rintro e w3 ⟨rfl, hb⟩; have H3 := Lib.hid (H2.out.trans (hb.mono H2.out.size)); clear hb))
          go_meet
          exact ⟨by rw [hbv]; rfl, H3.out⟩
        | false =>
          rw [hz2] at hbv
          have hbv2 : bv = (decide (age < 0) || decide (1000000000 < age)) := by rw [hbv]; rfl
          clear hbv
          by_cases a0 : age < 0
          · rw [decide_eq_true a0, Bool.true_or] at hbv2
            have HB2 := Lib.hid hbv2
            clear hbv2
            go_wp2_with (first | (go_at_call 11; refine (HFA.out _).mono ?_; rintro e w1 ⟨rfl, hw⟩; have hw := hw.symm; subst hw) | (go_at_call 16; refine (HD.out _ H1.out).mono ?_; rintro e w2 ⟨rfl, hb⟩; replace c0 := cell_keep2 hb c0; replace c1 := cell_keep2 hb c1; have H2 := Lib.hid hb; clear hb) | (go_at_call 17; refine (HCC.out _).mono ?_; rintro e w3 ⟨rfl, hb⟩; have H3 := Lib.hid (H2.out.trans (hb.mono H2.out.size)); clear hb))
            go_meet
            exact ⟨by rw [HB2.out], H3.out⟩
          · rw [decide_eq_false a0, Bool.false_or] at hbv2
            by_cases a1 : 1000000000 < age
            · rw [decide_eq_true a1] at hbv2
              have a2 : age > 1000000000 := a1
              have HB2 := Lib.hid hbv2
              clear hbv2
              go_wp2_with (first | (go_at_call 11; refine (HFA.out _).mono ?_; rintro e w1 ⟨rfl, hw⟩; have hw := hw.symm; subst hw) | (go_at_call 16; refine (HD.out _ H1.out).mono ?_; rintro e w2 ⟨rfl, hb⟩; replace c0 := cell_keep2 hb c0; replace c1 := cell_keep2 hb c1; have H2 := Lib.hid hb; clear hb) | (go_at_call 17; refine (HCC.out _).mono ?_; rintro e w3 ⟨rfl, hb⟩; have H3 := Lib.hid (H2.out.trans (hb.mono H2.out.size)); clear hb))
              go_meet
              exact ⟨by rw [HB2.out], H3.out⟩
            · rw [decide_eq_false a1] at hbv2
              have a2 : ¬ age > 1000000000 := a1
              have HB2 := Lib.hid hbv2
              clear hbv2
              go_wp2_with (first | (go_at_call 11; refine (HFA.out _).mono ?_; rintro e w1 ⟨rfl, hw⟩; have hw := hw.symm; subst hw) | (go_at_call 16; refine (HD.out _ H1.out).mono ?_; rintro e w2 ⟨rfl, hb⟩; replace c0 := cell_keep2 hb c0; replace c1 := cell_keep2 hb c1; have H2 := Lib.hid hb; clear hb) | (go_at_call 17; refine (HCC.out _).mono ?_; rintro e w3 ⟨rfl, hb⟩; have H3 := Lib.hid (H2.out.trans (hb.mono H2.out.size)); clear hb))
              go_meet
              exact ⟨by rw [HB2.out]; first | done | rfl | (congr 1; simp; omega), H3.out⟩
  case rest =>
  obtain ⟨rfl, hbc⟩ := hcut
  obtain ⟨V2, hV2⟩ : ∃ V2, V2 = wc := ⟨_, rfl⟩
  subst hV2
  replace c0 := cell_keep2 hbc c0
  replace c1 := cell_keep2 hbc c1
  replace H1 := Lib.hid (H1.out.trans (hbc.mono H1.out.size))
  clear hbc hbv
  cases bv with
  | true =>
    go_wp2_with (go_at_call 12; refine (awake_ok _).mono ?_; rintro e w3 ⟨rfl, hb⟩; have HZ := Lib.hid hb; clear hb)
    go_ret
    exact ⟨rfl, H1.out.trans (HZ.out.mono H1.out.size)⟩
  | false =>
    have hall := HBV.out.symm
    simp only [Bool.or_eq_false_iff, bne_eq_false_iff_eq, decide_eq_false_iff_not] at hall
    obtain ⟨⟨⟨⟨_, hz⟩, hz2⟩, a0⟩, a1⟩ := hall
    obtain ⟨g1, g2, ⟨t0, t1⟩, g4, g5, g6⟩ := HG.out hz hz2 (by omega) (by omega)
    have gc := g2 age (by omega) (by omega)
    have gt := g2 (tuneV L h w).1 t0 t1
    rw [← g4] at gt
    generalize (tuneV L h w).1 = a at *
    generalize (tuneV L h w).2 = co at *
    generalize agedV L h w age = m at *
    have HT := Lib.hid (And.intro g1 (And.intro gc gt))
    clear g1 g2 g4 gc gt hz hz2
    have t0' : ¬ a < 0 := by omega
    have t1' : ¬ a > 1000000000 := by omega
    have hcc : (co == co) = true := by simp
    go_upto_region 4 with (go_at_call 18; refine (HT.out.1 _ H1.out).mono ?_; rintro e w2 ⟨rfl, hb2⟩)
    replace c0 := cell_keep2 hb2 c0
    replace c1 := cell_keep2 hb2 c1
    have H2 := Lib.hid (H1.out.trans (hb2.mono H1.out.size))
    clear hb2
    go_upto_region 7 with (go_at_call 13; with_reducible refine (HT.out.2.2 _ H2.out).mono ?_; rintro e w3 ⟨rfl, hb3⟩)
    replace c0 := cell_keep2 hb3 c0
    replace c1 := cell_keep2 hb3 c1
    have H3 := Lib.hid (H2.out.trans (hb3.mono H2.out.size))
    clear hb3
    go_upto_region 8 with (go_at_call 13; with_reducible refine (HT.out.2.1 _ H3.out).mono ?_; rintro e w4 ⟨rfl, hb4⟩)
    have H4 := Lib.hid (H3.out.trans (hb4.mono H3.out.size))
    clear hb4 c0 c1
    by_cases hlt : age < a
    · have h9 : m > co := g6 hlt
      go_wp2_with (go_at_call 12; refine (awake_ok _).mono ?_; rintro e w5 ⟨rfl, hb⟩; have HZ := Lib.hid (H4.out.trans (hb.mono H4.out.size)); clear hb)
      go_ret
      exact ⟨rfl, HZ.out⟩
    · have h9 : m ≥ co := g5
      have h10 : age ≥ a := by omega
      clear g6
      go_wp2_with (go_at_call 12; refine (awake_ok _).mono ?_; rintro e w5 ⟨rfl, hb⟩; have HZ := Lib.hid (H4.out.trans (hb.mono H4.out.size)); clear hb)
      go_ret
      exact ⟨rfl, HZ.out⟩
end Py
end Go.Proofs.Ytnkkhbmbbkmfhaa
