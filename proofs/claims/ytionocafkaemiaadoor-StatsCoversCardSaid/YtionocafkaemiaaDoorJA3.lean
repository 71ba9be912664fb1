/- The program: ask. -/
import Derived.Test.YtionocafkaemiaaDoorJR1
import Derived.Test.YtionocafkaemiaaDoorJR2
namespace Go.Proofs.YtionocafkaemiaaDoor
open Go.RowKit Go.Lib
namespace Sx

set_option maxHeartbeats 4000000 in
theorem ask_ok (A : Option Addr) (c : Nat) (L : List Sm) (f t : Int) (W : World) (hL : SAt W A c L) : Calls Tryd.prog 40 #[sv A L.length c, .int .i64 f, .int .i64 t] W fun e w' => e = .returned (.int .i64 (askS L f t)) ∧ Below W.heap.size W w' := by
  have hb := below_box W (.cells #[.slice A L.length c] 24)
  have hn := one_at (new_at W (.cells #[.slice A L.length c] 24))
  have hcm := hL.2.1
  have hlc := hL.1
  unfold maxLen at hcm
  have hCK := fun V (hV : Below W.heap.size W V) => check_ok A c L V (hL.below hV (Nat.le_refl _))
  have HF := Lib.hid (fun V => isTime_ok f V)
  have HT := Lib.hid (fun V => isTime_ok t V)
  by_cases hck : checkS L = 0
  · have hs := (checkS_ok L).1 hck
    have hAT := fun V (hV : Below W.heap.size W V) => index_ok A c L f V (hL.below hV (Nat.le_refl _)) hs
    have hv : askS L f t = if (inT f && inT t && decide (f < t)) = false then 7 else if idx L f < 0 then 4 else 0 := by unfold askS; rw [if_neg (by omega)]
    rw [hck] at hCK
    have hlen := hs.len
    have hul := upto_le L f
    have hix : -1 ≤ idx L f ∧ idx L f ≤ 500 := by unfold idx; omega
    obtain ⟨ix0, ix1⟩ := hix
    generalize idx L f = ix at *
    have HX := Lib.hid (And.intro hb (And.intro hCK (And.intro hAT hv)))
    clear hb hCK hAT hL hv hck hs hul hlen
    cases hf : inT f with
    | false =>
      rw [hf] at HF HX
      have HV := Lib.hid (HX.out.2.2.2.trans (if_pos (by simp)))
      clear hf
      go_enter Tryd.func40, Tryd.ntmps40
      go_upto_region 1 with (fail)
      generalize W.alloc (.cells #[.slice A L.length c] 24) = V at *
      go_wp2_with (first | (go_at_call 24; refine (HX.out.2.1 _ HX.out.1).mono ?_; rintro e w1 ⟨rfl, hb1⟩; replace hn := cell_keep2 hb1 hn; have H1 := Lib.hid (HX.out.1.trans (hb1.mono HX.out.1.size)); clear hb1) | (go_at_call 49; refine (HF.out _).mono ?_; rintro e w2 ⟨rfl, hw⟩; have hw := hw.symm; subst hw))
      go_ret
      exact ⟨by rw [HV.out]; rfl, H1.out⟩
    | true =>
      rw [hf] at HF HX
      cases ht : inT t with
      | false =>
        rw [ht] at HT HX
        have HV := Lib.hid (HX.out.2.2.2.trans (if_pos (by simp)))
        clear hf ht
        go_enter Tryd.func40, Tryd.ntmps40
        go_upto_region 1 with (fail)
        generalize W.alloc (.cells #[.slice A L.length c] 24) = V at *
        go_wp2_with (first | (go_at_call 24; refine (HX.out.2.1 _ HX.out.1).mono ?_; rintro e w1 ⟨rfl, hb1⟩; replace hn := cell_keep2 hb1 hn; have H1 := Lib.hid (HX.out.1.trans (hb1.mono HX.out.1.size)); clear hb1) | (go_at_call 49; with_reducible refine (HF.out _).mono ?_; rintro e w2 ⟨rfl, hw⟩; have hw := hw.symm; subst hw) | (go_at_call 49; with_reducible refine (HT.out _).mono ?_; rintro e w2 ⟨rfl, hw⟩; have hw := hw.symm; subst hw))
        go_ret
        exact ⟨by rw [HV.out]; rfl, H1.out⟩
      | true =>
        rw [ht] at HT HX
        by_cases hft : f < t
        · rw [decide_eq_true hft] at HX
          have hft' : ¬ f ≥ t := by omega
          by_cases hi : ix < 0
          · have HV := Lib.hid ((HX.out.2.2.2.trans (if_neg (by simp))).trans (if_pos hi))
            clear hf ht hft
            go_enter Tryd.func40, Tryd.ntmps40
            go_upto_region 1 with (fail)
            generalize W.alloc (.cells #[.slice A L.length c] 24) = V at *
            go_wp2_with (first | (go_at_call 24; refine (HX.out.2.1 _ HX.out.1).mono ?_; rintro e w1 ⟨rfl, hb1⟩; replace hn := cell_keep2 hb1 hn; have H1 := Lib.hid (HX.out.1.trans (hb1.mono HX.out.1.size)); clear hb1) | (go_at_call 49; with_reducible refine (HF.out _).mono ?_; rintro e w2 ⟨rfl, hw⟩; have hw := hw.symm; subst hw) | (go_at_call 49; with_reducible refine (HT.out _).mono ?_; rintro e w2 ⟨rfl, hw⟩; have hw := hw.symm; subst hw) | (go_at_call 63; refine (HX.out.2.2.1 _ H1.out).mono ?_; rintro e w3 ⟨rfl, hb3⟩; have H3 := Lib.hid (H1.out.trans (hb3.mono H1.out.size)); clear hb3))
            go_ret
            exact ⟨by rw [HV.out]; rfl, H3.out⟩
          · have HV := Lib.hid ((HX.out.2.2.2.trans (if_neg (by simp))).trans (if_neg hi))
            clear hf ht hft
            go_enter Tryd.func40, Tryd.ntmps40
            go_upto_region 1 with (fail)
            generalize W.alloc (.cells #[.slice A L.length c] 24) = V at *
            go_wp2_with (first | (go_at_call 24; refine (HX.out.2.1 _ HX.out.1).mono ?_; rintro e w1 ⟨rfl, hb1⟩; replace hn := cell_keep2 hb1 hn; have H1 := Lib.hid (HX.out.1.trans (hb1.mono HX.out.1.size)); clear hb1) | (go_at_call 49; with_reducible refine (HF.out _).mono ?_; rintro e w2 ⟨rfl, hw⟩; have hw := hw.symm; subst hw) | (go_at_call 49; with_reducible refine (HT.out _).mono ?_; rintro e w2 ⟨rfl, hw⟩; have hw := hw.symm; subst hw) | (go_at_call 63; refine (HX.out.2.2.1 _ H1.out).mono ?_; rintro e w3 ⟨rfl, hb3⟩; have H3 := Lib.hid (H1.out.trans (hb3.mono H1.out.size)); clear hb3))
            go_ret
            exact ⟨by rw [HV.out]; rfl, H3.out⟩
        · rw [decide_eq_false hft] at HX
          have hft' : f ≥ t := by omega
          have HV := Lib.hid (HX.out.2.2.2.trans (if_pos (by simp)))
          clear hf ht hft
          go_enter Tryd.func40, Tryd.ntmps40
          go_upto_region 1 with (fail)
          generalize W.alloc (.cells #[.slice A L.length c] 24) = V at *
          go_wp2_with (first | (go_at_call 24; refine (HX.out.2.1 _ HX.out.1).mono ?_; rintro e w1 ⟨rfl, hb1⟩; replace hn := cell_keep2 hb1 hn; have H1 := Lib.hid (HX.out.1.trans (hb1.mono HX.out.1.size)); clear hb1) | (go_at_call 49; with_reducible refine (HF.out _).mono ?_; rintro e w2 ⟨rfl, hw⟩; have hw := hw.symm; subst hw) | (go_at_call 49; with_reducible refine (HT.out _).mono ?_; rintro e w2 ⟨rfl, hw⟩; have hw := hw.symm; subst hw))
          go_ret
          exact ⟨by rw [HV.out]; rfl, H1.out⟩
  · have hv : askS L f t = checkS L := by unfold askS; rw [if_pos hck]
    have hne : (checkS L == 0) = false := by simp [hck]
    have hne2 : (checkS L != 0) = true := by simp [hck]
    rw [hv]
    have HX := Lib.hid (And.intro hb hCK)
    clear hb hCK hL hv hck
    generalize checkS L = cv at *
    go_enter Tryd.func40, Tryd.ntmps40
    go_upto_region 1 with (fail)
    generalize W.alloc (.cells #[.slice A L.length c] 24) = V at *
    go_wp2_with (go_at_call 24; refine (HX.out.2 _ HX.out.1).mono ?_; rintro e w1 ⟨rfl, hb1⟩; have H1 := Lib.hid (HX.out.1.trans (hb1.mono HX.out.1.size)); clear hb1)
    go_ret
    exact ⟨rfl, H1.out⟩
end Sx
end Go.Proofs.YtionocafkaemiaaDoor
