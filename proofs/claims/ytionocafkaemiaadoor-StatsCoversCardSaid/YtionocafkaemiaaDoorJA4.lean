/- The program: Value. -/
import Derived.Test.YtionocafkaemiaaDoorJA3
namespace Go.Proofs.YtionocafkaemiaaDoor
open Go.RowKit Go.Lib
namespace Sx

set_option maxHeartbeats 4000000 in
theorem value_ok (A : Option Addr) (c : Nat) (L : List Sm) (t : Int) (W : World) (hL : SAt W A c L) : Calls Tryd.prog 34 #[sv A L.length c, .int .i64 t] W fun e w' => e = .returned (.tuple #[.int .i64 (valS L t).1, .int .i64 (valS L t).2]) ∧ Below W.heap.size W w' := by
  have hb := below_box W (.cells #[.slice A L.length c] 24)
  have hn := one_at (new_at W (.cells #[.slice A L.length c] 24))
  have hcm := hL.2.1
  have hlc := hL.1
  unfold maxLen at hcm
  have hCK := fun V (hV : Below W.heap.size W V) => check_ok A c L V (hL.below hV (Nat.le_refl _))
  have HT := Lib.hid (fun V => isTime_ok t V)
  by_cases hck : checkS L = 0
  · have hs := (checkS_ok L).1 hck
    have hAT := fun V (hV : Below W.heap.size W V) => index_ok A c L t V (hL.below hV (Nat.le_refl _)) hs
    have hv : valS L t = if inT t = false then (0, 7) else if idx L t < 0 then (0, 4) else ((sm L (upto L t - 1)).v, 0) := by unfold valS; rw [if_neg (by omega)]
    rw [hck] at hCK
    have HX := Lib.hid (And.intro hb (And.intro hCK (And.intro hAT (And.intro hL hv))))
    clear hb hCK hAT hL hv hck
    cases ht : inT t with
    | false =>
      rw [ht] at HT HX
      have hv := HX.out.2.2.2.2.trans (if_pos rfl)
      have HV := Lib.hid hv
      clear hv ht hs
      go_enter Tryd.func34, Tryd.ntmps34
      go_upto_region 1 with (fail)
      generalize W.alloc (.cells #[.slice A L.length c] 24) = V at *
      go_wp2_with (first | (go_at_call 24; refine (HX.out.2.1 _ HX.out.1).mono ?_; rintro e w1 ⟨rfl, hb1⟩; replace hn := cell_keep2 hb1 hn; have H1 := Lib.hid (HX.out.1.trans (hb1.mono HX.out.1.size)); clear hb1) | (go_at_call 49; refine (HT.out _).mono ?_; rintro e w2 ⟨rfl, hw⟩; have hw := hw.symm; subst hw))
      go_ret2
      exact ⟨by rw [HV.out]; rfl, H1.out⟩
    | true =>
      rw [ht] at HT HX
      have hv := HX.out.2.2.2.2.trans (if_neg (by simp))
      have hul := upto_le L t
      by_cases hi : idx L t < 0
      · have hv2 := hv.trans (if_pos hi)
        have HV := Lib.hid hv2
        clear hv hv2 ht hs
        generalize idx L t = ix at *
        go_enter Tryd.func34, Tryd.ntmps34
        go_upto_region 1 with (fail)
        generalize W.alloc (.cells #[.slice A L.length c] 24) = V at *
        go_wp2_with (first | (go_at_call 24; refine (HX.out.2.1 _ HX.out.1).mono ?_; rintro e w1 ⟨rfl, hb1⟩; replace hn := cell_keep2 hb1 hn; have H1 := Lib.hid (HX.out.1.trans (hb1.mono HX.out.1.size)); clear hb1) | (go_at_call 49; refine (HT.out _).mono ?_; rintro e w2 ⟨rfl, hw⟩; have hw := hw.symm; subst hw) | (go_at_call 63; refine (HX.out.2.2.1 _ H1.out).mono ?_; rintro e w3 ⟨rfl, hb3⟩; have H3 := Lib.hid (H1.out.trans (hb3.mono H1.out.size)); clear hb3))
        go_ret2
        exact ⟨by rw [HV.out]; rfl, H3.out⟩
      · have hv2 := hv.trans (if_neg hi)
        have HV := Lib.hid hv2
        obtain ⟨j, hj⟩ : ∃ j : Nat, upto L t = j + 1 := ⟨upto L t - 1, by unfold idx at hi; omega⟩
        have hix : idx L t = (j : Int) := by unfold idx; omega
        have hj1 : upto L t - 1 = j := by omega
        rw [hix] at HX hi
        rw [hj1] at HV
        have hjl : j < L.length := by omega
        have hjli : (j : Int) < (L.length : Int) := by omega
        have hjn : ¬ (j : Int) < 0 := by omega
        clear hv hv2 ht hs hj hix hj1 hul hi
        go_enter Tryd.func34, Tryd.ntmps34
        go_upto_region 1 with (fail)
        generalize W.alloc (.cells #[.slice A L.length c] 24) = V at *
        go_upto_region 7 with (first | (go_at_call 24; refine (HX.out.2.1 _ HX.out.1).mono ?_; rintro e w1 ⟨rfl, hb1⟩; replace hn := cell_keep2 hb1 hn; have H1 := Lib.hid (HX.out.1.trans (hb1.mono HX.out.1.size)); clear hb1) | (go_at_call 49; refine (HT.out _).mono ?_; rintro e w2 ⟨rfl, hw⟩; have hw := hw.symm; subst hw) | (go_at_call 63; refine (HX.out.2.2.1 _ H1.out).mono ?_; rintro e w3 ⟨rfl, hb3⟩; replace hn := cell_keep2 hb3 hn; have H3 := Lib.hid (H1.out.trans (hb3.mono H1.out.size)); clear hb3))
        have hL3 := HX.out.2.2.2.1.below H3.out (Nat.le_refl _)
        obtain ⟨g, o, rfl, hg, d0, d1⟩ := hL3.s2 hjl
        generalize (sm L j).v = xv at *
        clear hL3 d0
        go_wp2_with (fail)
        go_ret2
        exact ⟨by rw [HV.out]; rfl, H3.out⟩
  · have hv : valS L t = (0, checkS L) := by unfold valS; rw [if_pos hck]
    have hne : (checkS L == 0) = false := by simp [hck]
    have hne2 : (checkS L != 0) = true := by simp [hck]
    rw [hv]
    have HX := Lib.hid (And.intro hb hCK)
    clear hb hCK hL hv hck
    generalize checkS L = cv at *
    go_enter Tryd.func34, Tryd.ntmps34
    go_upto_region 1 with (fail)
    generalize W.alloc (.cells #[.slice A L.length c] 24) = V at *
    go_wp2_with (go_at_call 24; refine (HX.out.2 _ HX.out.1).mono ?_; rintro e w1 ⟨rfl, hb1⟩; have H1 := Lib.hid (HX.out.1.trans (hb1.mono HX.out.1.size)); clear hb1)
    go_ret2
    exact ⟨rfl, H1.out⟩
end Sx
end Go.Proofs.YtionocafkaemiaaDoor
