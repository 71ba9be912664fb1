/- The program's quantile: whole. -/
import Derived.Test.YtionocafkaemiaaDoorJA16
namespace Go.Proofs.YtionocafkaemiaaDoor
open Go.RowKit Go.Shelf Go.Lib
namespace Sx
attribute [local irreducible] wpQuiet

set_option maxRecDepth 100000 in
set_option maxHeartbeats 4000000 in
theorem quant_ok2 (A : Option Addr) (c : Nat) (L : List Sm) (f t num den : Int) (W : World) (hL : SAt W A c L) :
    Calls Tryd.prog 14 #[sv A L.length c, .int .i64 f, .int .i64 t, .int .i64 num, .int .i64 den] W fun e w' => e = .returned (.tuple #[.int .i64 (quantS L f t num den).1, .int .i64 (quantS L f t num den).2]) ∧ Below W.heap.size W w' := by
  have hb := below_box W (.cells #[.slice A L.length c] 24)
  have hn := one_at (new_at W (.cells #[.slice A L.length c] 24))
  have hAK := fun V (hV : Below W.heap.size W V) => ask_ok A c L f t V (hL.below hV (Nat.le_refl _))
  by_cases hask : askS L f t = 0
  · have hcov := ask_cov.1 hask
    have hx : quantS L f t num den = if num < 1 ∨ den < num ∨ 1000 < den then (0, 2) else (quantR (stepsV L f t) (num * (t - f)) den, 0) := by unfold quantS; rw [if_neg (by omega)]
    rw [hask] at hAK
    rw [hx]
    by_cases hg : num < 1 ∨ den < num ∨ 1000 < den
    · rw [if_pos hg]
      have HX := Lib.hid (And.intro hb hAK)
      clear hb hAK hL hask hcov hx
      by_cases g1 : num < 1
      · clear hg
        go_enter Tryd.func14, Tryd.ntmps14
        go_upto_region 1 with (fail)
        generalize W.alloc (.cells #[.slice A L.length c] 24) = V at *
        go_wp2_with (first | (go_at_call 40; refine (HX.out.2 _ HX.out.1).mono ?_; rintro e w1 ⟨rfl, hb1⟩; have H1 := Lib.hid (HX.out.1.trans (hb1.mono HX.out.1.size)); clear hb1))
        go_ret2
        exact ⟨rfl, H1.out⟩
      by_cases g2 : den < num
      · clear hg
        go_enter Tryd.func14, Tryd.ntmps14
        go_upto_region 1 with (fail)
        generalize W.alloc (.cells #[.slice A L.length c] 24) = V at *
        go_wp2_with (first | (go_at_call 40; refine (HX.out.2 _ HX.out.1).mono ?_; rintro e w1 ⟨rfl, hb1⟩; have H1 := Lib.hid (HX.out.1.trans (hb1.mono HX.out.1.size)); clear hb1))
        go_ret2
        exact ⟨rfl, H1.out⟩
      have g3 : 1000 < den := by omega
      clear hg
      go_enter Tryd.func14, Tryd.ntmps14
      go_upto_region 1 with (fail)
      generalize W.alloc (.cells #[.slice A L.length c] 24) = V at *
      go_wp2_with (first | (go_at_call 40; refine (HX.out.2 _ HX.out.1).mono ?_; rintro e w1 ⟨rfl, hb1⟩; have H1 := Lib.hid (HX.out.1.trans (hb1.mono HX.out.1.size)); clear hb1))
      go_ret2
      exact ⟨rfl, H1.out⟩
    · rw [if_neg hg]
      refine (quant_main A c L f t num den W hL hcov (by omega) (by omega) (by omega)).mono ?_
      rintro e w' ⟨⟨v, rfl, hv⟩, hb⟩
      refine ⟨?_, hb⟩
      rw [hv.unique (quantR_is (quant_ok hcov (num := num) (den := den) (by omega) (by omega)))]
  · have hx : quantS L f t num den = (0, askS L f t) := by unfold quantS; rw [if_pos hask]
    rw [hx]
    have HX := Lib.hid (And.intro hb hAK)
    generalize askS L f t = e at *
    clear hb hAK hL hx
    go_enter Tryd.func14, Tryd.ntmps14
    go_upto_region 1 with (fail)
    generalize W.alloc (.cells #[.slice A L.length c] 24) = V at *
    go_wp2_with (first | (go_at_call 40; refine (HX.out.2 _ HX.out.1).mono ?_; rintro e w1 ⟨rfl, hb1⟩; have H1 := Lib.hid (HX.out.1.trans (hb1.mono HX.out.1.size)); clear hb1))
    go_ret2
    exact ⟨rfl, H1.out⟩
end Sx
end Go.Proofs.YtionocafkaemiaaDoor
