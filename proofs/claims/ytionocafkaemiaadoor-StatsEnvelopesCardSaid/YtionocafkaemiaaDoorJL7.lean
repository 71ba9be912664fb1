/- far: a series is longer than what is examined. StatsEnvelopes: the walk. -/
import Derived.Test.YtionocafkaemiaaDoorJL1
import Derived.Test.YtionocafkaemiaaDoorJA26
import Derived.Test.YtionocafkaemiaaDoorJR5
import Derived.Test.YtionocafkaemiaaDoorJL2
import Derived.Test.YtionocafkaemiaaDoorJA23
import Derived.Test.YtionocafkaemiaaDoorJR18
namespace Go.Proofs.YtionocafkaemiaaDoor
open Go.RowKit Go.Lib
namespace Sx
def farB (n : Nat) (m : Int) : Bool := (decide (m < (n : Int)) && decide (n ≤ 500)) || decide (510 < n)
set_option maxRecDepth 100000 in
theorem far_ok (A : Option Addr) (c : Nat) (L : List Sm) (m : Int) (W : World) (hL : SAt W A c L) :
    Calls Tryd.prog 16 #[sv A L.length c, .int .i64 m] W fun e w' => e = .returned (.bool (farB L.length m)) ∧ Below W.heap.size W w' := by
  have hl1 := hL.1
  have hl2 := hL.2.1
  unfold maxLen at hl2
  have k1 := new_at W (.cells #[.slice A L.length c] 24)
  have hb := below_box W (.cells #[.slice A L.length c] 24)
  clear hL
  obtain ⟨n, hn⟩ : ∃ n, n = L.length := ⟨_, rfl⟩
  rw [← hn] at k1 hb hl1 ⊢
  clear hn
  obtain ⟨b, hbb⟩ : ∃ b, b = farB n m := ⟨_, rfl⟩
  have HB := Lib.hid hbb
  rw [← hbb]
  clear hbb
  go_enter Tryd.func16, Tryd.ntmps16
  go_upto_region 1 with (fail)
  generalize W.alloc (.cells #[.slice A n c] 24) = U at *
  have s0 := one_at k1
  have HW := Lib.hid hb
  clear hb k1
  by_cases h1 : m < (n : Int)
  · by_cases h2 : (n : Int) ≤ 500
    · have hr : b = true := by rw [HB.out]; unfold farB; rw [decide_eq_true h1, decide_eq_true (show n ≤ 500 by omega)]; rfl
      subst hr
      go_wp2_with (fail)
      go_ret
      exact ⟨rfl, HW.out⟩
    · by_cases h3 : (510 : Int) < (n : Int)
      · have hr : b = true := by rw [HB.out]; unfold farB; rw [decide_eq_true (show 510 < n by omega)]; simp
        subst hr
        go_wp2_with (fail)
        go_ret
        exact ⟨rfl, HW.out⟩
      · have hr : b = false := by rw [HB.out]; unfold farB; rw [decide_eq_false (show ¬ 510 < n by omega), decide_eq_false (show ¬ n ≤ 500 by omega)]; simp
        subst hr
        go_wp2_with (fail)
        go_ret
        exact ⟨rfl, HW.out⟩
  · by_cases h3 : (510 : Int) < (n : Int)
    · have hr : b = true := by rw [HB.out]; unfold farB; rw [decide_eq_true (show 510 < n by omega)]; simp
      subst hr
      go_wp2_with (fail)
      go_ret
      exact ⟨rfl, HW.out⟩
    · have hr : b = false := by rw [HB.out]; unfold farB; rw [decide_eq_false (show ¬ 510 < n by omega), decide_eq_false h1]; simp
      subst hr
      go_wp2_with (fail)
      go_ret
      exact ⟨rfl, HW.out⟩
end Sx
end Go.Proofs.YtionocafkaemiaaDoor
namespace Go.Proofs.YtionocafkaemiaaDoor
open Go.RowKit Go.Sort Go.Lib
namespace Sx
attribute [local irreducible] wpQuiet
set_option maxRecDepth 100000 in
set_option maxHeartbeats 8000000 in
theorem envelopes_walk (W : World) (hT : Lib.TabIs Tryd.prog W "internal/strconv.uint64pow10" .u64 Lib.pow10Tab) (A : Option Addr) (c : Nat) (L : List Sm) (hL : SAt W A c L) (u most : Int) :
    Calls Tryd.prog 4 #[sv A L.length c, .int .i64 u, .int .i64 most] W fun e w' => e = .returned (.bool true) ∧ Below W.heap.size W w' := by
  have k1 := new_at W (.cells #[.slice A L.length c] 24)
  have hb := below_box W (.cells #[.slice A L.length c] 24)
  have HT := Lib.hid (Lib.tabBelow_of_tabIs hT)
  have HSh := Lib.hid (fun V (hV : Below W.heap.size W V) => shown_ok V (HT.out V hV))
  have HF := Lib.hid (fun V (hV : Below W.heap.size W V) => far_ok A c L 9 V (hL.below hV (Nat.le_refl _)))
  have HA := Lib.hid (fun V (hV : Below W.heap.size W V) => env_ok A c L u most V (hL.below hV (Nat.le_refl _)))
  have HAR := Lib.hid (fun V (hV : Below W.heap.size W V) => EnvelopeR_ok A c L u most V (hL.below hV (Nat.le_refl _)))
  unfold EvR at HAR
  obtain ⟨bf, hbf⟩ : ∃ b, b = farB L.length 9 := ⟨_, rfl⟩
  rw [← hbf] at HF
  clear hbf
  go_enter Tryd.func4, Tryd.ntmps4
  go_upto_region 1 with (fail)
  generalize W.alloc (.cells #[.slice A L.length c] 24) = U at *
  have s0 := one_at k1
  have HW := Lib.hid hb
  clear hL hT hb k1
  cases bf
  · go_upto_region 3 with (go_at_call 16; refine (HF.out _ HW.out).mono ?_; rintro e v0 ⟨rfl, hb0⟩)
    replace s0 := cell_keep2 hb0 s0
    have HW0 := Lib.hid (HW.out.trans (hb0.mono HW.out.size))
    clear hb0 HW
    generalize (envS L u most).1 = X at *
    generalize (envS L u most).2 = xe at *
    go_upto_region 4 with (go_at_call 17; refine (HA.out _ HW0.out).mono ?_; rintro e v1 ⟨A1, c1, rfl, hs1, hb1⟩)
    have hx1 := hb1.trans ((below_box v1 (.cells #[.slice A1 X.length c1] 24)).mono hb1.size)
    have z7 := new_at v1 (.cells #[.slice A1 X.length c1] 24)
    have hs1' := hs1.below (below_box v1 (.cells #[.slice A1 X.length c1] 24)) (Nat.le_refl _)
    obtain ⟨a7, ha7⟩ : ∃ a, a = v1.heap.size := ⟨_, rfl⟩
    rw [← ha7] at z7 ⊢
    generalize v1.alloc (.cells #[.slice A1 X.length c1] 24) = V1 at *
    replace s0 := cell_keep2 hx1 s0
    have x7 := one_at z7
    have HX1 := Lib.hid hs1'
    have HW1 := Lib.hid (HW0.out.trans (hx1.mono HW0.out.size))
    clear hx1 hb1 z7 ha7 hs1 hs1' HW0 HA
    go_upto_region 5 with (go_at_call 18; refine (HAR.out _ HW1.out).mono ?_; rintro e v2 ⟨A2, c2, rfl, hs2, hb2⟩)
    have hx2 := hb2.trans ((below_box v2 (.cells #[.slice A2 X.length c2] 24)).mono hb2.size)
    have z9 := new_at v2 (.cells #[.slice A2 X.length c2] 24)
    have hs2' := hs2.below (below_box v2 (.cells #[.slice A2 X.length c2] 24)) (Nat.le_refl _)
    obtain ⟨a9, ha9⟩ : ∃ a, a = v2.heap.size := ⟨_, rfl⟩
    rw [← ha9] at z9 ⊢
    generalize v2.alloc (.cells #[.slice A2 X.length c2] 24) = V2 at *
    replace s0 := cell_keep2 hx2 s0
    replace x7 := cell_keep2 hx2 x7
    have x9 := one_at z9
    have HX2 := Lib.hid (And.intro (HX1.out.below hx2 (Nat.le_refl _)) hs2')
    have HW2 := Lib.hid (HW1.out.trans (hx2.mono HW1.out.size))
    clear hx2 hb2 z9 ha9 hs2 hs2' HW1 HAR HX1
    go_wp2_with (first
      | (go_at_call 19; refine (same_self A1 A2 c1 c2 X _ HX2.out.1 HX2.out.2).mono ?_; rintro e v3 ⟨rfl, hb3⟩; have H3 := Lib.hid (HW2.out.trans (hb3.mono HW2.out.size)); clear hb3)
      | (go_at_call 11; refine (HSh.out _ H3.out).mono ?_; rintro e v4 ⟨rfl, hb4⟩; have H4 := Lib.hid (H3.out.trans (hb4.mono H3.out.size)); clear hb4))
    go_ret
    exact ⟨rfl, H4.out⟩
  · go_upto_region 2 with (go_at_call 16; refine (HF.out _ HW.out).mono ?_; rintro e v0 ⟨rfl, hb0⟩)
    have HW0 := Lib.hid (HW.out.trans (hb0.mono HW.out.size))
    clear hb0
    go_wp2_with (go_at_call 11; refine (HSh.out _ HW0.out).mono ?_; rintro e v1 ⟨rfl, hb1⟩)
    go_ret
    exact ⟨rfl, HW0.out.trans (hb1.mono HW0.out.size)⟩
end Sx
end Go.Proofs.YtionocafkaemiaaDoor
