/- StatsValues: the walk. -/
import Derived.Test.YtionocafkaemiaaDoorJL2
import Derived.Test.YtionocafkaemiaaDoorJA4
import Derived.Test.YtionocafkaemiaaDoorJA26
namespace Go.Proofs.YtionocafkaemiaaDoor
open Go.RowKit Go.Sort Go.Lib
namespace Sx
attribute [local irreducible] wpQuiet
set_option maxRecDepth 100000 in
set_option maxHeartbeats 8000000 in
theorem values_walk (W : World) (hT : Lib.TabIs Tryd.prog W "internal/strconv.uint64pow10" .u64 Lib.pow10Tab) (A : Option Addr) (c : Nat) (L : List Sm) (hL : SAt W A c L) (hnn : A = none → c = 0) (t v : Int) :
    Calls Tryd.prog 9 #[sv A L.length c, .int .i64 t, .int .i64 v] W fun e w' => e = .returned (.bool true) ∧ Below W.heap.size W w' := by
  have hl1 := hL.1
  have hl2 := hL.2.1
  unfold maxLen at hl2
  have k1 := new_at W (.cells #[.slice A L.length c] 24)
  have hb := below_box W (.cells #[.slice A L.length c] 24)
  have HT := Lib.hid (Lib.tabBelow_of_tabIs hT)
  have HSh := Lib.hid (fun V (hV : Below W.heap.size W V) => shown_ok V (HT.out V hV))
  have HA := Lib.hid (fun V (hV : Below W.heap.size W V) => add_ok A c L t v V (hL.below hV (Nat.le_refl _)) hnn)
  have HAR := Lib.hid (fun V (hV : Below W.heap.size W V) => addRef_ok A c L t v V (hL.below hV (Nat.le_refl _)) hnn)
  have HV := Lib.hid (fun V (hV : Below W.heap.size W V) => value_ok A c L t V (hL.below hV (Nat.le_refl _)))
  have HVR := Lib.hid (fun V (hV : Below W.heap.size W V) => valueR_ok A c L t V (hL.below hV (Nat.le_refl _)))
  have HC := Lib.hid (fun V (hV : Below W.heap.size W V) => check_ok A c L V (hL.below hV (Nat.le_refl _)))
  have HCR := Lib.hid (fun V (hV : Below W.heap.size W V) => checkR_ok A c L V (hL.below hV (Nat.le_refl _)))
  unfold AddR at HA HAR
  go_enter Tryd.func9, Tryd.ntmps9
  go_upto_region 1 with (fail)
  generalize W.alloc (.cells #[.slice A L.length c] 24) = U at *
  have s0 := one_at k1
  have HW := Lib.hid hb
  clear hL hT hb k1 hnn
  by_cases h : 510 < L.length
  · have hi : (510 : Int) < (L.length : Int) := by omega
    go_wp2_with (go_at_call 11; refine (HSh.out _ HW.out).mono ?_; rintro e v1 ⟨rfl, hb1⟩)
    go_ret
    exact ⟨rfl, HW.out.trans (hb1.mono HW.out.size)⟩
  · have hi : ¬ (510 : Int) < (L.length : Int) := by omega
    generalize (addS L t v).1 = X at *
    generalize (addS L t v).2 = xe at *
    generalize (valS L t).1 = y at *
    generalize (valS L t).2 = ye at *
    generalize checkS L = ce at *
    go_upto_region 4 with (go_at_call 32; refine (HA.out _ HW.out).mono ?_; rintro e v1 ⟨A1, c1, rfl, hs1, hb1⟩)
    have hx1 := hb1.trans ((below_box v1 (.cells #[.slice A1 X.length c1] 24)).mono hb1.size)
    have z7 := new_at v1 (.cells #[.slice A1 X.length c1] 24)
    have hs1' := hs1.below (below_box v1 (.cells #[.slice A1 X.length c1] 24)) (Nat.le_refl _)
    obtain ⟨a7, ha7⟩ : ∃ a, a = v1.heap.size := ⟨_, rfl⟩
    rw [← ha7] at z7 ⊢
    generalize v1.alloc (.cells #[.slice A1 X.length c1] 24) = V1 at *
    replace s0 := cell_keep2 hx1 s0
    have x7 := one_at z7
    have HX1 := Lib.hid hs1'
    have HW1 := Lib.hid (HW.out.trans (hx1.mono HW.out.size))
    clear hx1 hb1 z7 ha7 hs1 hs1' HW HA
    go_upto_region 5 with (go_at_call 33; refine (HAR.out _ HW1.out).mono ?_; rintro e v2 ⟨A2, c2, rfl, hs2, hb2⟩)
    have hx2 := hb2.trans ((below_box v2 (.cells #[.slice A2 X.length c2] 24)).mono hb2.size)
    have z9 := new_at v2 (.cells #[.slice A2 X.length c2] 24)
    have hs2' := hs2.below (below_box v2 (.cells #[.slice A2 X.length c2] 24)) (Nat.le_refl _)
    obtain ⟨a9, ha9⟩ : ∃ a, a = v2.heap.size := ⟨_, rfl⟩
    rw [← ha9] at z9 ⊢
    generalize v2.alloc (.cells #[.slice A2 X.length c2] 24) = V2 at *
    replace s0 := cell_keep2 hx2 s0
    replace x7 := cell_keep2 hx2 x7
    have x9 := one_at z9
    have HX2 := Lib.hid (And.intro (HX1.out.below hx2 (Nat.le_refl _)) hs2')
    have HW2 := Lib.hid (HW1.out.trans (hx2.mono HW1.out.size))
    clear hx2 hb2 z9 ha9 hs2 hs2' HW1 HAR HX1
    go_upto_region 6 with (go_at_call 34; refine (HV.out _ HW2.out).mono ?_; rintro e v3 ⟨rfl, hb3⟩)
    replace s0 := cell_keep2 hb3 s0
    replace x7 := cell_keep2 hb3 x7
    replace x9 := cell_keep2 hb3 x9
    have HX3 := Lib.hid (And.intro (HX2.out.1.below hb3 (Nat.le_refl _)) (HX2.out.2.below hb3 (Nat.le_refl _)))
    have HW3 := Lib.hid (HW2.out.trans (hb3.mono HW2.out.size))
    clear hb3 HX2 HW2
    go_upto_region 7 with (go_at_call 35; refine (HVR.out _ HW3.out).mono ?_; rintro e v4 ⟨rfl, hb4⟩)
    replace s0 := cell_keep2 hb4 s0
    replace x7 := cell_keep2 hb4 x7
    replace x9 := cell_keep2 hb4 x9
    have HX4 := Lib.hid (And.intro (HX3.out.1.below hb4 (Nat.le_refl _)) (HX3.out.2.below hb4 (Nat.le_refl _)))
    have HW4 := Lib.hid (HW3.out.trans (hb4.mono HW3.out.size))
    clear hb4 HX3 HW3
    have hS2 : ∀ V, Below v4.heap.size v4 V → Below v4.heap.size v4 V ∧ V.cell? ⟨W.heap.size, 0, none⟩ = some (.slice A L.length c) ∧ V.cell? ⟨a7, 0, none⟩ = some (.slice A1 X.length c1) ∧ V.cell? ⟨a9, 0, none⟩ = some (.slice A2 X.length c2) := fun V hV => ⟨hV, cell_keep2 hV s0, cell_keep2 hV x7, cell_keep2 hV x9⟩
    have HS2 := Lib.hid hS2
    have HSS := Lib.hid (fun V (hV : Below v4.heap.size v4 V) => same_self A1 A2 c1 c2 X V (HX4.out.1.below hV (Nat.le_refl _)) (HX4.out.2.below hV (Nat.le_refl _)))
    have HCC := Lib.hid (fun V (hV : Below v4.heap.size v4 V) => HC.out V (HW4.out.trans (hV.mono HW4.out.size)))
    have HCD := Lib.hid (fun V (hV : Below v4.heap.size v4 V) => HCR.out V (HW4.out.trans (hV.mono HW4.out.size)))
    have HSD := Lib.hid (fun V (hV : Below v4.heap.size v4 V) => HSh.out V (HW4.out.trans (hV.mono HW4.out.size)))
    have s1 := hS2 v4.drew (below_drew (Below.refl _ _))
    have hrun : Below v4.heap.size v4 v4.drew := below_drew (Below.refl _ _)
    clear hS2 HC HCR HSh HX4
    go_region_held3 (fun V => Below v4.heap.size v4 V ∧ V.cell? ⟨W.heap.size, 0, none⟩ = some (.slice A L.length c) ∧ V.cell? ⟨a7, 0, none⟩ = some (.slice A1 X.length c1) ∧ V.cell? ⟨a9, 0, none⟩ = some (.slice A2 X.length c2))
      (first | assumption | exact Sa | exact Sb | exact Sc | exact Sd)
      (first | (go_at_call 24; ((with_reducible refine (HCC.out _ hrun).mono ?_); rintro e wa ⟨rfl, hb⟩; replace hrun := hrun.trans (hb.mono hrun.size); have Sa := HS2.out _ hrun)) | (go_at_call 36; ((with_reducible refine (HCD.out _ hrun).mono ?_); rintro e wb ⟨rfl, hb⟩; replace hrun := hrun.trans (hb.mono hrun.size); have Sb := HS2.out _ hrun)) | (go_at_call 19; ((with_reducible refine (HSS.out _ hrun).mono ?_); rintro e wc ⟨rfl, hb⟩; replace hrun := hrun.trans (hb.mono hrun.size); have Sc := HS2.out _ hrun)) | (go_at_call 11; ((with_reducible refine (HSD.out _ hrun).mono ?_); rintro e wd ⟨rfl, hb⟩; replace hrun := hrun.trans (hb.mono hrun.size); have Sd := HS2.out _ hrun)))
    all_goals
      have HF := Lib.hid (HW4.out.trans (hrun.mono HW4.out.size))
      go_wp2_with (fail)
      go_ret
      exact ⟨rfl, HF.out⟩
end Sx
end Go.Proofs.YtionocafkaemiaaDoor
