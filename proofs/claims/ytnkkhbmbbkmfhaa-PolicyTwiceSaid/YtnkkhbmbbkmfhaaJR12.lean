/- The specification: without. -/
import Derived.Test.YtnkkhbmbbkmfhaaJR11
namespace Go.Proofs.Ytnkkhbmbbkmfhaa
open Go.RowKit
namespace Py

set_option maxRecDepth 100000 in
set_option maxHeartbeats 4000000 in
theorem withoutR_ok (A : Option Addr) (c : Nat) (H : List Wt) (k : Nat) (hk : k < H.length) (hl : H.length ≤ 2000) (w : World) (h : EAt eid 2 w A c H) :
    Calls Try.prog 67 #[.slice A H.length c, .int .i64 (k : Int)] w fun e w' => ∃ A' c', e = .returned (.slice A' (H.eraseIdx k).length c') ∧ OwnE eid 2 w' w.heap.size 112 A' c' (H.eraseIdx k) ∧ Below w.heap.size w w' := by
  have hcap := h.2.1
  have hlc := h.1
  unfold maxLen at hcap
  have he : H.eraseIdx k = H.take k ++ H.drop (k + 1) := List.eraseIdx_eq_take_drop_succ ..
  obtain ⟨g, o, rfl, hg, _, _⟩ := h.id2 hk
  rw [he]
  have hb0 := below_box w (.cells #[] 112)
  have htl : (H.take k).length = k := by rw [List.length_take]; omega
  have hdl : (H.drop (k + 1)).length = H.length - (k + 1) := List.length_drop ..
  have htk := h.take k c (by omega) (by unfold maxLen; omega)
  have hdr := h.drop (n := k + 1) (by omega)
  have HX := Lib.hid (And.intro hb0 (And.intro (htk.below hb0 (Nat.le_refl _)) (And.intro hdr (And.intro htl hdl))))
  clear hb0 htk hdr htl hdl he h
  generalize hT : H.take k = T at *
  generalize hR : H.drop (k + 1) = R at *
  have hkc : k ≤ c := by omega
  obtain ⟨k1, hk1⟩ : ∃ k1, k1 = k + 1 := ⟨_, rfl⟩
  rw [← hk1] at HX
  have hkc1 : k1 ≤ c := by omega
  have hkh : k1 ≤ H.length := by omega
  have i1 : (k1 : Int) ≤ (H.length : Int) := by omega
  have i2 : (k1 : Int) ≤ (c : Int) := by omega
  have i3 : (k : Int) ≤ (H.length : Int) := by omega
  have i4 : (k : Int) ≤ (c : Int) := by omega
  have i5 : (k : Int) + 1 = (k1 : Int) := by omega
  have i6 : IntKind.i64.wrap ((k : Int) + 1) = (k1 : Int) := by rw [IntWalk.i64_in _ (by omega)]; exact i5
  have hT1 : T.length + R.length ≤ 2000 := by have := HX.out.2.2.2.1; have := HX.out.2.2.2.2; omega
  have HK := Lib.hid (And.intro hk1 i5)
  have HTR := Lib.hid (And.intro hT hR)
  clear hT hR hk1 i5
  by_cases hck : k1 < c
  · have hne : ¬ c = k1 := by omega
    go_enter Try.func67, Try.ntmps67
    go_upto_region 1 with (fail)
    go_region_law (first
      | (refine step_e EID Try.underlying108 idle_info (by decide) ?_ (.tmp 5) (.tmp 8) ?_ w.heap.size (some ⟨w.heap.size, 0, none⟩) 0 [] ?_ (owne_new w _) (some ⟨g, o, none⟩) c T ?_ HX.out.2.1 (fun h => by cases h) ?_ ?_ ?_
         (exact rfl)
         (exact rfl)
         (exact rfl)
         (rw [HX.out.2.2.2.1]; exact rfl)
         (simp; omega)
         (simp)
         intro A5 c5 w5 h5 b5
         rw [List.nil_append] at h5 ⊢
         have H5 := Lib.hid (And.intro h5 b5)
         clear h5 b5)
      | (refine step_e EID Try.underlying108 idle_info (by decide) ?_ (.tmp 9) (.tmp 13) ?_ w.heap.size A5 c5 T ?_ H5.out.1 (some ⟨g, o + k1 * 2, none⟩) (c - k1) R ?_ (HX.out.2.2.1.below ((below_drew HX.out.1).trans H5.out.2) (Nat.le_refl _)) (fun h => by cases h) ?_ ?_ ?_
         (exact rfl)
         (exact rfl)
         (exact rfl)
         (rw [HX.out.2.2.2.2]; go_simp)
         (omega)
         (exact ((below_drew HX.out.1).trans H5.out.2).size)
         intro A6 c6 w6 h6 b6
         obtain ⟨U, hU⟩ : ∃ U, U = T ++ R := ⟨_, rfl⟩
         rw [← hU] at h6 ⊢
         have H6 := Lib.hid (And.intro h6 (And.intro b6 hU))
         clear h6 b6 hU))
    all_goals
      go_wp2
      go_ret
      rw [← H6.out.2.2]
      exact ⟨A6, c6, rfl, H6.out.1, ((below_drew HX.out.1).trans H5.out.2).trans H6.out.2.1⟩
  · have hck2 : k1 = c := by omega
    have hl2 : H.length = c := by omega
    have hR0 : R = [] := List.length_eq_zero_iff.1 (by have := HX.out.2.2.2.2; omega)
    have HR0 := Lib.hid hR0
    clear hR0
    subst hck2
    go_enter Try.func67, Try.ntmps67
    go_upto_region 1 with (fail)
    go_region_law (first
      | (refine step_e EID Try.underlying108 idle_info (by decide) ?_ (.tmp 5) (.tmp 8) ?_ w.heap.size (some ⟨w.heap.size, 0, none⟩) 0 [] ?_ (owne_new w _) (some ⟨g, o, none⟩) k1 T ?_ HX.out.2.1 (fun h => by cases h) ?_ ?_ ?_
         (exact rfl)
         (exact rfl)
         (exact rfl)
         (rw [HX.out.2.2.2.1]; exact rfl)
         (simp; omega)
         (simp)
         intro A5 c5 w5 h5 b5
         rw [List.nil_append] at h5 ⊢
         have H5 := Lib.hid (And.intro h5 b5)
         clear h5 b5)
      | (refine step_e EID Try.underlying108 idle_info (by decide) ?_ (.tmp 9) (.tmp 13) ?_ w.heap.size A5 c5 T ?_ H5.out.1 (some ⟨g, o, none⟩) 0 [] ?_ (⟨Nat.le_refl _, Nat.zero_le _, fun j x hx => by simp at hx⟩) (fun h => by cases h) ?_ ?_ ?_
         (exact rfl)
         (exact rfl)
         (exact rfl)
         (go_simp)
         (simp; omega)
         (exact ((below_drew HX.out.1).trans H5.out.2).size)
         intro A6 c6 w6 h6 b6
         obtain ⟨U, hU⟩ : ∃ U, U = T ++ [] := ⟨_, rfl⟩
         rw [← hU] at h6 ⊢
         have H6 := Lib.hid (And.intro h6 (And.intro b6 hU))
         clear h6 b6 hU))
    all_goals
      go_wp2
      go_ret
      rw [HR0.out, ← H6.out.2.2]
      exact ⟨A6, c6, rfl, H6.out.1, ((below_drew HX.out.1).trans H5.out.2).trans H6.out.2.1⟩
end Py
end Go.Proofs.Ytnkkhbmbbkmfhaa
