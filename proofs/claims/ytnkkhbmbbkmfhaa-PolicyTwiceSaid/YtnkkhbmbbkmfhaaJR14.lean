/- The specification: policy, Cost. -/
import Derived.Test.YtnkkhbmbbkmfhaaJR13
import Derived.Test.YtnkkhbmbbkmfhaaJR9
import Derived.Test.YtnkkhbmbbkmfhaaK4
namespace Go.Proofs.Ytnkkhbmbbkmfhaa
open Go.RowKit
namespace Py

/-- The box of a policy. -/
abbrev pb (k a m : Int) : Value := .agg #[.int .i64 k, .int .i64 a, .int .i64 m]
set_option maxRecDepth 100000 in
set_option maxHeartbeats 4000000 in
theorem polR_ok (k a m : Int) (W : World) : Calls Try.prog 41 #[pb k a m] W fun e w' => e = .returned (.bool (polB k a m)) ∧ Below W.heap.size W w' := by
  have hb := below_box W (.cells #[.int .i64 k, .int .i64 a, .int .i64 m] 26)
  have HF := Lib.hid (fun V => fromR_ok a 0 1000000000 V)
  have H := Lib.hid hb
  clear hb
  by_cases h1 : k = 1
  · have b1 : (k == 1) = true := by simp [h1]
    have hv : polB k a m = (decide (a = 0) && decide (m = 0)) := by unfold polB; rw [if_pos (.inl h1)]
    rw [hv]
    clear hv h1
    by_cases ha : a = 0
    · have b2 : (a == 0) = true := by simp [ha]
      rw [decide_eq_true ha]
      clear ha
      go_enter Try.func41, Try.ntmps41
      go_wp2
      go_ret
      exact ⟨by rw [Bool.true_and]; first | rfl | (congr 1; simp), H.out⟩
    · have b2 : (a == 0) = false := by simp [ha]
      rw [decide_eq_false ha]
      clear ha
      go_enter Try.func41, Try.ntmps41
      go_wp2
      go_ret
      exact ⟨rfl, H.out⟩
  by_cases h2 : k = 2
  · have b1 : (k == 1) = false := by simp [h1]
    have b2 : (k == 2) = true := by simp [h2]
    have hv : polB k a m = (decide (a = 0) && decide (m = 0)) := by unfold polB; rw [if_pos (.inr h2)]
    rw [hv]
    clear hv h1 h2
    by_cases ha : a = 0
    · have b3 : (a == 0) = true := by simp [ha]
      rw [decide_eq_true ha]
      clear ha
      go_enter Try.func41, Try.ntmps41
      go_wp2
      go_ret
      exact ⟨by rw [Bool.true_and]; first | rfl | (congr 1; simp), H.out⟩
    · have b3 : (a == 0) = false := by simp [ha]
      rw [decide_eq_false ha]
      clear ha
      go_enter Try.func41, Try.ntmps41
      go_wp2
      go_ret
      exact ⟨rfl, H.out⟩
  have b1 : (k == 1) = false := by simp [h1]
  have b2 : (k == 2) = false := by simp [h2]
  by_cases h3 : k = 3
  · have b3 : (k == 3) = true := by simp [h3]
    have hv : polB k a m = (inR a 0 1000000000 && decide (m = 0)) := by unfold polB inR; rw [if_neg (by omega), if_pos h3]
    rw [hv]
    clear hv h1 h2 h3
    generalize inR a 0 1000000000 = bb at *
    cases bb with
    | true =>
      go_enter Try.func41, Try.ntmps41
      go_wp2_with (go_at_call 46; refine (HF.out _).mono ?_; rintro e w' ⟨rfl, rfl⟩)
      go_ret
      exact ⟨by rw [Bool.true_and]; first | rfl | (congr 1; simp), H.out⟩
    | false =>
      go_enter Try.func41, Try.ntmps41
      go_wp2_with (go_at_call 46; refine (HF.out _).mono ?_; rintro e w' ⟨rfl, rfl⟩)
      go_ret
      exact ⟨rfl, H.out⟩
  have b3 : (k == 3) = false := by simp [h3]
  by_cases h4 : k = 4
  · have b4 : (k == 4) = true := by simp [h4]
    have hv : polB k a m = ((decide (a = 0) && decide (0 ≤ m)) && decide (m ≤ 1024)) := by unfold polB; rw [if_neg (by omega), if_neg h3, if_pos h4]
    rw [hv]
    clear hv h1 h2 h3 h4
    by_cases ha : a = 0
    · have b5 : (a == 0) = true := by simp [ha]
      rw [decide_eq_true ha]
      clear ha
      by_cases hm : 0 ≤ m
      · have hm' : m ≥ 0 := hm
        go_enter Try.func41, Try.ntmps41
        go_wp2
        go_ret
        exact ⟨by rw [decide_eq_true hm]; first | rfl | simp, H.out⟩
      · have hm' : ¬ m ≥ 0 := hm
        go_enter Try.func41, Try.ntmps41
        go_wp2
        go_ret
        exact ⟨by rw [decide_eq_false (show ¬ 0 ≤ m by omega)]; first | rfl | simp, H.out⟩
    · have b5 : (a == 0) = false := by simp [ha]
      rw [decide_eq_false ha]
      clear ha
      go_enter Try.func41, Try.ntmps41
      go_wp2
      go_ret
      exact ⟨rfl, H.out⟩
  · have b4 : (k == 4) = false := by simp [h4]
    have hv : polB k a m = false := by unfold polB; rw [if_neg (by omega), if_neg h3, if_neg h4]
    rw [hv]
    clear hv h1 h2 h3 h4
    go_enter Try.func41, Try.ntmps41
    go_wp2
    go_ret
    exact ⟨rfl, H.out⟩
set_option maxRecDepth 100000 in
set_option maxHeartbeats 4000000 in
theorem costFR_ok (A : Option Addr) (c : Nat) (L : List PU) (h w k a m : Int) (W : World) (hU : UAt W A c L) :
    Calls Try.prog 14 #[.slice A L.length c, cbx h w, pb k a m] W fun e w' => e = .returned (.tuple #[.int .i64 (costX L h w k a m (askV L h w)).1, .int .i64 (costX L h w k a m (askV L h w)).2]) ∧ Below W.heap.size W w' := by
  have hb1 : Below W.heap.size W (W.alloc (.cells #[.int .i64 h, .int .i64 w] 24)) := below_box _ _
  have hb2 : Below W.heap.size W ((W.alloc (.cells #[.int .i64 h, .int .i64 w] 24)).alloc (.cells #[.int .i64 k, .int .i64 a, .int .i64 m] 26)) := hb1.alloc (by simp) _
  have hs2 : ((W.alloc (.cells #[.int .i64 h, .int .i64 w] 24)).alloc (.cells #[.int .i64 k, .int .i64 a, .int .i64 m] 26)).heap.size = W.heap.size + 2 := by simp
  have hn1 : ((W.alloc (.cells #[.int .i64 h, .int .i64 w] 24)).alloc (.cells #[.int .i64 k, .int .i64 a, .int .i64 m] 26)).heap[W.heap.size]? = some (.cells #[.int .i64 h, .int .i64 w] 24 (0, 0)) := by rw [alloc_old _ _ _ (by simp), heapAlloc, if_pos rfl]
  have hn2 : ((W.alloc (.cells #[.int .i64 h, .int .i64 w] 24)).alloc (.cells #[.int .i64 k, .int .i64 a, .int .i64 m] 26)).heap[W.heap.size + 1]? = some (.cells #[.int .i64 k, .int .i64 a, .int .i64 m] 26 (0, 0)) := by rw [heapAlloc, if_pos (by simp)]
  have hA := askedR_ok A c L h w _ (hU.below hb2 (Nat.le_refl _))
  have HP := Lib.hid (fun V => polR_ok k a m V)
  by_cases hask : askV L h w = 0
  · obtain ⟨hL, hc⟩ := ask_ok.1 hask
    rw [hask] at hA ⊢
    have hU2 := fun V (hV : Below W.heap.size W V) => hU.below hV (Nat.le_refl _)
    cases hp : polB k a m with
    | false =>
      have hx : costX L h w k a m 0 = (0, 2) := by unfold costX; rw [if_neg (by omega), hp]; rfl
      rw [hx]
      rw [hp] at HP
      have HA := Lib.hid hA
      have HX := Lib.hid (And.intro hb2 (And.intro hs2 (And.intro hn1 hn2)))
      clear hA hb1 hb2 hs2 hn1 hn2 hask hp hx hU2 hL hc hU
      go_enter Try.func14, Try.ntmps14
      go_upto_region 1 with (fail)
      generalize hV : (W.alloc (.cells #[.int .i64 h, .int .i64 w] 24)).alloc (.cells #[.int .i64 k, .int .i64 a, .int .i64 m] 26) = V at *
      have x0 : V.cell? ⟨W.heap.size, 0, none⟩ = some (.int .i64 h) := by rw [cell_of_row _ _ _ _ _ _ HX.out.2.2.1]; rfl
      have x1 : V.cell? ⟨W.heap.size, 1, none⟩ = some (.int .i64 w) := by rw [cell_of_row _ _ _ _ _ _ HX.out.2.2.1]; rfl
      obtain ⟨p0, p1, p2⟩ := three_at HX.out.2.2.2
      go_upto_region 2 with (go_at_call 40; refine HA.out.mono ?_; rintro e w1 ⟨rfl, hb1⟩)
      have q0 := cell_keep2 hb1 p0
      have q1 := cell_keep2 hb1 p1
      have q2 := cell_keep2 hb1 p2
      have HB1 := Lib.hid hb1
      clear hb1 x0 x1 p0 p1 p2
      go_wp2_with (go_at_call 41; refine (HP.out _).mono ?_; rintro e w2 ⟨rfl, hb2⟩; have HB2 := Lib.hid hb2; clear hb2)
      go_ret2
      have e1 := HX.out.1.trans (HB1.out.mono HX.out.1.size)
      exact ⟨rfl, e1.trans (HB2.out.mono e1.size)⟩
    | true =>
      have hx : costX L h w k a m 0 = (costN L h w k a m, 0) := by unfold costX; rw [if_neg (by omega), if_pos hp]
      rw [hx]
      rw [hp] at HP
      have HA := Lib.hid hA
      have HX := Lib.hid (And.intro hb2 (And.intro hs2 (And.intro hn1 hn2)))
      have hag := fun (age : Int) (a0 : 0 ≤ age) (a1 : age ≤ 1000000000) V (hV : Below W.heap.size W V) => agedR_ok A c L h w age V (hU2 V hV) hL hc a0 a1
      have hms := fun (lim : Nat) (hl : lim ≤ 1024) V (hV : Below W.heap.size W V) => mostR_ok A c L h w lim V (hU2 V hV) hL hc hl
      have hcases : (k = 1 ∧ costN L h w k a m = agedV L h w 1000000000) ∨ (k = 2 ∧ costN L h w k a m = agedV L h w 0) ∨ (k = 3 ∧ 0 ≤ a ∧ a ≤ 1000000000 ∧ costN L h w k a m = agedV L h w a) ∨ (k = 4 ∧ ∃ lim : Nat, m = (lim : Int) ∧ lim ≤ 1024 ∧ costN L h w k a m = mostV L (stepsV L) h w lim) := by
        unfold polB at hp
        unfold costN
        by_cases h1 : k = 1
        · exact .inl ⟨h1, if_pos h1⟩
        by_cases h2 : k = 2
        · exact .inr (.inl ⟨h2, by rw [if_neg h1, if_pos h2]⟩)
        rw [if_neg (by omega)] at hp
        by_cases h3 : k = 3
        · rw [if_pos h3] at hp
          simp at hp
          exact .inr (.inr (.inl ⟨h3, hp.1.1, hp.1.2, by rw [if_neg h1, if_neg h2, if_pos h3]⟩))
        rw [if_neg h3] at hp
        by_cases h4 : k = 4
        · rw [if_pos h4] at hp
          simp at hp
          exact .inr (.inr (.inr ⟨h4, m.toNat, by omega, by omega, by rw [if_neg h1, if_neg h2, if_neg h3]⟩))
        · rw [if_neg h4] at hp; cases hp
      have HC := Lib.hid (And.intro hag hms)
      generalize costN L h w k a m = cn at *
      clear hA hb1 hb2 hs2 hn1 hn2 hask hp hx hU2 hL hc hU hag hms
      go_enter Try.func14, Try.ntmps14
      go_upto_region 1 with (fail)
      generalize hV : (W.alloc (.cells #[.int .i64 h, .int .i64 w] 24)).alloc (.cells #[.int .i64 k, .int .i64 a, .int .i64 m] 26) = V at *
      have x0 : V.cell? ⟨W.heap.size, 0, none⟩ = some (.int .i64 h) := by rw [cell_of_row _ _ _ _ _ _ HX.out.2.2.1]; rfl
      have x1 : V.cell? ⟨W.heap.size, 1, none⟩ = some (.int .i64 w) := by rw [cell_of_row _ _ _ _ _ _ HX.out.2.2.1]; rfl
      obtain ⟨p0, p1, p2⟩ := three_at HX.out.2.2.2
      go_upto_region 2 with (go_at_call 40; refine HA.out.mono ?_; rintro e w1 ⟨rfl, hb1⟩)
      have y0 := cell_keep2 hb1 x0
      have y1 := cell_keep2 hb1 x1
      have q0 := cell_keep2 hb1 p0
      have q1 := cell_keep2 hb1 p1
      have q2 := cell_keep2 hb1 p2
      have HB1 := Lib.hid hb1
      clear hb1 x0 x1 p0 p1 p2
      go_upto_region 4 with (go_at_call 41; refine (HP.out _).mono ?_; rintro e w2 ⟨rfl, hb2⟩)
      have x0 := cell_keep2 hb2 y0
      have x1 := cell_keep2 hb2 y1
      have p0 := cell_keep2 hb2 q0
      have p1 := cell_keep2 hb2 q1
      have p2 := cell_keep2 hb2 q2
      have hW2 : Below W.heap.size W w2 := by
        have e1 := HX.out.1.trans (HB1.out.mono HX.out.1.size)
        exact e1.trans (hb2.mono e1.size)
      have HW2 := Lib.hid hW2
      clear hb2 y0 y1 q0 q1 q2 hW2 HB1
      rcases hcases with ⟨rfl, e1⟩ | ⟨rfl, e1⟩ | ⟨rfl, a0, a1, e1⟩ | ⟨rfl, lim, rfl, hl, e1⟩
      · have HE := Lib.hid e1
        have hg := HC.out.1 1000000000 (by omega) (by omega) w2 HW2.out
        have HG := Lib.hid hg
        clear e1 hg
        go_wp2_with (go_at_call 42; refine HG.out.mono ?_; rintro e w4 ⟨rfl, hb4⟩; have HB4 := Lib.hid hb4; clear hb4)
        go_ret2
        exact ⟨by rw [HE.out]; rfl, HW2.out.trans (HB4.out.mono HW2.out.size)⟩
      · have HE := Lib.hid e1
        have hg := HC.out.1 0 (by omega) (by omega) w2 HW2.out
        have HG := Lib.hid hg
        clear e1 hg
        go_wp2_with (go_at_call 42; refine HG.out.mono ?_; rintro e w4 ⟨rfl, hb4⟩; have HB4 := Lib.hid hb4; clear hb4)
        go_ret2
        exact ⟨by rw [HE.out]; rfl, HW2.out.trans (HB4.out.mono HW2.out.size)⟩
      · have HE := Lib.hid e1
        have hg := HC.out.1 a a0 a1 w2 HW2.out
        have HG := Lib.hid hg
        clear e1 hg
        go_wp2_with (go_at_call 42; refine HG.out.mono ?_; rintro e w4 ⟨rfl, hb4⟩; have HB4 := Lib.hid hb4; clear hb4)
        go_ret2
        exact ⟨by rw [HE.out]; rfl, HW2.out.trans (HB4.out.mono HW2.out.size)⟩
      · have HE := Lib.hid e1
        have hg := HC.out.2 lim hl w2 HW2.out
        have HG := Lib.hid hg
        clear e1 hg
        go_wp2_with (go_at_call 43; refine HG.out.mono ?_; rintro e w4 ⟨rfl, hb4⟩; have HB4 := Lib.hid hb4; clear hb4)
        go_ret2
        exact ⟨by rw [HE.out]; rfl, HW2.out.trans (HB4.out.mono HW2.out.size)⟩
  · have hne : (askV L h w != 0) = true := by simp [hask]
    have hne2 : (askV L h w == 0) = false := by simp [hask]
    have hx : costX L h w k a m (askV L h w) = (0, askV L h w) := by unfold costX; rw [if_pos hask]
    rw [hx]
    have HA := Lib.hid hA
    have HX := Lib.hid (And.intro hb2 (And.intro hs2 (And.intro hn1 hn2)))
    clear hA hb1 hb2 hs2 hn1 hn2 hask hx hU
    generalize askV L h w = cv at *
    go_enter Try.func14, Try.ntmps14
    go_wp2_with (go_at_call 40; refine HA.out.mono ?_; rintro e w1 ⟨rfl, hb1⟩; have HB1 := Lib.hid hb1; clear hb1)
    go_ret2
    exact ⟨rfl, HX.out.1.trans (HB1.out.mono HX.out.1.size)⟩
end Py
end Go.Proofs.Ytnkkhbmbbkmfhaa
