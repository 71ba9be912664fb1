/- PolicyTunes: the walk. -/
import Derived.Test.YtnkkhbmbbkmfhaaJS2
namespace Go.Proofs.Ytnkkhbmbbkmfhaa
open Go.RowKit Go.Sort Go.Lib
namespace Py

def keepX (x : Int) (K : List Nat) : List Nat := if x = 0 then K else []
def numX (x y : Int) : Int := if x = 0 then y else 0
def useX (x : Int) (L : List PU) : List PU := if x = 0 then L else []
theorem keep_any {w w' : World} {x : Int} {K : List Nat} {cost : Int} {e : Ending} (h : KeepOut w x K cost e w') : ∃ A c, e = .returned (.tuple #[.slice A (keepX x K).length c, .int .i64 (numX x cost), .int .i64 x]) ∧ IAt w' A c (zs (keepX x K)) ∧ Below w.heap.size w w' := by
  unfold keepX numX
  by_cases hx : x = 0
  · obtain ⟨A, c, h1, h2⟩ := h.2.1 hx
    rw [if_pos hx, if_pos hx, hx]
    exact ⟨A, c, h1, h2, h.2.2⟩
  · rw [if_neg hx, if_neg hx]
    exact ⟨none, 0, h.1 hx, iat_nil _, h.2.2⟩
theorem two_any {w w' : World} {x : Int} {st : Int × Int} {e : Ending} (h : TwoOut w x st e w') : e = .returned (.tuple #[.int .i64 (numX x st.1), .int .i64 (numX x st.2), .int .i64 x]) ∧ Below w.heap.size w w' := by
  unfold numX
  by_cases hx : x = 0
  · rw [if_pos hx, if_pos hx, hx]
    exact ⟨h.2.1 hx, h.2.2⟩
  · rw [if_neg hx, if_neg hx]
    exact ⟨h.1 hx, h.2.2⟩
theorem uses_any {w w' : World} {x : Int} {L : List PU} {e : Ending} (h : UsesOut w x L e w') : ∃ A c, e = .returned (.tuple #[.slice A (useX x L).length c, .int .i64 x]) ∧ UAt w' A c (useX x L) ∧ Below w.heap.size w w' := by
  unfold useX
  by_cases hx : x = 0
  · obtain ⟨A, c, h1, h2⟩ := h.2.1 hx
    rw [if_pos hx, hx]
    exact ⟨A, c, h1, uat_e.2 h2, h.2.2⟩
  · rw [if_neg hx]
    exact ⟨none, 0, h.1 hx, uat_nil _, h.2.2⟩
theorem ints_zs {w : World} {A B : Option Addr} {c d : Nat} {K : List Nat} (hM : IAt w A c (zs K)) (hN : IAt w B d (zs K)) : Calls Try.prog 27 #[.slice A K.length c, .slice B K.length d] w fun e w' => e = .returned (.bool true) ∧ Below w.heap.size w w' := by
  have := ints_same hM hN
  rwa [List.length_map] at this
theorem iat_len {w : World} {A : Option Addr} {c : Nat} {K : List Nat} (h : IAt w A c (zs K)) : K.length ≤ c ∧ c ≤ 2 ^ 63 - 1 := by
  have h1 := h.1
  have h2 := h.2.1
  rw [List.length_map] at h1
  unfold maxLen at h2
  exact ⟨h1, h2⟩
set_option maxRecDepth 100000 in
set_option maxHeartbeats 8000000 in
theorem tunes_walk (W : World) (A : Option Addr) (c : Nat) (L : List PU) (hL : UAt W A c L) (h w x0 x1 : Int) (_bx0 : -9223372036854775808 ≤ x0 ∧ x0 ≤ 9223372036854775807) (_bx1 : -9223372036854775808 ≤ x1 ∧ x1 ≤ 9223372036854775807) : Calls Try.prog 7 #[.slice A L.length c, cbx h w, .agg #[.int .i64 x0, .int .i64 x1]] W fun e w' => e = .returned (.bool true) ∧ Below W.heap.size W w' := by
  obtain ⟨k1, k2⟩ := two_boxes W #[.int .i64 h, .int .i64 w] #[.int .i64 x0, .int .i64 x1] 24 47
  have hb2 : Below W.heap.size W ((W.alloc (.cells #[.int .i64 h, .int .i64 w] 24)).alloc (.cells #[.int .i64 x0, .int .i64 x1] 47)) := (below_box W _).alloc (by simp) _
  have hA := fun V (hV : Below W.heap.size W V) => (Least_ok A c L h w V (hL.below hV (Nat.le_refl _))).mono fun e w' h => keep_any h
  have hB := fun V (hV : Below W.heap.size W V) => (leastR_ok A c L h w V (hL.below hV (Nat.le_refl _))).mono fun e w' h => keep_any h
  have hC := fun V (hV : Below W.heap.size W V) => (Tune_ok A c L h w V (hL.below hV (Nat.le_refl _))).mono fun e w' h => two_any h
  have hD := fun V (hV : Below W.heap.size W V) => (tuneR_ok A c L h w V (hL.below hV (Nat.le_refl _))).mono fun e w' h => two_any h
  have hE := fun V => (Worst_ok h w x0 x1 V).mono fun e w' h => uses_any h
  have hF := fun V => (worstR_ok h w x0 x1 V).mono fun e w' h => uses_any h
  generalize numX (askV L h w) (leastV L h w) = n1 at *
  generalize numX (askV L h w) (tuneV L h w).1 = n2 at *
  generalize numX (askV L h w) (tuneV L h w).2 = n3 at *
  generalize keepX (askV L h w) (leastL h w (gapsV L) (gapsV L).length) = K at *
  generalize useX (worstE h w x0 x1) (worstL x0 x1.toNat) = G at *
  generalize worstE h w x0 x1 = z at *
  generalize askV L h w = y at *
  have hyy : (y == y) = true := by simp
  have hzz : (z == z) = true := by simp
  have hn1 : (n1 == n1) = true := by simp
  have hn2 : (n2 == n2) = true := by simp
  have hn3 : (n3 == n3) = true := by simp
  have hcm := hL.2.1
  unfold maxLen at hcm
  have hlc := hL.1
  have HX := Lib.hid (And.intro hb2 (And.intro k1 k2))
  have HA := Lib.hid hA
  have HB := Lib.hid hB
  have HC := Lib.hid hC
  have HD := Lib.hid hD
  have HE := Lib.hid hE
  have HF := Lib.hid hF
  have HFA := Lib.hid (fun V => far_ok V A c L.length 60)
  clear hb2 k1 k2 hA hB hC hD hE hF hL _bx0 _bx1
  generalize L.length = n at *
  go_enter Try.func7, Try.ntmps7
  go_upto_region 1 with (fail)
  generalize hV : (W.alloc (.cells #[.int .i64 h, .int .i64 w] 24)).alloc (.cells #[.int .i64 x0, .int .i64 x1] 47) = V at *
  have c0 : V.cell? ⟨W.heap.size, 0, none⟩ = some (.int .i64 h) := by rw [cell_of_row _ _ _ _ _ _ HX.out.2.1]; rfl
  have c1 : V.cell? ⟨W.heap.size, 1, none⟩ = some (.int .i64 w) := by rw [cell_of_row _ _ _ _ _ _ HX.out.2.1]; rfl
  have p0 : V.cell? ⟨W.heap.size + 1, 0, none⟩ = some (.int .i64 x0) := by rw [cell_of_row _ _ _ _ _ _ HX.out.2.2]; rfl
  have p1 : V.cell? ⟨W.heap.size + 1, 1, none⟩ = some (.int .i64 x1) := by rw [cell_of_row _ _ _ _ _ _ HX.out.2.2]; rfl
  clear hV
  have H1 := Lib.hid HX.out.1
  cases hf : farB n 60 with
  | true =>
    rw [hf] at HFA
    clear hf
    go_wp2_with (first | (go_at_call 11; refine (HFA.out _).mono ?_; rintro e w1 ⟨rfl, hw⟩; have hw := hw.symm; subst hw) | (go_at_call 12; refine (awake_ok _).mono ?_; rintro e w2 ⟨rfl, hb⟩; have HZ := Lib.hid hb; clear hb))
    go_ret
    exact ⟨rfl, H1.out.trans (HZ.out.mono H1.out.size)⟩
  | false =>
    rw [hf] at HFA
    clear hf
    go_upto_region 3 with (go_at_call 11; refine (HFA.out _).mono ?_; rintro e w1 ⟨rfl, hw⟩; have hw := hw.symm; subst hw)
    go_upto_region 4 with (go_at_call 15; refine (HA.out _ H1.out).mono ?_; rintro e w2 ⟨A2, d2, rfl, r2, hb2⟩)
    replace c0 := cell_keep2 hb2 c0
    replace c1 := cell_keep2 hb2 c1
    replace p0 := cell_keep2 hb2 p0
    replace p1 := cell_keep2 hb2 p1
    have H2 := Lib.hid (H1.out.trans (hb2.mono H1.out.size))
    clear hb2
    obtain ⟨q2, s2⟩ := iat_len r2
    have R2 := Lib.hid r2
    clear r2
    go_upto_region 5 with (go_at_call 23; refine (HB.out _ H2.out).mono ?_; rintro e w3 ⟨A3, d3, rfl, r3, hb3⟩)
    have r2 := R2.out.below hb3 (Nat.le_refl _)
    replace c0 := cell_keep2 hb3 c0
    replace c1 := cell_keep2 hb3 c1
    replace p0 := cell_keep2 hb3 p0
    replace p1 := cell_keep2 hb3 p1
    have H3 := Lib.hid (H2.out.trans (hb3.mono H2.out.size))
    clear hb3
    obtain ⟨q3, s3⟩ := iat_len r3
    have R3 := Lib.hid (And.intro r2 r3)
    clear r2 r3 R2
    go_upto_region 6 with (go_at_call 18; refine (HC.out _ H3.out).mono ?_; rintro e w4 ⟨rfl, hb4⟩)
    have r4 := And.intro (R3.out.1.below hb4 (Nat.le_refl _)) (R3.out.2.below hb4 (Nat.le_refl _))
    replace c0 := cell_keep2 hb4 c0
    replace c1 := cell_keep2 hb4 c1
    replace p0 := cell_keep2 hb4 p0
    replace p1 := cell_keep2 hb4 p1
    have H4 := Lib.hid (H3.out.trans (hb4.mono H3.out.size))
    clear hb4
    have R4 := Lib.hid r4
    clear r4
    go_upto_region 7 with (go_at_call 24; refine (HD.out _ H4.out).mono ?_; rintro e w5 ⟨rfl, hb5⟩)
    have r5 := And.intro (R4.out.1.below hb5 (Nat.le_refl _)) (R4.out.2.below hb5 (Nat.le_refl _))
    replace c0 := cell_keep2 hb5 c0
    replace c1 := cell_keep2 hb5 c1
    replace p0 := cell_keep2 hb5 p0
    replace p1 := cell_keep2 hb5 p1
    have H5 := Lib.hid (H4.out.trans (hb5.mono H4.out.size))
    clear hb5
    have R5 := Lib.hid r5
    clear r5
    go_upto_region 8 with (go_at_call 25; refine (HE.out _).mono ?_; rintro e w6 ⟨A6, d6, rfl, u6, hb6⟩)
    have r6 := And.intro (R5.out.1.below hb6 (Nat.le_refl _)) (R5.out.2.below hb6 (Nat.le_refl _))
    replace c0 := cell_keep2 hb6 c0
    replace c1 := cell_keep2 hb6 c1
    replace p0 := cell_keep2 hb6 p0
    replace p1 := cell_keep2 hb6 p1
    have H6 := Lib.hid (H5.out.trans (hb6.mono H5.out.size))
    clear hb6
    have q6 := u6.1
    have s6 := u6.2.1
    unfold maxLen at s6
    have R6 := Lib.hid (And.intro r6 u6)
    clear r6 u6
    go_upto_region 9 with (go_at_call 26; refine (HF.out _).mono ?_; rintro e w7 ⟨A7, d7, rfl, u7, hb7⟩)
    have r7 := And.intro (R6.out.1.1.below hb7 (Nat.le_refl _)) (And.intro (R6.out.1.2.below hb7 (Nat.le_refl _)) (R6.out.2.below hb7 (Nat.le_refl _)))
    replace c0 := cell_keep2 hb7 c0
    replace c1 := cell_keep2 hb7 c1
    replace p0 := cell_keep2 hb7 p0
    replace p1 := cell_keep2 hb7 p1
    have H7 := Lib.hid (H6.out.trans (hb7.mono H6.out.size))
    clear hb7
    have q7 := u7.1
    have s7 := u7.2.1
    unfold maxLen at s7
    have hi := ints_zs r7.1 r7.2.1
    have R7 := Lib.hid (And.intro r7 (And.intro u7 hi))
    clear r7 u7 hi c0 c1 p0 p1
    go_wp2_with (go_at_call 27; refine R7.out.2.2.mono ?_; rintro e w8 ⟨rfl, hb8⟩; have H8 := Lib.hid (And.intro hb8 (H7.out.trans (hb8.mono H7.out.size))); clear hb8)
    have hu := uses_same (w := w8) (R7.out.1.2.2.below H8.out.1 (Nat.le_refl _)) (R7.out.2.1.below H8.out.1 (Nat.le_refl _))
    have HU := Lib.hid hu
    clear hu
    go_wp2_with (first | (go_at_call 28; refine HU.out.mono ?_; rintro e w9 ⟨rfl, hb9⟩; have H9 := Lib.hid (H8.out.2.trans (hb9.mono H8.out.2.size)); clear hb9) | (go_at_call 12; refine (awake_ok _).mono ?_; rintro e w10 ⟨rfl, hb⟩; have HZ := Lib.hid (H9.out.trans (hb.mono H9.out.size)); clear hb))
    go_ret
    exact ⟨rfl, HZ.out⟩
end Py
end Go.Proofs.Ytnkkhbmbbkmfhaa
