/- PolicyChecks: the walk. -/
import Derived.Test.YtnkkhbmbbkmfhaaJL2
namespace Go.Proofs.Ytnkkhbmbbkmfhaa
open Go.RowKit Go.Sort Go.Lib
namespace Py

theorem gaps_same {w : World} {A B : Option Addr} {c d : Nat} {M : List PU} (hM : UAt w A c M) (hN : UAt w B d M) : Calls Try.prog 22 #[.slice A M.length c, .slice B M.length d] w fun e w' => e = .returned (.bool true) ∧ Below w.heap.size w w' :=
  (gaps_self w A B c d M hM hN).mono fun e w' ⟨h1, q, h2⟩ => ⟨h1, by rw [h2]; exact below_drewN (Below.refl _ _) q⟩
theorem uses_same {w : World} {A B : Option Addr} {c d : Nat} {M : List PU} (hM : UAt w A c M) (hN : UAt w B d M) : Calls Try.prog 28 #[.slice A M.length c, .slice B M.length d] w fun e w' => e = .returned (.bool true) ∧ Below w.heap.size w w' :=
  (uses_self w A B c d M hM hN).mono fun e w' ⟨h1, q, h2⟩ => ⟨h1, by rw [h2]; exact below_drewN (Below.refl _ _) q⟩
theorem ints_same {w : World} {A B : Option Addr} {c d : Nat} {M : List Int} (hM : IAt w A c M) (hN : IAt w B d M) : Calls Try.prog 27 #[.slice A M.length c, .slice B M.length d] w fun e w' => e = .returned (.bool true) ∧ Below w.heap.size w w' :=
  (ints_self w A B c d M hM hN).mono fun e w' ⟨h1, q, h2⟩ => ⟨h1, by rw [h2]; exact below_drewN (Below.refl _ _) q⟩
/-- What Gaps hands back, whatever the trace. -/
def gapsX (L : List PU) : List PU := if checkV L = 0 then gapsV L else []
theorem gaps_any {w w' : World} {L : List PU} {e : Ending} (h : GapsOut w L e w') : ∃ A c, e = .returned (.tuple #[.slice A (gapsX L).length c, .int .i64 (checkV L)]) ∧ UAt w' A c (gapsX L) ∧ Below w.heap.size w w' := by
  unfold gapsX
  by_cases hv : checkV L = 0
  · obtain ⟨A, c, h1, h2⟩ := h.2.1 hv
    rw [if_pos hv, hv]
    exact ⟨A, c, h1, uat_e.2 h2, h.2.2⟩
  · rw [if_neg hv]
    exact ⟨none, 0, h.1 hv, uat_nil _, h.2.2⟩
theorem checkR_any {V w' : World} {L : List PU} {e : Ending} (h : e = .returned (.int .i64 (checkV L)) ∧ ∃ q, w' = V.drewN q) : e = .returned (.int .i64 (checkV L)) ∧ Below V.heap.size V w' := by
  obtain ⟨h1, q, h2⟩ := h
  exact ⟨h1, by rw [h2]; exact below_drewN (Below.refl _ _) q⟩
set_option maxRecDepth 100000 in
set_option maxHeartbeats 8000000 in
theorem checks_walk (W : World) (A : Option Addr) (c : Nat) (L : List PU) (hL : UAt W A c L) : Calls Try.prog 6 #[.slice A L.length c] W fun e w' => e = .returned (.bool true) ∧ Below W.heap.size W w' := by
  have hA := fun V (hV : Below W.heap.size W V) => (Gaps_ok A c L V (hL.below hV (Nat.le_refl _))).mono fun e w' h => gaps_any h
  have hB := fun V (hV : Below W.heap.size W V) => (GapsR_ok A c L V (hL.below hV (Nat.le_refl _))).mono fun e w' h => gaps_any h
  have hC := fun V (hV : Below W.heap.size W V) => Check_ok A c L V (hL.below hV (Nat.le_refl _))
  have hD := fun V (hV : Below W.heap.size W V) => (checkR_ok A c L V (hL.below hV (Nat.le_refl _))).mono fun e w' h => checkR_any h
  generalize checkV L = y at *
  generalize gapsX L = G at *
  have hyy : (y == y) = true := by simp
  have hcm := hL.2.1
  unfold maxLen at hcm
  have hlc := hL.1
  have HX := Lib.hid (And.intro hA (And.intro hB (And.intro hC hD)))
  have HFA := Lib.hid (fun V => far_ok V A c L.length 210)
  clear hA hB hC hD hL
  generalize L.length = n at *
  cases hf : farB n 210 with
  | true =>
    rw [hf] at HFA
    clear hf
    go_enter Try.func6, Try.ntmps6
    go_wp2_with (first | (go_at_call 11; refine (HFA.out _).mono ?_; rintro e w1 ⟨rfl, hw⟩; have hw := hw.symm; subst hw) | (go_at_call 12; refine (awake_ok _).mono ?_; rintro e w2 ⟨rfl, hb⟩; have HB := Lib.hid hb; clear hb))
    go_ret
    exact ⟨rfl, HB.out⟩
  | false =>
    rw [hf] at HFA
    clear hf
    go_enter Try.func6, Try.ntmps6
    go_wp2_with (first | (go_at_call 11; refine (HFA.out _).mono ?_; rintro e w1 ⟨rfl, hw⟩; have hw := hw.symm; subst hw) | (go_at_call 19; refine (HX.out.1 _ (Below.refl _ _)).mono ?_; rintro e w2 ⟨A2, c2, rfl, hg2, hb2⟩; have H2 := Lib.hid (And.intro hg2 hb2); clear hg2 hb2))
    go_wp2_with (go_at_call 20; refine (HX.out.2.1 _ H2.out.2).mono ?_; rintro e w3 ⟨A3, c3, rfl, hg3, hb3⟩; have H3 := Lib.hid (And.intro hg3 (And.intro hb3 (H2.out.2.trans (hb3.mono H2.out.2.size)))); clear hg3 hb3)
    go_wp2_with (go_at_call 21; refine (HX.out.2.2.1 _ H3.out.2.2).mono ?_; rintro e w4 ⟨rfl, hb4⟩; have H4 := Lib.hid (And.intro hb4 (H3.out.2.2.trans (hb4.mono H3.out.2.2.size))); clear hb4)
    go_wp2_with (go_at_call 16; refine (HX.out.2.2.2 _ H4.out.2).mono ?_; rintro e w5 ⟨rfl, hb5⟩; have H5 := Lib.hid (And.intro (H4.out.1.trans (hb5.mono H4.out.1.size)) (H4.out.2.trans (hb5.mono H4.out.2.size))); clear hb5)
    have hgs := gaps_same (w := w5) ((H2.out.1.below H3.out.2.1 (Nat.le_refl _)).below H5.out.1 (Nat.le_refl _)) (H3.out.1.below H5.out.1 (Nat.le_refl _))
    have HG := Lib.hid hgs
    clear hgs
    go_wp2_with (go_at_call 22; refine HG.out.mono ?_; rintro e w6 ⟨rfl, hb6⟩; have H6 := Lib.hid (H5.out.2.trans (hb6.mono H5.out.2.size)); clear hb6)
    go_wp2_with (go_at_call 12; refine (awake_ok _).mono ?_; rintro e w7 ⟨rfl, hb7⟩; have H7 := Lib.hid (H6.out.trans (hb7.mono H6.out.size)); clear hb7)
    go_ret
    exact ⟨rfl, H7.out⟩
end Py
end Go.Proofs.Ytnkkhbmbbkmfhaa
