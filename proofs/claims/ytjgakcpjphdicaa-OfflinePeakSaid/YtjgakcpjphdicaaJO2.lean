/- OfflinePeak: the walk. -/
import Derived.Test.YtjgakcpjphdicaaK36
namespace Go.Proofs.Ytjgakcpjphdicaa
open Go.RowKit
namespace Of

set_option maxRecDepth 100000 in
set_option maxHeartbeats 8000000 in
theorem peak_walk (W : World) (A : Option Addr) (c : Nat) (L : List OB) (hL : OBAt W A c L) (t : Int) : Calls Try.prog 7 #[.slice A L.length c, .int .i64 t] W fun e w' => e = .returned (.bool true) ∧ Below W.heap.size W w' := by
  have hcap := hL.2.1
  have hlc := hL.1
  unfold maxLen at hcap
  have HL := Lib.hid hL
  clear hL
  by_cases h6 : 600 < L.length
  · go_enter Try.func7, Try.ntmps7
    go_wp2_with (go_at_call 11; refine (shown_ok _).mono ?_; rintro e w1 ⟨rfl, b1⟩; have B1 := Lib.hid b1; clear b1)
    go_ret
    exact ⟨rfl, B1.out⟩
  · go_enter Try.func7, Try.ntmps7
    go_wp2_with (go_at_call 24; refine (Load_ok _ _ _ _ _ HL.out).mono ?_; rintro e w1 ⟨rfl, b1⟩; have B1 := Lib.hid b1; clear b1)
    have H1 := Lib.hid (HL.out.below B1.out (Nat.le_refl _))
    go_wp2_with (go_at_call 25; refine (LoadR_ok _ _ _ _ _ H1.out).mono ?_; rintro e w2 ⟨rfl, b2⟩; have B2 := Lib.hid (B1.out.trans (b2.mono B1.out.size)); clear b2)
    have H2 := Lib.hid (HL.out.below B2.out (Nat.le_refl _))
    go_wp2_with (go_at_call 21; refine (Peak_ok _ _ _ _ H2.out).mono ?_; rintro e w3 ⟨rfl, b3⟩; have B3 := Lib.hid (B2.out.trans (b3.mono B2.out.size)); clear b3)
    have H3 := Lib.hid (HL.out.below B3.out (Nat.le_refl _))
    go_wp2_with (go_at_call 26; refine (PeakR_ok _ _ _ _ H3.out).mono ?_; rintro e w4 ⟨rfl, b4⟩; have B4 := Lib.hid (B3.out.trans (b4.mono B3.out.size)); clear b4)
    have H4 := Lib.hid (HL.out.below B4.out (Nat.le_refl _))
    go_wp2_with (go_at_call 27; refine (check_ok _ _ _ _ H4.out).mono ?_; rintro e w5 ⟨rfl, b5⟩; have B5 := Lib.hid (B4.out.trans (b5.mono B4.out.size)); clear b5)
    have H5 := Lib.hid (HL.out.below B5.out (Nat.le_refl _))
    go_wp2_with (first | (go_at_call 20; refine (checkR_ok _ _ _ _ H5.out).mono ?_; rintro e w6 ⟨rfl, b6⟩; have B6 := Lib.hid (B5.out.trans (b6.mono B5.out.size)); clear b6) | (go_at_call 11; refine (shown_ok _).mono ?_; rintro e w7 ⟨rfl, b7⟩; have B7 := Lib.hid (B6.out.trans (b7.mono B6.out.size)); clear b7))
    go_ret
    exact ⟨rfl, B7.out⟩
end Of
end Go.Proofs.Ytjgakcpjphdicaa
