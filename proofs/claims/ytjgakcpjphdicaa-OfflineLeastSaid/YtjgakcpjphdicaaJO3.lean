/- OfflineValid: the walk. -/
import Derived.Test.YtjgakcpjphdicaaK36
import Derived.Test.YtjgakcpjphdicaaK38
namespace Go.Proofs.Ytjgakcpjphdicaa
open Go.RowKit
namespace Of

set_option maxRecDepth 100000 in
set_option maxHeartbeats 8000000 in
theorem valid_walk (W : World) (A : Option Addr) (c : Nat) (L : List OB) (hL : OBAt W A c L) (B : Option Addr) (d : Nat) (M : List Int) (hM : IAt W B d M) : Calls Try.prog 4 #[.slice A L.length c, .slice B M.length d] W fun e w' => e = .returned (.bool true) ∧ Below W.heap.size W w' := by
  have hcap := hL.2.1
  have hlc := hL.1
  have hcap2 := hM.2.1
  have hlc2 := hM.1
  unfold maxLen at hcap hcap2
  have HL := Lib.hid (And.intro hL hM)
  clear hL hM
  by_cases h1 : (100 < L.length ∧ L.length ≤ 500) ∨ 600 < L.length ∨ 600 < M.length
  · by_cases a1 : 100 < L.length
    · by_cases a2 : L.length ≤ 500
      · go_enter Try.func4, Try.ntmps4
        go_wp2_with (go_at_call 11; refine (shown_ok _).mono ?_; rintro e w1 ⟨rfl, b1⟩; have B1 := Lib.hid b1; clear b1)
        go_ret
        exact ⟨rfl, B1.out⟩
      · by_cases a3 : 600 < L.length
        · go_enter Try.func4, Try.ntmps4
          go_wp2_with (go_at_call 11; refine (shown_ok _).mono ?_; rintro e w1 ⟨rfl, b1⟩; have B1 := Lib.hid b1; clear b1)
          go_ret
          exact ⟨rfl, B1.out⟩
        · have a4 : 600 < M.length := by omega
          go_enter Try.func4, Try.ntmps4
          go_wp2_with (go_at_call 11; refine (shown_ok _).mono ?_; rintro e w1 ⟨rfl, b1⟩; have B1 := Lib.hid b1; clear b1)
          go_ret
          exact ⟨rfl, B1.out⟩
    · have a3 : ¬ 600 < L.length := by omega
      have a4 : 600 < M.length := by omega
      go_enter Try.func4, Try.ntmps4
      go_wp2_with (go_at_call 11; refine (shown_ok _).mono ?_; rintro e w1 ⟨rfl, b1⟩; have B1 := Lib.hid b1; clear b1)
      go_ret
      exact ⟨rfl, B1.out⟩
  · have a3 : ¬ 600 < L.length := by omega
    have a4 : ¬ 600 < M.length := by omega
    have hA := fun W1 (hb : Below W.heap.size W W1) => Valid_ok W1 A c L B d M (HL.out.1.below hb (Nat.le_refl _)) (HL.out.2.below hb (Nat.le_refl _)) (by omega)
    have hB := fun W1 (hb : Below W.heap.size W W1) => ValidR_ok W1 A c L B d M (HL.out.1.below hb (Nat.le_refl _)) (HL.out.2.below hb (Nat.le_refl _))
    have hC := fun W1 (hb : Below W.heap.size W W1) => Waste_ok W1 A c L B d M (HL.out.1.below hb (Nat.le_refl _)) (HL.out.2.below hb (Nat.le_refl _)) (by omega)
    have hD := fun W1 (hb : Below W.heap.size W W1) => WasteR_ok W1 A c L B d M (HL.out.1.below hb (Nat.le_refl _)) (HL.out.2.below hb (Nat.le_refl _))
    have HH := Lib.hid (And.intro hA (And.intro hB (And.intro hC hD)))
    clear hA hB hC hD
    generalize validRes L M = r at *
    generalize wasteRes L M = q at *
    obtain ⟨r1, r2, r3⟩ := r
    obtain ⟨q1, q2⟩ := q
    dsimp only at HH
    by_cases a1 : 100 < L.length
    · have a2 : ¬ L.length ≤ 500 := by omega
      go_enter Try.func4, Try.ntmps4
      go_wp2_with (go_at_call 16; refine (HH.out.1 _ (Below.refl _ _)).mono ?_; rintro e w1 ⟨rfl, b1⟩; have B1 := Lib.hid b1; clear b1)
      go_wp2_with (go_at_call 17; refine (HH.out.2.1 _ B1.out).mono ?_; rintro e w2 ⟨rfl, b2⟩; have B2 := Lib.hid (B1.out.trans (b2.mono B1.out.size)); clear b2)
      go_wp2_with (go_at_call 18; refine (HH.out.2.2.1 _ B2.out).mono ?_; rintro e w3 ⟨rfl, b3⟩; have B3 := Lib.hid (B2.out.trans (b3.mono B2.out.size)); clear b3)
      go_wp2_with (go_at_call 19; refine (HH.out.2.2.2 _ B3.out).mono ?_; rintro e w4 ⟨rfl, b4⟩; have B4 := Lib.hid (B3.out.trans (b4.mono B3.out.size)); clear b4)
      go_wp2_with (go_at_call 11; refine (shown_ok _).mono ?_; rintro e w5 ⟨rfl, b5⟩; have B5 := Lib.hid (B4.out.trans (b5.mono B4.out.size)); clear b5)
      go_ret
      exact ⟨rfl, B5.out⟩
    · go_enter Try.func4, Try.ntmps4
      go_wp2_with (go_at_call 16; refine (HH.out.1 _ (Below.refl _ _)).mono ?_; rintro e w1 ⟨rfl, b1⟩; have B1 := Lib.hid b1; clear b1)
      go_wp2_with (go_at_call 17; refine (HH.out.2.1 _ B1.out).mono ?_; rintro e w2 ⟨rfl, b2⟩; have B2 := Lib.hid (B1.out.trans (b2.mono B1.out.size)); clear b2)
      go_wp2_with (go_at_call 18; refine (HH.out.2.2.1 _ B2.out).mono ?_; rintro e w3 ⟨rfl, b3⟩; have B3 := Lib.hid (B2.out.trans (b3.mono B2.out.size)); clear b3)
      go_wp2_with (go_at_call 19; refine (HH.out.2.2.2 _ B3.out).mono ?_; rintro e w4 ⟨rfl, b4⟩; have B4 := Lib.hid (B3.out.trans (b4.mono B3.out.size)); clear b4)
      go_wp2_with (go_at_call 11; refine (shown_ok _).mono ?_; rintro e w5 ⟨rfl, b5⟩; have B5 := Lib.hid (B4.out.trans (b5.mono B4.out.size)); clear b5)
      go_ret
      exact ⟨rfl, B5.out⟩
end Of
end Go.Proofs.Ytjgakcpjphdicaa
