/- OfflineBest: the walk. -/
import Derived.Test.YtjgakcpjphdicaaK36
namespace Go.Proofs.Ytjgakcpjphdicaa
open Go.RowKit
namespace Of

theorem same_nil (w : World) : Calls Try.prog 14 #[.slice none 0 0, .slice none 0 0] w fun e w' => e = .returned (.bool true) ∧ Below w.heap.size w w' := by
  have h := same_ok w none none 0 0 [] [] (iat_nil w) (iat_nil w)
  rw [show decide (([] : List Int) = []) = true from rfl] at h
  exact h.mono fun e w' ⟨h1, q, h2⟩ => ⟨h1, by rw [h2]; exact below_drewN (Below.refl _ _) q⟩
theorem ints_nil (w : World) : Calls Try.prog 15 #[.slice none 0 0, .slice none 0 0] w fun e w' => e = .returned (.bool true) ∧ Below w.heap.size w w' := by
  have h := ints_ok w none none 0 0 [] [] (iat_nil w) (iat_nil w)
  rw [show decide (([] : List Int) = []) = true from rfl] at h
  exact h.mono fun e w' ⟨h1, q, h2⟩ => ⟨h1, by rw [h2]; exact below_drewN (Below.refl _ _) q⟩
theorem same_self (w : World) (A B : Option Addr) (c d n : Nat) (M : List Int) (hn : M.length = n) (hM : IAt w A c M) (hN : IAt w B d M) : Calls Try.prog 14 #[.slice A n c, .slice B n d] w fun e w' => e = .returned (.bool true) ∧ Below w.heap.size w w' := by
  have h := same_ok w A B c d M M hM hN
  rw [show decide (M = M) = true from by simp, hn] at h
  exact h.mono fun e w' ⟨h1, q, h2⟩ => ⟨h1, by rw [h2]; exact below_drewN (Below.refl _ _) q⟩
theorem ints_self (w : World) (A B : Option Addr) (c d n : Nat) (M : List Int) (hn : M.length = n) (hM : IAt w A c M) (hN : IAt w B d M) : Calls Try.prog 15 #[.slice A n c, .slice B n d] w fun e w' => e = .returned (.bool true) ∧ Below w.heap.size w w' := by
  have h := ints_ok w A B c d M M hM hN
  rw [show decide (M = M) = true from by simp, hn] at h
  exact h.mono fun e w' ⟨h1, q, h2⟩ => ⟨h1, by rw [h2]; exact below_drewN (Below.refl _ _) q⟩
set_option maxRecDepth 100000 in
set_option maxHeartbeats 8000000 in
theorem bestl_walk (W : World) (A : Option Addr) (c : Nat) (L : List OB) (hL : OBAt W A c L) : Calls Try.prog 3 #[.slice A L.length c] W fun e w' => e = .returned (.bool true) ∧ Below W.heap.size W w' := by
  have hcap := hL.2.1
  have hlc := hL.1
  unfold maxLen at hcap
  have HL := Lib.hid hL
  clear hL
  by_cases h8 : L.length = 8
  · have h9 : ((L.length : Int) == 8) = true := by rw [h8]; rfl
    go_enter Try.func3, Try.ntmps3
    go_wp2_with (go_at_call 11; refine (shown_ok _).mono ?_; rintro e w1 ⟨rfl, b1⟩; have B1 := Lib.hid b1; clear b1)
    go_ret
    exact ⟨rfl, B1.out⟩
  · have h9 : ((L.length : Int) == 8) = false := by simp; omega
    by_cases h6 : 600 < L.length
    · go_enter Try.func3, Try.ntmps3
      go_wp2_with (go_at_call 11; refine (shown_ok _).mono ?_; rintro e w1 ⟨rfl, b1⟩; have B1 := Lib.hid b1; clear b1)
      go_ret
      exact ⟨rfl, B1.out⟩
    · have H8 := Lib.hid h8
      clear h8
      by_cases hv : checkV L = 0
      · by_cases hb : 8 < L.length
        · have hA := fun W1 (h : Below W.heap.size W W1) => (Best_ok W1 A c L (HL.out.below h (Nat.le_refl _))).mono fun e w' h => h.long hv hb
          have hB := fun W1 (h : Below W.heap.size W W1) => (BestR_ok W1 A c L (HL.out.below h (Nat.le_refl _))).mono fun e w' h => h.long hv hb
          have HA := Lib.hid hA
          have HB := Lib.hid hB
          clear hA hB
          go_enter Try.func3, Try.ntmps3
          go_wp2_with (go_at_call 12; refine (HA.out _ (Below.refl _ _)).mono ?_; rintro e w1 ⟨rfl, b1⟩; have B1 := Lib.hid b1; clear b1)
          go_wp2_with (go_at_call 13; refine (HB.out _ B1.out).mono ?_; rintro e w2 ⟨rfl, b2⟩; have B2 := Lib.hid (B1.out.trans (b2.mono B1.out.size)); clear b2)
          go_wp2_with (go_at_call 14; refine (same_nil _).mono ?_; rintro e w3 ⟨rfl, b3⟩; have B3 := Lib.hid (B2.out.trans (b3.mono B2.out.size)); clear b3)
          go_wp2_with (first | (go_at_call 15; refine (ints_nil _).mono ?_; rintro e w4 ⟨rfl, b4⟩; have B4 := Lib.hid (B3.out.trans (b4.mono B3.out.size)); clear b4) | (go_at_call 11; refine (shown_ok _).mono ?_; rintro e w5 ⟨rfl, b5⟩; have B5 := Lib.hid (B4.out.trans (b5.mono B4.out.size)); clear b5))
          go_ret
          exact ⟨rfl, B5.out⟩
        · have hO := (bestV_spec L).2.2.1
          have hA := fun W1 (h : Below W.heap.size W W1) => (Best_ok W1 A c L (HL.out.below h (Nat.le_refl _))).mono fun e w' h => h.yes hv (by omega)
          have hB := fun W1 (h : Below W.heap.size W W1) => (BestR_ok W1 A c L (HL.out.below h (Nat.le_refl _))).mono fun e w' h => h.yes hv (by omega)
          have HA := Lib.hid hA
          have HB := Lib.hid hB
          have hll := lays_len L (bestV L)
          have HLL := Lib.hid (And.intro hll (show (zsP (bestV L)).length = L.length by rw [List.length_map]; exact hO))
          clear hA hB hO hll
          go_enter Try.func3, Try.ntmps3
          go_wp2_with (go_at_call 12; refine (HA.out _ (Below.refl _ _)).mono ?_; rintro e w1 ⟨g1, A1, c1, rfl, r1, o1, b1⟩; have B1 := Lib.hid b1; have R1 := Lib.hid (And.intro r1 o1); clear b1 r1 o1)
          go_wp2_with (go_at_call 13; refine (HB.out _ B1.out).mono ?_; rintro e w2 ⟨g2, A2, c2, rfl, r2, o2, b2⟩; have B2 := Lib.hid (B1.out.trans (b2.mono B1.out.size)); have R2 := Lib.hid (And.intro r2 (And.intro o2 b2)); clear b2 r2 o2)
          have i1 := ((R1.out.1.at (by rw [HLL.out.1]; unfold maxLen; omega)).below R2.out.2.2 (Nat.le_refl _))
          have i2 := R2.out.1.at (by rw [HLL.out.1]; unfold maxLen; omega)
          rw [HLL.out.1] at i1 i2
          have hs := same_self w2 _ _ _ _ L.length (lays L (bestV L)).A HLL.out.1 i1 i2
          have ho := fun w3 (h : Below w2.heap.size w2 w3) => ints_self w3 A1 A2 c1 c2 L.length (zsP (bestV L)) HLL.out.2 ((R1.out.2.below R2.out.2.2 (Nat.le_refl _)).below h (Nat.le_refl _)) (R2.out.2.1.below h (Nat.le_refl _))
          have HS := Lib.hid hs
          have HO := Lib.hid ho
          clear i1 i2 hs ho
          go_wp2_with (go_at_call 14; refine HS.out.mono ?_; rintro e w3 ⟨rfl, b3⟩; have B3 := Lib.hid (And.intro b3 (B2.out.trans (b3.mono B2.out.size))); clear b3)
          go_wp2_with (first | (go_at_call 15; refine (HO.out _ B3.out.1).mono ?_; rintro e w4 ⟨rfl, b4⟩; have B4 := Lib.hid (B3.out.2.trans (b4.mono B3.out.2.size)); clear b4) | (go_at_call 11; refine (shown_ok _).mono ?_; rintro e w5 ⟨rfl, b5⟩; have B5 := Lib.hid (B4.out.trans (b5.mono B4.out.size)); clear b5))
          go_ret
          exact ⟨rfl, B5.out⟩
      · have hA := fun W1 (h : Below W.heap.size W W1) => (Best_ok W1 A c L (HL.out.below h (Nat.le_refl _))).mono fun e w' h => h.bad hv
        have hB := fun W1 (h : Below W.heap.size W W1) => (BestR_ok W1 A c L (HL.out.below h (Nat.le_refl _))).mono fun e w' h => h.bad hv
        have HA := Lib.hid hA
        have HB := Lib.hid hB
        clear hA hB hv
        generalize checkV L = e0 at *
        go_enter Try.func3, Try.ntmps3
        go_wp2_with (go_at_call 12; refine (HA.out _ (Below.refl _ _)).mono ?_; rintro e w1 ⟨rfl, b1⟩; have B1 := Lib.hid b1; clear b1)
        go_wp2_with (go_at_call 13; refine (HB.out _ B1.out).mono ?_; rintro e w2 ⟨rfl, b2⟩; have B2 := Lib.hid (B1.out.trans (b2.mono B1.out.size)); clear b2)
        go_wp2_with (go_at_call 14; refine (same_nil _).mono ?_; rintro e w3 ⟨rfl, b3⟩; have B3 := Lib.hid (B2.out.trans (b3.mono B2.out.size)); clear b3)
        go_wp2_with (first | (go_at_call 15; refine (ints_nil _).mono ?_; rintro e w4 ⟨rfl, b4⟩; have B4 := Lib.hid (B3.out.trans (b4.mono B3.out.size)); clear b4) | (go_at_call 11; refine (shown_ok _).mono ?_; rintro e w5 ⟨rfl, b5⟩; have B5 := Lib.hid (B4.out.trans (b5.mono B4.out.size)); clear b5))
        go_ret
        exact ⟨rfl, B5.out⟩
end Of
end Go.Proofs.Ytjgakcpjphdicaa
