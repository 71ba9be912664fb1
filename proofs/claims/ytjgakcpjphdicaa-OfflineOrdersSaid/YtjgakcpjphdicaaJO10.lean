/- OfflineOrders: the walk. -/
import Derived.Test.YtjgakcpjphdicaaJO9
import Derived.Test.YtjgakcpjphdicaaJO8
import Derived.Test.YtjgakcpjphdicaaK38
import Derived.Test.YtjgakcpjphdicaaK13
namespace Go.Proofs.Ytjgakcpjphdicaa
open Go.RowKit
namespace Of

theorem Laid.open {w w' : World} {L : List OB} {o : List Nat} {e : Ending} (hL : L.length ≤ 500) (h : Laid w L o e w') : ∃ ga, e = .returned (.tuple #[.slice (some ⟨ga, 0, none⟩) L.length L.length, .int .i64 (topOf L o), .int .i64 0]) ∧ IAt w' (some ⟨ga, 0, none⟩) L.length (lays L o).A ∧ Below w.heap.size w w' := by
  obtain ⟨ga, rfl, h1, h2, h3⟩ := h
  have hl := lays_len L o
  refine ⟨ga, rfl, ?_, h3⟩
  have := h1.at (by rw [hl]; unfold maxLen; omega)
  rw [hl] at this
  exact this
theorem laid_two {W : World} {A : Option Addr} {c : Nat} {L : List OB} (hL : OBAt W A c L) (hv : checkV L = 0) {o : List Nat} (hO : Ord L.length o) (hl : o.length = L.length) :
    ∀ W1, Below W.heap.size W W1 → ∀ g, IAt W1 (some ⟨g, 0, none⟩) L.length (lays L o).A →
      (Calls Try.prog 17 #[.slice A L.length c, .slice (some ⟨g, 0, none⟩) L.length L.length] W1 fun e w' => e = .returned (.tuple #[.bool true, .int .i64 (topOf L o), .int .i64 0]) ∧ Below W1.heap.size W1 w') ∧
      (Calls Try.prog 31 #[.slice A L.length c, .slice (some ⟨g, 0, none⟩) L.length L.length, .int .i64 (topOf L o)] W1 fun e w' => e = .returned (.bool true) ∧ Below W1.heap.size W1 w') := by
  intro W1 hb g hi
  have hvl := lays_valid hv hO hl
  have h1 := ValidR_ok W1 A c L _ L.length (lays L o).A (hL.below hb (Nat.le_refl _)) hi
  have h2 := lower_ok W1 A c L (hL.below hb (Nat.le_refl _)) _ L.length (lays L o).A hi _ hvl
  rw [hvl, lays_len] at h1
  rw [lays_len] at h2
  exact ⟨h1, h2⟩

set_option maxRecDepth 100000 in
set_option maxHeartbeats 8000000 in
theorem orders_walk (W : World) (A : Option Addr) (c : Nat) (L : List OB) (hL : OBAt W A c L) (B : Option Addr) (d : Nat) (M : List Int) (hM : IAt W B d M) : Calls Try.prog 10 #[.slice A L.length c, .slice B M.length d] W fun e w' => e = .returned (.bool true) ∧ Below W.heap.size W w' := by
  have hcap := hL.2.1
  have hlc := hL.1
  have hcap2 := hM.2.1
  have hlc2 := hM.1
  unfold maxLen at hcap hcap2
  have hck := checkR_ok A c L W hL
  have HL := Lib.hid (And.intro hL hM)
  clear hL hM
  by_cases a1 : 60 < L.length
  · clear hck
    go_enter Try.func10, Try.ntmps10
    go_wp2_with (go_at_call 11; refine (shown_ok _).mono ?_; rintro e w1 ⟨rfl, b1⟩; have B1 := Lib.hid b1; clear b1)
    go_ret
    exact ⟨rfl, B1.out⟩
  · by_cases a2 : 600 < M.length
    · clear hck
      go_enter Try.func10, Try.ntmps10
      go_wp2_with (go_at_call 11; refine (shown_ok _).mono ?_; rintro e w1 ⟨rfl, b1⟩; have B1 := Lib.hid b1; clear b1)
      go_ret
      exact ⟨rfl, B1.out⟩
    · by_cases hv : checkV L = 0
      · rw [hv] at hck
        have HC := Lib.hid hck
        obtain ⟨hO, hl⟩ := qord_ord L L.length
        have hQ := fun W1 (hb : Below W.heap.size W W1) => (Quick_ok W1 A c L (HL.out.1.below hb (Nat.le_refl _)) (fun _ => stabS_all (by omega))).mono fun e w' h => (h.2 hv).open (by omega)
        have hR := fun W1 (hb : Below W.heap.size W W1) => orderR_ok W1 B d M L.length (HL.out.2.below hb (Nat.le_refl _)) (by omega)
        have h2 := laid_two HL.out.1 hv hO hl
        have HH := Lib.hid (And.intro hQ (And.intro hR h2))
        clear hck hQ hR h2 hO hl
        generalize (lays L (qord L L.length)).A = Z at *
        generalize topOf L (qord L L.length) = T at *
        cases ho : isOrd L.length M with
        | false =>
          rw [ho] at HH
          clear ho
          go_enter Try.func10, Try.ntmps10
          go_wp2_with (go_at_call 20; refine HC.out.mono ?_; rintro e w1 ⟨rfl, b1⟩; have B1 := Lib.hid b1; clear b1)
          go_wp2_with (go_at_call 23; refine (HH.out.1 _ B1.out).mono ?_; rintro e w2 ⟨g2, rfl, i2, b2⟩; have B2 := Lib.hid (And.intro i2 (B1.out.trans (b2.mono B1.out.size))); clear i2 b2)
          go_wp2_with (go_at_call 17; refine ((HH.out.2.2 _ B2.out.2 g2 B2.out.1).1).mono ?_; rintro e w3 ⟨rfl, b3⟩; have B3 := Lib.hid (And.intro (B2.out.1.below b3 (Nat.le_refl _)) (B2.out.2.trans (b3.mono B2.out.2.size))); clear b3)
          go_wp2_with (go_at_call 31; refine ((HH.out.2.2 _ B3.out.2 g2 B3.out.1).2).mono ?_; rintro e w4 ⟨rfl, b4⟩; have B4 := Lib.hid (B3.out.2.trans (b4.mono B3.out.2.size)); clear b4)
          go_wp2_with (go_at_call 22; refine (HH.out.2.1 _ B4.out).mono ?_; rintro e w5 ⟨rfl, b5⟩; have B5 := Lib.hid (B4.out.trans (b5.mono B4.out.size)); clear b5)
          go_wp2_with (go_at_call 11; refine (shown_ok _).mono ?_; rintro e w6 ⟨rfl, b6⟩; have B6 := Lib.hid (B5.out.trans (b6.mono B5.out.size)); clear b6)
          go_ret
          exact ⟨rfl, B6.out⟩
        | true =>
          rw [ho] at HH
          obtain ⟨o, hMo, hO2, hl2⟩ := isOrd_iff.1 ho
          have hY := fun W1 (hb : Below W.heap.size W W1) => (Lay_ok W1 A c L B d M (HL.out.1.below hb (Nat.le_refl _)) (HL.out.2.below hb (Nat.le_refl _)) (by omega)).mono fun e w' h => (h.yes hv o hMo hO2 hl2).open (by omega)
          have h2 := laid_two HL.out.1 hv hO2 hl2
          have HJ := Lib.hid (And.intro hY h2)
          clear ho hMo hO2 hl2 hY h2
          generalize (lays L o).A = Y at *
          generalize topOf L o = S at *
          go_enter Try.func10, Try.ntmps10
          go_wp2_with (go_at_call 20; refine HC.out.mono ?_; rintro e w1 ⟨rfl, b1⟩; have B1 := Lib.hid b1; clear b1)
          go_wp2_with (go_at_call 23; refine (HH.out.1 _ B1.out).mono ?_; rintro e w2 ⟨g2, rfl, i2, b2⟩; have B2 := Lib.hid (And.intro i2 (B1.out.trans (b2.mono B1.out.size))); clear i2 b2)
          go_wp2_with (go_at_call 17; refine ((HH.out.2.2 _ B2.out.2 g2 B2.out.1).1).mono ?_; rintro e w3 ⟨rfl, b3⟩; have B3 := Lib.hid (And.intro (B2.out.1.below b3 (Nat.le_refl _)) (B2.out.2.trans (b3.mono B2.out.2.size))); clear b3)
          go_wp2_with (go_at_call 31; refine ((HH.out.2.2 _ B3.out.2 g2 B3.out.1).2).mono ?_; rintro e w4 ⟨rfl, b4⟩; have B4 := Lib.hid (B3.out.2.trans (b4.mono B3.out.2.size)); clear b4)
          go_wp2_with (go_at_call 22; refine (HH.out.2.1 _ B4.out).mono ?_; rintro e w5 ⟨rfl, b5⟩; have B5 := Lib.hid (B4.out.trans (b5.mono B4.out.size)); clear b5)
          go_wp2_with (go_at_call 28; refine (HJ.out.1 _ B5.out).mono ?_; rintro e w6 ⟨g6, rfl, i6, b6⟩; have B6 := Lib.hid (And.intro i6 (B5.out.trans (b6.mono B5.out.size))); clear i6 b6)
          go_wp2_with (go_at_call 17; fail)
          refine ((HJ.out.2 _ B6.out.2 g6 B6.out.1).1).mono ?_
          rintro e w7 ⟨rfl, b7⟩
          have B7 := Lib.hid (And.intro (B6.out.1.below b7 (Nat.le_refl _)) (B6.out.2.trans (b7.mono B6.out.2.size)))
          clear b7
          go_wp2_with (go_at_call 31; fail)
          refine ((HJ.out.2 _ B7.out.2 g6 B7.out.1).2).mono ?_
          rintro e w8 ⟨rfl, b8⟩
          have B8 := Lib.hid (B7.out.2.trans (b8.mono B7.out.2.size))
          clear b8
          go_wp2_with (go_at_call 11; refine (shown_ok _).mono ?_; rintro e w9 ⟨rfl, b9⟩; have B9 := Lib.hid (B8.out.trans (b9.mono B8.out.size)); clear b9)
          go_ret
          exact ⟨rfl, B9.out⟩
      · have HC := Lib.hid hck
        have HV := Lib.hid hv
        clear hck
        generalize checkV L = e0 at *
        have hne : (e0 != 0) = true := by simpa using hv
        clear hv
        go_enter Try.func10, Try.ntmps10
        go_wp2_with (go_at_call 20; refine HC.out.mono ?_; rintro e w1 ⟨rfl, b1⟩; have B1 := Lib.hid b1; clear b1)
        go_wp2_with (go_at_call 11; refine (shown_ok _).mono ?_; rintro e w2 ⟨rfl, b2⟩; have B2 := Lib.hid (B1.out.trans (b2.mono B1.out.size)); clear b2)
        go_ret
        exact ⟨rfl, B2.out⟩
end Of
end Go.Proofs.Ytjgakcpjphdicaa
