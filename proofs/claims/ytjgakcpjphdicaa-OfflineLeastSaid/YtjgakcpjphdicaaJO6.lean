/- OfflineLeast: the walk. -/
import Derived.Test.YtjgakcpjphdicaaJO4
import Derived.Test.YtjgakcpjphdicaaJO3
import Derived.Test.YtjgakcpjphdicaaJP18
namespace Go.Proofs.Ytjgakcpjphdicaa
open Go.RowKit
namespace Of

set_option maxRecDepth 100000 in
set_option maxHeartbeats 8000000 in
theorem least_walk (W : World) (A : Option Addr) (c : Nat) (L : List OB) (hL : OBAt W A c L) (B : Option Addr) (d : Nat) (M : List Int) (hM : IAt W B d M) : Calls Try.prog 5 #[.slice A L.length c, .slice B M.length d] W fun e w' => e = .returned (.bool true) ∧ Below W.heap.size W w' := by
  have hcap := hL.2.1
  have hlc := hL.1
  have hcap2 := hM.2.1
  have hlc2 := hM.1
  unfold maxLen at hcap hcap2
  have hck := checkR_ok A c L W hL
  have HL := Lib.hid (And.intro hL hM)
  clear hL hM
  by_cases a1 : 8 < L.length
  · clear hck
    go_enter Try.func5, Try.ntmps5
    go_wp2_with (go_at_call 11; refine (shown_ok _).mono ?_; rintro e w1 ⟨rfl, b1⟩; have B1 := Lib.hid b1; clear b1)
    go_ret
    exact ⟨rfl, B1.out⟩
  · by_cases a2 : 100 < M.length
    · clear hck
      go_enter Try.func5, Try.ntmps5
      go_wp2_with (go_at_call 11; refine (shown_ok _).mono ?_; rintro e w1 ⟨rfl, b1⟩; have B1 := Lib.hid b1; clear b1)
      go_ret
      exact ⟨rfl, B1.out⟩
    · by_cases hv : checkV L = 0
      · rw [hv] at hck
        have HC := Lib.hid hck
        obtain ⟨_, hO, hl, _⟩ := bestV_spec L
        have hB := fun W1 (h : Below W.heap.size W W1) => (Best_ok W1 A c L (HL.out.1.below h (Nat.le_refl _))).mono fun e w' h => h.yes hv (by omega)
        have hpk := peak_top hv hO hl
        have hP := fun W1 (h : Below W.heap.size W W1) => Peak_ok A c L W1 (HL.out.1.below h (Nat.le_refl _))
        have hp2 : (peakRes L).2.2 = 0 := by unfold peakRes; rw [hv, if_neg (by simp)]
        rw [hp2] at hP
        have hord : isOrd L.length (zsP (bestV L)) = true := isOrd_iff.2 ⟨_, rfl, hO, hl⟩
        have hzl : (zsP (bestV L)).length = L.length := by rw [List.length_map]; exact hl
        have hR := fun W1 (A1 : Option Addr) (c1 : Nat) (h : IAt W1 A1 c1 (zsP (bestV L))) => orderR_ok W1 A1 c1 (zsP (bestV L)) L.length h (by omega)
        rw [hord, hzl] at hR
        have hvl := lays_valid hv hO hl
        have hV := fun W1 (h : Below W.heap.size W W1) g (h2 : IAt W1 (some ⟨g, 0, none⟩) L.length (lays L (bestV L)).A) => ValidR_ok W1 A c L _ L.length (lays L (bestV L)).A (HL.out.1.below h (Nat.le_refl _)) h2
        rw [hvl, lays_len] at hV
        have hV2 := fun W1 (h : Below W.heap.size W W1) => ValidR_ok W1 A c L B d M (HL.out.1.below h (Nat.le_refl _)) (HL.out.2.below h (Nat.le_refl _))
        have hlow := fun tp => valid_top (L := L) (M := M) (tp := tp)
        have HH := Lib.hid (And.intro hB (And.intro hP (And.intro hR (And.intro hV hV2))))
        have HLL := Lib.hid (lays_len L (bestV L))
        clear hck hB hP hR hV hV2 hO hl hp2 hord hzl hvl
        generalize (peakRes L).1 = pk at *
        generalize (peakRes L).2.1 = pt at *
        generalize topOf L (bestV L) = T at *
        generalize validRes L M = r at *
        obtain ⟨r1, r2, r3⟩ := r
        dsimp only at HH
        have HLOW := Lib.hid hlow
        clear hlow
        have hnp : ¬ T < pk := by omega
        have hnp2 : decide (T < pk) = false := decide_eq_false hnp
        go_enter Try.func5, Try.ntmps5
        go_wp2_with (go_at_call 20; refine HC.out.mono ?_; rintro e w1 ⟨rfl, b1⟩; have B1 := Lib.hid b1; clear b1)
        go_wp2_with (go_at_call 12; refine (HH.out.1 _ B1.out).mono ?_; rintro e w2 ⟨gb, oA, oc, rfl, h2, h2o, b2⟩; have B2 := Lib.hid (And.intro h2 (And.intro h2o (B1.out.trans (b2.mono B1.out.size)))); clear h2 h2o b2)
        go_wp2_with (go_at_call 21; refine (HH.out.2.1 _ B2.out.2.2).mono ?_; rintro e w3 ⟨rfl, b3⟩; have B3 := Lib.hid (And.intro b3 (B2.out.2.2.trans (b3.mono B2.out.2.2.size))); clear b3)
        go_wp2_with (go_at_call 22; refine (HH.out.2.2.1 _ oA oc (B2.out.2.1.below B3.out.1 (Nat.le_refl _))).mono ?_; rintro e w4 ⟨rfl, b4⟩; have B4 := Lib.hid (And.intro (B3.out.1.trans (b4.mono B3.out.1.size)) (B3.out.2.trans (b4.mono B3.out.2.size))); clear b4)
        go_wp2_with (go_at_call 17; fail)
        have i4 := (B2.out.1.at (by rw [HLL.out]; unfold maxLen; omega)).below B4.out.1 (Nat.le_refl _)
        rw [HLL.out] at i4
        refine (HH.out.2.2.2.1 _ B4.out.2 gb i4).mono ?_
        clear i4
        rintro e w5 ⟨rfl, b5⟩
        have B5 := Lib.hid (B4.out.2.trans (b5.mono B4.out.2.size))
        clear b5
        go_wp2_with (go_at_call 17; fail)
        refine (HH.out.2.2.2.2 _ B5.out).mono ?_
        rintro e w6 ⟨rfl, b6⟩
        have B6 := Lib.hid (B5.out.trans (b6.mono B5.out.size))
        clear b6
        by_cases e3 : r3 = 0
        · subst e3
          cases r1 with
          | false =>
            go_wp2_with (go_at_call 11; refine (shown_ok _).mono ?_; rintro e w7 ⟨rfl, b7⟩; have B7 := Lib.hid (B6.out.trans (b7.mono B6.out.size)); clear b7)
            go_ret
            exact ⟨rfl, B7.out⟩
          | true =>
            have hle : T ≤ r2 := HLOW.out r2 rfl
            have hld : decide (T ≤ r2) = true := decide_eq_true hle
            go_wp2_with (go_at_call 11; refine (shown_ok _).mono ?_; rintro e w7 ⟨rfl, b7⟩; have B7 := Lib.hid (B6.out.trans (b7.mono B6.out.size)); clear b7)
            go_ret
            exact ⟨rfl, B7.out⟩
        · have e4 : (r3 != 0) = true := by simpa using e3
          go_wp2_with (go_at_call 11; refine (shown_ok _).mono ?_; rintro e w7 ⟨rfl, b7⟩; have B7 := Lib.hid (B6.out.trans (b7.mono B6.out.size)); clear b7)
          go_ret
          exact ⟨rfl, B7.out⟩
      · have HC := Lib.hid hck
        have HV := Lib.hid hv
        clear hck
        generalize checkV L = e0 at *
        have hne : (e0 != 0) = true := by simpa using hv
        clear hv
        go_enter Try.func5, Try.ntmps5
        go_wp2_with (go_at_call 20; refine HC.out.mono ?_; rintro e w1 ⟨rfl, b1⟩; have B1 := Lib.hid b1; clear b1)
        go_wp2_with (go_at_call 11; refine (shown_ok _).mono ?_; rintro e w2 ⟨rfl, b2⟩; have B2 := Lib.hid (B1.out.trans (b2.mono B1.out.size)); clear b2)
        go_ret
        exact ⟨rfl, B2.out⟩
end Of
end Go.Proofs.Ytjgakcpjphdicaa
