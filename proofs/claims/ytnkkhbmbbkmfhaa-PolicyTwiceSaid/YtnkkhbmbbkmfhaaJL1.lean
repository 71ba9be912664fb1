/- The law's small functions: uses, gaps, ints at equal lists; far; right. -/
import Derived.Test.YtnkkhbmbbkmfhaaJA20
import Derived.BigQuiet
namespace Go.Proofs.Ytnkkhbmbbkmfhaa
open Go.RowKit Go.Sort Go.Lib
namespace Py

attribute [local irreducible] wpQuiet
set_option maxRecDepth 100000 in
set_option maxHeartbeats 2000000 in
theorem ints_self (w : World) (A B : Option Addr) (c d : Nat) (M : List Int) (hM : IAt w A c M) (hN : IAt w B d M) :
    Calls Try.prog 27 #[.slice A M.length c, .slice B M.length d] w fun e w' => e = .returned (.bool true) ∧ ∃ q, w' = w.drewN q := by
  have m1 := hM.1
  have m2 := hM.2.1
  have n1 := hN.1
  have n2 := hN.2.1
  unfold maxLen at m2 n2
  have HM := Lib.hid (And.intro hM hN)
  clear hM hN
  go_enter Try.func27, Try.ntmps27
  go_wp2_with (fail)
  go_loopw [5] (fun i wr => ∃ k : Nat, k ≤ M.length ∧ i = .int .i64 k ∧ ∃ q, wr = w.drewN q) (fun i _ => M.length - (intOf i).toNat)
  case atStart => exact ⟨0, Nat.zero_le _, rfl, 0, rfl⟩
  case round =>
    obtain ⟨k, hk, rfl, q, hq⟩ := hrel
    have hbw : Below w.heap.size w wr := by rw [hq]; exact below_drewN (Below.refl _ _) q
    have hI1 := HM.out.1.below hbw (Nat.le_refl _)
    have hI2 := HM.out.2.below hbw (Nat.le_refl _)
    have HQ := Lib.hid hq
    clear hbw hq
    by_cases h1 : k < M.length
    · obtain ⟨x, hx⟩ : ∃ x, M[k]? = some x := ⟨_, List.getElem?_eq_getElem h1⟩
      obtain ⟨g, o, rfl, hg, d0⟩ := hI1.2.2 k x hx
      obtain ⟨g2, o2, rfl, hg2, d1⟩ := hI2.2.2 k x hx
      have hne : (x != x) = false := by simp
      clear hI1 hI2 hx
      go_wp2_with (fail)
      go_quiet (fail)
      go_wp2
      go_roundw
      case rel => exact ⟨k + 1, by omega, by go_num, _, by rw [HQ.out]; exact World.drewN_drewN ..⟩
      case measure => simp [intOf]; omega
    · clear hI1 hI2
      go_wp2
      go_ret
      exact ⟨rfl, q, HQ.out⟩
set_option maxRecDepth 100000 in
set_option maxHeartbeats 2000000 in
theorem uses_self (w : World) (A B : Option Addr) (c d : Nat) (M : List PU) (hM : UAt w A c M) (hN : UAt w B d M) :
    Calls Try.prog 28 #[.slice A M.length c, .slice B M.length d] w fun e w' => e = .returned (.bool true) ∧ ∃ q, w' = w.drewN q := by
  have m1 := hM.1
  have m2 := hM.2.1
  have n1 := hN.1
  have n2 := hN.2.1
  unfold maxLen at m2 n2
  have HM := Lib.hid (And.intro hM hN)
  clear hM hN
  go_enter Try.func28, Try.ntmps28
  go_wp2_with (fail)
  go_loopw [5] (fun i wr => ∃ k : Nat, k ≤ M.length ∧ i = .int .i64 k ∧ ∃ q, wr = w.drewN q) (fun i _ => M.length - (intOf i).toNat)
  case atStart => exact ⟨0, Nat.zero_le _, rfl, 0, rfl⟩
  case round =>
    obtain ⟨k, hk, rfl, q, hq⟩ := hrel
    have hbw : Below w.heap.size w wr := by rw [hq]; exact below_drewN (Below.refl _ _) q
    have hI1 := HM.out.1.below hbw (Nat.le_refl _)
    have hI2 := HM.out.2.below hbw (Nat.le_refl _)
    have HQ := Lib.hid hq
    clear hbw hq
    by_cases h1 : k < M.length
    · obtain ⟨g, o, rfl, hg, d0, d1, d2⟩ := hI1.at h1
      obtain ⟨g2, o2, rfl, hg2, c0, c1, c2⟩ := hI2.at h1
      generalize use M k = u at *
      obtain ⟨up, uf, ut⟩ := u
      dsimp only at d0 d1 d2 c0 c1 c2
      clear hI1 hI2
      go_wp2_with (fail)
      go_quiet (fail)
      go_wp2
      go_roundw
      case rel => exact ⟨k + 1, by omega, by go_num, _, by rw [HQ.out]; exact World.drewN_drewN ..⟩
      case measure => simp [intOf]; omega
    · clear hI1 hI2
      go_wp2
      go_ret
      exact ⟨rfl, q, HQ.out⟩
set_option maxRecDepth 100000 in
set_option maxHeartbeats 2000000 in
theorem gaps_self (w : World) (A B : Option Addr) (c d : Nat) (M : List PU) (hM : UAt w A c M) (hN : UAt w B d M) :
    Calls Try.prog 22 #[.slice A M.length c, .slice B M.length d] w fun e w' => e = .returned (.bool true) ∧ ∃ q, w' = w.drewN q := by
  have m1 := hM.1
  have m2 := hM.2.1
  have n1 := hN.1
  have n2 := hN.2.1
  unfold maxLen at m2 n2
  have HM := Lib.hid (And.intro hM hN)
  clear hM hN
  go_enter Try.func22, Try.ntmps22
  go_wp2_with (fail)
  go_loopw [5] (fun i wr => ∃ k : Nat, k ≤ M.length ∧ i = .int .i64 k ∧ ∃ q, wr = w.drewN q) (fun i _ => M.length - (intOf i).toNat)
  case atStart => exact ⟨0, Nat.zero_le _, rfl, 0, rfl⟩
  case round =>
    obtain ⟨k, hk, rfl, q, hq⟩ := hrel
    have hbw : Below w.heap.size w wr := by rw [hq]; exact below_drewN (Below.refl _ _) q
    have hI1 := HM.out.1.below hbw (Nat.le_refl _)
    have hI2 := HM.out.2.below hbw (Nat.le_refl _)
    have HQ := Lib.hid hq
    clear hbw hq
    by_cases h1 : k < M.length
    · obtain ⟨g, o, rfl, hg, d0, d1, d2⟩ := hI1.at h1
      obtain ⟨g2, o2, rfl, hg2, c0, c1, c2⟩ := hI2.at h1
      generalize use M k = u at *
      obtain ⟨up, uf, ut⟩ := u
      dsimp only at d0 d1 d2 c0 c1 c2
      clear hI1 hI2
      go_wp2_with (fail)
      go_quiet (fail)
      go_wp2
      go_roundw
      case rel => exact ⟨k + 1, by omega, by go_num, _, by rw [HQ.out]; exact World.drewN_drewN ..⟩
      case measure => simp [intOf]; omega
    · clear hI1 hI2
      go_wp2
      go_ret
      exact ⟨rfl, q, HQ.out⟩
def farB (n most : Int) : Bool := (decide (most < n) && decide (n ≤ 200)) || decide (210 < n)
set_option maxHeartbeats 2000000 in
theorem far_ok (w : World) (A : Option Addr) (c n : Nat) (most : Int) :
    Calls Try.prog 11 #[.slice A n c, .int .i64 most] w fun e w' => e = .returned (.bool (farB n most)) ∧ w' = w := by
  unfold farB
  by_cases h3 : (210 : Int) < (n : Int)
  · have e2 : decide ((n : Int) ≤ 200) = false := by simp; omega
    rw [decide_eq_true h3, e2]
    simp only [Bool.and_false, Bool.false_or]
    by_cases h1 : most < (n : Int)
    · have h1' : (n : Int) > most := h1
      have h4 : ¬ (n : Int) ≤ 200 := by omega
      have h5 : (n : Int) > 210 := h3
      clear h3
      go_enter Try.func11, Try.ntmps11
      go_wp2
      go_ret
      exact ⟨rfl, rfl⟩
    · have h1' : ¬ (n : Int) > most := h1
      have h5 : (n : Int) > 210 := h3
      clear h3
      go_enter Try.func11, Try.ntmps11
      go_wp2
      go_ret
      exact ⟨rfl, rfl⟩
  · rw [decide_eq_false h3, Bool.or_false]
    have h5 : ¬ (n : Int) > 210 := h3
    by_cases h1 : most < (n : Int)
    · have h1' : (n : Int) > most := h1
      by_cases h2 : (n : Int) ≤ 200
      · rw [decide_eq_true h1, decide_eq_true h2]
        clear h3 h5
        go_enter Try.func11, Try.ntmps11
        go_wp2
        go_ret
        exact ⟨rfl, rfl⟩
      · rw [decide_eq_true h1, decide_eq_false h2]
        clear h3
        go_enter Try.func11, Try.ntmps11
        go_wp2
        go_ret
        exact ⟨rfl, rfl⟩
    · have h1' : ¬ (n : Int) > most := h1
      rw [decide_eq_false h1, Bool.false_and]
      clear h3
      go_enter Try.func11, Try.ntmps11
      go_wp2
      go_ret
      exact ⟨rfl, rfl⟩
set_option maxRecDepth 100000 in
set_option maxHeartbeats 4000000 in
theorem right_ok (w : World) (A : Option Addr) (c : Nat) (K : List Nat) (n : Nat) (hK : IAt w A c (zs K)) (ha : Asc K) (hb : ∀ k, k ∈ K → k < n) :
    Calls Try.prog 31 #[.slice A K.length c, .int .i64 (n : Int)] w fun e w' => e = .returned (.bool true) ∧ ∃ q, w' = w.drewN q := by
  have m1 := hK.1
  have m2 := hK.2.1
  rw [List.length_map] at m1
  unfold maxLen at m2
  have HM := Lib.hid (And.intro hK (And.intro ha hb))
  clear hK ha hb
  go_enter Try.func31, Try.ntmps31
  go_wp2_with (fail)
  go_loopw [5] (fun i wr => ∃ k : Nat, k ≤ K.length ∧ i = .int .i64 k ∧ ∃ q, wr = w.drewN q) (fun i _ => K.length - (intOf i).toNat)
  case atStart => exact ⟨0, Nat.zero_le _, rfl, 0, rfl⟩
  case round =>
    obtain ⟨k, hk, rfl, q, hq⟩ := hrel
    have hI1 : IAt wr A c (zs K) := by rw [hq]; exact HM.out.1.drew q
    have HQ := Lib.hid hq
    clear hq
    by_cases h1 : k < K.length
    · obtain ⟨x, hx⟩ : ∃ x, K[k]? = some x := ⟨_, List.getElem?_eq_getElem h1⟩
      have hxn := HM.out.2.2 x (List.mem_of_getElem? hx)
      obtain ⟨g, o, rfl, hg, d0⟩ := iat_nat hI1 hx
      have n1 : decide ((x : Int) < 0) = false := by simp
      have n2 : decide ((n : Int) ≤ (x : Int)) = false := by simp; omega
      by_cases hk0 : k = 0
      · subst hk0
        have n3 : (0 : Int) < (K.length : Int) := by omega
        rw [Nat.add_zero] at d0
        clear hI1 hx
        go_wp2_with (fail)
        go_quiet (fail)
        go_wp2
        go_roundw
        case rel => exact ⟨1, by omega, by go_num, _, by rw [HQ.out]; exact World.drewN_drewN ..⟩
        case measure => simp [intOf]; omega
      · obtain ⟨j, hj⟩ : ∃ j, k = j + 1 := ⟨k - 1, by omega⟩
        obtain ⟨y, hy⟩ : ∃ y, K[j]? = some y := ⟨_, List.getElem?_eq_getElem (show j < K.length by omega)⟩
        obtain ⟨g2, o2, hA2, _, c0⟩ := iat_nat hI1 hy
        injection hA2 with hA2; injection hA2 with e1 e2 _
        subst e1; subst e2
        have hlt : y < x := by
          obtain ⟨_, e1⟩ := List.getElem?_eq_some_iff.1 hx
          obtain ⟨_, e2⟩ := List.getElem?_eq_some_iff.1 hy
          have := (List.pairwise_iff_getElem.1 HM.out.2.1) j k (by omega) h1 (by omega)
          rw [e1, e2] at this; exact this
        have n3 : decide ((x : Int) ≤ (y : Int)) = false := by simp; omega
        have p1 : decide (n ≤ x) = false := by simp; omega
        have p2 : decide (0 < k) = true := by simp; omega
        have p3 : decide (x ≤ y) = false := by simp; omega
        have n4 : (k : Int) - 1 = (j : Int) := by omega
        have n5 : decide ((0 : Int) < (k : Int)) = true := by simp; omega
        have n6 : (j : Int) < (K.length : Int) := by omega
        have n7 : (0 : Int) < (k : Int) := by omega
        have HJ := Lib.hid hj
        clear hI1 hx hy hj
        go_wp2_with (fail)
        go_quiet (fail)
        go_wp2
        go_roundw
        case rel => exact ⟨k + 1, by omega, by go_num, _, by rw [HQ.out]; exact World.drewN_drewN ..⟩
        case measure => simp [intOf]; omega
    · clear hI1
      go_wp2
      go_ret
      exact ⟨rfl, q, HQ.out⟩
end Py
end Go.Proofs.Ytnkkhbmbbkmfhaa
