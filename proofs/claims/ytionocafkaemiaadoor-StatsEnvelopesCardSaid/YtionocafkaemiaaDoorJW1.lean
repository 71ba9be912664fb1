/- Names: a letter, a digit. Names: words.Name. -/
import Derived.Test.YtionocafkaemiaaDoorJR1
import Derived.Deep.CutBlock
import Derived.Outline
namespace Go.Proofs.YtionocafkaemiaaDoor
open Go.RowKit Go.Lib
namespace Sx
attribute [local irreducible] wpQuiet
theorem digit_ok (c : Nat) (hc : c < 256) (W : World) : Calls Tryd.prog 87 #[.int .u8 (c : Int)] W fun e w' => e = .returned (.bool (decide (48 ≤ c) && decide (c ≤ 57))) ∧ w' = W := by
  by_cases h : 48 ≤ c
  · have h' : (c : Int) ≥ 48 := by omega
    have h2 : decide ((48 : Int) ≤ (c : Int)) = true := decide_eq_true h'
    have h3 : decide ((c : Int) ≤ 57) = decide (c ≤ 57) := by by_cases h4 : c ≤ 57 <;> simp [h4] <;> omega
    rw [decide_eq_true h, Bool.true_and]
    go_enter Tryd.func87, Tryd.ntmps87
    go_wp2_with (fail)
    go_ret
    exact ⟨rfl, rfl⟩
  · have h2 : decide ((48 : Int) ≤ (c : Int)) = false := decide_eq_false (by omega)
    rw [decide_eq_false h, Bool.false_and]
    go_enter Tryd.func87, Tryd.ntmps87
    go_wp2_with (fail)
    go_ret
    exact ⟨rfl, rfl⟩
set_option maxRecDepth 100000 in
theorem or32 (c : Nat) (hc : c < 256) : bits BinOp.or IntKind.u8 (c : Int) 32 = ((c ||| 32 : Nat) : Int) := by
  have h : ∀ c : Fin 256, bits BinOp.or IntKind.u8 ((c.val : Nat) : Int) 32 = ((c.val ||| 32 : Nat) : Int) := by decide
  exact h ⟨c, hc⟩
theorem letter_ok (c : Nat) (hc : c < 256) (W : World) : Calls Tryd.prog 86 #[.int .u8 (c : Int)] W fun e w' => e = .returned (.bool (decide (97 ≤ c ||| 32) && decide (c ||| 32 ≤ 122))) ∧ w' = W := by
  have ho := or32 c hc
  obtain ⟨d, hd⟩ : ∃ d, d = c ||| 32 := ⟨_, rfl⟩
  rw [← hd] at ho ⊢
  clear hd
  have h3 : decide ((d : Int) ≤ 122) = decide (d ≤ 122) := by by_cases h4 : d ≤ 122 <;> simp [h4] <;> omega
  by_cases h : 97 ≤ d
  · have h2 : decide ((97 : Int) ≤ (d : Int)) = true := decide_eq_true (by omega)
    rw [decide_eq_true h, Bool.true_and]
    go_enter Tryd.func86, Tryd.ntmps86
    go_wp2_with (fail)
    go_ret
    exact ⟨rfl, rfl⟩
  · have h2 : decide ((97 : Int) ≤ (d : Int)) = false := decide_eq_false (by omega)
    rw [decide_eq_false h, Bool.false_and]
    go_enter Tryd.func86, Tryd.ntmps86
    go_wp2_with (fail)
    go_ret
    exact ⟨rfl, rfl⟩
end Sx
end Go.Proofs.YtionocafkaemiaaDoor
namespace Go.Proofs.YtionocafkaemiaaDoor
open Go.RowKit Go.Lib
namespace Sx
attribute [local irreducible] wpQuiet
def ltrB (c : Nat) : Bool := decide (97 ≤ c ||| 32) && decide (c ||| 32 ≤ 122)
def digB (c : Nat) : Bool := decide (48 ≤ c) && decide (c ≤ 57)
def okAt (s : ByteArray) (i : Nat) : Bool := ltrB (s.get! i).toNat || (decide (i ≠ 0) && (decide ((s.get! i).toNat = 95) || digB (s.get! i).toNat))
def nameS (s : ByteArray) : Bool := decide (∀ i < s.size, okAt s i = true) && decide (1 ≤ s.size) && decide (s.size ≤ 16)
set_option maxRecDepth 100000 in
set_option maxHeartbeats 4000000 in
theorem name_ok (s : ByteArray) (hs : s.size < 1099511627776) (W : World) : Calls Tryd.prog 67 #[.string s] W fun e w' => e = .returned (.bool (nameS s)) ∧ w' = W := by
  go_enter Tryd.func67, Tryd.ntmps67
  go_wp2_with (fail)
  go_loopw [7] (fun i wr => ∃ k : Nat, k ≤ s.size ∧ i = .int .i64 (k : Int) ∧ wr = W ∧ ∀ j < k, okAt s j = true) (fun i _ => s.size - (RowKit.intOf i).toNat)
  case atStart => exact ⟨0, Nat.zero_le _, rfl, rfl, fun j hj => absurd hj (Nat.not_lt_zero _)⟩
  case round =>
    obtain ⟨k, hk, rfl, rfl, hA⟩ := hrel
    by_cases hlt : k < s.size
    · have hlti : (k : Int) < (s.size : Int) := by omega
      go_upto_region 5 with (fail)
      obtain ⟨c, hc⟩ : ∃ c, c = s[k].toNat := ⟨_, rfl⟩
      have hg : (s.get! k).toNat = c := by rw [hc]; exact congrArg UInt8.toNat (getElem!_pos s.data k hlt)
      have hc8 : c < 256 := by rw [hc]; exact s[k].toNat_lt
      have HO := Lib.hid (show okAt s k = (ltrB c || (decide (k ≠ 0) && (decide (c = 95) || digB c))) by unfold okAt; rw [hg])
      rw [← hc]
      clear hc hg
      have HA := Lib.hid hA
      have HN : nameS s = nameS s := rfl
      have hbad : okAt s k = false → nameS s = false := fun h => by
        unfold nameS
        rw [decide_eq_false (fun h' => by have := h' k hlt; rw [h] at this; cases this)]; rfl
      have hgood : okAt s k = true → ∀ j < k + 1, okAt s j = true := fun h j hj => by
        rcases Nat.lt_or_ge j k with h1 | h1
        · exact hA j h1
        · rw [show j = k by omega]; exact h
      have HB := Lib.hid (And.intro hbad hgood)
      clear hA hbad hgood HN
      have HL := Lib.hid (fun V => letter_ok c hc8 V)
      have HD := Lib.hid (fun V => digit_ok c hc8 V)
      have hz : decide ((k : Int) = 0) = decide (k = 0) := by by_cases h4 : k = 0 <;> simp [h4]
      have hz2 : ((k : Int) == 0) = decide (k = 0) := by by_cases h4 : k = 0 <;> simp [h4]
      have hz3 : ((c : Int) == 95) = decide (c = 95) := by by_cases h4 : c = 95 <;> simp [h4]; omega
      have hz4 : ((c : Int) != 95) = !decide (c = 95) := by by_cases h4 : c = 95 <;> simp [h4]; omega
      have hLr : (decide (97 ≤ c ||| 32) && decide (c ||| 32 ≤ 122)) = ltrB c := rfl
      have hDr : (decide (48 ≤ c) && decide (c ≤ 57)) = digB c := rfl
      rw [hLr] at HL
      rw [hDr] at HD
      clear hLr hDr
      obtain ⟨bl, hbl⟩ : ∃ b, b = ltrB c := ⟨_, rfl⟩
      obtain ⟨bd, hbd⟩ : ∃ b, b = digB c := ⟨_, rfl⟩
      obtain ⟨bu, hbu⟩ : ∃ b, b = decide (c = 95) := ⟨_, rfl⟩
      obtain ⟨bz, hbz⟩ : ∃ b, b = decide (k = 0) := ⟨_, rfl⟩
      have hbz' : decide (k ≠ 0) = !bz := by rw [hbz]; by_cases h4 : k = 0 <;> simp [h4]
      rw [hbz', ← hbl, ← hbd, ← hbu] at HO
      rw [← hbl] at HL
      rw [← hbd] at HD
      rw [← hbz] at hz hz2
      rw [← hbu] at hz3 hz4
      clear hbl hbd hbu hbz hbz'
      cases bl <;> cases bz <;> cases bu <;> cases bd
      all_goals
        go_wp2_with (first | (go_at_call 86; refine (HL.out _).mono ?_; rintro e w1 ⟨rfl, hw⟩; have hw := hw.symm; subst hw) | (go_at_call 87; refine (HD.out _).mono ?_; rintro e w1 ⟨rfl, hw⟩; have hw := hw.symm; subst hw))
        first
        | (go_ret; exact ⟨by rw [HB.out.1 (by rw [HO.out]; rfl)]; rfl, rfl⟩)
        | (go_roundw
           case rel => exact ⟨k + 1, by omega, by go_num, by first | trivial | rfl, HB.out.2 (by rw [HO.out]; rfl)⟩
           case measure => simp [RowKit.intOf]; omega)
    · obtain rfl : k = s.size := by omega
      have hn : nameS s = (decide (1 ≤ s.size) && decide (s.size ≤ 16)) := by unfold nameS; rw [decide_eq_true hA, Bool.true_and]
      have e1 : decide ((1 : Int) ≤ (s.size : Int)) = decide (1 ≤ s.size) := by by_cases h4 : 1 ≤ s.size <;> simp [h4] <;> omega
      have e2 : decide ((s.size : Int) ≤ 16) = decide (s.size ≤ 16) := by by_cases h4 : s.size ≤ 16 <;> simp [h4] <;> omega
      have HN := Lib.hid hn
      clear hn hA
      obtain ⟨b2, h2⟩ : ∃ b2, b2 = decide (s.size ≤ 16) := ⟨_, rfl⟩
      obtain ⟨b1, h1⟩ : ∃ b1, b1 = decide (1 ≤ s.size) := ⟨_, rfl⟩
      rw [← h2] at e2 HN
      rw [← h1] at e1 HN
      clear h1 h2
      cases b1
      · go_wp2_with (fail)
        go_ret
        exact ⟨by rw [HN.out]; rfl, rfl⟩
      · go_wp2_with (fail)
        go_ret
        exact ⟨by rw [HN.out]; rfl, rfl⟩
end Sx
end Go.Proofs.YtionocafkaemiaaDoor
