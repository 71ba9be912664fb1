/- The operations on page numbers. -/
import Derived.Test.YtdanhbbdkcbapaaBuPlain
import Derived.WalkKit
import Derived.IntWalk
namespace Go.Proofs.Ytdanhbbdkcbapaa
namespace Bu

theorem i64_toNat (n : Nat) (h : n < 9223372036854775808) : (BitVec.ofInt 64 (n : Int)).toNat = n := by
  simp; omega
theorem i64_wrap (n : Nat) (h : n < 9223372036854775808) : IntKind.i64.wrap (n : Int) = n := by
  rw [IntWalk.i64_in]; omega

theorem bits_and (m n : Nat) (hm : m < 9223372036854775808) (hn : n < 9223372036854775808) : bits .and .i64 (m : Int) (n : Int) = ((m &&& n : Nat) : Int) := by
  have h3 : m &&& n ≤ m := Nat.and_le_left
  show IntKind.i64.wrap ((BitVec.ofInt 64 (m : Int) &&& BitVec.ofInt 64 (n : Int)).toNat : Int) = _
  rw [BitVec.toNat_and, i64_toNat m hm, i64_toNat n hn, i64_wrap _ (by omega)]
theorem bits_xor (m n : Nat) (hm : m < 9223372036854775808) (hn : n < 9223372036854775808) : bits .xor .i64 (m : Int) (n : Int) = ((m ^^^ n : Nat) : Int) := by
  have h3 : m ^^^ n < 2 ^ 63 := Nat.xor_lt_two_pow (by omega) (by omega)
  show IntKind.i64.wrap ((BitVec.ofInt 64 (m : Int) ^^^ BitVec.ofInt 64 (n : Int)).toNat : Int) = _
  rw [BitVec.toNat_xor, i64_toNat m hm, i64_toNat n hn, i64_wrap _ (by omega)]
theorem bits_andNot (m n : Nat) (hm : m < 9223372036854775808) (hn : n < 9223372036854775808) (r : Nat) (hr : r < 9223372036854775808) (h : ∀ i, r.testBit i = (m.testBit i && !n.testBit i)) : bits .andNot .i64 (m : Int) (n : Int) = (r : Int) := by
  have key : (BitVec.ofInt 64 (m : Int) &&& ~~~ BitVec.ofInt 64 (n : Int)).toNat = r := by
    apply Nat.eq_of_testBit_eq
    intro i
    rw [BitVec.testBit_toNat, BitVec.getLsbD_and, BitVec.getLsbD_not, ← BitVec.testBit_toNat, ← BitVec.testBit_toNat, i64_toNat m hm, i64_toNat n hn, h i]
    by_cases hi : i < 64
    · simp [hi]
    · have : m.testBit i = false := Nat.testBit_lt_two_pow (Nat.lt_of_lt_of_le hm (by
        have : 2 ^ 63 ≤ 2 ^ i := Nat.pow_le_pow_right (by omega) (by omega)
        omega))
      simp [this]
  show IntKind.i64.wrap ((BitVec.ofInt 64 (m : Int) &&& ~~~ BitVec.ofInt 64 (n : Int)).toNat : Int) = _
  rw [key, i64_wrap _ hr]

theorem pow_small {k : Nat} (hk : k ≤ 11) : 2 ^ k ≤ 2048 := by
  have : 2 ^ k ≤ 2 ^ 11 := Nat.pow_le_pow_right (by omega) hk
  omega

theorem low_bits (p k : Nat) : p % 2 ^ k = p &&& (2 ^ k - 1) := (Nat.and_two_pow_sub_one_eq_mod p k).symm

/-- page & (1<<k - 1) -/
theorem mask_and (p k : Nat) (hp : p < 9223372036854775808) (hk : k ≤ 11) : bits .and .i64 (p : Int) ((2 ^ k : Nat) - 1 : Int) = ((p % 2 ^ k : Nat) : Int) := by
  have h0 := Nat.pow_pos (n := k) (show 0 < 2 by decide)
  have h1 := pow_small hk
  rw [show ((2 ^ k : Nat) - 1 : Int) = ((2 ^ k - 1 : Nat) : Int) by omega, bits_and p _ hp (by omega), low_bits]
/-- page &^ (1<<k - 1) -/
theorem mask_off (p k : Nat) (hp : p < 9223372036854775808) (hk : k ≤ 11) : bits .andNot .i64 (p : Int) ((2 ^ k : Nat) - 1 : Int) = ((p / 2 ^ k * 2 ^ k : Nat) : Int) := by
  have h0 := Nat.pow_pos (n := k) (show 0 < 2 by decide)
  have h1 := pow_small hk
  have h2 := Nat.div_mul_le_self p (2 ^ k)
  rw [show ((2 ^ k : Nat) - 1 : Int) = ((2 ^ k - 1 : Nat) : Int) by omega]
  refine bits_andNot p _ hp (by omega) _ (by omega) fun i => ?_
  rw [← Nat.shiftRight_eq_div_pow, ← Nat.shiftLeft_eq, Nat.testBit_shiftLeft, Nat.testBit_shiftRight, Nat.testBit_two_pow_sub_one]
  by_cases hik : i < k
  · have : ¬ k ≤ i := by omega
    simp [hik, this]
  · have h4 : k + (i - k) = i := by omega
    simp [hik, h4, show k ≤ i by omega]

theorem shl_bit (i k j : Nat) : (i * 2 ^ k).testBit j = (decide (k ≤ j) && i.testBit (j - k)) := by
  rw [← Nat.shiftLeft_eq, Nat.testBit_shiftLeft]

theorem sib_bit (i j : Nat) : (sib i).testBit j = if j = 0 then !i.testBit 0 else i.testBit j := by
  cases j with
  | zero =>
    rw [if_pos rfl, Nat.testBit_zero, Nat.testBit_zero]
    unfold sib
    split
    · have h1 : (i + 1) % 2 = 1 := by omega
      have h2 : i % 2 = 0 := by omega
      simp [h1, h2]
    · have h1 : (i - 1) % 2 = 0 := by omega
      have h2 : i % 2 = 1 := by omega
      simp [h1, h2]
  | succ j =>
    rw [if_neg (by omega), Nat.testBit_succ, Nat.testBit_succ, sib_half]

/-- page ^ 1<<k -/
theorem flip_page (i k : Nat) (hp : i * 2 ^ k < 9223372036854775808) (hk : k ≤ 11) : bits .xor .i64 ((i * 2 ^ k : Nat) : Int) ((2 ^ k : Nat) : Int) = ((sib i * 2 ^ k : Nat) : Int) := by
  have h1 := pow_small hk
  rw [bits_xor _ _ hp (by omega)]
  congr 1
  apply Nat.eq_of_testBit_eq
  intro j
  rw [Nat.testBit_xor, shl_bit, shl_bit, Nat.testBit_two_pow, sib_bit]
  by_cases e : k ≤ j
  · by_cases e2 : j = k
    · subst e2; simp
    · have h3 : j - k ≠ 0 := by omega
      simp [e, h3, show k ≠ j by omega]
  · simp [e, show k ≠ j by omega]
/-- page &^ 1<<k -/
theorem clear_page (i k : Nat) (hp : i * 2 ^ k < 9223372036854775808) (hk : k ≤ 10) : bits .andNot .i64 ((i * 2 ^ k : Nat) : Int) ((2 ^ k : Nat) : Int) = ((i / 2 * 2 ^ (k + 1) : Nat) : Int) := by
  have h1 := pow_small (show k ≤ 11 by omega)
  have h2 : i / 2 * 2 ^ (k + 1) ≤ i * 2 ^ k := by
    rw [Nat.pow_succ, Nat.mul_comm (2 ^ k) 2, ← Nat.mul_assoc]
    exact Nat.mul_le_mul_right _ (by omega)
  refine bits_andNot _ _ hp (by omega) _ (by omega) fun j => ?_
  rw [shl_bit, shl_bit, Nat.testBit_two_pow]
  by_cases e : k + 1 ≤ j
  · have h3 : (i / 2).testBit (j - (k + 1)) = i.testBit (j - k) := by
      rw [show j - k = (j - (k + 1)) + 1 by omega, Nat.testBit_succ]
    simp [e, h3, show k ≤ j by omega, show k ≠ j by omega]
  · by_cases e2 : j = k
    · subst e2
      rw [decide_eq_false e, Bool.false_and]; simp
    · simp [e, show ¬ k ≤ j by omega]
end Bu
end Go.Proofs.Ytdanhbbdkcbapaa
