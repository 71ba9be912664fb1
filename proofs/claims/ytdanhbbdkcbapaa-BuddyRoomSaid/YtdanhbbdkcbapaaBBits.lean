/- Words of bits: what the operations on words do to the sets that they stand for. -/
import Derived.WalkKit
import Derived.IntWalk
namespace Go.Proofs.Ytdanhbbdkcbapaa
namespace Bu

theorem u64_toNat (n : Nat) (h : n < 18446744073709551616) : (BitVec.ofInt 64 (n : Int)).toNat = n := by
  simp; omega
theorem u64_wrap (n : Nat) (h : n < 18446744073709551616) : IntKind.u64.wrap (n : Int) = n := by
  show (((n : Int) % 18446744073709551616)) = n
  omega

theorem or_u64 (m n : Nat) (hm : m < 18446744073709551616) (hn : n < 18446744073709551616) : bits .or .u64 (m : Int) (n : Int) = ((m ||| n : Nat) : Int) := by
  have h3 : m ||| n < 2 ^ 64 := Nat.or_lt_two_pow (by omega) (by omega)
  show IntKind.u64.wrap ((BitVec.ofInt 64 (m : Int) ||| BitVec.ofInt 64 (n : Int)).toNat : Int) = _
  rw [BitVec.toNat_or, u64_toNat m hm, u64_toNat n hn, u64_wrap _ (by omega)]
theorem and_u64 (m n : Nat) (hm : m < 18446744073709551616) (hn : n < 18446744073709551616) : bits .and .u64 (m : Int) (n : Int) = ((m &&& n : Nat) : Int) := by
  have h3 : m &&& n ≤ m := Nat.and_le_left
  show IntKind.u64.wrap ((BitVec.ofInt 64 (m : Int) &&& BitVec.ofInt 64 (n : Int)).toNat : Int) = _
  rw [BitVec.toNat_and, u64_toNat m hm, u64_toNat n hn, u64_wrap _ (by omega)]
theorem andNot_u64 (m n : Nat) (hm : m < 18446744073709551616) (hn : n < 18446744073709551616) : bits .andNot .u64 (m : Int) (n : Int) = (((BitVec.ofNat 64 m &&& ~~~ BitVec.ofNat 64 n).toNat : Nat) : Int) := by
  have h3 : (BitVec.ofNat 64 m &&& ~~~ BitVec.ofNat 64 n).toNat < 2 ^ 64 := BitVec.isLt _
  show IntKind.u64.wrap ((BitVec.ofInt 64 (m : Int) &&& ~~~ BitVec.ofInt 64 (n : Int)).toNat : Int) = _
  rw [BitVec.ofInt_natCast, BitVec.ofInt_natCast, u64_wrap _ (by omega)]

/-- The word with the index q of a set of numbers. -/
def wordN (S : Nat → Bool) (q : Nat) : Nat → Nat
  | 0 => 0
  | r + 1 => wordN S q r ||| (if S (64 * q + r) then 2 ^ r else 0)
def word (S : Nat → Bool) (q : Nat) : Nat := wordN S q 64

theorem wordN_bit (S : Nat → Bool) (q n r : Nat) : (wordN S q n).testBit r = (decide (r < n) && S (64 * q + r)) := by
  induction n with
  | zero => simp [wordN]
  | succ n ih =>
    unfold wordN
    rw [Nat.testBit_or, ih]
    by_cases e : r = n
    · subst e
      by_cases h : S (64 * q + r) = true
      · simp [h]
      · simp [h]
    · by_cases h : S (64 * q + n) = true
      · rw [if_pos h, Nat.testBit_two_pow]
        have : decide (n = r) = false := decide_eq_false (fun x => e x.symm)
        rw [this, Bool.or_false]
        by_cases h2 : r < n
        · rw [decide_eq_true h2, decide_eq_true (show r < n + 1 by omega)]
        · rw [decide_eq_false h2, decide_eq_false (show ¬ r < n + 1 by omega)]
      · rw [if_neg h, Nat.zero_testBit, Bool.or_false]
        by_cases h2 : r < n
        · rw [decide_eq_true h2, decide_eq_true (show r < n + 1 by omega)]
        · rw [decide_eq_false h2, decide_eq_false (show ¬ r < n + 1 by omega)]
theorem word_bit (S : Nat → Bool) (q r : Nat) : (word S q).testBit r = (decide (r < 64) && S (64 * q + r)) := wordN_bit S q 64 r
theorem wordN_lt (S : Nat → Bool) (q n : Nat) : wordN S q n < 2 ^ n := by
  induction n with
  | zero => simp [wordN]
  | succ n ih =>
    unfold wordN
    refine Nat.or_lt_two_pow ?_ ?_
    · rw [Nat.pow_succ]; omega
    · split
      · rw [Nat.pow_succ]; have := Nat.pow_pos (n := n) (show 0 < 2 by decide); omega
      · exact Nat.pow_pos (by decide)
theorem word_lt (S : Nat → Bool) (q : Nat) : word S q < 18446744073709551616 := wordN_lt S q 64

theorem pow_lt_u64 {r : Nat} (h : r < 64) : 2 ^ r < 18446744073709551616 := by
  have : 2 ^ r < 2 ^ 64 := Nat.pow_lt_pow_right (by decide) h
  omega

theorem word_ext {S : Nat → Bool} {q x : Nat} (hx : x < 18446744073709551616) (h : ∀ r, r < 64 → x.testBit r = S (64 * q + r)) : x = word S q := by
  apply Nat.eq_of_testBit_eq
  intro r
  rw [word_bit]
  by_cases hr : r < 64
  · rw [decide_eq_true hr, Bool.true_and]; exact h r hr
  · rw [decide_eq_false hr, Bool.false_and]
    exact Nat.testBit_lt_two_pow (Nat.lt_of_lt_of_le hx (by
      have : 2 ^ 64 ≤ 2 ^ r := Nat.pow_le_pow_right (by decide) (by omega)
      omega))

def sadd (S : Nat → Bool) (p : Nat) : Nat → Bool := fun x => x == p || S x
def sdel (S : Nat → Bool) (p : Nat) : Nat → Bool := fun x => x != p && S x

theorem bit_lt (p q r : Nat) (hr : r < 64) : 64 * q + r = p ↔ q = p / 64 ∧ r = p % 64 := by omega

/-- put -/
theorem word_put (S : Nat → Bool) (p : Nat) : word S (p / 64) ||| 2 ^ (p % 64) = word (sadd S p) (p / 64) := by
  refine word_ext (Nat.or_lt_two_pow (n := 64) (word_lt _ _) (pow_lt_u64 (Nat.mod_lt _ (by decide)))) fun r hr => ?_
  rw [Nat.testBit_or, word_bit, Nat.testBit_two_pow, decide_eq_true hr, Bool.true_and]
  unfold sadd
  by_cases e : 64 * (p / 64) + r = p
  · rw [e]; simp [show p % 64 = r by omega]
  · have h1 : decide (p % 64 = r) = false := decide_eq_false (by omega)
    have h2 : (64 * (p / 64) + r == p) = false := beq_eq_false_iff_ne.2 e
    rw [h1, h2]; simp
theorem put_word (S : Nat → Bool) (p : Nat) : bits .or .u64 (word S (p / 64) : Int) ((2 ^ (p % 64) : Nat) : Int) = (word (sadd S p) (p / 64) : Int) := by
  rw [or_u64 _ _ (word_lt _ _) (pow_lt_u64 (Nat.mod_lt _ (by decide))), word_put]

/-- take -/
theorem take_word (S : Nat → Bool) (p : Nat) : bits .andNot .u64 (word S (p / 64) : Int) ((2 ^ (p % 64) : Nat) : Int) = (word (sdel S p) (p / 64) : Int) := by
  rw [andNot_u64 _ _ (word_lt _ _) (pow_lt_u64 (Nat.mod_lt _ (by decide)))]
  congr 1
  refine word_ext (BitVec.isLt _) fun r hr => ?_
  rw [BitVec.testBit_toNat, BitVec.getLsbD_and, BitVec.getLsbD_not, BitVec.getLsbD_ofNat, BitVec.getLsbD_ofNat, word_bit, Nat.testBit_two_pow, decide_eq_true hr]
  unfold sdel
  by_cases e : 64 * (p / 64) + r = p
  · rw [e]; simp [show p % 64 = r by omega]
  · have h1 : decide (p % 64 = r) = false := decide_eq_false (by omega)
    have h2 : (64 * (p / 64) + r != p) = true := bne_iff_ne.2 e
    rw [h1, h2]; simp

/-- has -/
theorem has_word (S : Nat → Bool) (p : Nat) : bits .and .u64 ((word S (p / 64) / 2 ^ (p % 64) : Nat) : Int) ((1 : Nat) : Int) = if S p then 1 else 0 := by
  have hl : word S (p / 64) / 2 ^ (p % 64) < 18446744073709551616 := Nat.lt_of_le_of_lt (Nat.div_le_self _ _) (word_lt _ _)
  rw [and_u64 _ _ hl (by decide)]
  have h : (word S (p / 64)).testBit (p % 64) = S p := by
    rw [word_bit, decide_eq_true (Nat.mod_lt _ (by decide)), Bool.true_and, Nat.div_add_mod]
  rw [Nat.testBit_eq_decide_div_mod_eq] at h
  rw [Nat.and_one_is_mod]
  by_cases hS : S p = true
  · rw [if_pos hS]
    rw [hS] at h
    have := of_decide_eq_true h
    omega
  · rw [if_neg hS]
    have hS' : S p = false := by simpa using hS
    rw [hS'] at h
    have := of_decide_eq_false h
    omega

theorem word_far {S S' : Nat → Bool} {q : Nat} (h : ∀ x, x / 64 = q → S x = S' x) : word S q = word S' q := by
  refine word_ext (word_lt _ _) fun r hr => ?_
  rw [word_bit, decide_eq_true hr, Bool.true_and]
  exact h _ (by omega)
theorem word_zero (q : Nat) : word (fun _ => false) q = 0 := (word_ext (by decide) fun r _ => by simp).symm
end Bu
end Go.Proofs.Ytdanhbbdkcbapaa
