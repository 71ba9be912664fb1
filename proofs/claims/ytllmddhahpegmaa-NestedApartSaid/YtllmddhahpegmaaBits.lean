/- The bits of small numbers: which are powers of two, and what is rounded up to a multiple of one. -/
import Derived.Test.YtllmddhahpegmaaPlain
import Derived.WalkKit
namespace Go.Proofs.Ytllmddhahpegmaa
namespace Ne
theorem toInt_small (n : Nat) (h : n < 9223372036854775808) : (BitVec.ofInt 64 (n : Int)).toNat = n := by
  simp; omega

theorem wrap_small (n : Nat) (h : n < 9223372036854775808) : IntKind.i64.wrap (n : Int) = n := by
  rw [IntWalk.i64_in]; omega

theorem and_nat (m n : Nat) (hm : m < 9223372036854775808) (hn : n < 9223372036854775808) : bits .and .i64 (m : Int) (n : Int) = ((m &&& n : Nat) : Int) := by
  have h1 := toInt_small m hm
  have h2 := toInt_small n hn
  have h3 : m &&& n ≤ m := Nat.and_le_left
  simp only [bits]
  show IntKind.i64.wrap ((BitVec.ofInt 64 (m : Int) &&& BitVec.ofInt 64 (n : Int)).toNat : Int) = _
  rw [BitVec.toNat_and, h1, h2, wrap_small _ (by omega)]

def pows : List Nat := [1, 2, 4, 8, 16, 32, 64, 128, 256, 512, 1024, 2048, 4096]

theorem pow_all : (List.range 4097).all (fun a => a == 0 || (a &&& (a - 1) == 0) == pows.contains a) = true := by decide +kernel

theorem pow_iff (a : Nat) (h1 : 1 ≤ a) (h2 : a ≤ 4096) : (a &&& (a - 1) = 0) ↔ a ∈ pows := by
  have h := List.all_eq_true.1 pow_all a (by simp; omega)
  simp at h
  rcases h with h | h
  · omega
  · by_cases hp : a ∈ pows
    · simp [hp] at h ⊢; exact h
    · simp [hp] at h ⊢; exact h

theorem andNot_nat (x k : Nat) (hx : x < 9223372036854775808) (hk : k ≤ 12) : bits .andNot .i64 (x : Int) ((2 ^ k - 1 : Nat) : Int) = ((x / 2 ^ k * 2 ^ k : Nat) : Int) := by
  have hp : 2 ^ k ≤ 2 ^ 12 := Nat.pow_le_pow_right (by omega) hk
  have h1 := toInt_small x hx
  have h2 := toInt_small (2 ^ k - 1) (by omega)
  have hle : x / 2 ^ k * 2 ^ k ≤ x := Nat.div_mul_le_self x (2 ^ k)
  have key : (BitVec.ofInt 64 (x : Int) &&& ~~~ BitVec.ofInt 64 ((2 ^ k - 1 : Nat) : Int)).toNat = x / 2 ^ k * 2 ^ k := by
    apply Nat.eq_of_testBit_eq
    intro i
    rw [← Nat.shiftRight_eq_div_pow, ← Nat.shiftLeft_eq, Nat.testBit_shiftLeft, Nat.testBit_shiftRight, BitVec.testBit_toNat, BitVec.getLsbD_and, BitVec.getLsbD_not, ← BitVec.testBit_toNat, ← BitVec.testBit_toNat, h1, h2, Nat.testBit_two_pow_sub_one]
    by_cases hi : i < 64
    · by_cases hik : i < k
      · have : ¬ k ≤ i := by omega
        simp [hik, this]
      · have h3 : k ≤ i := by omega
        have h4 : k + (i - k) = i := by omega
        simp [hi, hik, h3, h4]
    · have h3 : x.testBit i = false := Nat.testBit_lt_two_pow (Nat.lt_of_lt_of_le hx (by
        have : 2 ^ 63 ≤ 2 ^ i := Nat.pow_le_pow_right (by omega) (by omega)
        omega))
      have h5 : k ≤ i := by omega
      have h4 : k + (i - k) = i := by omega
      simp [h3, h4]
  show IntKind.i64.wrap ((BitVec.ofInt 64 (x : Int) &&& ~~~ BitVec.ofInt 64 ((2 ^ k - 1 : Nat) : Int)).toNat : Int) = _
  rw [key, wrap_small _ (by omega)]

theorem pows_pow (a : Nat) (h : a ∈ pows) : ∃ k, k ≤ 12 ∧ a = 2 ^ k := by
  simp [pows] at h
  rcases h with h | h | h | h | h | h | h | h | h | h | h | h | h
  · exact ⟨0, by omega, h⟩
  · exact ⟨1, by omega, h⟩
  · exact ⟨2, by omega, h⟩
  · exact ⟨3, by omega, h⟩
  · exact ⟨4, by omega, h⟩
  · exact ⟨5, by omega, h⟩
  · exact ⟨6, by omega, h⟩
  · exact ⟨7, by omega, h⟩
  · exact ⟨8, by omega, h⟩
  · exact ⟨9, by omega, h⟩
  · exact ⟨10, by omega, h⟩
  · exact ⟨11, by omega, h⟩
  · exact ⟨12, by omega, h⟩

/-- An alignment, as the program asks it. -/
theorem align_test (al : Int) (h1 : 1 ≤ al) (h2 : al ≤ 4096) :
    (bits .and .i64 al (al - 1) != 0) = !([1, 2, 4, 8, 16, 32, 64, 128, 256, 512, 1024, 2048, 4096] : List Int).contains al := by
  obtain ⟨a, rfl⟩ := Int.eq_ofNat_of_zero_le (show 0 ≤ al by omega)
  have e : (a : Int) - 1 = ((a - 1 : Nat) : Int) := by omega
  rw [e, and_nat a (a - 1) (by omega) (by omega)]
  have hp := pow_iff a (by omega) (by omega)
  have hq : ([1, 2, 4, 8, 16, 32, 64, 128, 256, 512, 1024, 2048, 4096] : List Int).contains (a : Int) = decide (a ∈ pows) := by
    rw [Bool.eq_iff_iff]
    simp [pows]
    omega
  rw [hq]
  by_cases h : a ∈ pows
  · have := hp.2 h
    simp [h, this]
  · have : ¬ (a &&& (a - 1) = 0) := fun x => h (hp.1 x)
    simp [h]
    omega

/-- Rounding up, as the program does it. -/
theorem up_bits (x al : Int) (hx : 0 ≤ x) (hx2 : x ≤ 65536) (h : ([1, 2, 4, 8, 16, 32, 64, 128, 256, 512, 1024, 2048, 4096] : List Int).contains al = true) :
    bits .andNot .i64 (x + al - 1) (al - 1) = up x al := by
  obtain ⟨a, rfl⟩ : ∃ a : Nat, al = a := by
    simp at h
    rcases h with h | h | h | h | h | h | h | h | h | h | h | h | h <;> exact ⟨al.toNat, by omega⟩
  obtain ⟨y, rfl⟩ := Int.eq_ofNat_of_zero_le hx
  have ha : a ∈ pows := by
    simp at h
    simp [pows]
    omega
  obtain ⟨k, hk, rfl⟩ := pows_pow a ha
  have hp : 2 ^ k ≤ 2 ^ 12 := Nat.pow_le_pow_right (by omega) hk
  have hp0 : 1 ≤ 2 ^ k := Nat.one_le_two_pow
  have e1 : (y : Int) + ((2 ^ k : Nat) : Int) - 1 = ((y + 2 ^ k - 1 : Nat) : Int) := by omega
  have e2 : ((2 ^ k : Nat) : Int) - 1 = ((2 ^ k - 1 : Nat) : Int) := by omega
  unfold up
  rw [e1, e2, andNot_nat _ k (by omega) hk]
  simp

end Ne
end Go.Proofs.Ytllmddhahpegmaa
