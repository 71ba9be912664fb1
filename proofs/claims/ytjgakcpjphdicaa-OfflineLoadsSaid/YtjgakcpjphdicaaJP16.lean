/- Plain: all loads together. -/
import Derived.Test.YtjgakcpjphdicaaK2
namespace Go.Proofs.Ytjgakcpjphdicaa
namespace Of

/-- The loads below a step, together. -/
def sumV (L : List OB) : Nat → Int
  | 0 => 0
  | k + 1 => sumV L k + loadV L (k : Int)
def areaB (b : OB) : Int := b.s * (b.t - b.f)
def wantV (L : List OB) : Int := (L.map areaB).sum
def ldS (b : OB) : Nat → Int
  | 0 => 0
  | k + 1 => ldS b k + ld b (k : Int)
theorem ldS_is {b : OB} (h : Ok b) : ∀ k : Nat, ((k : Int) ≤ b.f → ldS b k = 0) ∧ (b.f ≤ (k : Int) → (k : Int) ≤ b.t → ldS b k = b.s * ((k : Int) - b.f)) ∧ (b.t ≤ (k : Int) → ldS b k = areaB b)
  | 0 => by
    have h1 := h.f0
    have h2 := h.ft
    refine ⟨fun _ => rfl, fun h3 _ => ?_, fun h3 => by omega⟩
    have : b.f = 0 := by omega
    show (0 : Int) = _
    rw [this]; simp
  | k + 1 => by
    obtain ⟨i1, i2, i3⟩ := ldS_is h k
    have h1 := h.f0
    have h2 := h.ft
    have e : ldS b (k + 1) = ldS b k + ld b (k : Int) := rfl
    refine ⟨fun h3 => ?_, fun h3 h4 => ?_, fun h3 => ?_⟩
    · rw [e, i1 (by omega)]
      unfold ld
      rw [if_neg (by omega)]; rfl
    · by_cases h5 : b.f ≤ (k : Int)
      · rw [e, i2 h5 (by omega)]
        unfold ld
        rw [if_pos ⟨h5, by omega⟩]
        have e2 : ((k + 1 : Nat) : Int) - b.f = ((k : Int) - b.f) + 1 := by omega
        rw [e2, Int.mul_add, Int.mul_one]
      · rw [e, i1 (by omega)]
        unfold ld
        rw [if_neg (by omega)]
        have e2 : ((k + 1 : Nat) : Int) - b.f = 0 := by omega
        rw [e2]; simp
    · by_cases h5 : b.t ≤ (k : Int)
      · rw [e, i3 h5]
        unfold ld
        rw [if_neg (by omega)]; simp
      · rw [e, i2 (by omega) (by omega)]
        unfold ld
        rw [if_pos ⟨by omega, by omega⟩]
        have e2 : b.t - b.f = ((k : Int) - b.f) + 1 := by omega
        unfold areaB
        rw [e2, Int.mul_add, Int.mul_one]
theorem sumV_cons (b : OB) (L : List OB) : ∀ k, sumV (b :: L) k = ldS b k + sumV L k
  | 0 => rfl
  | k + 1 => by
    have e : loadV (b :: L) (k : Int) = ld b (k : Int) + loadV L (k : Int) := by simp [loadV]
    show sumV (b :: L) k + loadV (b :: L) (k : Int) = (ldS b k + ld b (k : Int)) + (sumV L k + loadV L (k : Int))
    rw [sumV_cons b L k, e]; omega
theorem sumV_nil : ∀ k, sumV [] k = 0
  | 0 => rfl
  | k + 1 => by
    show sumV [] k + loadV [] (k : Int) = 0
    rw [sumV_nil k]; rfl
theorem sum_want : ∀ {L : List OB}, (∀ b, b ∈ L → Ok b) → sumV L 1001 = wantV L
  | [], _ => sumV_nil _
  | b :: L, h => by
    rw [sumV_cons, sum_want fun x hx => h x (by simp [hx]), (ldS_is (h b (by simp)) 1001).2.2 (by have := (h b (by simp)).t1; omega)]
    rfl
theorem wantV_snoc (L : List OB) (b : OB) : wantV (L ++ [b]) = wantV L + areaB b := by simp [wantV]
theorem area_bd {b : OB} (h : Ok b) : 0 ≤ areaB b ∧ areaB b ≤ 65536000 := by
  unfold areaB
  have h1 := h.s1
  have h2 := h.s2
  have h3 := h.f0
  have h4 := h.ft
  have h5 := h.t1
  refine ⟨Int.mul_nonneg (by omega) (by omega), ?_⟩
  have e1 : b.s * (b.t - b.f) ≤ b.s * 1000 := Int.mul_le_mul_of_nonneg_left (by omega) (by omega)
  omega
theorem want_bd : ∀ {L : List OB}, (∀ b, b ∈ L → Ok b) → 0 ≤ wantV L ∧ wantV L ≤ L.length * 65536000
  | [], _ => by simp [wantV]
  | b :: L, h => by
    obtain ⟨h1, h2⟩ := want_bd (L := L) fun x hx => h x (by simp [hx])
    obtain ⟨h3, h4⟩ := area_bd (h b (by simp))
    have e : wantV (b :: L) = areaB b + wantV L := by simp [wantV]
    rw [e]
    simp only [List.length_cons]
    omega
theorem sum_bd {L : List OB} {B : Int} (h : ∀ t : Nat, 0 ≤ loadV L t ∧ loadV L t ≤ B) : ∀ k : Nat, 0 ≤ sumV L k ∧ sumV L k ≤ k * B
  | 0 => by simp [sumV]
  | k + 1 => by
    obtain ⟨h1, h2⟩ := sum_bd h k
    obtain ⟨h3, h4⟩ := h k
    have e : sumV L (k + 1) = sumV L k + loadV L (k : Int) := rfl
    have e2 : ((k + 1 : Nat) : Int) * B = k * B + B := by rw [show ((k + 1 : Nat) : Int) = (k : Int) + 1 by omega, Int.add_mul, Int.one_mul]
    rw [e, e2]
    omega
end Of
end Go.Proofs.Ytjgakcpjphdicaa
