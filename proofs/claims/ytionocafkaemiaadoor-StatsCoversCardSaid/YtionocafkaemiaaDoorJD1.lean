/- Plain: dividing 128 bits by 64, two digits of 32 bits (Knuth's way). -/
namespace Go.Proofs.YtionocafkaemiaaDoor.Sx.Dv

/-- A divisor in two halves, its first bit set; the number above it, the next digit. -/
structure Dig (B y y1 y0 u t : Nat) : Prop where
  ey : y = y1 * B + y0
  e0 : y0 < B
  e1 : y1 < B
  top : B ≤ 2 * y1
  eu : u < y
  et : t < B
theorem Dig.q_lt {B y y1 y0 u t : Nat} (h : Dig B y y1 y0 u t) : (u * B + t) / y < B := by
  have hu := h.eu; have ht := h.et
  rw [Nat.div_lt_iff_lt_mul (by omega)]
  have : (u + 1) * B ≤ y * B := Nat.mul_le_mul_right B hu
  rw [Nat.mul_comm B y]
  rw [Nat.add_mul] at this
  omega
/-- One digit too great: it shows. -/
theorem Dig.over {B y y1 y0 u t : Nat} (h : Dig B y y1 y0 u t) {q r : Nat} (hq : q * y1 + r = u) : (u * B + t) / y < q ↔ B * r + t < q * y0 := by
  have hu := h.eu
  rw [Nat.div_lt_iff_lt_mul (by omega), h.ey, ← hq]
  have e1 : q * (y1 * B + y0) = q * y1 * B + q * y0 := by rw [Nat.mul_add, Nat.mul_assoc]
  have e2 : (q * y1 + r) * B = q * y1 * B + r * B := Nat.add_mul ..
  rw [e1, e2, Nat.mul_comm r B]
  generalize q * y1 * B = a
  generalize q * y0 = b
  omega
theorem Dig.q_le {B y y1 y0 u t : Nat} (h : Dig B y y1 y0 u t) {q r : Nat} (hq : q * y1 + r = u) : q ≤ B + 1 := by
  have hu := h.eu; have hy := h.ey; have h0 := h.e0; have ht := h.top
  refine Classical.byContradiction fun hn => ?_
  have : (B + 2) * y1 ≤ q * y1 := Nat.mul_le_mul_right _ (by omega)
  rw [Nat.add_mul, Nat.mul_comm B y1] at this
  generalize y1 * B = a at *
  generalize q * y1 = b at *
  omega
theorem Dig.fit {B y y1 y0 u t : Nat} (h : Dig B y y1 y0 u t) {q r : Nat} (hq : q * y1 + r = u) : q * y0 ≤ (B + 1) * (B - 1) := by
  have h1 := h.q_le hq
  have h0 := h.e0
  exact Nat.mul_le_mul h1 (by omega)
/-- The digit is right where the walk stops early. -/
theorem Dig.stop {B y y1 y0 u t : Nat} (h : Dig B y y1 y0 u t) {q r : Nat} (hq : q * y1 + r = u) (hr : B ≤ r) (hge : (u * B + t) / y ≤ q) : q = (u * B + t) / y := by
  refine Classical.byContradiction fun hn => ?_
  have h1 := (h.over hq).1 (by omega)
  have hu := h.eu; have hy := h.ey; have h0 := h.e0; have ht := h.top; have h3 := h.e1
  have h2 : B * B ≤ B * r := Nat.mul_le_mul_left _ hr
  have h4 : B < q := by
    refine Classical.byContradiction fun hx => ?_
    have : q * y0 ≤ B * y0 := Nat.mul_le_mul_right _ (by omega)
    have : B * y0 ≤ B * B := Nat.mul_le_mul_left _ (by omega)
    omega
  have h5 : (B + 1) * y1 ≤ q * y1 := Nat.mul_le_mul_right _ (by omega)
  rw [Nat.add_mul, Nat.mul_comm B y1] at h5
  generalize y1 * B = a at *
  generalize q * y1 = b at *
  omega
theorem Dig.start {B y y1 y0 u t : Nat} (h : Dig B y y1 y0 u t) : (u * B + t) / y ≤ u / y1 := by
  have ht := h.et; have htop := h.top
  have hy : 0 < y1 := by omega
  rw [Nat.le_div_iff_mul_le hy]
  have h1 := Nat.div_mul_le_self (u * B + t) y
  generalize (u * B + t) / y = q at *
  rw [h.ey, Nat.mul_add, ← Nat.mul_assoc] at h1
  have h2 : q * y1 * B < (u + 1) * B := by rw [Nat.add_mul]; omega
  have := Nat.lt_of_mul_lt_mul_right h2
  omega
/-- Both digits. -/
theorem two (C : Nat) {y u t1 t0 : Nat} (hy : 0 < y) : (u * C * C + t1 * C + t0) / y = (u * C + t1) / y * C + ((u * C + t1) % y * C + t0) / y ∧ (u * C * C + t1 * C + t0) % y = ((u * C + t1) % y * C + t0) % y := by
  have h1 := Nat.div_add_mod (u * C + t1) y
  generalize (u * C + t1) / y = q at *
  generalize (u * C + t1) % y = r at *
  have e : u * C * C + t1 * C + t0 = y * (q * C) + (r * C + t0) := by
    rw [← Nat.mul_assoc, ← Nat.add_assoc, ← Nat.add_mul, ← h1, ← Nat.add_mul]
  rw [e, Nat.mul_add_div hy, Nat.mul_add_mod]
  exact ⟨rfl, rfl⟩
/-- Shifting both leaves the quotient. -/
theorem shifted (x y s : Nat) : x * 2 ^ s / (y * 2 ^ s) = x / y ∧ x * 2 ^ s % (y * 2 ^ s) / 2 ^ s = x % y := by
  have hp : 0 < 2 ^ s := Nat.two_pow_pos s
  rw [Nat.mul_div_mul_right _ _ hp, Nat.mul_mod_mul_right, Nat.mul_div_cancel _ hp]
  exact ⟨rfl, rfl⟩
/-- The halves of a number of 128 bits that is shifted. -/
theorem parts {hi lo s : Nat} (hs : s ≤ 63) (_hlo : lo < 18446744073709551616) : (hi * 18446744073709551616 + lo) * 2 ^ s = (hi * 2 ^ s + lo / 2 ^ (64 - s)) * 18446744073709551616 + lo * 2 ^ s % 18446744073709551616 := by
  have hp : 0 < 2 ^ s := Nat.two_pow_pos s
  have e : (18446744073709551616 : Nat) = 2 ^ (64 - s) * 2 ^ s := by
    rw [← Nat.pow_add, show 64 - s + s = 64 by omega]
  have h1 : lo * 2 ^ s / 18446744073709551616 = lo / 2 ^ (64 - s) := by rw [e, Nat.mul_div_mul_right _ _ hp]
  have h2 := Nat.div_add_mod (lo * 2 ^ s) 18446744073709551616
  rw [h1] at h2
  rw [Nat.add_mul, Nat.add_mul, Nat.mul_right_comm]
  generalize lo / 2 ^ (64 - s) = a at *
  generalize lo * 2 ^ s % 18446744073709551616 = b at *
  generalize lo * 2 ^ s = d at *
  generalize hi * 2 ^ s = c at *
  omega
end Go.Proofs.YtionocafkaemiaaDoor.Sx.Dv
