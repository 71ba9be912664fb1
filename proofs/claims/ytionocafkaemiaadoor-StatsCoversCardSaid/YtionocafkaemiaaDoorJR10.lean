/- Times of the reference. Times of the reference: the walk. -/
import Derived.Test.YtionocafkaemiaaDoorJR8
namespace Go.Proofs.YtionocafkaemiaaDoor
open Go.RowKit Go.Lib
namespace Sx
attribute [local irreducible] wpQuiet

/-- The product as the reference makes it. -/
def timesV (v n : Int) : Ar :=
  let mid := v / 1000000 * (n % 1000000) + v % 1000000 * (n / 1000000)
  let low := mid % 1000000 * 1000000 + v % 1000000 * (n % 1000000)
  plusV ⟨v / 1000000 * (n / 1000000) + mid / 1000000, 0⟩ ⟨low / 1000000000000, low % 1000000000000⟩
/-- The halves of a number of at most 10^12. -/
theorem half {v : Int} (h0 : 0 ≤ v) (h1 : v ≤ 1000000000000) : 0 ≤ v / 1000000 ∧ v / 1000000 ≤ 1000000 ∧ 0 ≤ v % 1000000 ∧ v % 1000000 < 1000000 := by omega
theorem prod_bd {a b A B : Int} (ha : 0 ≤ a) (hA : a ≤ A) (hb : 0 ≤ b) (hB : b ≤ B) : 0 ≤ a * b ∧ a * b ≤ A * B := ⟨Int.mul_nonneg ha hb, Int.mul_le_mul hA hB hb (by omega)⟩
theorem times_is {v n : Int} (hv0 : 0 ≤ v) (hv1 : v ≤ 1000000000000) (hn0 : 0 ≤ n) (hn1 : n ≤ 1000000000000) : timesV v n = prodV v n := by
  obtain ⟨a0, a1, b0, b1⟩ := half hv0 hv1
  obtain ⟨c0, c1, d0, d1⟩ := half hn0 hn1
  have e1 : v = v / 1000000 * 1000000 + v % 1000000 := by omega
  have e2 : n = n / 1000000 * 1000000 + n % 1000000 := by omega
  have hval : (timesV v n).val = (prodV v n).val := by
    rw [prod_val]
    unfold timesV
    rw [plus_val]
    unfold Ar.val
    dsimp only
    generalize v / 1000000 = a at *
    generalize v % 1000000 = b at *
    generalize n / 1000000 = c at *
    generalize n % 1000000 = d at *
    subst e1
    subst e2
    have h1 : (a * 1000000 + b) * (c * 1000000 + d) = a * c * 1000000000000 + (a * d + b * c) * 1000000 + b * d := by
      have x1 : a * 1000000 * (c * 1000000) = a * c * 1000000000000 := by
        rw [Int.mul_assoc, Int.mul_left_comm 1000000 c, ← Int.mul_assoc]; omega
      have x2 : a * 1000000 * d = a * d * 1000000 := by rw [Int.mul_assoc, Int.mul_comm 1000000 d, ← Int.mul_assoc]
      have x3 : b * (c * 1000000) = b * c * 1000000 := by rw [← Int.mul_assoc]
      rw [Int.add_mul, Int.mul_add, Int.mul_add, x1, x2, x3]
      omega
    rw [h1]
    generalize a * d + b * c = m
    generalize a * c = p
    generalize b * d = q
    omega
  have hb1 := prod_bd a0 a1 c0 c1
  have hb2 := prod_bd a0 a1 d0 (Int.le_of_lt d1)
  have hb3 := prod_bd b0 (Int.le_of_lt b1) c0 c1
  have hb4 := prod_bd b0 (Int.le_of_lt b1) d0 (Int.le_of_lt d1)
  refine ar_eq (A := 10000000000000) (B := 10000000000000) ?_ ?_ hval
  · unfold timesV plusV
    dsimp only
    generalize v / 1000000 * (n / 1000000) = p at *
    generalize v / 1000000 * (n % 1000000) = q at *
    generalize v % 1000000 * (n / 1000000) = r at *
    generalize v % 1000000 * (n % 1000000) = s at *
    clear hval e1 e2
    exact ⟨by dsimp only; omega, by dsimp only; omega, by dsimp only; omega, by dsimp only; omega⟩
  · obtain ⟨p0, p1⟩ := prod_bd hv0 hv1 hn0 hn1
    unfold prodV
    generalize v * n = p at *
    exact ⟨by dsimp only; omega, by dsimp only; omega, by dsimp only; omega, by dsimp only; omega⟩
end Sx
end Go.Proofs.YtionocafkaemiaaDoor
namespace Go.Proofs.YtionocafkaemiaaDoor
open Go.RowKit Go.Lib
namespace Sx
attribute [local irreducible] wpQuiet

set_option maxRecDepth 100000 in
set_option maxHeartbeats 4000000 in
theorem timesR_ok (v n : Int) (hv0 : 0 ≤ v) (hv1 : v ≤ 1000000000000) (hn0 : 0 ≤ n) (hn1 : n ≤ 1000000000000) (W : World) :
    Calls Tryd.prog 30 #[.int .i64 v, .int .i64 n] W fun e w' => e = .returned (.agg #[.int .i64 (prodV v n).h, .int .i64 (prodV v n).l]) ∧ Below W.heap.size W w' := by
  rw [← times_is hv0 hv1 hn0 hn1]
  obtain ⟨a0, a1, b0, b1⟩ := half hv0 hv1
  obtain ⟨c0, c1, d0, d1⟩ := half hn0 hn1
  have t1 : v.tdiv 1000000 = v / 1000000 := Int.tdiv_eq_ediv_of_nonneg hv0
  have t2 : v.tmod 1000000 = v % 1000000 := Int.tmod_eq_emod_of_nonneg hv0
  have t3 : n.tdiv 1000000 = n / 1000000 := Int.tdiv_eq_ediv_of_nonneg hn0
  have t4 : n.tmod 1000000 = n % 1000000 := Int.tmod_eq_emod_of_nonneg hn0
  unfold timesV
  dsimp only
  generalize v / 1000000 = a at *
  generalize v % 1000000 = b at *
  generalize n / 1000000 = c at *
  generalize n % 1000000 = d at *
  have hb1 := prod_bd a0 a1 c0 c1
  have hb2 := prod_bd a0 a1 d0 (Int.le_of_lt d1)
  have hb3 := prod_bd b0 (Int.le_of_lt b1) c0 c1
  have hb4 := prod_bd b0 (Int.le_of_lt b1) d0 (Int.le_of_lt d1)
  obtain ⟨p, hp⟩ : ∃ p, p = a * c := ⟨_, rfl⟩
  obtain ⟨q, hq⟩ : ∃ q, q = a * d := ⟨_, rfl⟩
  obtain ⟨r, hr⟩ : ∃ r, r = b * c := ⟨_, rfl⟩
  obtain ⟨s, hs⟩ : ∃ s, s = b * d := ⟨_, rfl⟩
  rw [← hp] at hb1 ⊢
  rw [← hq] at hb2 ⊢
  rw [← hr] at hb3 ⊢
  rw [← hs] at hb4 ⊢
  have m1 : a * c = p := hp.symm
  have m2 : a * d = q := hq.symm
  have m3 : b * c = r := hr.symm
  have m4 : b * d = s := hs.symm
  clear hp hq hr hs
  obtain ⟨e, he⟩ : ∃ e, e = (q + r) / 1000000 := ⟨_, rfl⟩
  obtain ⟨g, hg⟩ : ∃ g, g = (q + r) % 1000000 := ⟨_, rfl⟩
  have t5 : (q + r).tdiv 1000000 = e := by rw [Int.tdiv_eq_ediv_of_nonneg (by omega)]; exact he.symm
  have t6 : (q + r).tmod 1000000 = g := by rw [Int.tmod_eq_emod_of_nonneg (by omega)]; exact hg.symm
  have e0 : 0 ≤ e ∧ e ≤ 10000000 := by omega
  have g0 : 0 ≤ g ∧ g < 1000000 := by omega
  rw [← he, ← hg]
  clear he hg
  obtain ⟨x, hx⟩ : ∃ x, x = (g * 1000000 + s) / 1000000000000 := ⟨_, rfl⟩
  obtain ⟨y, hy⟩ : ∃ y, y = (g * 1000000 + s) % 1000000000000 := ⟨_, rfl⟩
  have t7 : (g * 1000000 + s).tdiv 1000000000000 = x := by rw [Int.tdiv_eq_ediv_of_nonneg (by omega)]; exact hx.symm
  have t8 : (g * 1000000 + s).tmod 1000000000000 = y := by rw [Int.tmod_eq_emod_of_nonneg (by omega)]; exact hy.symm
  have x0 : 0 ≤ x ∧ x ≤ 1000 := by omega
  have y0 : 0 ≤ y ∧ y < 1000000000000 := by omega
  rw [← hx, ← hy]
  clear hx hy
  have HP := Lib.hid (fun V => plusR_ok ⟨p + e, 0⟩ ⟨x, y⟩ V ⟨by dsimp only; omega, by dsimp only; omega, by dsimp only; omega, by dsimp only; omega⟩ ⟨by dsimp only; omega, by dsimp only; omega, by dsimp only; omega, by dsimp only; omega⟩)
  generalize plusV ⟨p + e, 0⟩ ⟨x, y⟩ = z at *
  have k1 := new_at W (.cells #[.int .i64 0, .int .i64 0] 31)
  have hbW := below_box W (.cells #[.int .i64 0, .int .i64 0] 31)
  go_enter Tryd.func30, Tryd.ntmps30
  go_upto_region 1 with (fail)
  generalize W.alloc (.cells #[.int .i64 0, .int .i64 0] 31) = V at *
  have HX := Lib.hid (And.intro hbW k1)
  clear hbW k1
  go_upto_region 3 with (fail)
  go_wp2_with (go_at_call 31; refine (HP.out _).mono ?_; rintro e w1 ⟨rfl, hb1⟩; have hrb : w1.heap[W.heap.size]? = some (.cells #[.int .i64 0, .int .i64 0] 31 (0, 0)) := (by rw [hb1.block _ (lt_of_heap HX.out.2)]; exact HX.out.2); obtain ⟨r0, r1⟩ := two_at hrb; have hf : ∀ j, w1.frozen? ⟨W.heap.size, j, none⟩ = false := (fun j => by simp [World.frozen?, hrb]); have HR := Lib.hid (And.intro hrb (HX.out.1.trans (hb1.mono HX.out.1.size))); clear hb1)
  refine bodyPost_ret (results_cell_row rfl _ _ W.heap.size 31 #[.int .i64 z.h, .int .i64 z.l] (0, 0) _ rfl (set2 HR.out.1) Tryd.underlying31 rfl area_size) rfl ⟨rfl, ?_⟩
  exact below_set2 HR.out.2 (Nat.le_refl _)
end Sx
end Go.Proofs.YtionocafkaemiaaDoor
