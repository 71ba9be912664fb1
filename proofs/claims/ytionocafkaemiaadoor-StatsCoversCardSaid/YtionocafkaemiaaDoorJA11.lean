/- The program's product of a value and a length. The program's mean. -/
import Derived.Test.YtionocafkaemiaaDoorJD2
import Derived.Test.YtionocafkaemiaaDoorJA8
import Derived.Test.YtionocafkaemiaaDoorK1
import Derived.Laws.Externs
namespace Go.Proofs.YtionocafkaemiaaDoor
open Go.RowKit Go.Lib Go.Shelf
namespace Sx
attribute [local irreducible] wpQuiet

theorem area_size2 : (Tryd.prog.info? 31).map (·.size) = some 2 := by kernel_rfl
set_option maxRecDepth 100000 in
theorem product_ok (v n : Int) (hv0 : 0 ≤ v) (hv1 : v ≤ 1000000000000) (hn0 : 0 ≤ n) (hn1 : n ≤ 1000000000000) (W : World) :
    Calls Tryd.prog 53 #[.int .i64 v, .int .i64 n] W fun e w' => e = .returned (.agg #[.int .i64 (prodV v n).h, .int .i64 (prodV v n).l]) ∧ Below W.heap.size W w' := by
  obtain ⟨a, rfl⟩ := Int.eq_ofNat_of_zero_le hv0
  obtain ⟨b, rfl⟩ := Int.eq_ofNat_of_zero_le hn0
  have hp : a * b ≤ 1000000000000000000000000 := by
    have : a * b ≤ 1000000000000 * 1000000000000 := Nat.mul_le_mul (by omega) (by omega)
    omega
  have hM := Lib.hid (fun V => Any.bits_Mul64 Tryd.mul64 a b (by omega) (by omega) V)
  have hx : prodV (a : Int) (b : Int) = ⟨((a * b / 1000000000000 : Nat) : Int), ((a * b % 1000000000000 : Nat) : Int)⟩ := by
    unfold prodV; simp
  rw [hx]
  obtain ⟨hi, hhi⟩ : ∃ hi, hi = a * b / 18446744073709551616 := ⟨_, rfl⟩
  obtain ⟨lo, hlo⟩ : ∃ lo, lo = a * b % 18446744073709551616 := ⟨_, rfl⟩
  rw [← hhi, ← hlo] at hM
  have hsum : hi * 18446744073709551616 + lo = a * b := by omega
  have hD := Lib.hid (fun V => div64_ok hi lo 1000000000000 (by omega) (by omega) (by omega) V)
  rw [hsum] at hD
  obtain ⟨q, hq⟩ : ∃ q, q = a * b / 1000000000000 := ⟨_, rfl⟩
  obtain ⟨r, hr⟩ : ∃ r, r = a * b % 1000000000000 := ⟨_, rfl⟩
  rw [← hq, ← hr] at hD
  rw [← hq, ← hr]
  have q0 : q ≤ 1000000000000 := by omega
  have r0 : r < 1000000000000 := by omega
  have k1 := new_at W (.cells #[.int .i64 0, .int .i64 0] 31)
  have hbW := below_box W (.cells #[.int .i64 0, .int .i64 0] 31)
  clear hhi hlo hsum hq hr hp hx
  go_enter Tryd.func53, Tryd.ntmps53
  go_upto_region 1 with (fail)
  generalize W.alloc (.cells #[.int .i64 0, .int .i64 0] 31) = V at *
  have HX := Lib.hid (And.intro hbW k1)
  clear hbW k1
  go_upto_region 3 with (first | (go_at_call 78; refine (hM.out _).mono ?_; rintro e w1 ⟨rfl, hw⟩; have hw := hw.symm; subst hw) | (go_at_call 79; refine (hD.out _).mono ?_; rintro e w1 ⟨rfl, hb1⟩))
  have hrb : w1.heap[W.heap.size]? = some (.cells #[.int .i64 0, .int .i64 0] 31 (0, 0)) := by rw [hb1.block _ (lt_of_heap HX.out.2)]; exact HX.out.2
  obtain ⟨r0, r1⟩ := two_at hrb
  have hf : ∀ j, w1.frozen? ⟨W.heap.size, j, none⟩ = false := fun j => by simp [World.frozen?, hrb]
  have HR := Lib.hid (And.intro hrb (HX.out.1.trans (hb1.mono HX.out.1.size)))
  clear hb1
  go_wp2_with (fail)
  refine bodyPost_ret (results_cell_row rfl _ _ W.heap.size 31 #[.int .i64 q, .int .i64 r] (0, 0) _ rfl (set2 HR.out.1) Tryd.underlying31 rfl area_size2) rfl ⟨rfl, ?_⟩
  exact below_set2 HR.out.2 (Nat.le_refl _)
end Sx
end Go.Proofs.YtionocafkaemiaaDoor
namespace Go.Proofs.YtionocafkaemiaaDoor
open Go.RowKit Go.Lib Go.Shelf
namespace Sx
attribute [local irreducible] wpQuiet

theorem add64_run (x y : Nat) (w : World) : (callFunc 89 #[.int .u64 x, .int .u64 y, .int .u64 0]).run Tryd.prog w = .ok (.value (.tuple #[.int .u64 (((x + y) % 18446744073709551616 : Nat) : Int), .int .u64 (((x + y) / 18446744073709551616 : Nat) : Int)])) w := by
  rw [run_callFunc_extern Tryd.func89 (by kernel_rfl) (by kernel_rfl) (by kernel_rfl) (e := add64Entry) (by kernel_rfl), run_add64 (x : Int) (y : Int) 0 (by omega) (by omega) (by omega) (by omega)]
  simp only [Result.andThen]
  congr 5 <;> omega
set_option maxRecDepth 100000 in
theorem mean_ok (a : Ar) (n : Int) (W : World) (ha : a.Ok 1000000000000000) (hn : 0 < n) (hn1 : n ≤ 1000000000000) (hv : a.val ≤ 1000000000000 * n) :
    Calls Tryd.prog 69 #[.agg #[.int .i64 a.h, .int .i64 a.l], .int .i64 n] W fun e w' => e = .returned (.int .i64 (a.val / n)) ∧ Below W.heap.size W w' := by
  obtain ⟨ah, al⟩ := a
  obtain ⟨a1, a2, a3, a4⟩ := ha
  dsimp only at a1 a2 a3 a4
  obtain ⟨h, rfl⟩ := Int.eq_ofNat_of_zero_le a1
  obtain ⟨l, rfl⟩ := Int.eq_ofNat_of_zero_le a3
  obtain ⟨m, rfl⟩ := Int.eq_ofNat_of_zero_le (Int.le_of_lt hn)
  have hval : (⟨(h : Int), (l : Int)⟩ : Ar).val = ((h * 1000000000000 + l : Nat) : Int) := by unfold Ar.val; simp
  rw [hval] at hv ⊢
  obtain ⟨N, hN⟩ : ∃ N, N = h * 1000000000000 + l := ⟨_, rfl⟩
  rw [← hN] at hv ⊢
  obtain ⟨q, hq⟩ : ∃ q, q = N / m := ⟨_, rfl⟩
  have hqi : (N : Int) / (m : Int) = (q : Int) := by rw [hq]; simp
  have q1 : q ≤ 1000000000000 := by rw [hq]; exact Nat.div_le_of_le_mul (by omega)
  rw [hqi]
  have hM := Lib.hid (fun V => Any.bits_Mul64 Tryd.mul64 h 1000000000000 (by omega) (by omega) V)
  obtain ⟨hi, hhi⟩ : ∃ hi, hi = h * 1000000000000 / 18446744073709551616 := ⟨_, rfl⟩
  obtain ⟨lo, hlo⟩ : ∃ lo, lo = h * 1000000000000 % 18446744073709551616 := ⟨_, rfl⟩
  rw [← hhi, ← hlo] at hM
  obtain ⟨lo2, hlo2⟩ : ∃ lo2, lo2 = (lo + l) % 18446744073709551616 := ⟨_, rfl⟩
  obtain ⟨cy, hcy⟩ : ∃ cy, cy = (lo + l) / 18446744073709551616 := ⟨_, rfl⟩
  have hA := fun w => add64_run lo l w
  rw [← hlo2, ← hcy] at hA
  have hsum : (hi + cy) * 18446744073709551616 + lo2 = N := by omega
  have hD := Lib.hid (fun V => div64_ok (hi + cy) lo2 m (by omega) (by omega) (by omega) V)
  rw [hsum, ← hq] at hD
  have hc : ((hi + cy : Nat) : Int) = (hi : Int) + (cy : Int) := by omega
  rw [hc] at hD
  have b1 : hi < 18446744073709551616 := by omega
  have b2 : cy ≤ 1 := by omega
  have b3 : hi + cy < 18446744073709551616 := by omega
  have k1 := new_at W (.cells #[.int .i64 h, .int .i64 l] 31)
  have hbW := below_box W (.cells #[.int .i64 h, .int .i64 l] 31)
  clear hhi hlo hsum hq hqi hlo2 hcy hval hN hv hc
  go_enter Tryd.func69, Tryd.ntmps69
  go_upto_region 1 with (fail)
  generalize W.alloc (.cells #[.int .i64 h, .int .i64 l] 31) = V at *
  obtain ⟨r0, r1⟩ := two_at k1
  have HX := Lib.hid (And.intro hbW k1)
  clear hbW k1
  go_wp2_with (first | (simp only) | (go_at_call 78; refine (hM.out _).mono ?_; rintro e w1 ⟨rfl, hw⟩; have hw := hw.symm; subst hw) | (go_at_call 79; refine (hD.out _).mono ?_; rintro e w1 ⟨rfl, hb1⟩))
  go_ret
  exact ⟨rfl, HX.out.1.trans (hb1.mono HX.out.1.size)⟩
end Sx
end Go.Proofs.YtionocafkaemiaaDoor
