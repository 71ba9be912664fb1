/- The program's mean. -/
import Derived.Test.YtionocafkaemiaaDoorJA11
import Derived.Laws.Externs
namespace Go.Proofs.YtionocafkaemiaaDoor
open Go.RowKit Go.Lib Go.Shelf
namespace Sx
attribute [local irreducible] wpQuiet

theorem add64_run (x y : Nat) (w : World) : (callFunc 89 #[.int .u64 x, .int .u64 y, .int .u64 0]).run Tryd.prog w = .ok (.value (.tuple #[.int .u64 (((x + y) % 18446744073709551616 : Nat) : Int), .int .u64 (((x + y) / 18446744073709551616 : Nat) : Int)])) w := by
  rw [run_callFunc_extern Tryd.func89 (by kernel_rfl) (by kernel_rfl) (by kernel_rfl) (e := add64Entry) (by kernel_rfl), run_add64 (x : Int) (y : Int) 0 (by omega) (by omega) (by omega) (by omega)]
  simp only [Result.andThen]
  congr 5 <;> omega
set_option maxRecDepth 100000 in
theorem mean_ok (a : Ar) (n : Int) (W : World) (ha : a.Ok 1000000000000000) (hn : 0 < n) (hn1 : n ≤ 1000000000000) (hv : a.val ≤ 1000000000000 * n) :
    Calls Tryd.prog 69 #[.agg #[.int .i64 a.h, .int .i64 a.l], .int .i64 n] W fun e w' => e = .returned (.int .i64 (a.val / n)) ∧ Below W.heap.size W w' := by
  obtain ⟨ah, al⟩ := a
  obtain ⟨a1, a2, a3, a4⟩ := ha
  dsimp only at a1 a2 a3 a4
  obtain ⟨h, rfl⟩ := Int.eq_ofNat_of_zero_le a1
  obtain ⟨l, rfl⟩ := Int.eq_ofNat_of_zero_le a3
  obtain ⟨m, rfl⟩ := Int.eq_ofNat_of_zero_le (Int.le_of_lt hn)
  have hval : (⟨(h : Int), (l : Int)⟩ : Ar).val = ((h * 1000000000000 + l : Nat) : Int) := by unfold Ar.val; simp
  rw [hval] at hv ⊢
  obtain ⟨N, hN⟩ : ∃ N, N = h * 1000000000000 + l := ⟨_, rfl⟩
  rw [← hN] at hv ⊢
  obtain ⟨q, hq⟩ : ∃ q, q = N / m := ⟨_, rfl⟩
  have hqi : (N : Int) / (m : Int) = (q : Int) := by rw [hq]; simp
  have q1 : q ≤ 1000000000000 := by rw [hq]; exact Nat.div_le_of_le_mul (by omega)
  rw [hqi]
  have hM := Lib.hid (fun V => Any.bits_Mul64 Tryd.mul64 h 1000000000000 (by omega) (by omega) V)
  obtain ⟨hi, hhi⟩ : ∃ hi, hi = h * 1000000000000 / 18446744073709551616 := ⟨_, rfl⟩
  obtain ⟨lo, hlo⟩ : ∃ lo, lo = h * 1000000000000 % 18446744073709551616 := ⟨_, rfl⟩
  rw [← hhi, ← hlo] at hM
  obtain ⟨lo2, hlo2⟩ : ∃ lo2, lo2 = (lo + l) % 18446744073709551616 := ⟨_, rfl⟩
  obtain ⟨cy, hcy⟩ : ∃ cy, cy = (lo + l) / 18446744073709551616 := ⟨_, rfl⟩
  have hA := fun w => add64_run lo l w
  rw [← hlo2, ← hcy] at hA
  have hsum : (hi + cy) * 18446744073709551616 + lo2 = N := by omega
  have hD := Lib.hid (fun V => div64_ok (hi + cy) lo2 m (by omega) (by omega) (by omega) V)
  rw [hsum, ← hq] at hD
  have hc : ((hi + cy : Nat) : Int) = (hi : Int) + (cy : Int) := by omega
  rw [hc] at hD
  have b1 : hi < 18446744073709551616 := by omega
  have b2 : cy ≤ 1 := by omega
  have b3 : hi + cy < 18446744073709551616 := by omega
  have k1 := new_at W (.cells #[.int .i64 h, .int .i64 l] 31)
  have hbW := below_box W (.cells #[.int .i64 h, .int .i64 l] 31)
  clear hhi hlo hsum hq hqi hlo2 hcy hval hN hv hc
  go_enter Tryd.func69, Tryd.ntmps69
  go_upto_region 1 with (fail)
  generalize W.alloc (.cells #[.int .i64 h, .int .i64 l] 31) = V at *
  obtain ⟨r0, r1⟩ := two_at k1
  have HX := Lib.hid (And.intro hbW k1)
  clear hbW k1
  go_wp2_with (first | (simp only) | (go_at_call 78; refine (hM.out _).mono ?_; rintro e w1 ⟨rfl, hw⟩; have hw := hw.symm; subst hw) | (go_at_call 79; refine (hD.out _).mono ?_; rintro e w1 ⟨rfl, hb1⟩))
  go_ret
  exact ⟨rfl, HX.out.1.trans (hb1.mono HX.out.1.size)⟩
end Sx
end Go.Proofs.YtionocafkaemiaaDoor
