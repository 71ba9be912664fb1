/- The program's product of a value and a length. -/
import Derived.Test.YtionocafkaemiaaDoorJD2
import Derived.Test.YtionocafkaemiaaDoorJA8
import Derived.Test.YtionocafkaemiaaDoorK1
namespace Go.Proofs.YtionocafkaemiaaDoor
open Go.RowKit Go.Lib Go.Shelf
namespace Sx
attribute [local irreducible] wpQuiet

theorem area_size2 : (Tryd.prog.info? 31).map (·.size) = some 2 := by kernel_rfl
set_option maxRecDepth 100000 in
theorem product_ok (v n : Int) (hv0 : 0 ≤ v) (hv1 : v ≤ 1000000000000) (hn0 : 0 ≤ n) (hn1 : n ≤ 1000000000000) (W : World) :
    Calls Tryd.prog 53 #[.int .i64 v, .int .i64 n] W fun e w' => e = .returned (.agg #[.int .i64 (prodV v n).h, .int .i64 (prodV v n).l]) ∧ Below W.heap.size W w' := by
  obtain ⟨a, rfl⟩ := Int.eq_ofNat_of_zero_le hv0
  obtain ⟨b, rfl⟩ := Int.eq_ofNat_of_zero_le hn0
  have hp : a * b ≤ 1000000000000000000000000 := by
    have : a * b ≤ 1000000000000 * 1000000000000 := Nat.mul_le_mul (by omega) (by omega)
    omega
  have hM := Lib.hid (fun V => Any.bits_Mul64 Tryd.mul64 a b (by omega) (by omega) V)
  have hx : prodV (a : Int) (b : Int) = ⟨((a * b / 1000000000000 : Nat) : Int), ((a * b % 1000000000000 : Nat) : Int)⟩ := by
    unfold prodV; simp
  rw [hx]
  obtain ⟨hi, hhi⟩ : ∃ hi, hi = a * b / 18446744073709551616 := ⟨_, rfl⟩
  obtain ⟨lo, hlo⟩ : ∃ lo, lo = a * b % 18446744073709551616 := ⟨_, rfl⟩
  rw [← hhi, ← hlo] at hM
  have hsum : hi * 18446744073709551616 + lo = a * b := by omega
  have hD := Lib.hid (fun V => div64_ok hi lo 1000000000000 (by omega) (by omega) (by omega) V)
  rw [hsum] at hD
  obtain ⟨q, hq⟩ : ∃ q, q = a * b / 1000000000000 := ⟨_, rfl⟩
  obtain ⟨r, hr⟩ : ∃ r, r = a * b % 1000000000000 := ⟨_, rfl⟩
  rw [← hq, ← hr] at hD
  rw [← hq, ← hr]
  have q0 : q ≤ 1000000000000 := by omega
  have r0 : r < 1000000000000 := by omega
  have k1 := new_at W (.cells #[.int .i64 0, .int .i64 0] 31)
  have hbW := below_box W (.cells #[.int .i64 0, .int .i64 0] 31)
  clear hhi hlo hsum hq hr hp hx
  go_enter Tryd.func53, Tryd.ntmps53
  go_upto_region 1 with (fail)
  generalize W.alloc (.cells #[.int .i64 0, .int .i64 0] 31) = V at *
  have HX := Lib.hid (And.intro hbW k1)
  clear hbW k1
  go_upto_region 3 with (first | (go_at_call 78; refine (hM.out _).mono ?_; rintro e w1 ⟨rfl, hw⟩; have hw := hw.symm; subst hw) | (go_at_call 79; refine (hD.out _).mono ?_; rintro e w1 ⟨rfl, hb1⟩))
  have hrb : w1.heap[W.heap.size]? = some (.cells #[.int .i64 0, .int .i64 0] 31 (0, 0)) := by rw [hb1.block _ (lt_of_heap HX.out.2)]; exact HX.out.2
  obtain ⟨r0, r1⟩ := two_at hrb
  have hf : ∀ j, w1.frozen? ⟨W.heap.size, j, none⟩ = false := fun j => by simp [World.frozen?, hrb]
  have HR := Lib.hid (And.intro hrb (HX.out.1.trans (hb1.mono HX.out.1.size)))
  clear hb1
  go_wp2_with (fail)
  refine bodyPost_ret (results_cell_row rfl _ _ W.heap.size 31 #[.int .i64 q, .int .i64 r] (0, 0) _ rfl (set2 HR.out.1) Tryd.underlying31 rfl area_size2) rfl ⟨rfl, ?_⟩
  exact below_set2 HR.out.2 (Nat.le_refl _)
end Sx
end Go.Proofs.YtionocafkaemiaaDoor
