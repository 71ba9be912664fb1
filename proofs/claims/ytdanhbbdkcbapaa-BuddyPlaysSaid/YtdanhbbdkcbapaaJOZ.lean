/- BuddyPlays, whole. -/
import Derived.Test.YtdanhbbdkcbapaaJOY
namespace Go.Proofs.Ytdanhbbdkcbapaa
open Go.RowKit
namespace Bu

set_option maxRecDepth 100000 in
set_option maxHeartbeats 4000000 in
theorem plays_bad (w : World) (order : Int) (At : Option Addr) (ct n : Nat) (hbad : order < 0 ∨ 10 < order) :
    Calls Try.prog 9 #[.int .i64 order, .slice At n ct] w fun e w' => e = .returned (.bool true) ∧ Below w.heap.size w w' := by
  have HN := Lib.hid (new_bad w order hbad)
  have hb2 : order < 0 ∨ (0 ≤ order ∧ order > 10) := by omega
  clear hbad
  rcases hb2 with t1 | ⟨t1, t2⟩
  · go_enter Try.func9, Try.ntmps9
    go_wp2_with (first | (go_at_call 26; refine HN.out.mono ?_; rintro e w1 ⟨rfl, rfl⟩) | (go_at_call 11; refine (shown_ok _).mono ?_; rintro e w7 ⟨rfl, hb⟩; have H7 := Lib.hid hb; clear hb))
    go_ret
    exact ⟨rfl, H7.out⟩
  · have t3 : ¬ order < 0 := by omega
    go_enter Try.func9, Try.ntmps9
    go_wp2_with (first | (go_at_call 26; refine HN.out.mono ?_; rintro e w1 ⟨rfl, rfl⟩) | (go_at_call 11; refine (shown_ok _).mono ?_; rintro e w7 ⟨rfl, hb⟩; have H7 := Lib.hid hb; clear hb))
    go_ret
    exact ⟨rfl, H7.out⟩

set_option maxRecDepth 100000 in
set_option maxHeartbeats 4000000 in
theorem plays_long (w : World) (N : Nat) (At : Option Addr) (ct n : Nat) (hN : N ≤ 10) (h80 : n > 80) :
    Calls Try.prog 9 #[.int .i64 (N : Int), .slice At n ct] w fun e w' => e = .returned (.bool true) ∧ Below w.heap.size w w' := by
  have HN := Lib.hid (newL_ok w N hN)
  have t1 : ¬ (N : Int) < 0 := by omega
  have t2 : ¬ (N : Int) > 10 := by omega
  have t3 : (n : Int) > 80 := by omega
  go_enter Try.func9, Try.ntmps9
  go_wp2_with (first | (go_at_call 26; refine HN.out.mono ?_; rintro e w1 ⟨rfl, hB, hb⟩; have H1 := Lib.hid hb; clear hB hb) | (go_at_call 11; refine (shown_ok _).mono ?_; rintro e w7 ⟨rfl, hb⟩; have H7 := Lib.hid (below_step H1.out hb (Nat.le_refl _)); clear hb))
  go_ret
  exact ⟨rfl, H7.out⟩

theorem plays_walk (w : World) (order : Int) (At : Option Addr) (ct : Nat) (l : List Act) (h : ActsAt w At ct l) :
    Calls Try.prog 9 #[.int .i64 order, .slice At l.length ct] w fun e w' => e = .returned (.bool true) ∧ Below w.heap.size w w' := by
  by_cases hk : 0 ≤ order ∧ order ≤ 10
  · obtain ⟨N, rfl⟩ := Int.eq_ofNat_of_zero_le hk.1
    by_cases h80 : l.length ≤ 80
    · exact plays_in w N At ct l (by omega) h h80
    · exact plays_long w N At ct _ (by omega) (by omega)
  · exact plays_bad w order At ct _ (by omega)
end Bu
end Go.Proofs.Ytdanhbbdkcbapaa
