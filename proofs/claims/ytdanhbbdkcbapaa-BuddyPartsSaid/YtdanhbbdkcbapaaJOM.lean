/- BuddyParts, whole. -/
import Derived.Test.YtdanhbbdkcbapaaJOL
namespace Go.Proofs.Ytdanhbbdkcbapaa
open Go.RowKit
namespace Bu

set_option maxRecDepth 100000 in
set_option maxHeartbeats 4000000 in
theorem parts_bad (w : World) (N : Int) (A : Option Addr) (c : Nat) (L : List (Int × Int)) (page : Int) (h : ZAt w A c L) (hbad : checkV N L ≠ 0) :
    Calls Try.prog 7 #[sv N A L.length c, .int .i64 page] w fun e w' => e = .returned (.bool true) ∧ Below w.heap.size w w' := by
  have hg1 := blk_new w (.int .i64 N) (.slice A L.length c) 24
  have hb0 := below_box w (.cells #[.int .i64 N, .slice A L.length c] 24)
  obtain ⟨W1, hW1⟩ : ∃ W1, W1 = w.alloc (.cells #[.int .i64 N, .slice A L.length c] 24) := ⟨_, rfl⟩
  rw [← hW1] at hg1 hb0
  have hs1 : W1.heap.size = w.heap.size + 1 := by rw [hW1]; simp
  obtain ⟨b1, b2, _, _⟩ := two_cells hg1
  have hC := check_ok W1 N A c L (h.below hb0)
  have HX := Lib.hid (And.intro (h.below hb0) (And.intro hb0 hs1))
  have HW := Lib.hid hW1
  clear h hb0 hs1 hg1 hW1
  obtain ⟨r, hr⟩ : ∃ r, r = checkV N L := ⟨_, rfl⟩
  rw [← hr] at hC hbad
  have HC := Lib.hid hC
  clear hC hr
  have t0 : (r == 0) = false := by rw [beq_eq_false_iff_ne]; exact hbad
  clear hbad
  go_enter Try.func7, Try.ntmps7
  go_wp2_with (fail)
  rw [← HW.out]
  go_wp2_with (first | (go_at_call 10; refine HC.out.mono ?_; rintro e w2 ⟨rfl, hb⟩; have H2 := Lib.hid (below_step HX.out.2.1 hb (Nat.le_refl _)); clear hb) | (go_at_call 11; refine (shown_ok _).mono ?_; rintro e w7 ⟨rfl, hb⟩; have H7 := Lib.hid (below_step H2.out hb (Nat.le_refl _)); clear hb))
  go_ret
  exact ⟨rfl, H7.out⟩

theorem parts_walk (w : World) (N : Int) (A : Option Addr) (c : Nat) (L : List (Int × Int)) (page : Int) (h : ZAt w A c L) (hnc : A = none → c = 0) :
    Calls Try.prog 7 #[sv N A L.length c, .int .i64 page] w fun e w' => e = .returned (.bool true) ∧ Below w.heap.size w w' := by
  by_cases hc : checkV N L = 0
  · obtain ⟨M, G, rfl, rfl, hS⟩ := check_is hc
    rw [List.length_map]
    exact parts_in w M A c G page h hnc hS
  · exact parts_bad w N A c L page h hc
end Bu
end Go.Proofs.Ytdanhbbdkcbapaa
