/- BuddyBack, whole. -/
import Derived.Test.YtdanhbbdkcbapaaJOQ
namespace Go.Proofs.Ytdanhbbdkcbapaa
open Go.RowKit
namespace Bu

set_option maxRecDepth 100000 in
set_option maxHeartbeats 4000000 in
theorem back_bad (w : World) (N : Int) (A : Option Addr) (c : Nat) (L : List (Int × Int)) (order : Int) (tv : Value) (h : ZAt w A c L) (hbad : checkV N L ≠ 0 ∨ L.length > 200) :
    Calls Try.prog 6 #[sv N A L.length c, .int .i64 order, tv] w fun e w' => e = .returned (.bool true) ∧ Below w.heap.size w w' := by
  have hg1 := blk_new w (.int .i64 N) (.slice A L.length c) 24
  have hb0 := below_box w (.cells #[.int .i64 N, .slice A L.length c] 24)
  obtain ⟨W1, hW1⟩ : ∃ W1, W1 = w.alloc (.cells #[.int .i64 N, .slice A L.length c] 24) := ⟨_, rfl⟩
  rw [← hW1] at hg1 hb0
  have hs1 : W1.heap.size = w.heap.size + 1 := by rw [hW1]; simp
  obtain ⟨b1, b2, _, _⟩ := two_cells hg1
  have hC := check_ok W1 N A c L (h.below hb0)
  have HX := Lib.hid (And.intro (h.below hb0) (And.intro hb0 hs1))
  have HW := Lib.hid hW1
  clear h hb0 hs1 hg1 hW1
  obtain ⟨r, hr⟩ : ∃ r, r = checkV N L := ⟨_, rfl⟩
  rw [← hr] at hC hbad
  have HC := Lib.hid hC
  clear hC hr
  by_cases h0 : r = 0
  · subst h0
    have h2 : L.length > 200 := hbad.resolve_left (fun h => h rfl)
    have t1 : (L.length : Int) > 200 := by omega
    clear hbad
    go_enter Try.func6, Try.ntmps6
    go_wp2_with (fail)
    rw [← HW.out]
    go_wp2_with (first | (go_at_call 10; refine HC.out.mono ?_; rintro e w2 ⟨rfl, hb⟩; have c1 := cell_keep2 hb b1; have c2 := cell_keep2 hb b2; have H2 := Lib.hid (below_step HX.out.2.1 hb (Nat.le_refl _)); clear hb) | (go_at_call 11; refine (shown_ok _).mono ?_; rintro e w7 ⟨rfl, hb⟩; have H7 := Lib.hid (below_step H2.out hb (Nat.le_refl _)); clear hb))
    go_ret
    exact ⟨rfl, H7.out⟩
  · have t0 : (r == 0) = false := by rw [beq_eq_false_iff_ne]; exact h0
    clear hbad
    go_enter Try.func6, Try.ntmps6
    go_wp2_with (fail)
    rw [← HW.out]
    go_wp2_with (first | (go_at_call 10; refine HC.out.mono ?_; rintro e w2 ⟨rfl, hb⟩; have H2 := Lib.hid (below_step HX.out.2.1 hb (Nat.le_refl _)); clear hb) | (go_at_call 11; refine (shown_ok _).mono ?_; rintro e w7 ⟨rfl, hb⟩; have H7 := Lib.hid (below_step H2.out hb (Nat.le_refl _)); clear hb))
    go_ret
    exact ⟨rfl, H7.out⟩

theorem back_walk (w : World) (N : Int) (A : Option Addr) (c : Nat) (L : List (Int × Int)) (order : Int) (At : Option Addr) (ct : Nat) (T : List Nat) (h : ZAt w A c L) (hnc : A = none → c = 0) (hT : U16At w At ct T) :
    Calls Try.prog 6 #[sv N A L.length c, .int .i64 order, .slice At T.length ct] w fun e w' => e = .returned (.bool true) ∧ Below w.heap.size w w' := by
  by_cases hc : checkV N L = 0 ∧ L.length ≤ 200
  · obtain ⟨M, G, rfl, rfl, hS⟩ := check_is hc.1
    have h2 := hc.2
    rw [List.length_map] at h2 ⊢
    exact back_in w M A c G order At ct T h hnc hT hS h2
  · exact back_bad w N A c L order _ h (by
      by_cases e : checkV N L = 0
      · exact .inr (by have := fun h => hc ⟨e, h⟩; omega)
      · exact .inl e)
end Bu
end Go.Proofs.Ytdanhbbdkcbapaa
