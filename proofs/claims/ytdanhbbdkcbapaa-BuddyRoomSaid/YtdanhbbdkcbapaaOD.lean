/- The walk of BuddyRoom. -/
import Derived.Test.YtdanhbbdkcbapaaOB
import Derived.Test.YtdanhbbdkcbapaaBQ
namespace Go.Proofs.Ytdanhbbdkcbapaa
open Go.RowKit
namespace Bu

/-- A valid state that came in: blocks after all. -/
theorem checked {w : World} {N : Int} {L : List (Int × Int)} {e : Ending} {w' : World} (h : LoadL w N L e w') (h0 : checkV N L = 0) :
    ∃ (b M : Nat) (B : List Blk), N = (M : Int) ∧ L = B.map zb ∧ e = .returned (.tuple #[.pointer (some ⟨b, 0, none⟩), .int .i64 0]) ∧ BuL w' b M B ∧ w.heap.size ≤ b ∧ Below w.heap.size w w' := by
  rcases h.2 with ⟨h1, _⟩ | ⟨_, b, M, B, h1, h2, h3, h4, h5⟩
  · exact absurd h0 h1
  · exact ⟨b, M, B, h1, h2, h3, h4, h5, h.1⟩

theorem grow_step {n b : Nat} {a c d : World} (h : Below n a c) (hg : Grow1 b c d) (hn : n ≤ b) (hb : b < c.heap.size) : Below n a d :=
  h.trans ⟨hg.os, hg.tape, hg.output, hg.size, fun k hk => hg.block k (by omega) (by omega)⟩

theorem room_le {N : Nat} {L : List Blk} (h : St N L) (n : Nat) : roomB n (blocksB N L) ≤ 1024 := by
  by_cases hn : n ≤ N
  · rw [room_count h hn]
    refine Nat.le_trans (List.length_filter_le _ _) ?_
    rw [List.length_range]
    exact Nat.le_trans (Nat.pow_le_pow_right (by decide) (Nat.sub_le _ _)) (two_le h.n10)
  · rw [(room_big h (Nat.lt_of_not_le hn)).1]; omega

theorem room_zero {w : World} {b N n : Nat} {L : List Blk} (h : BuL w b N L) (hn : n ≤ 10) (hz : roomB n (blocksB N L) = 0) :
    Calls Try.prog 18 #[.pointer (some ⟨b, 0, none⟩), .int .i64 (n : Int)] w fun e w' => e = .returned (.tuple #[.int .i64 0, .int .i64 0]) ∧ Below w.heap.size w w' := by
  have := roomL_ok w b N L n h hn
  rw [hz] at this
  exact this

set_option maxRecDepth 100000 in
set_option maxHeartbeats 4000000 in
theorem roomlaw_walk (w : World) (N : Int) (A : Option Addr) (c : Nat) (L : List (Int × Int)) (order : Int) (h : ZAt w A c L) :
    Calls Try.prog 4 #[sv N A L.length c, .int .i64 order] w fun e w' => e = .returned (.bool true) ∧ Below w.heap.size w w' := by
  have hg1 := blk_new w (.int .i64 N) (.slice A L.length c) 24
  have hb0 := below_box w (.cells #[.int .i64 N, .slice A L.length c] 24)
  obtain ⟨W1, hW1⟩ : ∃ W1, W1 = w.alloc (.cells #[.int .i64 N, .slice A L.length c] 24) := ⟨_, rfl⟩
  rw [← hW1] at hg1 hb0
  have hs1 : W1.heap.size = w.heap.size + 1 := by rw [hW1]; simp
  have hz := two_cells hg1
  obtain ⟨b1, b2, _, _⟩ := hz
  have hC := check_ok W1 N A c L (h.below hb0)
  have HX := Lib.hid (And.intro (h.below hb0) (And.intro hb0 hs1))
  have HW := Lib.hid hW1
  clear h hb0 hs1 hg1 hW1
  obtain ⟨r, hr⟩ : ∃ r, r = checkV N L := ⟨_, rfl⟩
  rw [← hr] at hC
  have HC := Lib.hid hC
  clear hC
  by_cases hgo : r = 0 ∧ 0 ≤ order ∧ order ≤ 10
  · obtain ⟨h0, ho1, ho2⟩ := hgo
    obtain ⟨n, rfl⟩ := Int.eq_ofNat_of_zero_le ho1
    have hn : n ≤ 10 := by omega
    subst h0
    have HR := Lib.hid hr.symm
    have t1 : ¬ (n : Int) < 0 := by omega
    have t2 : ¬ (n : Int) > 10 := by omega
    clear hr ho1 ho2
    go_enter Try.func4, Try.ntmps4
    go_wp2_with (fail)
    rw [← HW.out]
    go_wp2_with (go_at_call 10; refine HC.out.mono ?_; rintro e w2 ⟨rfl, hb⟩; have c1 := cell_keep2 hb b1; have c2 := cell_keep2 hb b2; have H2 := Lib.hid (And.intro (HX.out.1.below hb) (below_step HX.out.2.1 hb (Nat.le_refl _))); clear hb)
    refine (load_ok w2 N A c L H2.out.1).mono ?_
    intro e w3 hL
    obtain ⟨b, M, B, hN, hLB, rfl, hB, hbw, hb3⟩ := checked hL HR.out
    have hst := hB.2
    have hr1 := room_le hst n
    have H3 := Lib.hid (And.intro hB (And.intro (below_step H2.out.2 hb3 (Nat.le_refl _)) (Nat.le_trans H2.out.2.size hbw)))
    obtain ⟨rm, hrm⟩ : ∃ rm, rm = roomB n (blocksB M B) := ⟨_, rfl⟩
    have hRoom := roomL_ok w3 b M B n hB hn
    rw [← hrm] at hRoom hr1
    have HRoom := Lib.hid hRoom
    have HM := Lib.hid hrm
    have t3 : ¬ (rm : Int) < 0 := by omega
    have t4 : ¬ (rm : Int) > 1024 := by omega
    clear hL hN hLB hB hbw hb3 hst hRoom hrm
    go_wp2_with (go_at_call 18; refine HRoom.out.mono ?_; rintro e w4 ⟨rfl, hb⟩; have H4 := Lib.hid (And.intro (H3.out.1.keep (hb.block _ H3.out.1.lt)) (below_step H3.out.2.1 hb (Nat.le_refl _))); clear hb)
    go_loopw [9] (fun i wr => ∃ (k : Nat) (B' : List Blk), k ≤ rm ∧ i = .int .i64 (k : Int) ∧ BuL wr b M B' ∧ Below w.heap.size w wr ∧ roomB n (blocksB M B') + k = rm) (fun i _ => rm - (intOf i).toNat)
    case atStart => exact ⟨0, B, Nat.zero_le _, rfl, H4.out.1, H4.out.2, HM.out.symm⟩
    case round =>
      obtain ⟨k, B', hk, rfl, hB', hbw', hrk⟩ := hrel
      have hstep := room_step hB'.2 n
      have hbl := hB'.lt
      by_cases hlt : k < rm
      · have t5 : (k : Int) < (rm : Int) := by omega
        have hkk : IntKind.i64.wrap ((k : Int) + 1) = ((k + 1 : Nat) : Int) := by rw [IntWalk.i64_in _ (by omega)]; rfl
        cases ha : allocB M B' n with
        | none => rw [ha] at hstep; have hstep : roomB n (blocksB M B') = 0 := hstep; omega
        | some pl =>
          obtain ⟨p, L'⟩ := pl
          rw [ha] at hstep
          have hstep : roomB n (blocksB M L') + 1 = roomB n (blocksB M B') := hstep
          have HA := Lib.hid (And.intro (al_some hB' hn ha) (And.intro hbw' (And.intro (show roomB n (blocksB M L') + (k + 1) = rm by omega) hbl)))
          clear hB' hbw' hrk hstep ha
          go_wp2_with (go_at_call 14; refine HA.out.1.mono ?_; rintro e w5 ⟨rfl, hB5, hg⟩; have H5 := Lib.hid (And.intro hB5 (grow_step HA.out.2.1 hg H3.out.2.2 HA.out.2.2.2)); clear hB5 hg)
          go_roundw
          case rel => exact ⟨k + 1, L', by omega, by go_num, H5.out.1, H5.out.2, HA.out.2.2.1⟩
          case measure => simp [intOf]; omega
      · obtain rfl : k = rm := by omega
        have hz : roomB n (blocksB M B') = 0 := by omega
        have hno : allocB M B' n = none := by
          cases ha : allocB M B' n with
          | none => rfl
          | some pl => rw [ha] at hstep; obtain ⟨p, L'⟩ := pl; have hstep : roomB n (blocksB M L') + 1 = roomB n (blocksB M B') := hstep; omega
        have HA := Lib.hid (And.intro (al_none hB' hn hno) (And.intro hbw' (And.intro hz hbl)))
        have t5 : ¬ (k : Int) < (k : Int) := by omega
        clear hB' hbw' hrk hstep hz hno HRoom
        go_wp2_with (first | (go_at_call 14; refine HA.out.1.mono ?_; rintro e w5 ⟨rfl, hB5, hg⟩; have H5 := Lib.hid (And.intro hB5 (grow_step HA.out.2.1 hg H3.out.2.2 HA.out.2.2.2)); clear hB5 hg) | (go_at_call 18; refine (room_zero H5.out.1 hn HA.out.2.2.1).mono ?_; rintro e w6 ⟨rfl, hb⟩; have H6 := Lib.hid (below_step H5.out.2 hb (Nat.le_refl _)); clear hb) | (go_at_call 11; refine (shown_ok _).mono ?_; rintro e w7 ⟨rfl, hb⟩; have H7 := Lib.hid (below_step H6.out hb (Nat.le_refl _)); clear hb))
        go_ret
        exact ⟨rfl, H7.out⟩
  · by_cases h0 : r = 0
    · subst h0
      have ho : order < 0 ∨ (0 ≤ order ∧ order > 10) := by omega
      clear hgo hr
      rcases ho with t1 | ⟨t1, t2⟩
      · go_enter Try.func4, Try.ntmps4
        go_wp2_with (fail)
        rw [← HW.out]
        go_wp2_with (first | (go_at_call 10; refine HC.out.mono ?_; rintro e w2 ⟨rfl, hb⟩; have H2 := Lib.hid (below_step HX.out.2.1 hb (Nat.le_refl _)); clear hb) | (go_at_call 11; refine (shown_ok _).mono ?_; rintro e w7 ⟨rfl, hb⟩; have H7 := Lib.hid (below_step H2.out hb (Nat.le_refl _)); clear hb))
        go_ret
        exact ⟨rfl, H7.out⟩
      · have t3 : ¬ order < 0 := by omega
        go_enter Try.func4, Try.ntmps4
        go_wp2_with (fail)
        rw [← HW.out]
        go_wp2_with (first | (go_at_call 10; refine HC.out.mono ?_; rintro e w2 ⟨rfl, hb⟩; have H2 := Lib.hid (below_step HX.out.2.1 hb (Nat.le_refl _)); clear hb) | (go_at_call 11; refine (shown_ok _).mono ?_; rintro e w7 ⟨rfl, hb⟩; have H7 := Lib.hid (below_step H2.out hb (Nat.le_refl _)); clear hb))
        go_ret
        exact ⟨rfl, H7.out⟩
    · have t0 : (r == 0) = false := by rw [beq_eq_false_iff_ne]; exact h0
      clear hgo hr
      go_enter Try.func4, Try.ntmps4
      go_wp2_with (fail)
      rw [← HW.out]
      go_wp2_with (first | (go_at_call 10; refine HC.out.mono ?_; rintro e w2 ⟨rfl, hb⟩; have H2 := Lib.hid (below_step HX.out.2.1 hb (Nat.le_refl _)); clear hb) | (go_at_call 11; refine (shown_ok _).mono ?_; rintro e w7 ⟨rfl, hb⟩; have H7 := Lib.hid (below_step H2.out hb (Nat.le_refl _)); clear hb))
      go_ret
      exact ⟨rfl, H7.out⟩
end Bu
end Go.Proofs.Ytdanhbbdkcbapaa
