/- The walk of BuddyNone. -/
import Derived.Test.YtdanhbbdkcbapaaOB
namespace Go.Proofs.Ytdanhbbdkcbapaa
open Go.RowKit
namespace Bu

set_option maxRecDepth 100000 in
set_option maxHeartbeats 1000000 in
theorem save_not (w : World) (p : Option Addr) (h : IsNot w p) :
    Calls Try.prog 20 #[.pointer p] w fun e w' => e = .returned (sv 0 none 0 0) ∧ Below w.heap.size w w' := by
  have hg2 := blk_new w (.int .i64 0) (.slice none 0 0) 24
  have hb0 := below_box w (.cells #[.int .i64 0, .slice none 0 0] 24)
  obtain ⟨W1, hW1⟩ : ∃ W1, W1 = w.alloc (.cells #[.int .i64 0, .slice none 0 0] 24) := ⟨_, rfl⟩
  rw [← hW1] at hg2 hb0
  have hz := two_cells hg2
  obtain ⟨c1, c2, f1, f2⟩ := hz
  have HI := Lib.hid (h W1 hb0)
  have HG := Lib.hid (And.intro hb0 (two_set hg2 (.int .i64 0) (.slice none 0 0)))
  have HW := Lib.hid hW1
  clear hg2 hb0 hW1 h
  go_enter Try.func20, Try.ntmps20
  go_wp2_with (fail)
  rw [← HW.out]
  go_wp2_with (go_at_call 29; refine HI.out.mono ?_; rintro e w' ⟨rfl, rfl⟩)
  obtain ⟨q4, q5, _, _⟩ := two_cells HG.out.2
  refine bodyPost_ret (v := sv 0 none 0 0) (by simp [results, Try.results20, go_sem, q4, q5, c1, c2]) rfl ⟨rfl, ?_⟩
  first | exact HG.out.1 | exact ((HG.out.1.setCell (p := ⟨w.heap.size, 0, none⟩) (Nat.le_refl _) _).setCell (p := ⟨w.heap.size, 1, none⟩) (Nat.le_refl _) _)

theorem same_zero (w : World) : Calls Try.prog 19 #[sv 0 none 0 0, sv 0 none 0 0] w fun e w' => e = .returned (.bool true) ∧ Below w.heap.size w w' := by
  have h : BlkAt w none 0 [] := ⟨Nat.le_refl _, Nat.zero_le _, fun j x hx => by simp at hx⟩
  have := same_ok w 0 0 none none 0 0 [] [] h h
  rw [decide_eq_true (show ((0 : Int) = 0 ∧ ([] : List Blk) = []) from ⟨rfl, rfl⟩)] at this
  exact this

set_option maxRecDepth 100000 in
set_option maxHeartbeats 4000000 in
theorem none_walk (w : World) (page order : Int) :
    Calls Try.prog 8 #[.int .i64 page, .int .i64 order] w fun e w' => e = .returned (.bool true) ∧ Below w.heap.size w w' := by
  have heq := fun W x y z t => run_blk_eq W x y z t
  have hz0 := zero_size
  have hzc : Try.zeroCells58[0]? = some (.bool false) := by kernel_rfl
  have HZ := Lib.hid (And.intro hz0 hzc)
  clear hz0 hzc
  go_enter Try.func8, Try.ntmps8
  go_wp2_with (fail)
  go_loopw [5] (fun i wr => ∃ (k : Nat), k ≤ 2 ∧ i = .int .i64 (k : Int) ∧ Below w.heap.size w wr) (fun i _ => 2 - (intOf i).toNat)
  case atStart => exact ⟨0, by omega, rfl, Below.refl _ _⟩
  case round =>
    obtain ⟨k, hk, rfl, hbw⟩ := hrel
    have HB := Lib.hid hbw
    clear hbw
    match k, hk with
    | 0, _ =>
      have HI0 := Lib.hid (isNot_nil wr)
      go_wp2_with (first
        | (go_at_call 14; refine (alloc_not _ _ _ HI0.out).mono ?_; rintro e w1 ⟨rfl, hb⟩; have HI1 := Lib.hid (And.intro (HI0.out.below hb) (below_step HB.out hb (Nat.le_refl _))); clear hb HI0)
        | (go_at_call 13; refine (blocks_not _ _ HI1.out.1).mono ?_; rintro e w' ⟨rfl, rfl⟩)
        | (go_at_call 24; refine (largest_not _ _ HI1.out.1).mono ?_; rintro e w' ⟨rfl, rfl⟩)
        | (go_at_call 18; refine (room_not _ _ _ HI1.out.1).mono ?_; rintro e w2 ⟨rfl, hb⟩; have HI2 := Lib.hid (And.intro (HI1.out.1.below hb) (below_step HI1.out.2 hb (Nat.le_refl _))); clear hb HI1)
        | (go_at_call 23; refine (owner_not _ _ _ HI2.out.1).mono ?_; rintro e w3 ⟨rfl, hb⟩; have HI3 := Lib.hid (And.intro (HI2.out.1.below hb) (below_step HI2.out.2 hb (Nat.le_refl _))); clear hb HI2)
        | (go_at_call 20; refine (save_not _ _ (HI3.out.1.below (below_box _ _))).mono ?_; rintro e w4 ⟨rfl, hb⟩; have HI4 := Lib.hid (And.intro ((HI3.out.1.below (below_box _ _)).below hb) (below_step (below_step HI3.out.2 (below_box _ _) (Nat.le_refl _)) hb (Nat.le_refl _))); clear hb HI3)
        | (go_at_call 19; refine (same_zero _).mono ?_; rintro e w5 ⟨rfl, hb⟩; have HI5 := Lib.hid (And.intro (HI4.out.1.below hb) (below_step HI4.out.2 hb (Nat.le_refl _))); clear hb HI4)
        | (go_at_call 25; refine (allocAt_not _ _ _ _ HI5.out.1).mono ?_; rintro e w' ⟨rfl, rfl⟩)
        | (go_at_call 21; refine (free_nil _ _ _ _ HI5.out.1).mono ?_; rintro e w' ⟨rfl, rfl⟩))
      go_roundw
      case rel => exact ⟨1, by omega, by go_num, HI5.out.2⟩
      case measure => simp [intOf]
    | 1, _ =>
      have hI : IsNot (wr.alloc (.cells Try.zeroCells58 58)) (some ⟨wr.heap.size, 0, none⟩) := isNot_zero _ _ (by simp) (by
        have h : (wr.alloc (.cells Try.zeroCells58 58)).heap[wr.heap.size]? = some (.cells Try.zeroCells58 58 (0, 0)) := by rw [heapAlloc, if_pos rfl]
        rw [cell_of_row _ _ _ _ _ _ h]; exact HZ.out.2)
      have HI0 := Lib.hid (And.intro hI (below_step HB.out (below_box wr (.cells Try.zeroCells58 58)) (Nat.le_refl _)))
      clear hI
      go_wp2_with (first
        | (go_at_call 14; refine (alloc_not _ _ _ HI0.out.1).mono ?_; rintro e w1 ⟨rfl, hb⟩; have HI1 := Lib.hid (And.intro (HI0.out.1.below hb) (below_step HI0.out.2 hb (Nat.le_refl _))); clear hb HI0)
        | (go_at_call 13; refine (blocks_not _ _ HI1.out.1).mono ?_; rintro e w' ⟨rfl, rfl⟩)
        | (go_at_call 24; refine (largest_not _ _ HI1.out.1).mono ?_; rintro e w' ⟨rfl, rfl⟩)
        | (go_at_call 18; refine (room_not _ _ _ HI1.out.1).mono ?_; rintro e w2 ⟨rfl, hb⟩; have HI2 := Lib.hid (And.intro (HI1.out.1.below hb) (below_step HI1.out.2 hb (Nat.le_refl _))); clear hb HI1)
        | (go_at_call 23; refine (owner_not _ _ _ HI2.out.1).mono ?_; rintro e w3 ⟨rfl, hb⟩; have HI3 := Lib.hid (And.intro (HI2.out.1.below hb) (below_step HI2.out.2 hb (Nat.le_refl _))); clear hb HI2)
        | (go_at_call 20; refine (save_not _ _ (HI3.out.1.below (below_box _ _))).mono ?_; rintro e w4 ⟨rfl, hb⟩; have HI4 := Lib.hid (And.intro ((HI3.out.1.below (below_box _ _)).below hb) (below_step (below_step HI3.out.2 (below_box _ _) (Nat.le_refl _)) hb (Nat.le_refl _))); clear hb HI3)
        | (go_at_call 19; refine (same_zero _).mono ?_; rintro e w5 ⟨rfl, hb⟩; have HI5 := Lib.hid (And.intro (HI4.out.1.below hb) (below_step HI4.out.2 hb (Nat.le_refl _))); clear hb HI4)
        | (go_at_call 25; refine (allocAt_not _ _ _ _ HI5.out.1).mono ?_; rintro e w' ⟨rfl, rfl⟩)
        | (go_at_call 21; refine (free_nil _ _ _ _ HI5.out.1).mono ?_; rintro e w' ⟨rfl, rfl⟩))
      go_roundw
      case rel => exact ⟨2, by omega, by go_num, HI5.out.2⟩
      case measure => simp [intOf]
    | 2, _ =>
      go_wp2_with (go_at_call 11; refine (shown_ok _).mono ?_; rintro e w1 ⟨rfl, hb⟩; have H1 := Lib.hid hb; clear hb)
      go_ret
      exact ⟨rfl, below_step HB.out H1.out (Nat.le_refl _)⟩
end Bu
end Go.Proofs.Ytdanhbbdkcbapaa
