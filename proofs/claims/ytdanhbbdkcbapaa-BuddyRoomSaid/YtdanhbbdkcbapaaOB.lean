/- The walk of BuddyLoads. -/
import Derived.Test.YtdanhbbdkcbapaaPE
namespace Go.Proofs.Ytdanhbbdkcbapaa
open Go.RowKit
namespace Bu

theorem zb_map_inj {A B : List Blk} (h : A.map zb = B.map zb) : A = B := by
  induction A generalizing B with
  | nil => cases B with
    | nil => rfl
    | cons y B => cases h
  | cons x A ih =>
    cases B with
    | nil => cases h
    | cons y B =>
      simp only [List.map_cons, List.cons.injEq] at h
      rw [zb_inj h.1, ih h.2]

theorem same_self (w : World) (N : Nat) (A B : Option Addr) (c d : Nat) (L : List Blk) (h1 : BlkAt w A c L) (h2 : BlkAt w B d L) :
    Calls Try.prog 19 #[sv N A L.length c, sv N B L.length d] w fun e w' => e = .returned (.bool true) ∧ Below w.heap.size w w' := by
  have := same_ok w N N A B c d L L h1 h2
  rw [decide_eq_true (show ((N : Int) = (N : Int) ∧ L = L) from ⟨rfl, rfl⟩)] at this
  exact this

/-- Below, step by step. -/
theorem below_step {n : Nat} {a b c : World} (h : Below n a b) (k : Below b.heap.size b c) (hn : n ≤ a.heap.size) : Below n a c := h.trans (k.mono (Nat.le_trans hn h.size))
theorem below_step' {n : Nat} {a b c : World} (h : Below n a b) (k : Below (World.drew b).heap.size (World.drew b) c) (hn : n ≤ a.heap.size) : Below n a c := below_step h ⟨k.os, k.tape, k.output, k.size, k.block⟩ hn

set_option maxRecDepth 100000 in
set_option maxHeartbeats 4000000 in
theorem loads_walk (w : World) (N : Int) (A : Option Addr) (c : Nat) (L : List (Int × Int)) (h : ZAt w A c L) :
    Calls Try.prog 5 #[sv N A L.length c] w fun e w' => e = .returned (.bool true) ∧ Below w.heap.size w w' := by
  have hg1 := blk_new w (.int .i64 N) (.slice A L.length c) 24
  have hb0 := below_box w (.cells #[.int .i64 N, .slice A L.length c] 24)
  obtain ⟨W1, hW1⟩ : ∃ W1, W1 = w.alloc (.cells #[.int .i64 N, .slice A L.length c] 24) := ⟨_, rfl⟩
  rw [← hW1] at hg1 hb0
  have hs1 : W1.heap.size = w.heap.size + 1 := by rw [hW1]; simp
  have hz := two_cells hg1
  obtain ⟨b1, b2, _, _⟩ := hz
  have HX := Lib.hid (And.intro (h.below hb0) (And.intro hb0 hs1))
  have HW := Lib.hid hW1
  clear h hb0 hs1 hg1 hW1
  by_cases h2000 : L.length > 2000
  · have t1 : (L.length : Int) > 2000 := by omega
    have HS := Lib.hid (shown_ok W1)
    go_enter Try.func5, Try.ntmps5
    go_wp2_with (fail)
    rw [← HW.out]
    go_wp2_with (go_at_call 11; refine HS.out.mono ?_; rintro e w' ⟨rfl, hb⟩; have H5 := Lib.hid hb; clear hb)
    go_ret
    exact ⟨rfl, HX.out.2.1.trans (H5.out.mono (by have := HX.out.2.2; omega))⟩
  · have t1 : ¬ (L.length : Int) > 2000 := by omega
    have HL := Lib.hid (load_ok W1 N A c L HX.out.1)
    go_enter Try.func5, Try.ntmps5
    go_wp2_with (fail)
    rw [← HW.out]
    go_wp2_with (go_at_call 12; fail)
    refine HL.out.mono ?_
    rintro e w2 ⟨hb2, ⟨hck, rfl⟩ | ⟨hck, b, M, B, hNM, hLB, rfl, hBL, hbw⟩⟩
    · have c1 := cell_keep2 hb2 b1
      have c2 := cell_keep2 hb2 b2
      have hC := check_ok w2 N A c L (HX.out.1.below hb2)
      obtain ⟨r, hr⟩ : ∃ r, r = checkV N L := ⟨_, rfl⟩
      rw [← hr] at hC hck ⊢
      have HC := Lib.hid hC
      have HB := Lib.hid hb2
      have t2 : (r == r) = true := by simp
      have t3 : (r == 0) = false := by rw [beq_eq_false_iff_ne]; exact hck
      clear hC hb2 hr hck
      go_wp2_with (first | (go_at_call 10; refine HC.out.mono ?_; rintro e w3 ⟨rfl, hb⟩; have H3 := Lib.hid hb; clear hb) | (go_at_call 11; refine (shown_ok _).mono ?_; rintro e w4 ⟨rfl, hb⟩; have H4 := Lib.hid hb; clear hb))
      go_ret
      refine ⟨rfl, HX.out.2.1.trans ((HB.out.trans ((H3.out.trans (H4.out.mono H3.out.size)).mono HB.out.size)).mono (by have := HX.out.2.2; omega))⟩
    · have c1 := cell_keep2 hb2 b1
      have c2 := cell_keep2 hb2 b2
      have hC := check_ok w2 N A c L (HX.out.1.below hb2)
      rw [hck] at hC
      subst hNM
      subst hLB
      have hlen : (B.map zb).length = B.length := List.length_map _
      simp only [hlen] at *
      have hBk : BlkAt w2 A c B := HX.out.1.below hb2
      have HC := Lib.hid hC
      have HB := Lib.hid (And.intro hb2 (And.intro hBL (And.intro hbw hBk)))
      clear hC hb2 hck hBL hbw hBk hlen
      go_wp2_with (go_at_call 10; refine HC.out.mono ?_; rintro e w3 ⟨rfl, hb⟩; have c3 := cell_keep2 hb c1; have c4 := cell_keep2 hb c2; have H3 := Lib.hid hb; clear hb)
      have HS3 := Lib.hid (And.intro (HB.out.2.1.keep (H3.out.block _ HB.out.2.1.lt)) (HB.out.2.2.2.below H3.out))
      go_region_with (first | (go_at_call 20; refine (save_ok (World.drew w3) b M B HS3.out.1).mono ?_; rintro e w4 ⟨⟨A4, d4, rfl, ho⟩, hb⟩; have c5 : w4.cell? ⟨w.heap.size, 0, none⟩ = some (.int .i64 (M : Int)) := cell_keep2 (w1 := World.drew w3) hb c3; have c6 : w4.cell? ⟨w.heap.size, 1, none⟩ = some (.slice A B.length c) := cell_keep2 (w1 := World.drew w3) hb c4; have hB4 : BlkAt w4 A c B := HS3.out.2.keep hb.size (fun g _ hg => hb.block g hg); have H4 := Lib.hid (And.intro ho (And.intro hb hB4)); clear ho hb hB4) | (go_at_call 19; refine (same_self w4 M A4 A d4 c B H4.out.1.at.1 H4.out.2.2).mono ?_; rintro e w5 ⟨rfl, hb⟩; have H5 := Lib.hid hb; clear hb) | (go_at_call 11; refine (shown_ok _).mono ?_; rintro e w6 ⟨rfl, hb⟩; have H6 := Lib.hid hb; clear hb))
      all_goals
        go_wp2_with (fail)
        go_ret
        have hw := Nat.le_refl w.heap.size
        exact ⟨rfl, below_step (below_step (below_step' (below_step (below_step HX.out.2.1 HB.out.1 hw) H3.out hw) H4.out.2.1 hw) H5.out hw) H6.out hw⟩
end Bu
end Go.Proofs.Ytdanhbbdkcbapaa
