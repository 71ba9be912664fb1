/- step: Save and Load; the queries. -/
import Derived.Test.YtdanhbbdkcbapaaJOU
import Derived.Outline
import Derived.Deep.QuietTactic
import Derived.BigQuiet
namespace Go.Proofs.Ytdanhbbdkcbapaa
open Go.RowKit
namespace Bu

set_option maxRecDepth 100000 in
set_option maxHeartbeats 4000000 in
theorem step8 (w : World) (b N : Nat) (A : Option Addr) (c : Nat) (L : List Blk) (what : Int) (page order : Int) (hw : what % 10 = 8) (hw0 : 0 ≤ what) (hw1 : what < 256) (hB : BuL w b N L) (hA : BlkAt w A c L) (hne : Lies w b A) :
    Calls Try.prog 27 #[.pointer (some ⟨b, 0, none⟩), sv N A L.length c, .agg #[.int .u8 what, .int .i64 page, .int .i64 order]] w fun e w' => StepR N w b A e w' := by
  have hbl := hB.lt
  have hbx := step_boxes w (.int .i64 (N : Int)) (.slice A L.length c) (.int .u8 what) (.int .i64 page) (.int .i64 order)
  dsimp only at hbx
  obtain ⟨W3, hW3⟩ : ∃ W3, W3 = ((w.alloc (.cells #[.int .i64 (N : Int), .slice A L.length c] 24)).alloc (.cells #[.int .u8 what, .int .i64 page, .int .i64 order] 66)).alloc (.cells #[.int .i64 0, .slice none 0 0] 24) := ⟨_, rfl⟩
  rw [← hW3] at hbx
  obtain ⟨hs3, g0, g1, g2, hb3⟩ := hbx
  have hB3 : BuL W3 b N L := hB.keep (hb3.block b hbl)
  have hA3 : BlkAt W3 A c L := hA.below hb3
  have hne0 : w.heap.size ≠ b := by omega
  have hne1 : w.heap.size + 1 ≠ b := by omega
  have hne2 : w.heap.size + 1 + 1 ≠ b := by omega
  obtain ⟨s0, s1, _, _⟩ := two_cells g0
  obtain ⟨a0, a1, a2⟩ := act_cells g1
  have HX := Lib.hid (And.intro hB3 (And.intro hA3 (And.intro hb3 (And.intro hA (And.intro hne (And.intro g0 (And.intro g1 g2)))))))
  have HW := Lib.hid hW3
  clear hB hA hne hB3 hA3 hb3 g0 g1 g2 hW3
  have hsv := save_ok W3 b N L HX.out.1
  have HS := Lib.hid hsv
  have hS := HX.out.1.2
  have HSt := Lib.hid hS
  clear hsv hS
  go_enter Try.func27, Try.ntmps27
  go_wp2_with (fail)
  rw [← HW.out]
  go_wp2_with (first
    | (go_at_call 20; refine HS.out.mono ?_; rintro e w4 ⟨⟨A4, c4, rfl, ho⟩, hb⟩
       have HO := Lib.hid ho.at.1
       clear ho
       have n0 := (hb.block _ (show w.heap.size < W3.heap.size by omega)).trans HX.out.2.2.2.2.2.1
       have n1 := (hb.block _ (show w.heap.size + 1 < W3.heap.size by omega)).trans HX.out.2.2.2.2.2.2.1
       have n2 := (hb.block _ (show w.heap.size + 1 + 1 < W3.heap.size by omega)).trans HX.out.2.2.2.2.2.2.2
       obtain ⟨s0, s1, f0, f1⟩ := two_cells n0
       obtain ⟨a0, a1, a2⟩ := act_cells n1
       obtain ⟨z0, z1, f2, f3⟩ := two_cells n2
       have hsz4 := hb.size
       have hl0 := lt_of_heap n0
       have hl1 := lt_of_heap n1
       have hl2 := lt_of_heap n2
       have H4 := Lib.hid (And.intro hb (And.intro n0 n2))
       clear hb n0 n1 n2)
    | (go_at_call 12; refine (load_st HO.out HSt.out).mono ?_; rintro e w5 ⟨b', rfl, hB5, hb5', hb5⟩
       have HB5 := Lib.hid (And.intro hB5 hb5')
       have hb : Below W3.heap.size W3 w5 := H4.out.1.trans (hb5.mono H4.out.1.size)
       clear hB5 hb5' hb5
       have n0 := (hb.block _ (show w.heap.size < W3.heap.size by omega)).trans HX.out.2.2.2.2.2.1
       have n1 := (hb.block _ (show w.heap.size + 1 < W3.heap.size by omega)).trans HX.out.2.2.2.2.2.2.1
       have n2 := (hb.block _ (show w.heap.size + 1 + 1 < W3.heap.size by omega)).trans HX.out.2.2.2.2.2.2.2
       obtain ⟨s0, s1, f0, f1⟩ := two_cells n0
       obtain ⟨a0, a1, a2⟩ := act_cells n1
       obtain ⟨z0, z1, f2, f3⟩ := two_cells n2
       have hsz5 := hb.size
       have hl0 := lt_of_heap n0
       have hl1 := lt_of_heap n1
       have hl2 := lt_of_heap n2
       have H5 := Lib.hid (And.intro hb (And.intro n0 n2))
       clear hb n0 n1 n2))
  have hbn : w.heap.size + 3 ≤ b' := by have := HB5.out.2; omega
  have HE := Lib.hid (And.intro HB5.out.1 H5.out.1)
  have hn2 := H5.out.2.2
  generalize w5 = Wd at *
  have HT := Lib.hid (And.intro (Tw.refl w.heap.size (w.heap.size + 1 + 1) Wd) hn2)
  clear hn2
  go_region
  all_goals
    go_wp2_with (fail)
    obtain ⟨q0, q1, _, _⟩ := two_cells (two_set (w := Wd.drew) HT.out.2 (.int .i64 (N : Int)) (.slice A L.length c))
    refine bodyPost_ret (v := .tuple #[.pointer (some ⟨b', 0, none⟩), sv N A L.length c, .int .i64 0]) (by simp [results, Try.results27, go_sem, q0, q1, z0, z1]) rfl ⟨b', A, c, L, rfl, ?_⟩
    exact step_same HX.out.2.2.2.1 HX.out.2.2.2.2.1 (.inr (by omega)) (HX.out.2.2.1.trans (HE.out.2.mono (by omega))) HE.out.1 hbl (by constructor <;> omega) ((HT.out.1.drew.setY _ _).setY _ _)

set_option maxRecDepth 100000 in
set_option maxHeartbeats 4000000 in
theorem step9 (w : World) (b N : Nat) (A : Option Addr) (c : Nat) (L : List Blk) (what : Int) (page order : Int) (hw : what % 10 = 9) (hw0 : 0 ≤ what) (hw1 : what < 256) (hB : BuL w b N L) (hA : BlkAt w A c L) (hne : Lies w b A) :
    Calls Try.prog 27 #[.pointer (some ⟨b, 0, none⟩), sv N A L.length c, .agg #[.int .u8 what, .int .i64 page, .int .i64 order]] w fun e w' => StepR N w b A e w' := by
  have hbl := hB.lt
  have hbx := step_boxes w (.int .i64 (N : Int)) (.slice A L.length c) (.int .u8 what) (.int .i64 page) (.int .i64 order)
  dsimp only at hbx
  obtain ⟨W3, hW3⟩ : ∃ W3, W3 = ((w.alloc (.cells #[.int .i64 (N : Int), .slice A L.length c] 24)).alloc (.cells #[.int .u8 what, .int .i64 page, .int .i64 order] 66)).alloc (.cells #[.int .i64 0, .slice none 0 0] 24) := ⟨_, rfl⟩
  rw [← hW3] at hbx
  obtain ⟨hs3, g0, g1, g2, hb3⟩ := hbx
  have hB3 : BuL W3 b N L := hB.keep (hb3.block b hbl)
  have hA3 : BlkAt W3 A c L := hA.below hb3
  have hne0 : w.heap.size ≠ b := by omega
  have hne1 : w.heap.size + 1 ≠ b := by omega
  have hne2 : w.heap.size + 1 + 1 ≠ b := by omega
  obtain ⟨s0, s1, _, _⟩ := two_cells g0
  obtain ⟨a0, a1, a2⟩ := act_cells g1
  have HX := Lib.hid (And.intro hB3 (And.intro hA3 (And.intro hb3 (And.intro hA (And.intro hne (And.intro g0 (And.intro g1 g2)))))))
  have HW := Lib.hid hW3
  clear hB hA hne hB3 hA3 hb3 g0 g1 g2 hW3
  obtain ⟨⟨o1, o2, o3⟩, ho⟩ : ∃ o, o = owO N L page := ⟨_, rfl⟩
  obtain ⟨⟨r1, r2⟩, hr⟩ : ∃ o, o = roO N L order := ⟨_, rfl⟩
  obtain ⟨⟨g1, g2⟩, hg⟩ : ∃ o, o = lgO N L := ⟨_, rfl⟩
  obtain ⟨B, hBl⟩ : ∃ B, B = blocksB N L := ⟨_, rfl⟩
  have hS := HX.out.1.2
  have q1 := fun W (h : BuL W b N L) => ow_both W b N L page h
  have q2 := fun W (h : BlkAt W A c L) => owR_both W N A c L page h hS
  have q3 := fun W (h : BuL W b N L) => ro_both W b N L order h
  have q4 := fun W (h : BlkAt W A c L) => roR_both W N A c L order h hS
  have q5 := fun W (h : BuL W b N L) => lg_both W b N L h
  have q6 := fun W (h : BlkAt W A c L) => lgR_both W N A c L h hS
  have q7 := fun W (h : BuL W b N L) => blocks_ok W b N L h
  have q8 := fun W (h : BlkAt W A c L) => blocksR_ok W N A c L h (st_le hS) hS.n10
  rw [← ho] at q1 q2
  rw [← hr] at q3 q4
  rw [← hg] at q5 q6
  rw [← hBl] at q7 q8
  have Q1 := Lib.hid q1
  have Q2 := Lib.hid q2
  have Q3 := Lib.hid q3
  have Q4 := Lib.hid q4
  have Q5 := Lib.hid q5
  have Q6 := Lib.hid q6
  have Q7 := Lib.hid q7
  have Q8 := Lib.hid q8
  have HK := Lib.hid (show ∀ W : World, Below W3.heap.size W3 W → BuL W b N L ∧ BlkAt W A c L from fun W hb => ⟨HX.out.1.keep (hb.block _ HX.out.1.lt), HX.out.2.1.below hb⟩)
  have heq := fun W x y z t => run_blk_eq W x y z t
  clear ho hr hg hBl hS q1 q2 q3 q4 q5 q6 q7 q8
  go_enter Try.func27, Try.ntmps27
  go_wp2_with (fail)
  rw [← HW.out]
  go_wp2_with (first
    | (go_at_call 23; refine (Q1.out _ HX.out.1).mono ?_; rintro e w4 ⟨rfl, hb⟩
       obtain ⟨x1, x2⟩ := state_cells w4 (.int .i64 o1) (.int .i64 o2) 39
       have n0 := (hb.block _ (show w.heap.size < W3.heap.size by omega)).trans HX.out.2.2.2.2.2.1
       have n1 := (hb.block _ (show w.heap.size + 1 < W3.heap.size by omega)).trans HX.out.2.2.2.2.2.2.1
       have n2 := (hb.block _ (show w.heap.size + 1 + 1 < W3.heap.size by omega)).trans HX.out.2.2.2.2.2.2.2
       obtain ⟨s0, s1, f0, f1⟩ := two_cells n0
       obtain ⟨a0, a1, a2⟩ := act_cells n1
       obtain ⟨z0, z1, f2, f3⟩ := two_cells n2
       have hsz4 := hb.size
       have hl0 := lt_of_heap n0
       have hl1 := lt_of_heap n1
       have hl2 := lt_of_heap n2
       have H4 := Lib.hid (And.intro hb (And.intro n0 n2))
       clear hb n0 n1 n2)
    | (go_at_call 42; refine (Q2.out _ (HK.out _ (H4.out.1.alloc H4.out.1.size _)).2).mono ?_; rintro e w5 ⟨rfl, hb5⟩
       have y1 := cell_keep2 hb5 (state_cells w4 (.int .i64 o1) (.int .i64 o2) 39).1
       have y2 := cell_keep2 hb5 (state_cells w4 (.int .i64 o1) (.int .i64 o2) 39).2
       obtain ⟨x3, x4⟩ := state_cells w5 (.int .i64 o1) (.int .i64 o2) 39
       have hb : Below W3.heap.size W3 w5 := (H4.out.1.alloc H4.out.1.size _).trans (hb5.mono (by simp; omega))
       have hsy : w4.heap.size < w5.heap.size := by have := hb5.size; simp at this; omega
       clear hb5
       have n0 := (hb.block _ (show w.heap.size < W3.heap.size by omega)).trans HX.out.2.2.2.2.2.1
       have n1 := (hb.block _ (show w.heap.size + 1 < W3.heap.size by omega)).trans HX.out.2.2.2.2.2.2.1
       have n2 := (hb.block _ (show w.heap.size + 1 + 1 < W3.heap.size by omega)).trans HX.out.2.2.2.2.2.2.2
       obtain ⟨s0, s1, f0, f1⟩ := two_cells n0
       obtain ⟨a0, a1, a2⟩ := act_cells n1
       obtain ⟨z0, z1, f2, f3⟩ := two_cells n2
       have hsz5 := hb.size
       have hl0 := lt_of_heap n0
       have hl1 := lt_of_heap n1
       have hl2 := lt_of_heap n2
       have H5 := Lib.hid (And.intro hb (And.intro n0 n2))
       clear hb n0 n1 n2)
    | (go_at_call 18; refine (Q3.out _ (HK.out _ (H5.out.1.alloc H5.out.1.size _)).1).mono ?_; rintro e w6 ⟨rfl, hb6⟩
       have y3 := cell_keep2 hb6 (cell_keep2 (below_box w5 _) y1)
       have y4 := cell_keep2 hb6 (cell_keep2 (below_box w5 _) y2)
       have v3 := cell_keep2 hb6 (state_cells w5 (.int .i64 o1) (.int .i64 o2) 39).1
       have v4 := cell_keep2 hb6 (state_cells w5 (.int .i64 o1) (.int .i64 o2) 39).2
       have hb : Below W3.heap.size W3 w6 := (H5.out.1.alloc H5.out.1.size _).trans (hb6.mono (by simp; omega))
       clear hb6
       have n0 := (hb.block _ (show w.heap.size < W3.heap.size by omega)).trans HX.out.2.2.2.2.2.1
       have n1 := (hb.block _ (show w.heap.size + 1 < W3.heap.size by omega)).trans HX.out.2.2.2.2.2.2.1
       have n2 := (hb.block _ (show w.heap.size + 1 + 1 < W3.heap.size by omega)).trans HX.out.2.2.2.2.2.2.2
       obtain ⟨s0, s1, f0, f1⟩ := two_cells n0
       obtain ⟨a0, a1, a2⟩ := act_cells n1
       obtain ⟨z0, z1, f2, f3⟩ := two_cells n2
       have hsz6 := hb.size
       have hl0 := lt_of_heap n0
       have hl1 := lt_of_heap n1
       have hl2 := lt_of_heap n2
       have H6 := Lib.hid (And.intro hb (And.intro n0 n2))
       clear hb n0 n1 n2)
    | (go_at_call 43; refine (Q4.out _ (HK.out _ H6.out.1).2).mono ?_; rintro e w7 ⟨rfl, hb7⟩
       have y5 := cell_keep2 hb7 y3
       have y6 := cell_keep2 hb7 y4
       have v5 := cell_keep2 hb7 v3
       have v6 := cell_keep2 hb7 v4
       have hb : Below W3.heap.size W3 w7 := H6.out.1.trans (hb7.mono H6.out.1.size)
       clear hb7
       have n0 := (hb.block _ (show w.heap.size < W3.heap.size by omega)).trans HX.out.2.2.2.2.2.1
       have n1 := (hb.block _ (show w.heap.size + 1 < W3.heap.size by omega)).trans HX.out.2.2.2.2.2.2.1
       have n2 := (hb.block _ (show w.heap.size + 1 + 1 < W3.heap.size by omega)).trans HX.out.2.2.2.2.2.2.2
       obtain ⟨s0, s1, f0, f1⟩ := two_cells n0
       obtain ⟨a0, a1, a2⟩ := act_cells n1
       obtain ⟨z0, z1, f2, f3⟩ := two_cells n2
       have hsz7 := hb.size
       have hl0 := lt_of_heap n0
       have hl1 := lt_of_heap n1
       have hl2 := lt_of_heap n2
       have H7 := Lib.hid (And.intro hb (And.intro n0 n2))
       clear hb n0 n1 n2)
    | (go_at_call 24; refine (Q5.out _ (HK.out _ H7.out.1).1).mono ?_; rintro e w7' ⟨rfl, rfl⟩)
    | (go_at_call 44; refine (Q6.out _ (HK.out _ H7.out.1).2).mono ?_; rintro e w8 ⟨rfl, hb8⟩
       have y7 := cell_keep2 hb8 y5
       have y8 := cell_keep2 hb8 y6
       have v7 := cell_keep2 hb8 v5
       have v8 := cell_keep2 hb8 v6
       have hb : Below W3.heap.size W3 w8 := H7.out.1.trans (hb8.mono H7.out.1.size)
       clear hb8
       have n0 := (hb.block _ (show w.heap.size < W3.heap.size by omega)).trans HX.out.2.2.2.2.2.1
       have n1 := (hb.block _ (show w.heap.size + 1 < W3.heap.size by omega)).trans HX.out.2.2.2.2.2.2.1
       have n2 := (hb.block _ (show w.heap.size + 1 + 1 < W3.heap.size by omega)).trans HX.out.2.2.2.2.2.2.2
       obtain ⟨s0, s1, f0, f1⟩ := two_cells n0
       obtain ⟨a0, a1, a2⟩ := act_cells n1
       obtain ⟨z0, z1, f2, f3⟩ := two_cells n2
       have hsz8 := hb.size
       have hl0 := lt_of_heap n0
       have hl1 := lt_of_heap n1
       have hl2 := lt_of_heap n2
       have H8 := Lib.hid (And.intro hb (And.intro n0 n2))
       clear hb n0 n1 n2)
    | (go_at_call 13; refine (Q7.out _ (HK.out _ H8.out.1).1).mono ?_; rintro e w9 ⟨⟨A9, c9, rfl, ho⟩, hb9⟩
       have HO := Lib.hid ho.at.1
       have y9 := cell_keep2 hb9 y7
       have y10 := cell_keep2 hb9 y8
       have v9 := cell_keep2 hb9 v7
       have v10 := cell_keep2 hb9 v8
       have hb : Below W3.heap.size W3 w9 := H8.out.1.trans (hb9.mono H8.out.1.size)
       clear hb9 ho
       have n0 := (hb.block _ (show w.heap.size < W3.heap.size by omega)).trans HX.out.2.2.2.2.2.1
       have n1 := (hb.block _ (show w.heap.size + 1 < W3.heap.size by omega)).trans HX.out.2.2.2.2.2.2.1
       have n2 := (hb.block _ (show w.heap.size + 1 + 1 < W3.heap.size by omega)).trans HX.out.2.2.2.2.2.2.2
       obtain ⟨s0, s1, f0, f1⟩ := two_cells n0
       obtain ⟨a0, a1, a2⟩ := act_cells n1
       obtain ⟨z0, z1, f2, f3⟩ := two_cells n2
       have hsz9 := hb.size
       have hl0 := lt_of_heap n0
       have hl1 := lt_of_heap n1
       have hl2 := lt_of_heap n2
       have H9 := Lib.hid (And.intro hb (And.intro n0 n2))
       clear hb n0 n1 n2)
    | (go_at_call 45; refine (Q8.out _ (HK.out _ H9.out.1).2).mono ?_; rintro e w10 ⟨⟨A10, c10, rfl, ho⟩, hb10⟩
       have HO2 := Lib.hid (And.intro ho.at.1 (HO.out.below hb10))
       have hb : Below W3.heap.size W3 w10 := H9.out.1.trans (hb10.mono H9.out.1.size)
       clear hb10 ho
       have n0 := (hb.block _ (show w.heap.size < W3.heap.size by omega)).trans HX.out.2.2.2.2.2.1
       have n1 := (hb.block _ (show w.heap.size + 1 < W3.heap.size by omega)).trans HX.out.2.2.2.2.2.2.1
       have n2 := (hb.block _ (show w.heap.size + 1 + 1 < W3.heap.size by omega)).trans HX.out.2.2.2.2.2.2.2
       obtain ⟨s0, s1, f0, f1⟩ := two_cells n0
       obtain ⟨a0, a1, a2⟩ := act_cells n1
       obtain ⟨z0, z1, f2, f3⟩ := two_cells n2
       have hsz10 := hb.size
       have hl0 := lt_of_heap n0
       have hl1 := lt_of_heap n1
       have hl2 := lt_of_heap n2
       have H10 := Lib.hid (And.intro hb (And.intro n0 n2))
       clear hb n0 n1 n2)
    | (go_at_call 22; refine (sameB_ok w10 A9 A10 c9 c10 B B HO2.out.2 HO2.out.1).mono ?_; rintro e w11 ⟨rfl, n11, hw11⟩; rw [decide_eq_true rfl]
       have hb : Below W3.heap.size W3 w11 := by subst hw11; exact below_drewN H10.out.1 _
       clear hw11
       have n0 := (hb.block _ (show w.heap.size < W3.heap.size by omega)).trans HX.out.2.2.2.2.2.1
       have n1 := (hb.block _ (show w.heap.size + 1 < W3.heap.size by omega)).trans HX.out.2.2.2.2.2.2.1
       have n2 := (hb.block _ (show w.heap.size + 1 + 1 < W3.heap.size by omega)).trans HX.out.2.2.2.2.2.2.2
       obtain ⟨s0, s1, f0, f1⟩ := two_cells n0
       obtain ⟨a0, a1, a2⟩ := act_cells n1
       obtain ⟨z0, z1, f2, f3⟩ := two_cells n2
       have hsz11 := hb.size
       have hl0 := lt_of_heap n0
       have hl1 := lt_of_heap n1
       have hl2 := lt_of_heap n2
       have H11 := Lib.hid (And.intro hb (And.intro n0 n2))
       clear hb n0 n1 n2))
  have HE := Lib.hid (And.intro (HK.out _ H11.out.1).1 H11.out.1)
  have hn2 := H11.out.2.2
  generalize w11 = Wd at *
  have HT := Lib.hid (And.intro (Tw.refl w.heap.size (w.heap.size + 1 + 1) Wd) hn2)
  clear hn2
  go_region
  all_goals
    go_wp2_with (fail)
    obtain ⟨q0, q1, _, _⟩ := two_cells (two_set (w := Wd.drew) HT.out.2 (.int .i64 (N : Int)) (.slice A L.length c))
    refine bodyPost_ret (v := .tuple #[.pointer (some ⟨b, 0, none⟩), sv N A L.length c, .int .i64 0]) (by simp [results, Try.results27, go_sem, q0, q1, z0, z1]) rfl ⟨b, A, c, L, rfl, ?_⟩
    exact step_same HX.out.2.2.2.1 HX.out.2.2.2.2.1 (.inl rfl) (HX.out.2.2.1.trans (HE.out.2.mono (by omega))) HE.out.1 hbl (by constructor <;> omega) ((HT.out.1.drew.setY _ _).setY _ _)

end Bu
end Go.Proofs.Ytdanhbbdkcbapaa