/- step: AllocAt, Free. -/
import Derived.Test.YtdanhbbdkcbapaaJOU
import Derived.Outline
import Derived.Deep.QuietTactic
import Derived.BigQuiet
namespace Go.Proofs.Ytdanhbbdkcbapaa
open Go.RowKit
namespace Bu

set_option maxRecDepth 100000 in
set_option maxHeartbeats 4000000 in
theorem step4 (w : World) (b N : Nat) (A : Option Addr) (c : Nat) (L : List Blk) (what : Int) (page order : Int) (hw : what % 10 = 4) (hw0 : 0 ≤ what) (hw1 : what < 256) (hB : BuL w b N L) (hA : BlkAt w A c L) (hne : Lies w b A) :
    Calls Try.prog 27 #[.pointer (some ⟨b, 0, none⟩), sv N A L.length c, .agg #[.int .u8 what, .int .i64 page, .int .i64 order]] w fun e w' => StepR N w b A e w' := by
  have hbl := hB.lt
  have hbx := step_boxes w (.int .i64 (N : Int)) (.slice A L.length c) (.int .u8 what) (.int .i64 page) (.int .i64 order)
  dsimp only at hbx
  obtain ⟨W3, hW3⟩ : ∃ W3, W3 = ((w.alloc (.cells #[.int .i64 (N : Int), .slice A L.length c] 24)).alloc (.cells #[.int .u8 what, .int .i64 page, .int .i64 order] 66)).alloc (.cells #[.int .i64 0, .slice none 0 0] 24) := ⟨_, rfl⟩
  rw [← hW3] at hbx
  obtain ⟨hs3, g0, g1, g2, hb3⟩ := hbx
  have hB3 : BuL W3 b N L := hB.keep (hb3.block b hbl)
  have hA3 : BlkAt W3 A c L := hA.below hb3
  have hne0 : w.heap.size ≠ b := by omega
  have hne1 : w.heap.size + 1 ≠ b := by omega
  have hne2 : w.heap.size + 1 + 1 ≠ b := by omega
  obtain ⟨s0, s1, _, _⟩ := two_cells g0
  obtain ⟨a0, a1, a2⟩ := act_cells g1
  have HX := Lib.hid (And.intro hB3 (And.intro hA3 (And.intro hb3 (And.intro hA (And.intro hne (And.intro g0 (And.intro g1 g2)))))))
  have HW := Lib.hid hW3
  clear hB hA hne hB3 hA3 hb3 g0 g1 g2 hW3
  obtain ⟨⟨r, L1⟩, ho⟩ : ∃ o, o = atO N L page order := ⟨_, rfl⟩
  have h1 := at_both W3 b N L page order HX.out.1
  rw [← ho] at h1
  have h2 := fun W (h : BlkAt W A c L) => atR_both W N A c L page order h HX.out.1.2
  rw [← ho] at h2
  have H1 := Lib.hid h1
  have H2 := Lib.hid h2
  clear h1 h2 ho
  go_enter Try.func27, Try.ntmps27
  go_wp2_with (fail)
  rw [← HW.out]
  go_wp2_with (first
    | (go_at_call 25; refine H1.out.mono ?_; rintro e w4 ⟨rfl, hB4, hg4⟩
       have n0 := heap_grow hg4 hne0 HX.out.2.2.2.2.2.1
       have n1 := heap_grow hg4 hne1 HX.out.2.2.2.2.2.2.1
       have n2 := heap_grow hg4 hne2 HX.out.2.2.2.2.2.2.2
       obtain ⟨s0, s1, _, _⟩ := two_cells n0
       obtain ⟨a0, a1, a2⟩ := act_cells n1
       have H4 := Lib.hid (And.intro hB4 (And.intro hg4 (And.intro n0 n2)))
       clear hB4 hg4 n0 n1 n2)
    | (go_at_call 40; refine (H2.out _ (HX.out.2.1.grow H4.out.2.1 HX.out.2.2.2.2.1.ne)).mono ?_; rintro e w5 ⟨A', c', rfl, hN5, hb5⟩
       have n0 := heap_below hb5 H4.out.2.2.1
       have n2 := heap_below hb5 H4.out.2.2.2
       have hl0 := lt_of_heap n0
       have hl2 := lt_of_heap n2
       obtain ⟨s0, s1, f0, f1⟩ := two_cells n0
       obtain ⟨z0, z1, f2, f3⟩ := two_cells n2
       obtain ⟨v0, v1⟩ := state_cells w5 (.int .i64 (N : Int)) (.slice A' L1.length c') 24
       have H5 := Lib.hid (And.intro hN5 (And.intro hb5 (And.intro n0 n2)))
       clear hN5 hb5 n0 n2))
  have hT : Tw w.heap.size (w.heap.size + 1 + 1) w5 (((w5.setCell ⟨w.heap.size, 0, none⟩ (.int .i64 (N : Int))).setCell ⟨w.heap.size, 1, none⟩ (.slice A' L1.length c')).alloc (.cells #[.int .i64 (N : Int), .slice A' L1.length c'] 24)) := (((Tw.refl _ _ _).setX _ _).setX _ _).alloc _
  have m0 : ((((w5.setCell ⟨w.heap.size, 0, none⟩ (.int .i64 (N : Int))).setCell ⟨w.heap.size, 1, none⟩ (.slice A' L1.length c')).alloc (.cells #[.int .i64 (N : Int), .slice A' L1.length c'] 24))).heap[w.heap.size]? = some (.cells #[.int .i64 (N : Int), .slice A' L1.length c'] 24 (0, 0)) := (alloc_old _ _ _ (by rw [setCell_size, setCell_size]; omega)).trans (two_set H5.out.2.2.1 _ _)
  have m2 : ((((w5.setCell ⟨w.heap.size, 0, none⟩ (.int .i64 (N : Int))).setCell ⟨w.heap.size, 1, none⟩ (.slice A' L1.length c')).alloc (.cells #[.int .i64 (N : Int), .slice A' L1.length c'] 24))).heap[w.heap.size + 1 + 1]? = some (.cells #[.int .i64 0, .slice none 0 0] 24 (0, 0)) := (alloc_old _ _ _ (by rw [setCell_size, setCell_size]; omega)).trans ((setCell_far _ _ _ _ (by show w.heap.size + 1 + 1 ≠ w.heap.size; omega)).trans ((setCell_far _ _ _ _ (by show w.heap.size + 1 + 1 ≠ w.heap.size; omega)).trans H5.out.2.2.2))
  generalize (((w5.setCell ⟨w.heap.size, 0, none⟩ (.int .i64 (N : Int))).setCell ⟨w.heap.size, 1, none⟩ (.slice A' L1.length c')).alloc (.cells #[.int .i64 (N : Int), .slice A' L1.length c'] 24)) = Wd at *
  obtain ⟨s0, s1, f0, f1⟩ := two_cells m0
  obtain ⟨z0, z1, f2, f3⟩ := two_cells m2
  have HT := Lib.hid (And.intro hT m2)
  clear hT m0 m2
  go_region
  all_goals
    go_wp2_with (fail)
    obtain ⟨q0, q1, _, _⟩ := two_cells (two_set (w := Wd.drew) HT.out.2 (.int .i64 (N : Int)) (.slice A' L1.length c'))
    refine bodyPost_ret (v := .tuple #[.pointer (some ⟨b, 0, none⟩), sv N A' L1.length c', .int .i64 0]) (by simp [results, Try.results27, go_sem, q0, q1, z0, z1]) rfl ⟨b, A', c', L1, rfl, ?_⟩
    exact step_fin HX.out.2.2.2.1 HX.out.2.2.2.2.1 hbl H5.out.1 (by have := H4.out.2.1.size; omega) (((grow_of_below HX.out.2.2.1).trans H4.out.2.1).trans (grow_of_below H5.out.2.1)) (H4.out.1.keep (H5.out.2.1.block _ H4.out.1.lt)) ((HT.out.1.drew.setY _ _).setY _ _)

set_option maxRecDepth 100000 in
set_option maxHeartbeats 4000000 in
theorem step5 (w : World) (b N : Nat) (A : Option Addr) (c : Nat) (L : List Blk) (what : Int) (page order : Int) (hw : what % 10 = 5) (hw0 : 0 ≤ what) (hw1 : what < 256) (hB : BuL w b N L) (hA : BlkAt w A c L) (hne : Lies w b A) :
    Calls Try.prog 27 #[.pointer (some ⟨b, 0, none⟩), sv N A L.length c, .agg #[.int .u8 what, .int .i64 page, .int .i64 order]] w fun e w' => StepR N w b A e w' := by
  have hbl := hB.lt
  have hbx := step_boxes w (.int .i64 (N : Int)) (.slice A L.length c) (.int .u8 what) (.int .i64 page) (.int .i64 order)
  dsimp only at hbx
  obtain ⟨W3, hW3⟩ : ∃ W3, W3 = ((w.alloc (.cells #[.int .i64 (N : Int), .slice A L.length c] 24)).alloc (.cells #[.int .u8 what, .int .i64 page, .int .i64 order] 66)).alloc (.cells #[.int .i64 0, .slice none 0 0] 24) := ⟨_, rfl⟩
  rw [← hW3] at hbx
  obtain ⟨hs3, g0, g1, g2, hb3⟩ := hbx
  have hB3 : BuL W3 b N L := hB.keep (hb3.block b hbl)
  have hA3 : BlkAt W3 A c L := hA.below hb3
  have hne0 : w.heap.size ≠ b := by omega
  have hne1 : w.heap.size + 1 ≠ b := by omega
  have hne2 : w.heap.size + 1 + 1 ≠ b := by omega
  obtain ⟨s0, s1, _, _⟩ := two_cells g0
  obtain ⟨a0, a1, a2⟩ := act_cells g1
  have HX := Lib.hid (And.intro hB3 (And.intro hA3 (And.intro hb3 (And.intro hA (And.intro hne (And.intro g0 (And.intro g1 g2)))))))
  have HW := Lib.hid hW3
  clear hB hA hne hB3 hA3 hb3 g0 g1 g2 hW3
  obtain ⟨⟨r, L1⟩, ho⟩ : ∃ o, o = drO N L page order := ⟨_, rfl⟩
  have h1 := dr_both W3 b N L page order HX.out.1
  rw [← ho] at h1
  have h2 := fun W (h : BlkAt W A c L) => drR_both W N A c L page order h HX.out.1.2
  rw [← ho] at h2
  have H1 := Lib.hid h1
  have H2 := Lib.hid h2
  clear h1 h2 ho
  go_enter Try.func27, Try.ntmps27
  go_wp2_with (fail)
  rw [← HW.out]
  go_wp2_with (first
    | (go_at_call 21; refine H1.out.mono ?_; rintro e w4 ⟨rfl, hB4, hg4⟩
       have n0 := heap_grow hg4 hne0 HX.out.2.2.2.2.2.1
       have n1 := heap_grow hg4 hne1 HX.out.2.2.2.2.2.2.1
       have n2 := heap_grow hg4 hne2 HX.out.2.2.2.2.2.2.2
       obtain ⟨s0, s1, _, _⟩ := two_cells n0
       obtain ⟨a0, a1, a2⟩ := act_cells n1
       have H4 := Lib.hid (And.intro hB4 (And.intro hg4 (And.intro n0 n2)))
       clear hB4 hg4 n0 n1 n2)
    | (go_at_call 41; refine (H2.out _ (HX.out.2.1.grow H4.out.2.1 HX.out.2.2.2.2.1.ne)).mono ?_; rintro e w5 ⟨A', c', rfl, hN5, hb5⟩
       have n0 := heap_below hb5 H4.out.2.2.1
       have n2 := heap_below hb5 H4.out.2.2.2
       have hl0 := lt_of_heap n0
       have hl2 := lt_of_heap n2
       obtain ⟨s0, s1, f0, f1⟩ := two_cells n0
       obtain ⟨z0, z1, f2, f3⟩ := two_cells n2
       obtain ⟨v0, v1⟩ := state_cells w5 (.int .i64 (N : Int)) (.slice A' L1.length c') 24
       have H5 := Lib.hid (And.intro hN5 (And.intro hb5 (And.intro n0 n2)))
       clear hN5 hb5 n0 n2))
  have hT : Tw w.heap.size (w.heap.size + 1 + 1) w5 (((w5.setCell ⟨w.heap.size, 0, none⟩ (.int .i64 (N : Int))).setCell ⟨w.heap.size, 1, none⟩ (.slice A' L1.length c')).alloc (.cells #[.int .i64 (N : Int), .slice A' L1.length c'] 24)) := (((Tw.refl _ _ _).setX _ _).setX _ _).alloc _
  have m0 : ((((w5.setCell ⟨w.heap.size, 0, none⟩ (.int .i64 (N : Int))).setCell ⟨w.heap.size, 1, none⟩ (.slice A' L1.length c')).alloc (.cells #[.int .i64 (N : Int), .slice A' L1.length c'] 24))).heap[w.heap.size]? = some (.cells #[.int .i64 (N : Int), .slice A' L1.length c'] 24 (0, 0)) := (alloc_old _ _ _ (by rw [setCell_size, setCell_size]; omega)).trans (two_set H5.out.2.2.1 _ _)
  have m2 : ((((w5.setCell ⟨w.heap.size, 0, none⟩ (.int .i64 (N : Int))).setCell ⟨w.heap.size, 1, none⟩ (.slice A' L1.length c')).alloc (.cells #[.int .i64 (N : Int), .slice A' L1.length c'] 24))).heap[w.heap.size + 1 + 1]? = some (.cells #[.int .i64 0, .slice none 0 0] 24 (0, 0)) := (alloc_old _ _ _ (by rw [setCell_size, setCell_size]; omega)).trans ((setCell_far _ _ _ _ (by show w.heap.size + 1 + 1 ≠ w.heap.size; omega)).trans ((setCell_far _ _ _ _ (by show w.heap.size + 1 + 1 ≠ w.heap.size; omega)).trans H5.out.2.2.2))
  generalize (((w5.setCell ⟨w.heap.size, 0, none⟩ (.int .i64 (N : Int))).setCell ⟨w.heap.size, 1, none⟩ (.slice A' L1.length c')).alloc (.cells #[.int .i64 (N : Int), .slice A' L1.length c'] 24)) = Wd at *
  obtain ⟨s0, s1, f0, f1⟩ := two_cells m0
  obtain ⟨z0, z1, f2, f3⟩ := two_cells m2
  have HT := Lib.hid (And.intro hT m2)
  clear hT m0 m2
  go_region
  all_goals
    go_wp2_with (fail)
    obtain ⟨q0, q1, _, _⟩ := two_cells (two_set (w := Wd.drew) HT.out.2 (.int .i64 (N : Int)) (.slice A' L1.length c'))
    refine bodyPost_ret (v := .tuple #[.pointer (some ⟨b, 0, none⟩), sv N A' L1.length c', .int .i64 0]) (by simp [results, Try.results27, go_sem, q0, q1, z0, z1]) rfl ⟨b, A', c', L1, rfl, ?_⟩
    exact step_fin HX.out.2.2.2.1 HX.out.2.2.2.2.1 hbl H5.out.1 (by have := H4.out.2.1.size; omega) (((grow_of_below HX.out.2.2.1).trans H4.out.2.1).trans (grow_of_below H5.out.2.1)) (H4.out.1.keep (H5.out.2.1.block _ H4.out.1.lt)) ((HT.out.1.drew.setY _ _).setY _ _)

set_option maxRecDepth 100000 in
set_option maxHeartbeats 4000000 in
theorem step6 (w : World) (b N : Nat) (A : Option Addr) (c : Nat) (L : List Blk) (what : Int) (page order : Int) (hw : what % 10 = 6) (hw0 : 0 ≤ what) (hw1 : what < 256) (hB : BuL w b N L) (hA : BlkAt w A c L) (hne : Lies w b A) :
    Calls Try.prog 27 #[.pointer (some ⟨b, 0, none⟩), sv N A L.length c, .agg #[.int .u8 what, .int .i64 page, .int .i64 order]] w fun e w' => StepR N w b A e w' := by
  have hbl := hB.lt
  have hbx := step_boxes w (.int .i64 (N : Int)) (.slice A L.length c) (.int .u8 what) (.int .i64 page) (.int .i64 order)
  dsimp only at hbx
  obtain ⟨W3, hW3⟩ : ∃ W3, W3 = ((w.alloc (.cells #[.int .i64 (N : Int), .slice A L.length c] 24)).alloc (.cells #[.int .u8 what, .int .i64 page, .int .i64 order] 66)).alloc (.cells #[.int .i64 0, .slice none 0 0] 24) := ⟨_, rfl⟩
  rw [← hW3] at hbx
  obtain ⟨hs3, g0, g1, g2, hb3⟩ := hbx
  have hB3 : BuL W3 b N L := hB.keep (hb3.block b hbl)
  have hA3 : BlkAt W3 A c L := hA.below hb3
  have hne0 : w.heap.size ≠ b := by omega
  have hne1 : w.heap.size + 1 ≠ b := by omega
  have hne2 : w.heap.size + 1 + 1 ≠ b := by omega
  obtain ⟨s0, s1, _, _⟩ := two_cells g0
  obtain ⟨a0, a1, a2⟩ := act_cells g1
  have HX := Lib.hid (And.intro hB3 (And.intro hA3 (And.intro hb3 (And.intro hA (And.intro hne (And.intro g0 (And.intro g1 g2)))))))
  have HW := Lib.hid hW3
  clear hB hA hne hB3 hA3 hb3 g0 g1 g2 hW3
  obtain ⟨⟨r, L1⟩, ho⟩ : ∃ o, o = drO N L page order := ⟨_, rfl⟩
  have h1 := dr_both W3 b N L page order HX.out.1
  rw [← ho] at h1
  have h2 := fun W (h : BlkAt W A c L) => drR_both W N A c L page order h HX.out.1.2
  rw [← ho] at h2
  have H1 := Lib.hid h1
  have H2 := Lib.hid h2
  clear h1 h2 ho
  go_enter Try.func27, Try.ntmps27
  go_wp2_with (fail)
  rw [← HW.out]
  go_wp2_with (first
    | (go_at_call 21; refine H1.out.mono ?_; rintro e w4 ⟨rfl, hB4, hg4⟩
       have n0 := heap_grow hg4 hne0 HX.out.2.2.2.2.2.1
       have n1 := heap_grow hg4 hne1 HX.out.2.2.2.2.2.2.1
       have n2 := heap_grow hg4 hne2 HX.out.2.2.2.2.2.2.2
       obtain ⟨s0, s1, _, _⟩ := two_cells n0
       obtain ⟨a0, a1, a2⟩ := act_cells n1
       have H4 := Lib.hid (And.intro hB4 (And.intro hg4 (And.intro n0 n2)))
       clear hB4 hg4 n0 n1 n2)
    | (go_at_call 41; refine (H2.out _ (HX.out.2.1.grow H4.out.2.1 HX.out.2.2.2.2.1.ne)).mono ?_; rintro e w5 ⟨A', c', rfl, hN5, hb5⟩
       have n0 := heap_below hb5 H4.out.2.2.1
       have n2 := heap_below hb5 H4.out.2.2.2
       have hl0 := lt_of_heap n0
       have hl2 := lt_of_heap n2
       obtain ⟨s0, s1, f0, f1⟩ := two_cells n0
       obtain ⟨z0, z1, f2, f3⟩ := two_cells n2
       obtain ⟨v0, v1⟩ := state_cells w5 (.int .i64 (N : Int)) (.slice A' L1.length c') 24
       have H5 := Lib.hid (And.intro hN5 (And.intro hb5 (And.intro n0 n2)))
       clear hN5 hb5 n0 n2))
  have hT : Tw w.heap.size (w.heap.size + 1 + 1) w5 (((w5.setCell ⟨w.heap.size, 0, none⟩ (.int .i64 (N : Int))).setCell ⟨w.heap.size, 1, none⟩ (.slice A' L1.length c')).alloc (.cells #[.int .i64 (N : Int), .slice A' L1.length c'] 24)) := (((Tw.refl _ _ _).setX _ _).setX _ _).alloc _
  have m0 : ((((w5.setCell ⟨w.heap.size, 0, none⟩ (.int .i64 (N : Int))).setCell ⟨w.heap.size, 1, none⟩ (.slice A' L1.length c')).alloc (.cells #[.int .i64 (N : Int), .slice A' L1.length c'] 24))).heap[w.heap.size]? = some (.cells #[.int .i64 (N : Int), .slice A' L1.length c'] 24 (0, 0)) := (alloc_old _ _ _ (by rw [setCell_size, setCell_size]; omega)).trans (two_set H5.out.2.2.1 _ _)
  have m2 : ((((w5.setCell ⟨w.heap.size, 0, none⟩ (.int .i64 (N : Int))).setCell ⟨w.heap.size, 1, none⟩ (.slice A' L1.length c')).alloc (.cells #[.int .i64 (N : Int), .slice A' L1.length c'] 24))).heap[w.heap.size + 1 + 1]? = some (.cells #[.int .i64 0, .slice none 0 0] 24 (0, 0)) := (alloc_old _ _ _ (by rw [setCell_size, setCell_size]; omega)).trans ((setCell_far _ _ _ _ (by show w.heap.size + 1 + 1 ≠ w.heap.size; omega)).trans ((setCell_far _ _ _ _ (by show w.heap.size + 1 + 1 ≠ w.heap.size; omega)).trans H5.out.2.2.2))
  generalize (((w5.setCell ⟨w.heap.size, 0, none⟩ (.int .i64 (N : Int))).setCell ⟨w.heap.size, 1, none⟩ (.slice A' L1.length c')).alloc (.cells #[.int .i64 (N : Int), .slice A' L1.length c'] 24)) = Wd at *
  obtain ⟨s0, s1, f0, f1⟩ := two_cells m0
  obtain ⟨z0, z1, f2, f3⟩ := two_cells m2
  have HT := Lib.hid (And.intro hT m2)
  clear hT m0 m2
  go_region
  all_goals
    go_wp2_with (fail)
    obtain ⟨q0, q1, _, _⟩ := two_cells (two_set (w := Wd.drew) HT.out.2 (.int .i64 (N : Int)) (.slice A' L1.length c'))
    refine bodyPost_ret (v := .tuple #[.pointer (some ⟨b, 0, none⟩), sv N A' L1.length c', .int .i64 0]) (by simp [results, Try.results27, go_sem, q0, q1, z0, z1]) rfl ⟨b, A', c', L1, rfl, ?_⟩
    exact step_fin HX.out.2.2.2.1 HX.out.2.2.2.2.1 hbl H5.out.1 (by have := H4.out.2.1.size; omega) (((grow_of_below HX.out.2.2.1).trans H4.out.2.1).trans (grow_of_below H5.out.2.1)) (H4.out.1.keep (H5.out.2.1.block _ H4.out.1.lt)) ((HT.out.1.drew.setY _ _).setY _ _)

set_option maxRecDepth 100000 in
set_option maxHeartbeats 4000000 in
theorem step7 (w : World) (b N : Nat) (A : Option Addr) (c : Nat) (L : List Blk) (what : Int) (page order : Int) (hw : what % 10 = 7) (hw0 : 0 ≤ what) (hw1 : what < 256) (hB : BuL w b N L) (hA : BlkAt w A c L) (hne : Lies w b A) :
    Calls Try.prog 27 #[.pointer (some ⟨b, 0, none⟩), sv N A L.length c, .agg #[.int .u8 what, .int .i64 page, .int .i64 order]] w fun e w' => StepR N w b A e w' := by
  have hbl := hB.lt
  have hbx := step_boxes w (.int .i64 (N : Int)) (.slice A L.length c) (.int .u8 what) (.int .i64 page) (.int .i64 order)
  dsimp only at hbx
  obtain ⟨W3, hW3⟩ : ∃ W3, W3 = ((w.alloc (.cells #[.int .i64 (N : Int), .slice A L.length c] 24)).alloc (.cells #[.int .u8 what, .int .i64 page, .int .i64 order] 66)).alloc (.cells #[.int .i64 0, .slice none 0 0] 24) := ⟨_, rfl⟩
  rw [← hW3] at hbx
  obtain ⟨hs3, g0, g1, g2, hb3⟩ := hbx
  have hB3 : BuL W3 b N L := hB.keep (hb3.block b hbl)
  have hA3 : BlkAt W3 A c L := hA.below hb3
  have hne0 : w.heap.size ≠ b := by omega
  have hne1 : w.heap.size + 1 ≠ b := by omega
  have hne2 : w.heap.size + 1 + 1 ≠ b := by omega
  obtain ⟨s0, s1, _, _⟩ := two_cells g0
  obtain ⟨a0, a1, a2⟩ := act_cells g1
  have HX := Lib.hid (And.intro hB3 (And.intro hA3 (And.intro hb3 (And.intro hA (And.intro hne (And.intro g0 (And.intro g1 g2)))))))
  have HW := Lib.hid hW3
  clear hB hA hne hB3 hA3 hb3 g0 g1 g2 hW3
  obtain ⟨⟨r, L1⟩, ho⟩ : ∃ o, o = drO N L page order := ⟨_, rfl⟩
  have h1 := dr_both W3 b N L page order HX.out.1
  rw [← ho] at h1
  have h2 := fun W (h : BlkAt W A c L) => drR_both W N A c L page order h HX.out.1.2
  rw [← ho] at h2
  have H1 := Lib.hid h1
  have H2 := Lib.hid h2
  clear h1 h2 ho
  go_enter Try.func27, Try.ntmps27
  go_wp2_with (fail)
  rw [← HW.out]
  go_wp2_with (first
    | (go_at_call 21; refine H1.out.mono ?_; rintro e w4 ⟨rfl, hB4, hg4⟩
       have n0 := heap_grow hg4 hne0 HX.out.2.2.2.2.2.1
       have n1 := heap_grow hg4 hne1 HX.out.2.2.2.2.2.2.1
       have n2 := heap_grow hg4 hne2 HX.out.2.2.2.2.2.2.2
       obtain ⟨s0, s1, _, _⟩ := two_cells n0
       obtain ⟨a0, a1, a2⟩ := act_cells n1
       have H4 := Lib.hid (And.intro hB4 (And.intro hg4 (And.intro n0 n2)))
       clear hB4 hg4 n0 n1 n2)
    | (go_at_call 41; refine (H2.out _ (HX.out.2.1.grow H4.out.2.1 HX.out.2.2.2.2.1.ne)).mono ?_; rintro e w5 ⟨A', c', rfl, hN5, hb5⟩
       have n0 := heap_below hb5 H4.out.2.2.1
       have n2 := heap_below hb5 H4.out.2.2.2
       have hl0 := lt_of_heap n0
       have hl2 := lt_of_heap n2
       obtain ⟨s0, s1, f0, f1⟩ := two_cells n0
       obtain ⟨z0, z1, f2, f3⟩ := two_cells n2
       obtain ⟨v0, v1⟩ := state_cells w5 (.int .i64 (N : Int)) (.slice A' L1.length c') 24
       have H5 := Lib.hid (And.intro hN5 (And.intro hb5 (And.intro n0 n2)))
       clear hN5 hb5 n0 n2))
  have hT : Tw w.heap.size (w.heap.size + 1 + 1) w5 (((w5.setCell ⟨w.heap.size, 0, none⟩ (.int .i64 (N : Int))).setCell ⟨w.heap.size, 1, none⟩ (.slice A' L1.length c')).alloc (.cells #[.int .i64 (N : Int), .slice A' L1.length c'] 24)) := (((Tw.refl _ _ _).setX _ _).setX _ _).alloc _
  have m0 : ((((w5.setCell ⟨w.heap.size, 0, none⟩ (.int .i64 (N : Int))).setCell ⟨w.heap.size, 1, none⟩ (.slice A' L1.length c')).alloc (.cells #[.int .i64 (N : Int), .slice A' L1.length c'] 24))).heap[w.heap.size]? = some (.cells #[.int .i64 (N : Int), .slice A' L1.length c'] 24 (0, 0)) := (alloc_old _ _ _ (by rw [setCell_size, setCell_size]; omega)).trans (two_set H5.out.2.2.1 _ _)
  have m2 : ((((w5.setCell ⟨w.heap.size, 0, none⟩ (.int .i64 (N : Int))).setCell ⟨w.heap.size, 1, none⟩ (.slice A' L1.length c')).alloc (.cells #[.int .i64 (N : Int), .slice A' L1.length c'] 24))).heap[w.heap.size + 1 + 1]? = some (.cells #[.int .i64 0, .slice none 0 0] 24 (0, 0)) := (alloc_old _ _ _ (by rw [setCell_size, setCell_size]; omega)).trans ((setCell_far _ _ _ _ (by show w.heap.size + 1 + 1 ≠ w.heap.size; omega)).trans ((setCell_far _ _ _ _ (by show w.heap.size + 1 + 1 ≠ w.heap.size; omega)).trans H5.out.2.2.2))
  generalize (((w5.setCell ⟨w.heap.size, 0, none⟩ (.int .i64 (N : Int))).setCell ⟨w.heap.size, 1, none⟩ (.slice A' L1.length c')).alloc (.cells #[.int .i64 (N : Int), .slice A' L1.length c'] 24)) = Wd at *
  obtain ⟨s0, s1, f0, f1⟩ := two_cells m0
  obtain ⟨z0, z1, f2, f3⟩ := two_cells m2
  have HT := Lib.hid (And.intro hT m2)
  clear hT m0 m2
  go_region
  all_goals
    go_wp2_with (fail)
    obtain ⟨q0, q1, _, _⟩ := two_cells (two_set (w := Wd.drew) HT.out.2 (.int .i64 (N : Int)) (.slice A' L1.length c'))
    refine bodyPost_ret (v := .tuple #[.pointer (some ⟨b, 0, none⟩), sv N A' L1.length c', .int .i64 0]) (by simp [results, Try.results27, go_sem, q0, q1, z0, z1]) rfl ⟨b, A', c', L1, rfl, ?_⟩
    exact step_fin HX.out.2.2.2.1 HX.out.2.2.2.2.1 hbl H5.out.1 (by have := H4.out.2.1.size; omega) (((grow_of_below HX.out.2.2.1).trans H4.out.2.1).trans (grow_of_below H5.out.2.1)) (H4.out.1.keep (H5.out.2.1.block _ H4.out.1.lt)) ((HT.out.1.drew.setY _ _).setY _ _)

end Bu
end Go.Proofs.Ytdanhbbdkcbapaa