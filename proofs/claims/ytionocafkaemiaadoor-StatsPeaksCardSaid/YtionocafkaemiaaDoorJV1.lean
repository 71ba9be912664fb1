/- StatsPeaks: the walk. -/
import Derived.Test.YtionocafkaemiaaDoorJL2
import Derived.Test.YtionocafkaemiaaDoorJA8
import Derived.Test.YtionocafkaemiaaDoorJA10
import Derived.Test.YtionocafkaemiaaDoorJR6
import Derived.Test.YtionocafkaemiaaDoorJR7
namespace Go.Proofs.YtionocafkaemiaaDoor
open Go.RowKit Go.Sort Go.Lib
namespace Sx
attribute [local irreducible] wpQuiet
theorem far_set2 {w : World} {p q : Nat} {o : Obj} {x y : Value} (h : w.heap[q]? = some o) (hne : q ≠ p) : ((w.setCell ⟨p, 0, none⟩ x).setCell ⟨p, 1, none⟩ y).heap[q]? = some o :=
  (Below.heap_setCell _ _ _ _ (fun e => hne (by simpa using e))).trans ((Below.heap_setCell _ _ _ _ (fun e => hne (by simpa using e))).trans h)
theorem eql_sample_self (a b : Int) (w : World) : (binOp .eql 49 (.agg #[.int .i64 a, .int .i64 b]) (.agg #[.int .i64 a, .int .i64 b])).run Tryd.prog w = .ok (.bool true) w := by
  rw [eql_sample]; simp
theorem neq_sample_self (a b : Int) (w : World) : (binOp .neq 49 (.agg #[.int .i64 a, .int .i64 b]) (.agg #[.int .i64 a, .int .i64 b])).run Tryd.prog w = .ok (.bool false) w := by
  have u3 := Tryd.underlying2
  have a3 := Tryd.isAgg2
  have z3 := Tryd.sizeOf2
  rw [run_neq_struct, show (10000 : Nat) = 9999 + 1 from rfl, run_equalIn_agg w 9999 _ _ _ sample_fields sample_held]
  simp only [Program.fieldsOf, Tryd.underlying49]
  go_simp
  try simp
set_option maxRecDepth 100000 in
set_option maxHeartbeats 8000000 in
theorem peaks_walk (W : World) (hT : Lib.TabIs Tryd.prog W "internal/strconv.uint64pow10" .u64 Lib.pow10Tab) (A : Option Addr) (c : Nat) (L : List Sm) (hL : SAt W A c L) (f t bd : Int) :
    Calls Tryd.prog 6 #[sv A L.length c, .agg #[.int .i64 f, .int .i64 t], .int .i64 bd] W fun e w' => e = .returned (.bool true) ∧ Below W.heap.size W w' := by
  have hl1 := hL.1
  have hl2 := hL.2.1
  unfold maxLen at hl2
  obtain ⟨k1, k2⟩ := two_boxes W #[.slice A L.length c] #[.int .i64 f, .int .i64 t] 24 26
  have hb : Below W.heap.size W ((W.alloc (.cells #[.slice A L.length c] 24)).alloc (.cells #[.int .i64 f, .int .i64 t] 26)) := (below_box W _).alloc (by simp) _
  have HT := Lib.hid (Lib.tabBelow_of_tabIs hT)
  have HSh := Lib.hid (fun V (hV : Below W.heap.size W V) => shown_ok V (HT.out V hV))
  have HP := Lib.hid (fun V (hV : Below W.heap.size W V) => peak_ok A c L f t V (hL.below hV (Nat.le_refl _)))
  have HPR := Lib.hid (fun V (hV : Below W.heap.size W V) => peakR_ok A c L f t V (hL.below hV (Nat.le_refl _)))
  have HLo := Lib.hid (fun V (hV : Below W.heap.size W V) => low_ok A c L f t V (hL.below hV (Nat.le_refl _)))
  have HLR := Lib.hid (fun V (hV : Below W.heap.size W V) => lowR_ok A c L f t V (hL.below hV (Nat.le_refl _)))
  have HS := Lib.hid (fun V (hV : Below W.heap.size W V) => share_ok A c L f t bd V (hL.below hV (Nat.le_refl _)))
  have HSR := Lib.hid (fun V (hV : Below W.heap.size W V) => shareR_ok A c L f t bd V (hL.below hV (Nat.le_refl _)))
  go_enter Tryd.func6, Tryd.ntmps6
  go_upto_region 1 with (fail)
  generalize (W.alloc (.cells #[.slice A L.length c] 24)).alloc (.cells #[.int .i64 f, .int .i64 t] 26) = U at *
  have s0 := one_at k1
  obtain ⟨p0, p1⟩ := two_at k2
  have hltU := lt_block k2
  have HU := Lib.hid (And.intro hb (And.intro k1 (And.intro k2 hltU)))
  clear hL hT hb k1 k2 hltU
  by_cases h : 510 < L.length
  · have hi : (510 : Int) < (L.length : Int) := by omega
    go_wp2_with (go_at_call 11; refine (HSh.out _ HU.out.1).mono ?_; rintro e v1 ⟨rfl, hb1⟩)
    go_ret
    exact ⟨rfl, HU.out.1.trans (hb1.mono HU.out.1.size)⟩
  · have hi : ¬ (510 : Int) < (L.length : Int) := by omega
    generalize (extS gt L f t).1.a = pa at *
    generalize (extS gt L f t).1.v = pv at *
    generalize (extS gt L f t).2 = pe at *
    generalize (extS lt L f t).1.a = la at *
    generalize (extS lt L f t).1.v = lv at *
    generalize (extS lt L f t).2 = le at *
    generalize (shareS L f t bd).1 = sh at *
    generalize (shareS L f t bd).2 = se at *
    go_upto_region 4 with (go_at_call 21; refine (HP.out _ HU.out.1).mono ?_; rintro e v1 ⟨rfl, hb1⟩)
    have hx1 := hb1.trans ((below_box v1 (.cells #[.int .i64 pa, .int .i64 pv] 49)).mono hb1.size)
    have z7 := new_at v1 (.cells #[.int .i64 pa, .int .i64 pv] 49)
    obtain ⟨a7, ha7⟩ : ∃ a, a = v1.heap.size := ⟨_, rfl⟩
    rw [← ha7] at z7 ⊢
    generalize v1.alloc (.cells #[.int .i64 pa, .int .i64 pv] 49) = V1 at *
    replace s0 := cell_keep2 hx1 s0
    replace p0 := cell_keep2 hx1 p0
    replace p1 := cell_keep2 hx1 p1
    have hle7 : W.heap.size + 1 < a7 := by rw [ha7]; exact Nat.lt_of_lt_of_le HU.out.2.2.2 hb1.size
    have H1 := Lib.hid (And.intro (HU.out.1.trans (hx1.mono HU.out.1.size)) (And.intro z7 hle7))
    clear hx1 hb1 z7 ha7 hle7 HU
    go_upto_region 5 with (go_at_call 25; refine (HPR.out _ H1.out.1).mono ?_; rintro e v2 ⟨rfl, hb2⟩)
    have hx2 := hb2.trans ((below_box v2 (.cells #[.int .i64 pa, .int .i64 pv] 49)).mono hb2.size)
    have z9 := new_at v2 (.cells #[.int .i64 pa, .int .i64 pv] 49)
    obtain ⟨a9, ha9⟩ : ∃ a, a = v2.heap.size := ⟨_, rfl⟩
    rw [← ha9] at z9 ⊢
    generalize v2.alloc (.cells #[.int .i64 pa, .int .i64 pv] 49) = V2 at *
    replace s0 := cell_keep2 hx2 s0
    replace p0 := cell_keep2 hx2 p0
    replace p1 := cell_keep2 hx2 p1
    have z7 := two_heap H1.out.2.1 hx2
    have hne : a7 < a9 := by rw [ha9]; exact Nat.lt_of_lt_of_le (lt_block H1.out.2.1) hb2.size
    obtain ⟨x0, x1⟩ := two_at z7
    obtain ⟨y0, y1⟩ := two_at z9
    have q1 := fun w => neq_sample_self pa pv w
    have H2 := Lib.hid (And.intro (H1.out.1.trans (hx2.mono H1.out.1.size)) (And.intro z7 (And.intro z9 (And.intro H1.out.2.2 hne))))
    clear hx2 hb2 z7 z9 ha9 hne H1
    go_upto_region 7 with (fail)
    have hz7 := H2.out.2.1
    have hf7 : ∀ v j, Below V2.heap.size V2 v → v.frozen? ⟨a7, j, none⟩ = false := fun v j hv => frozen_pl (two_heap hz7 hv) j
    go_upto_region 8 with (go_at_call 26; refine (HLo.out _ H2.out.1).mono ?_; rintro e v3 ⟨rfl, hb3⟩; have fz := (fun j => hf7 v3 j hb3); have x0' := (two_at (two_heap hz7 hb3)).1; have x1' := (two_at (two_heap hz7 hb3)).2)
    have hx3 : Below a7 V2 ((v3.setCell ⟨a7, 0, none⟩ (.int .i64 la)).setCell ⟨a7, 1, none⟩ (.int .i64 lv)) := below_set2 (hb3.mono (Nat.le_of_lt (lt_block hz7))) (Nat.le_refl _)
    have z7 := set2 (x := .int .i64 la) (y := .int .i64 lv) (two_heap hz7 hb3)
    have z9 := far_set2 (x := .int .i64 la) (y := .int .i64 lv) (two_heap H2.out.2.2.1 hb3) (Nat.ne_of_gt H2.out.2.2.2.2)
    replace s0 := (hx3.cell (p := ⟨W.heap.size, 0, none⟩) (Nat.lt_trans (Nat.lt_succ_self _) H2.out.2.2.2.1)).trans s0
    replace p0 := (hx3.cell (p := ⟨W.heap.size + 1, 0, none⟩) H2.out.2.2.2.1).trans p0
    replace p1 := (hx3.cell (p := ⟨W.heap.size + 1, 1, none⟩) H2.out.2.2.2.1).trans p1
    have hW3 := H2.out.1.trans (hx3.mono (Nat.le_of_lt (Nat.lt_trans (Nat.lt_succ_self _) H2.out.2.2.2.1)))
    generalize (v3.setCell ⟨a7, 0, none⟩ (.int .i64 la)).setCell ⟨a7, 1, none⟩ (.int .i64 lv) = V3 at *
    have H3 := Lib.hid (And.intro hW3 (And.intro z7 (And.intro z9 H2.out.2.2.2)))
    clear hx3 hb3 z7 z9 hW3 H2 fz x0' x1' hf7 hz7 x0 x1 y0 y1
    have hz9 := H3.out.2.2.1
    have hf9 : ∀ v j, Below V3.heap.size V3 v → v.frozen? ⟨a9, j, none⟩ = false := fun v j hv => frozen_pl (two_heap hz9 hv) j
    go_upto_region 9 with (go_at_call 27; refine (HLR.out _ H3.out.1).mono ?_; rintro e v4 ⟨rfl, hb4⟩; have fz := (fun j => hf9 v4 j hb4); have x0' := (two_at (two_heap hz9 hb4)).1; have x1' := (two_at (two_heap hz9 hb4)).2)
    have hx4 : Below a9 V3 ((v4.setCell ⟨a9, 0, none⟩ (.int .i64 la)).setCell ⟨a9, 1, none⟩ (.int .i64 lv)) := below_set2 (hb4.mono (Nat.le_of_lt (lt_block hz9))) (Nat.le_refl _)
    have z9 := set2 (x := .int .i64 la) (y := .int .i64 lv) (two_heap hz9 hb4)
    have z7 := far_set2 (x := .int .i64 la) (y := .int .i64 lv) (two_heap H3.out.2.1 hb4) (Nat.ne_of_lt H3.out.2.2.2.2)
    have hlt9 := Nat.lt_trans H3.out.2.2.2.1 H3.out.2.2.2.2
    replace s0 := (hx4.cell (p := ⟨W.heap.size, 0, none⟩) (Nat.lt_trans (Nat.lt_succ_self _) hlt9)).trans s0
    replace p0 := (hx4.cell (p := ⟨W.heap.size + 1, 0, none⟩) hlt9).trans p0
    replace p1 := (hx4.cell (p := ⟨W.heap.size + 1, 1, none⟩) hlt9).trans p1
    have hW4 := H3.out.1.trans (hx4.mono (Nat.le_of_lt (Nat.lt_trans (Nat.lt_succ_self _) hlt9)))
    generalize (v4.setCell ⟨a9, 0, none⟩ (.int .i64 la)).setCell ⟨a9, 1, none⟩ (.int .i64 lv) = V4 at *
    have H4 := Lib.hid (And.intro hW4 (And.intro z7 z9))
    clear hx4 hb4 z7 z9 hW4 H3 fz x0' x1' hf9 hz9 hlt9
    go_upto_region 10 with (go_at_call 28; refine (HS.out _ H4.out.1).mono ?_; rintro e v5 ⟨rfl, hb5⟩; have H5 := Lib.hid hb5; replace s0 := cell_keep2 hb5 s0; replace p0 := cell_keep2 hb5 p0; replace p1 := cell_keep2 hb5 p1; clear hb5)
    have hW5 := H4.out.1.trans (H5.out.mono H4.out.1.size)
    have H6 := Lib.hid (And.intro hW5 (And.intro (two_heap H4.out.2.1 H5.out) (two_heap H4.out.2.2 H5.out)))
    clear hW5 H4 H5
    go_upto_region 11 with (go_at_call 29; refine (HSR.out _ H6.out.1).mono ?_; rintro e v6 ⟨rfl, hb6⟩; have H7 := Lib.hid hb6; clear hb6 s0 p0 p1)
    have hW6 := H6.out.1.trans (H7.out.mono H6.out.1.size)
    obtain ⟨x0, x1⟩ := two_at (two_heap H6.out.2.1 H7.out)
    obtain ⟨y0, y1⟩ := two_at (two_heap H6.out.2.2 H7.out)
    have q2 := fun w => eql_sample_self la lv w
    have H8 := Lib.hid hW6
    clear hW6 H6 H7 q1
    go_wp2_with (go_at_call 11; refine (HSh.out _ H8.out).mono ?_; rintro e v9 ⟨rfl, hb9⟩)
    go_ret
    exact ⟨rfl, H8.out.trans (hb9.mono H8.out.size)⟩
end Sx
end Go.Proofs.YtionocafkaemiaaDoor
