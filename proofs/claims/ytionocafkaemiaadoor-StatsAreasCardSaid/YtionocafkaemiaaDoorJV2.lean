/- StatsAreas: the walk. -/
import Derived.Test.YtionocafkaemiaaDoorJL2
import Derived.Test.YtionocafkaemiaaDoorJA13
import Derived.Test.YtionocafkaemiaaDoorJA16
import Derived.Test.YtionocafkaemiaaDoorJR12
import Derived.Test.YtionocafkaemiaaDoorJR14
namespace Go.Proofs.YtionocafkaemiaaDoor
open Go.RowKit Go.Sort Go.Lib
namespace Sx
attribute [local irreducible] wpQuiet
theorem eql_area_self (a b : Int) (w : World) : (binOp .eql 31 (.agg #[.int .i64 a, .int .i64 b]) (.agg #[.int .i64 a, .int .i64 b])).run Tryd.prog w = .ok (.bool true) w := by
  rw [eql_area]; simp
theorem three_boxes' (w : World) (cs ds es : Array Value) (T S R : TypeId) : (((w.alloc (.cells cs T)).alloc (.cells ds S)).alloc (.cells es R)).heap[w.heap.size]? = some (.cells cs T (0, 0)) ∧ (((w.alloc (.cells cs T)).alloc (.cells ds S)).alloc (.cells es R)).heap[w.heap.size + 1]? = some (.cells ds S (0, 0)) ∧ (((w.alloc (.cells cs T)).alloc (.cells ds S)).alloc (.cells es R)).heap[w.heap.size + 2]? = some (.cells es R (0, 0)) := three_boxes w _ _ _
set_option maxRecDepth 100000 in
set_option maxHeartbeats 8000000 in
theorem areas_walk (W : World) (hT : Lib.TabIs Tryd.prog W "internal/strconv.uint64pow10" .u64 Lib.pow10Tab) (A : Option Addr) (c : Nat) (L : List Sm) (hL : SAt W A c L) (f t qn qd : Int) :
    Calls Tryd.prog 3 #[sv A L.length c, .agg #[.int .i64 f, .int .i64 t], .agg #[.int .i64 qn, .int .i64 qd]] W fun e w' => e = .returned (.bool true) ∧ Below W.heap.size W w' := by
  have hl1 := hL.1
  have hl2 := hL.2.1
  unfold maxLen at hl2
  obtain ⟨k1, k2, k3⟩ := three_boxes' W #[.slice A L.length c] #[.int .i64 f, .int .i64 t] #[.int .i64 qn, .int .i64 qd] 24 26 28
  have hb : Below W.heap.size W (((W.alloc (.cells #[.slice A L.length c] 24)).alloc (.cells #[.int .i64 f, .int .i64 t] 26)).alloc (.cells #[.int .i64 qn, .int .i64 qd] 28)) := ((below_box W _).alloc (by simp) _).alloc (by simp; omega) _
  have HT := Lib.hid (Lib.tabBelow_of_tabIs hT)
  have HSh := Lib.hid (fun V (hV : Below W.heap.size W V) => shown_ok V (HT.out V hV))
  have HP := Lib.hid (fun V (hV : Below W.heap.size W V) => Area_ok A c L f t V (hL.below hV (Nat.le_refl _)))
  have HPR := Lib.hid (fun V (hV : Below W.heap.size W V) => AreaR_ok A c L f t V (hL.below hV (Nat.le_refl _)))
  have HQ := Lib.hid (fun V (hV : Below W.heap.size W V) => quant_ok2 A c L f t qn qd V (hL.below hV (Nat.le_refl _)))
  have HQR := Lib.hid (fun V (hV : Below W.heap.size W V) => quantR_ok A c L f t qn qd V (hL.below hV (Nat.le_refl _)))
  go_enter Tryd.func3, Tryd.ntmps3
  go_upto_region 1 with (fail)
  generalize ((W.alloc (.cells #[.slice A L.length c] 24)).alloc (.cells #[.int .i64 f, .int .i64 t] 26)).alloc (.cells #[.int .i64 qn, .int .i64 qd] 28) = U at *
  have s0 := one_at k1
  obtain ⟨p0, p1⟩ := two_at k2
  obtain ⟨r0, r1⟩ := two_at k3
  have HU := Lib.hid hb
  clear hL hT hb k1 k2 k3
  by_cases h : 510 < L.length
  · have hi : (510 : Int) < (L.length : Int) := by omega
    go_wp2_with (go_at_call 11; refine (HSh.out _ HU.out).mono ?_; rintro e v1 ⟨rfl, hb1⟩)
    go_ret
    exact ⟨rfl, HU.out.trans (hb1.mono HU.out.size)⟩
  · have hi : ¬ (510 : Int) < (L.length : Int) := by omega
    generalize (areaS L f t).1.h = pa at *
    generalize (areaS L f t).1.l = pv at *
    generalize (areaS L f t).2 = pe at *
    generalize (quantS L f t qn qd).1 = qv at *
    generalize (quantS L f t qn qd).2 = qe at *
    go_upto_region 4 with (go_at_call 12; refine (HP.out _ HU.out).mono ?_; rintro e v1 ⟨rfl, hb1⟩)
    have hx1 := hb1.trans ((below_box v1 (.cells #[.int .i64 pa, .int .i64 pv] 31)).mono hb1.size)
    have z7 := new_at v1 (.cells #[.int .i64 pa, .int .i64 pv] 31)
    obtain ⟨a7, ha7⟩ : ∃ a, a = v1.heap.size := ⟨_, rfl⟩
    rw [← ha7] at z7 ⊢
    generalize v1.alloc (.cells #[.int .i64 pa, .int .i64 pv] 31) = V1 at *
    replace s0 := cell_keep2 hx1 s0
    replace p0 := cell_keep2 hx1 p0
    replace p1 := cell_keep2 hx1 p1
    replace r0 := cell_keep2 hx1 r0
    replace r1 := cell_keep2 hx1 r1
    have H1 := Lib.hid (And.intro (HU.out.trans (hx1.mono HU.out.size)) z7)
    clear hx1 hb1 z7 ha7 HU
    go_upto_region 5 with (go_at_call 13; refine (HPR.out _ H1.out.1).mono ?_; rintro e v2 ⟨rfl, hb2⟩)
    have hx2 := hb2.trans ((below_box v2 (.cells #[.int .i64 pa, .int .i64 pv] 31)).mono hb2.size)
    have z9 := new_at v2 (.cells #[.int .i64 pa, .int .i64 pv] 31)
    obtain ⟨a9, ha9⟩ : ∃ a, a = v2.heap.size := ⟨_, rfl⟩
    rw [← ha9] at z9 ⊢
    generalize v2.alloc (.cells #[.int .i64 pa, .int .i64 pv] 31) = V2 at *
    replace s0 := cell_keep2 hx2 s0
    replace p0 := cell_keep2 hx2 p0
    replace p1 := cell_keep2 hx2 p1
    replace r0 := cell_keep2 hx2 r0
    replace r1 := cell_keep2 hx2 r1
    have H2 := Lib.hid (And.intro (H1.out.1.trans (hx2.mono H1.out.1.size)) (And.intro (two_heap H1.out.2 hx2) z9))
    clear hx2 hb2 z9 ha9 H1
    go_upto_region 6 with (go_at_call 14; refine (HQ.out _ H2.out.1).mono ?_; rintro e v5 ⟨rfl, hb5⟩; have H5 := Lib.hid hb5; replace s0 := cell_keep2 hb5 s0; replace p0 := cell_keep2 hb5 p0; replace p1 := cell_keep2 hb5 p1; replace r0 := cell_keep2 hb5 r0; replace r1 := cell_keep2 hb5 r1; clear hb5)
    have hW5 := H2.out.1.trans (H5.out.mono H2.out.1.size)
    have H6 := Lib.hid (And.intro hW5 (And.intro (two_heap H2.out.2.1 H5.out) (two_heap H2.out.2.2 H5.out)))
    clear hW5 H2 H5
    go_upto_region 7 with (go_at_call 15; refine (HQR.out _ H6.out.1).mono ?_; rintro e v6 ⟨rfl, hb6⟩; have H7 := Lib.hid hb6; clear hb6 s0 p0 p1 r0 r1)
    have hW6 := H6.out.1.trans (H7.out.mono H6.out.1.size)
    obtain ⟨x0, x1⟩ := two_at (two_heap H6.out.2.1 H7.out)
    obtain ⟨y0, y1⟩ := two_at (two_heap H6.out.2.2 H7.out)
    have q2 := fun w => eql_area_self pa pv w
    have H8 := Lib.hid hW6
    clear hW6 H6 H7
    go_wp2_with (go_at_call 11; refine (HSh.out _ H8.out).mono ?_; rintro e v9 ⟨rfl, hb9⟩)
    go_ret
    exact ⟨rfl, H8.out.trans (hb9.mono H8.out.size)⟩
end Sx
end Go.Proofs.YtionocafkaemiaaDoor
