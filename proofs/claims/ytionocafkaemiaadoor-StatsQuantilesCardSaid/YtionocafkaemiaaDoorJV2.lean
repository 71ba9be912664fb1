/- StatsAreas: the walk. StatsQuantiles: the walk. -/
import Derived.Test.YtionocafkaemiaaDoorJL2
import Derived.Test.YtionocafkaemiaaDoorJA13
import Derived.Test.YtionocafkaemiaaDoorJA16
import Derived.Test.YtionocafkaemiaaDoorJR12
import Derived.Test.YtionocafkaemiaaDoorJR14
import Derived.Test.YtionocafkaemiaaDoorJA10
import Derived.Test.YtionocafkaemiaaDoorJP14
namespace Go.Proofs.YtionocafkaemiaaDoor
open Go.RowKit Go.Sort Go.Lib
namespace Sx
attribute [local irreducible] wpQuiet
theorem eql_area_self (a b : Int) (w : World) : (binOp .eql 31 (.agg #[.int .i64 a, .int .i64 b]) (.agg #[.int .i64 a, .int .i64 b])).run Tryd.prog w = .ok (.bool true) w := by
  rw [eql_area]; simp
theorem three_boxes' (w : World) (cs ds es : Array Value) (T S R : TypeId) : (((w.alloc (.cells cs T)).alloc (.cells ds S)).alloc (.cells es R)).heap[w.heap.size]? = some (.cells cs T (0, 0)) ∧ (((w.alloc (.cells cs T)).alloc (.cells ds S)).alloc (.cells es R)).heap[w.heap.size + 1]? = some (.cells ds S (0, 0)) ∧ (((w.alloc (.cells cs T)).alloc (.cells ds S)).alloc (.cells es R)).heap[w.heap.size + 2]? = some (.cells es R (0, 0)) := three_boxes w _ _ _
set_option maxRecDepth 100000 in
set_option maxHeartbeats 8000000 in
theorem areas_walk (W : World) (hT : Lib.TabIs Tryd.prog W "internal/strconv.uint64pow10" .u64 Lib.pow10Tab) (A : Option Addr) (c : Nat) (L : List Sm) (hL : SAt W A c L) (f t qn qd : Int) :
    Calls Tryd.prog 3 #[sv A L.length c, .agg #[.int .i64 f, .int .i64 t], .agg #[.int .i64 qn, .int .i64 qd]] W fun e w' => e = .returned (.bool true) ∧ Below W.heap.size W w' := by
  have hl1 := hL.1
  have hl2 := hL.2.1
  unfold maxLen at hl2
  obtain ⟨k1, k2, k3⟩ := three_boxes' W #[.slice A L.length c] #[.int .i64 f, .int .i64 t] #[.int .i64 qn, .int .i64 qd] 24 26 28
  have hb : Below W.heap.size W (((W.alloc (.cells #[.slice A L.length c] 24)).alloc (.cells #[.int .i64 f, .int .i64 t] 26)).alloc (.cells #[.int .i64 qn, .int .i64 qd] 28)) := ((below_box W _).alloc (by simp) _).alloc (by simp; omega) _
  have HT := Lib.hid (Lib.tabBelow_of_tabIs hT)
  have HSh := Lib.hid (fun V (hV : Below W.heap.size W V) => shown_ok V (HT.out V hV))
  have HP := Lib.hid (fun V (hV : Below W.heap.size W V) => Area_ok A c L f t V (hL.below hV (Nat.le_refl _)))
  have HPR := Lib.hid (fun V (hV : Below W.heap.size W V) => AreaR_ok A c L f t V (hL.below hV (Nat.le_refl _)))
  have HQ := Lib.hid (fun V (hV : Below W.heap.size W V) => quant_ok2 A c L f t qn qd V (hL.below hV (Nat.le_refl _)))
  have HQR := Lib.hid (fun V (hV : Below W.heap.size W V) => quantR_ok A c L f t qn qd V (hL.below hV (Nat.le_refl _)))
  go_enter Tryd.func3, Tryd.ntmps3
  go_upto_region 1 with (fail)
  generalize ((W.alloc (.cells #[.slice A L.length c] 24)).alloc (.cells #[.int .i64 f, .int .i64 t] 26)).alloc (.cells #[.int .i64 qn, .int .i64 qd] 28) = U at *
  have s0 := one_at k1
  obtain ⟨p0, p1⟩ := two_at k2
  obtain ⟨r0, r1⟩ := two_at k3
  have HU := Lib.hid hb
  clear hL hT hb k1 k2 k3
  by_cases h : 510 < L.length
  · have hi : (510 : Int) < (L.length : Int) := by omega
    go_wp2_with (go_at_call 11; refine (HSh.out _ HU.out).mono ?_; rintro e v1 ⟨rfl, hb1⟩)
    go_ret
    exact ⟨rfl, HU.out.trans (hb1.mono HU.out.size)⟩
  · have hi : ¬ (510 : Int) < (L.length : Int) := by omega
    generalize (areaS L f t).1.h = pa at *
    generalize (areaS L f t).1.l = pv at *
    generalize (areaS L f t).2 = pe at *
    generalize (quantS L f t qn qd).1 = qv at *
    generalize (quantS L f t qn qd).2 = qe at *
    go_upto_region 4 with (go_at_call 12; refine (HP.out _ HU.out).mono ?_; rintro e v1 ⟨rfl, hb1⟩)
    have hx1 := hb1.trans ((below_box v1 (.cells #[.int .i64 pa, .int .i64 pv] 31)).mono hb1.size)
    have z7 := new_at v1 (.cells #[.int .i64 pa, .int .i64 pv] 31)
    obtain ⟨a7, ha7⟩ : ∃ a, a = v1.heap.size := ⟨_, rfl⟩
    rw [← ha7] at z7 ⊢
    generalize v1.alloc (.cells #[.int .i64 pa, .int .i64 pv] 31) = V1 at *
    replace s0 := cell_keep2 hx1 s0
    replace p0 := cell_keep2 hx1 p0
    replace p1 := cell_keep2 hx1 p1
    replace r0 := cell_keep2 hx1 r0
    replace r1 := cell_keep2 hx1 r1
    have H1 := Lib.hid (And.intro (HU.out.trans (hx1.mono HU.out.size)) z7)
    clear hx1 hb1 z7 ha7 HU
    go_upto_region 5 with (go_at_call 13; refine (HPR.out _ H1.out.1).mono ?_; rintro e v2 ⟨rfl, hb2⟩)
    have hx2 := hb2.trans ((below_box v2 (.cells #[.int .i64 pa, .int .i64 pv] 31)).mono hb2.size)
    have z9 := new_at v2 (.cells #[.int .i64 pa, .int .i64 pv] 31)
    obtain ⟨a9, ha9⟩ : ∃ a, a = v2.heap.size := ⟨_, rfl⟩
    rw [← ha9] at z9 ⊢
    generalize v2.alloc (.cells #[.int .i64 pa, .int .i64 pv] 31) = V2 at *
    replace s0 := cell_keep2 hx2 s0
    replace p0 := cell_keep2 hx2 p0
    replace p1 := cell_keep2 hx2 p1
    replace r0 := cell_keep2 hx2 r0
    replace r1 := cell_keep2 hx2 r1
    have H2 := Lib.hid (And.intro (H1.out.1.trans (hx2.mono H1.out.1.size)) (And.intro (two_heap H1.out.2 hx2) z9))
    clear hx2 hb2 z9 ha9 H1
    go_upto_region 6 with (go_at_call 14; refine (HQ.out _ H2.out.1).mono ?_; rintro e v5 ⟨rfl, hb5⟩; have H5 := Lib.hid hb5; replace s0 := cell_keep2 hb5 s0; replace p0 := cell_keep2 hb5 p0; replace p1 := cell_keep2 hb5 p1; replace r0 := cell_keep2 hb5 r0; replace r1 := cell_keep2 hb5 r1; clear hb5)
    have hW5 := H2.out.1.trans (H5.out.mono H2.out.1.size)
    have H6 := Lib.hid (And.intro hW5 (And.intro (two_heap H2.out.2.1 H5.out) (two_heap H2.out.2.2 H5.out)))
    clear hW5 H2 H5
    go_upto_region 7 with (go_at_call 15; refine (HQR.out _ H6.out.1).mono ?_; rintro e v6 ⟨rfl, hb6⟩; have H7 := Lib.hid hb6; clear hb6 s0 p0 p1 r0 r1)
    have hW6 := H6.out.1.trans (H7.out.mono H6.out.1.size)
    obtain ⟨x0, x1⟩ := two_at (two_heap H6.out.2.1 H7.out)
    obtain ⟨y0, y1⟩ := two_at (two_heap H6.out.2.2 H7.out)
    have q2 := fun w => eql_area_self pa pv w
    have H8 := Lib.hid hW6
    clear hW6 H6 H7
    go_wp2_with (go_at_call 11; refine (HSh.out _ H8.out).mono ?_; rintro e v9 ⟨rfl, hb9⟩)
    go_ret
    exact ⟨rfl, H8.out.trans (hb9.mono H8.out.size)⟩
end Sx
end Go.Proofs.YtionocafkaemiaaDoor
namespace Go.Proofs.YtionocafkaemiaaDoor
open Go.RowKit Go.Sort Go.Lib
namespace Sx
attribute [local irreducible] wpQuiet
theorem quantS_bad {L : List Sm} {f t n d : Int} (h : (quantS L f t n d).2 ≠ 0) : (quantS L f t n d).1 = 0 := by
  unfold quantS at h ⊢
  split
  · rfl
  · next h1 =>
    split
    · rfl
    · next h2 => rw [if_neg h1, if_neg h2] at h; exact absurd rfl h
theorem quantS_ok {L : List Sm} {f t n d : Int} (h : (quantS L f t n d).2 = 0) : Cov L f t ∧ 1 ≤ n ∧ n ≤ d ∧ d ≤ 1000 ∧ (quantS L f t n d).1 = quantR (stepsV L f t) (n * (t - f)) d := by
  unfold quantS at h ⊢
  split at h
  · next h1 => exact absurd h h1
  · next h1 =>
    split at h
    · cases h
    · next h2 =>
      rw [if_neg h1, if_neg h2]
      exact ⟨ask_cov.1 (Classical.not_not.1 h1), by omega, by omega, by omega, rfl⟩
set_option maxRecDepth 100000 in
set_option maxHeartbeats 8000000 in
theorem quantiles_walk (W : World) (hT : Lib.TabIs Tryd.prog W "internal/strconv.uint64pow10" .u64 Lib.pow10Tab) (A : Option Addr) (c : Nat) (L : List Sm) (hL : SAt W A c L) (f t : Int) (bf : -9223372036854775808 ≤ f ∧ f ≤ 9223372036854775807) (bt : -9223372036854775808 ≤ t ∧ t ≤ 9223372036854775807) (qn qd : Int) (bn : -9223372036854775808 ≤ qn ∧ qn ≤ 9223372036854775807) (bd : -9223372036854775808 ≤ qd ∧ qd ≤ 9223372036854775807) :
    Calls Tryd.prog 8 #[sv A L.length c, .agg #[.int .i64 f, .int .i64 t], .agg #[.int .i64 qn, .int .i64 qd]] W fun e w' => e = .returned (.bool true) ∧ Below W.heap.size W w' := by
  have hl1 := hL.1
  have hl2 := hL.2.1
  unfold maxLen at hl2
  obtain ⟨k1, k2, k3⟩ := three_boxes' W #[.slice A L.length c] #[.int .i64 f, .int .i64 t] #[.int .i64 qn, .int .i64 qd] 24 26 28
  have hb : Below W.heap.size W (((W.alloc (.cells #[.slice A L.length c] 24)).alloc (.cells #[.int .i64 f, .int .i64 t] 26)).alloc (.cells #[.int .i64 qn, .int .i64 qd] 28)) := ((below_box W _).alloc (by simp) _).alloc (by simp; omega) _
  have HT := Lib.hid (Lib.tabBelow_of_tabIs hT)
  have HSh := Lib.hid (fun V (hV : Below W.heap.size W V) => shown_ok V (HT.out V hV))
  have HP := Lib.hid (fun V (hV : Below W.heap.size W V) => peak_ok A c L f t V (hL.below hV (Nat.le_refl _)))
  have HQ := Lib.hid (fun V (hV : Below W.heap.size W V) => quant_ok2 A c L f t qn qd V (hL.below hV (Nat.le_refl _)))
  have HQ1 := Lib.hid (fun V (hV : Below W.heap.size W V) => quant_ok2 A c L f t 1 1 V (hL.below hV (Nat.le_refl _)))
  have HS := Lib.hid (fun V b (hV : Below W.heap.size W V) => share_ok A c L f t b V (hL.below hV (Nat.le_refl _)))
  go_enter Tryd.func8, Tryd.ntmps8
  go_upto_region 1 with (fail)
  generalize ((W.alloc (.cells #[.slice A L.length c] 24)).alloc (.cells #[.int .i64 f, .int .i64 t] 26)).alloc (.cells #[.int .i64 qn, .int .i64 qd] 28) = U at *
  have s0 := one_at k1
  obtain ⟨p0, p1⟩ := two_at k2
  obtain ⟨r0, r1⟩ := two_at k3
  have HU := Lib.hid hb
  clear hL hT hb k1 k2 k3
  by_cases h : 510 < L.length
  · have hi : (510 : Int) < (L.length : Int) := by omega
    go_wp2_with (go_at_call 11; refine (HSh.out _ HU.out).mono ?_; rintro e v1 ⟨rfl, hb1⟩)
    go_ret
    exact ⟨rfl, HU.out.trans (hb1.mono HU.out.size)⟩
  · have hi : ¬ (510 : Int) < (L.length : Int) := by omega
    by_cases hq : (quantS L f t qn qd).2 = 0
    · obtain ⟨hcov, h1, h2, h3, hv⟩ := quantS_ok hq
      obtain ⟨⟨v0, v1⟩, hge, hlt⟩ := q_laws hcov h1 h2
      rw [← hv] at v0 v1 hge hlt
      have hv2 := hv
      obtain ⟨v, hve⟩ : ∃ v, v = (quantS L f t qn qd).1 := ⟨_, rfl⟩
      rw [← hve] at v0 v1 hge hlt hv2 HQ
      rw [hq] at HQ
      have hle := share_bd hcov v
      have hgr := share_bd hcov (v + 1)
      have hpk : (extS gt L f t).2 = 0 := by unfold extS; rw [if_neg (by rw [ask_cov.2 hcov]; simp)]
      have hpv : (extS gt L f t).1.v = (extV gt (stepsV L f t)).v := by unfold extS; rw [if_neg (by rw [ask_cov.2 hcov]; simp)]
      have htop : quantS L f t 1 1 = ((extV gt (stepsV L f t)).v, 0) := by unfold quantS; rw [if_neg (by rw [ask_cov.2 hcov]; simp), if_neg (by omega), q_top hcov]
      have hsh1 : shareS L f t v = (shareV v (stepsV L f t), 0) := by unfold shareS; rw [if_neg (by rw [ask_cov.2 hcov]; simp), if_neg (by rw [inT_iff.2 ⟨v0, v1⟩]; simp)]
      have hsh2 : v < 1000000000000 → shareS L f t (v + 1) = (shareV (v + 1) (stepsV L f t), 0) := fun hv => by unfold shareS; rw [if_neg (by rw [ask_cov.2 hcov]; simp), if_neg (by rw [inT_iff.2 ⟨by omega, by omega⟩]; simp)]
      have hsh3 : ¬ v < 1000000000000 → shareV (v + 1) (stepsV L f t) = 0 := fun hv => share_top fun x hx => by have := (steps_ok hcov.ok x hx).v1; omega
      have HS1 := Lib.hid (fun V (hV : Below W.heap.size W V) => HS.out V v hV)
      have HS2 := Lib.hid (fun V (hV : Below W.heap.size W V) => HS.out V (v + 1) hV)
      rw [hsh1] at HS1
      rw [hpk, hpv] at HP
      rw [htop] at HQ1
      generalize (extV gt (stepsV L f t)).v = pv at *
      generalize (extS gt L f t).1.a = pa at *
      have hf0 := hcov.f0; have hft := hcov.ft; have ht1 := hcov.t1
      obtain ⟨le, hlee⟩ : ∃ le, le = shareV v (stepsV L f t) := ⟨_, rfl⟩
      obtain ⟨gr, hgre⟩ : ∃ gr, gr = shareV (v + 1) (stepsV L f t) := ⟨_, rfl⟩
      rw [← hlee] at hle hlt HS1
      rw [← hgre] at hgr hge hsh2 hsh3
      obtain ⟨lg, e1⟩ : ∃ lg, t - f = lg := ⟨_, rfl⟩
      rw [e1] at hge hlt hle hgr
      have hlg : 0 < lg ∧ lg ≤ 1000000000000 := by omega
      obtain ⟨d1, e2⟩ : ∃ d, lg - gr = d := ⟨_, rfl⟩
      obtain ⟨d2, e5⟩ : ∃ d, lg - le = d := ⟨_, rfl⟩
      rw [e2] at hge
      rw [e5] at hlt
      have b1 := mul_bd (a := d1) (b := qd) (A := 1000000000000) (B := 1000) (by omega) (by omega) (by omega) (by omega)
      have b2 := mul_bd (a := d2) (b := qd) (A := 1000000000000) (B := 1000) (by omega) (by omega) (by omega) (by omega)
      have b3 := mul_bd (a := qn) (b := lg) (A := 1000) (B := 1000000000000) (by omega) (by omega) (by omega) (by omega)
      obtain ⟨m1, e3⟩ : ∃ m, d1 * qd = m := ⟨_, rfl⟩
      obtain ⟨m2, e6⟩ : ∃ m, d2 * qd = m := ⟨_, rfl⟩
      obtain ⟨K, e4⟩ : ∃ m, qn * lg = m := ⟨_, rfl⟩
      rw [e3, e4] at hge
      rw [e6, e4] at hlt
      rw [e3] at b1
      rw [e6] at b2
      rw [e4] at b3
      have hd1 : 0 ≤ d1 ∧ d1 ≤ 1000000000000 := by omega
      have hd2 : 0 ≤ d2 ∧ d2 ≤ 1000000000000 := by omega
      clear hq hve hv hv2 hsh1 hpk hpv htop hcov hlee hgre HS
      have HEQ := Lib.hid (And.intro e2 (And.intro e5 (And.intro e3 (And.intro e6 e4))))
      have HGE := Lib.hid (And.intro hge hlt)
      clear e2 e5 e3 e6 e4 hge hlt
      go_upto_region 4 with (go_at_call 14; refine (HQ.out _ HU.out).mono ?_; rintro e v1 ⟨rfl, hb1⟩; have H1 := Lib.hid hb1; replace s0 := cell_keep2 hb1 s0; replace p0 := cell_keep2 hb1 p0; replace p1 := cell_keep2 hb1 p1; replace r0 := cell_keep2 hb1 r0; replace r1 := cell_keep2 hb1 r1; clear hb1)
      have H2 := Lib.hid (HU.out.trans (H1.out.mono HU.out.size))
      clear H1
      go_upto_region 9 with (go_at_call 21; refine (HP.out _ H2.out).mono ?_; rintro e v2 ⟨rfl, hb2⟩)
      have hx2 := hb2.trans ((below_box v2 (.cells #[.int .i64 pa, .int .i64 pv] 49)).mono hb2.size)
      have z9 := new_at v2 (.cells #[.int .i64 pa, .int .i64 pv] 49)
      obtain ⟨a9, ha9⟩ : ∃ a, a = v2.heap.size := ⟨_, rfl⟩
      rw [← ha9] at z9 ⊢
      generalize v2.alloc (.cells #[.int .i64 pa, .int .i64 pv] 49) = V2 at *
      replace s0 := cell_keep2 hx2 s0
      replace p0 := cell_keep2 hx2 p0
      replace p1 := cell_keep2 hx2 p1
      replace r0 := cell_keep2 hx2 r0
      replace r1 := cell_keep2 hx2 r1
      have H3 := Lib.hid (And.intro (H2.out.trans (hx2.mono H2.out.size)) z9)
      clear hx2 hb2 z9 ha9 H2
      go_upto_region 10 with (go_at_call 14; refine (HQ1.out _ H3.out.1).mono ?_; rintro e v3 ⟨rfl, hb3⟩; have H4 := Lib.hid hb3; replace s0 := cell_keep2 hb3 s0; replace p0 := cell_keep2 hb3 p0; replace p1 := cell_keep2 hb3 p1; replace r0 := cell_keep2 hb3 r0; replace r1 := cell_keep2 hb3 r1; clear hb3)
      have H5 := Lib.hid (And.intro (H3.out.1.trans (H4.out.mono H3.out.1.size)) (two_heap H3.out.2 H4.out))
      clear H3 H4
      go_upto_region 11 with (go_at_call 28; refine (HS1.out _ H5.out.1).mono ?_; rintro e v4 ⟨rfl, hb4⟩; have H4 := Lib.hid hb4; replace s0 := cell_keep2 hb4 s0; replace p0 := cell_keep2 hb4 p0; replace p1 := cell_keep2 hb4 p1; replace r0 := cell_keep2 hb4 r0; replace r1 := cell_keep2 hb4 r1; clear hb4)
      have H6 := Lib.hid (And.intro (H5.out.1.trans (H4.out.mono H5.out.1.size)) (two_heap H5.out.2 H4.out))
      clear H5 H4
      by_cases hv9 : v < 1000000000000
      · rw [hsh2 hv9] at HS2
        clear hsh2 hsh3
        go_upto_region 14 with (go_at_call 28; refine (HS2.out _ H6.out.1).mono ?_; rintro e v5 ⟨rfl, hb5⟩; have H4 := Lib.hid hb5; replace s0 := cell_keep2 hb5 s0; replace p0 := cell_keep2 hb5 p0; replace p1 := cell_keep2 hb5 p1; replace r0 := cell_keep2 hb5 r0; replace r1 := cell_keep2 hb5 r1; clear hb5)
        have H7 := Lib.hid (And.intro (H6.out.1.trans (H4.out.mono H6.out.1.size)) (two_heap H6.out.2 H4.out))
        clear H6 H4
        have H6 := H7
        clear H7
        go_upto_region 17 with (fail)
        have HEQ2 := HEQ.out
        obtain ⟨e2, e5, e3, e6, e4⟩ := HEQ2
        obtain ⟨hge, hlt⟩ := HGE.out
        obtain ⟨x0, x1⟩ := two_at H6.out.2
        have HW := Lib.hid H6.out.1
        clear H6
        go_wp2_with (go_at_call 11; refine (HSh.out _ HW.out).mono ?_; rintro e v9 ⟨rfl, hb9⟩)
        go_ret
        exact ⟨rfl, HW.out.trans (hb9.mono HW.out.size)⟩
      · have hg0 := hsh3 (by omega)
        clear hsh2 hsh3
        subst hg0
        go_upto_region 17 with (fail)
        have HEQ2 := HEQ.out
        obtain ⟨e2, e5, e3, e6, e4⟩ := HEQ2
        obtain ⟨hge, hlt⟩ := HGE.out
        obtain ⟨x0, x1⟩ := two_at H6.out.2
        have HW := Lib.hid H6.out.1
        clear H6
        go_wp2_with (go_at_call 11; refine (HSh.out _ HW.out).mono ?_; rintro e v9 ⟨rfl, hb9⟩)
        go_ret
        exact ⟨rfl, HW.out.trans (hb9.mono HW.out.size)⟩
    · have hv := quantS_bad hq
      rw [hv] at HQ
      generalize (quantS L f t qn qd).2 = qe at *
      have hne : (qe == 0) = false := by simpa using hq
      clear hv
      go_upto_region 4 with (go_at_call 14; refine (HQ.out _ HU.out).mono ?_; rintro e v1 ⟨rfl, hb1⟩; have H2 := Lib.hid (HU.out.trans (hb1.mono HU.out.size)); clear hb1)
      go_wp2_with (go_at_call 11; refine (HSh.out _ H2.out).mono ?_; rintro e v9 ⟨rfl, hb9⟩)
      go_ret
      exact ⟨rfl, H2.out.trans (hb9.mono H2.out.size)⟩
end Sx
end Go.Proofs.YtionocafkaemiaaDoor
