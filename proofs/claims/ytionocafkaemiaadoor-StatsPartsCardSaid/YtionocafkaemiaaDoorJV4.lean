/- StatsParts: the walk. -/
import Derived.Test.YtionocafkaemiaaDoorJL2
import Derived.Test.YtionocafkaemiaaDoorJA8
import Derived.Test.YtionocafkaemiaaDoorJA10
import Derived.Test.YtionocafkaemiaaDoorJA13
import Derived.Test.YtionocafkaemiaaDoorJR10
import Derived.Test.YtionocafkaemiaaDoorJP14
namespace Go.Proofs.YtionocafkaemiaaDoor
open Go.RowKit Go.Sort Go.Lib
namespace Sx
attribute [local irreducible] wpQuiet
theorem eqlA_self (a b : Int) (w : World) : (binOp .eql 31 (.agg #[.int .i64 a, .int .i64 b]) (.agg #[.int .i64 a, .int .i64 b])).run Tryd.prog w = .ok (.bool true) w := by
  rw [eql_area]; simp
theorem eqlS_self (a b : Int) (w : World) : (binOp .eql 49 (.agg #[.int .i64 a, .int .i64 b]) (.agg #[.int .i64 a, .int .i64 b])).run Tryd.prog w = .ok (.bool true) w := by
  rw [eql_sample]; simp
theorem areaS_ok {L : List Sm} {f t : Int} (h : Cov L f t) : areaS L f t = (areaV (stepsV L f t), 0) := by unfold areaS; rw [if_neg (by rw [ask_cov.2 h]; simp)]
theorem extS_ok {b : Int → Int → Bool} {L : List Sm} {f t : Int} (h : Cov L f t) : extS b L f t = (⟨(extV b (stepsV L f t)).f, (extV b (stepsV L f t)).v⟩, 0) := by unfold extS; rw [if_neg (by rw [ask_cov.2 h]; simp)]
theorem shareS_ok {L : List Sm} {f t q : Int} (h : Cov L f t) (h0 : 0 ≤ q) (h1 : q ≤ 1000000000000) : shareS L f t q = (shareV q (stepsV L f t), 0) := by unfold shareS; rw [if_neg (by rw [ask_cov.2 h]; simp), if_neg (by rw [inT_iff.2 ⟨h0, h1⟩]; simp)]
theorem set2c {w : World} {u : Nat} {T : TypeId} {a b : Value} (h : w.heap[u]? = some (.cells #[a, b] T (0, 0))) (x y : Value) : ((w.setCell ⟨u, 0, none⟩ x).setCell ⟨u, 1, none⟩ y).heap[u]? = some (.cells #[x, y] T (0, 0)) := set2 h
set_option maxRecDepth 100000 in
set_option maxHeartbeats 8000000 in
theorem parts_walk (W : World) (hT : Lib.TabIs Tryd.prog W "internal/strconv.uint64pow10" .u64 Lib.pow10Tab) (A : Option Addr) (c : Nat) (L : List Sm) (hL : SAt W A c L) (f t m : Int) :
    Calls Tryd.prog 7 #[sv A L.length c, .agg #[.int .i64 f, .int .i64 t], .int .i64 m] W fun e w' => e = .returned (.bool true) ∧ Below W.heap.size W w' := by
  have hl1 := hL.1
  have hl2 := hL.2.1
  unfold maxLen at hl2
  obtain ⟨k1, k2⟩ := two_boxes W #[.slice A L.length c] #[.int .i64 f, .int .i64 t] 24 26
  have hb : Below W.heap.size W ((W.alloc (.cells #[.slice A L.length c] 24)).alloc (.cells #[.int .i64 f, .int .i64 t] 26)) := (below_box W _).alloc (by simp) _
  have HT := Lib.hid (Lib.tabBelow_of_tabIs hT)
  have HSh := Lib.hid (fun V (hV : Below W.heap.size W V) => shown_ok V (HT.out V hV))
  have HA := Lib.hid (fun f t V (hV : Below W.heap.size W V) => Area_ok A c L f t V (hL.below hV (Nat.le_refl _)))
  have HP := Lib.hid (fun f t V (hV : Below W.heap.size W V) => peak_ok A c L f t V (hL.below hV (Nat.le_refl _)))
  have HLo := Lib.hid (fun V (hV : Below W.heap.size W V) => low_ok A c L f t V (hL.below hV (Nat.le_refl _)))
  have HS := Lib.hid (fun f t b V (hV : Below W.heap.size W V) => share_ok A c L f t b V (hL.below hV (Nat.le_refl _)))
  go_enter Tryd.func7, Tryd.ntmps7
  go_upto_region 1 with (fail)
  generalize (W.alloc (.cells #[.slice A L.length c] 24)).alloc (.cells #[.int .i64 f, .int .i64 t] 26) = U at *
  have s0 := one_at k1
  obtain ⟨p0, p1⟩ := two_at k2
  have HW := Lib.hid hb
  clear hL hT hb k1 k2
  by_cases h : 510 < L.length
  · have hi : (510 : Int) < (L.length : Int) := by omega
    go_wp2_with (go_at_call 11; refine (HSh.out _ HW.out).mono ?_; rintro e v1 ⟨rfl, hb1⟩)
    go_ret
    exact ⟨rfl, HW.out.trans (hb1.mono HW.out.size)⟩
  have hi : ¬ (510 : Int) < (L.length : Int) := by omega
  by_cases hask : ¬ askS L f t = 0
  · have hx : areaS L f t = (⟨0, 0⟩, askS L f t) := by unfold areaS; rw [if_pos hask]
    have HA1 := Lib.hid (fun V (hV : Below W.heap.size W V) => HA.out f t V hV)
    rw [hx] at HA1
    have hne : ((askS L f t) == 0) = false := by simpa using hask
    generalize askS L f t = er at *
    go_upto_region 4 with (go_at_call 12; refine (HA1.out _ HW.out).mono ?_; rintro e v1 ⟨rfl, hb1⟩)
    have hx1 := hb1.trans ((below_box v1 (.cells #[.int .i64 0, .int .i64 0] 31)).mono hb1.size)
    obtain ⟨x0, x1⟩ := two_at (new_at v1 (.cells #[.int .i64 0, .int .i64 0] 31))
    generalize v1.alloc (.cells #[.int .i64 0, .int .i64 0] 31) = V1 at *
    have HW1 := Lib.hid (HW.out.trans (hx1.mono HW.out.size))
    have q1 := fun w => eqlA_self 0 0 w
    clear hx1 hb1 hx
    go_wp2_with (go_at_call 11; refine (HSh.out _ HW1.out).mono ?_; rintro e v9 ⟨rfl, hb9⟩)
    go_ret
    exact ⟨rfl, HW1.out.trans (hb9.mono HW1.out.size)⟩
  have hcov := ask_cov.1 (Classical.not_not.1 hask)
  clear hask
  have hf0 := hcov.f0; have hft := hcov.ft; have ht1 := hcov.t1
  obtain ⟨ab1, ab2⟩ := area_bounds hcov
  have hpm := steps_ok hcov.ok _ (ext_mem (b := gt) (steps_pos hcov))
  have hlm := steps_ok hcov.ok _ (ext_mem (b := lt) (steps_pos hcov))
  have hpl := ext_max _ (ext_mem (b := lt) (steps_pos hcov))
  have hp0 := hpm.v0; have hp1 := hpm.v1; have hl0 := hlm.v0; have hlv1 := hlm.v1
  have hok : ∀ {f t}, Cov L f t → (areaV (stepsV L f t)).Ok 1000000000000000 := fun {f t} hc => area_ok (steps_ok hc.ok) hc.f0 hc.t1 (by have := steps_len L f t; have := hc.ok.len; omega)
  have HA1 := Lib.hid (fun V (hV : Below W.heap.size W V) => HA.out f t V hV)
  have HP1 := Lib.hid (fun V (hV : Below W.heap.size W V) => HP.out f t V hV)
  rw [areaS_ok hcov] at HA1
  rw [extS_ok hcov] at HP1 HLo
  have HOK := Lib.hid (hok hcov)
  have HPEAK := Lib.hid (And.intro (rfl : (extV gt (stepsV L f t)).f = (extV gt (stepsV L f t)).f) (rfl : (extV gt (stepsV L f t)).v = (extV gt (stepsV L f t)).v))
  obtain ⟨pf, hpf⟩ : ∃ x, x = (extV gt (stepsV L f t)).f := ⟨_, rfl⟩
  obtain ⟨pv, hpv⟩ : ∃ x, x = (extV gt (stepsV L f t)).v := ⟨_, rfl⟩
  obtain ⟨qf, hqf⟩ : ∃ x, x = (extV lt (stepsV L f t)).f := ⟨_, rfl⟩
  obtain ⟨qv, hqv⟩ : ∃ x, x = (extV lt (stepsV L f t)).v := ⟨_, rfl⟩
  obtain ⟨ar, har⟩ : ∃ x, x = areaV (stepsV L f t) := ⟨_, rfl⟩
  rw [← hpf, ← hpv] at HP1
  rw [← hqf, ← hqv] at HLo
  rw [← har] at HA1 HOK ab1 ab2
  rw [← hpv] at ab2 hpl hp0 hp1
  rw [← hqv] at ab1 hpl hl0 hlv1
  have hlg : t - f ≤ 1000000000000 := by omega
  have less1 : lessV ar (prodV qv (t - f)) = false := by
    rw [less_val HOK.out (prod_okV hl0 hlv1 (by omega) hlg), prod_val]; simpa using ab1
  have less2 : lessV (prodV pv (t - f)) ar = false := by
    rw [less_val (prod_okV hp0 hp1 (by omega) hlg) HOK.out, prod_val]; simpa using ab2
  have HT1 := Lib.hid (fun V => timesR_ok qv (t - f) hl0 hlv1 (by omega) hlg V)
  have HT2 := Lib.hid (fun V => timesR_ok pv (t - f) hp0 hp1 (by omega) hlg V)
  have HLe1 := Lib.hid (fun V => lessR_ok ar (prodV qv (t - f)) V)
  have HLe2 := Lib.hid (fun V => lessR_ok (prodV pv (t - f)) ar V)
  rw [less1] at HLe1
  rw [less2] at HLe2
  generalize (prodV qv (t - f)).h = t1h at *
  generalize (prodV qv (t - f)).l = t1l at *
  generalize (prodV pv (t - f)).h = t2h at *
  generalize (prodV pv (t - f)).l = t2l at *
  have HDEF := Lib.hid (And.intro hpf (And.intro hpv (And.intro har hcov)))
  clear less1 less2 ab1 ab2 hpm hlm hok hqf hqv hpf hpv har hcov HPEAK
  obtain ⟨ah, hah⟩ : ∃ x, x = ar.h := ⟨_, rfl⟩
  obtain ⟨al, hal⟩ : ∃ x, x = ar.l := ⟨_, rfl⟩
  rw [← hah, ← hal] at HA1 HLe1 HLe2
  have HAL := Lib.hid (And.intro hah hal)
  clear hah hal
  go_upto_region 4 with (go_at_call 12; refine (HA1.out _ HW.out).mono ?_; rintro e v1 ⟨rfl, hb⟩)
  have hx := hb.trans ((below_box v1 (.cells #[.int .i64 ah, .int .i64 al] 31)).mono hb.size)
  have hz := new_at v1 (.cells #[.int .i64 ah, .int .i64 al] 31)
  obtain ⟨a7, ha7⟩ : ∃ a, a = v1.heap.size := ⟨_, rfl⟩
  rw [← ha7] at hz ⊢
  generalize v1.alloc (.cells #[.int .i64 ah, .int .i64 al] 31) = V1 at *
  replace s0 := cell_keep2 hx s0
  replace p0 := cell_keep2 hx p0
  replace p1 := cell_keep2 hx p1
  obtain ⟨x7, y7⟩ := two_at hz
  replace HW := Lib.hid (HW.out.trans (hx.mono HW.out.size))
  clear hx hb hz ha7
  go_upto_region 7 with (go_at_call 21; refine (HP1.out _ HW.out).mono ?_; rintro e v2 ⟨rfl, hb⟩)
  have hx := hb.trans ((below_box v2 (.cells #[.int .i64 pf, .int .i64 pv] 49)).mono hb.size)
  have hz := new_at v2 (.cells #[.int .i64 pf, .int .i64 pv] 49)
  obtain ⟨a9, ha9⟩ : ∃ a, a = v2.heap.size := ⟨_, rfl⟩
  rw [← ha9] at hz ⊢
  generalize v2.alloc (.cells #[.int .i64 pf, .int .i64 pv] 49) = V2 at *
  replace s0 := cell_keep2 hx s0
  replace p0 := cell_keep2 hx p0
  replace p1 := cell_keep2 hx p1
  replace x7 := cell_keep2 hx x7
  replace y7 := cell_keep2 hx y7
  obtain ⟨x9, y9⟩ := two_at hz
  replace HW := Lib.hid (HW.out.trans (hx.mono HW.out.size))
  clear hx hb hz ha9
  go_upto_region 8 with (go_at_call 26; refine (HLo.out _ HW.out).mono ?_; rintro e v3 ⟨rfl, hb⟩)
  have hx := hb.trans ((below_box v3 (.cells #[.int .i64 qf, .int .i64 qv] 49)).mono hb.size)
  have hz := new_at v3 (.cells #[.int .i64 qf, .int .i64 qv] 49)
  obtain ⟨a11, ha11⟩ : ∃ a, a = v3.heap.size := ⟨_, rfl⟩
  rw [← ha11] at hz ⊢
  generalize v3.alloc (.cells #[.int .i64 qf, .int .i64 qv] 49) = V3 at *
  replace s0 := cell_keep2 hx s0
  replace p0 := cell_keep2 hx p0
  replace p1 := cell_keep2 hx p1
  replace x7 := cell_keep2 hx x7
  replace y7 := cell_keep2 hx y7
  replace x9 := cell_keep2 hx x9
  replace y9 := cell_keep2 hx y9
  obtain ⟨x11, y11⟩ := two_at hz
  replace HW := Lib.hid (HW.out.trans (hx.mono HW.out.size))
  clear hx hb hz ha11
  go_upto_region 10 with (fail)
  have e1 : IntKind.i64.wrap (t - f) = t - f := IntWalk.i64_in _ (by omega)
  have e2 : wrap64 (t - f) = t - f := IntWalk.wrap64_in _ (by omega)
  have hS2 : ∀ V, Below V3.heap.size V3 V → Below V3.heap.size V3 V ∧ V.cell? ⟨a7, 0, none⟩ = some (.int .i64 ah) ∧ V.cell? ⟨a7, 1, none⟩ = some (.int .i64 al) ∧ V.cell? ⟨a9, 1, none⟩ = some (.int .i64 pv) ∧ V.cell? ⟨a11, 1, none⟩ = some (.int .i64 qv) ∧ V.cell? ⟨W.heap.size + 1, 0, none⟩ = some (.int .i64 f) ∧ V.cell? ⟨W.heap.size + 1, 1, none⟩ = some (.int .i64 t) := fun V hV => ⟨hV, cell_keep2 hV x7, cell_keep2 hV y7, cell_keep2 hV y9, cell_keep2 hV y11, cell_keep2 hV p0, cell_keep2 hV p1⟩
  have HS2 := Lib.hid hS2
  have s1 := hS2 V3.drew (below_drew (Below.refl _ _))
  have hrun : Below V3.heap.size V3 V3.drew := below_drew (Below.refl _ _)
  clear hS2
  go_region_held3 (fun V => Below V3.heap.size V3 V ∧ V.cell? ⟨a7, 0, none⟩ = some (.int .i64 ah) ∧ V.cell? ⟨a7, 1, none⟩ = some (.int .i64 al) ∧ V.cell? ⟨a9, 1, none⟩ = some (.int .i64 pv) ∧ V.cell? ⟨a11, 1, none⟩ = some (.int .i64 qv) ∧ V.cell? ⟨W.heap.size + 1, 0, none⟩ = some (.int .i64 f) ∧ V.cell? ⟨W.heap.size + 1, 1, none⟩ = some (.int .i64 t))
    (first | assumption | exact St1 | exact St2 | exact Sl1 | exact Sl2)
    (first | (go_at_call 30; ((with_reducible refine (HT1.out _).mono ?_); rintro e wt1 ⟨rfl, hb⟩; replace hrun := hrun.trans (hb.mono hrun.size); have St1 := HS2.out _ hrun)) | (go_at_call 30; ((with_reducible refine (HT2.out _).mono ?_); rintro e wt2 ⟨rfl, hb⟩; replace hrun := hrun.trans (hb.mono hrun.size); have St2 := HS2.out _ hrun)) | (go_at_call 22; ((with_reducible refine (HLe1.out _).mono ?_); rintro e wl1 ⟨rfl, hb⟩; replace hrun := hrun.trans (hb.mono hrun.size); have Sl1 := HS2.out _ hrun)) | (go_at_call 22; ((with_reducible refine (HLe2.out _).mono ?_); rintro e wl2 ⟨rfl, hb⟩; replace hrun := hrun.trans (hb.mono hrun.size); have Sl2 := HS2.out _ hrun)))
  replace s0 := cell_keep2 hrun s0
  replace p0 := cell_keep2 hrun p0
  replace p1 := cell_keep2 hrun p1
  replace x7 := cell_keep2 hrun x7
  replace y7 := cell_keep2 hrun y7
  replace x9 := cell_keep2 hrun x9
  replace y9 := cell_keep2 hrun y9
  replace x11 := cell_keep2 hrun x11
  replace y11 := cell_keep2 hrun y11
  replace HW := Lib.hid (HW.out.trans (hrun.mono HW.out.size))
  clear hb hrun s1 St1 St2 Sl1 Sl2 HS2
  obtain ⟨w5, hw5⟩ : ∃ w, w = wl2 := ⟨_, rfl⟩
  subst hw5
  by_cases hm : ¬ (f < m ∧ m < t)
  · have hm1 : ¬ m ≤ f → t ≤ m := fun h => by omega
    by_cases hm2 : m ≤ f
    · go_wp2_with (go_at_call 11; refine (HSh.out _ HW.out).mono ?_; rintro e v9 ⟨rfl, hb9⟩)
      go_ret
      exact ⟨rfl, HW.out.trans (hb9.mono HW.out.size)⟩
    · have hm3 := hm1 hm2
      go_wp2_with (go_at_call 11; refine (HSh.out _ HW.out).mono ?_; rintro e v9 ⟨rfl, hb9⟩)
      go_ret
      exact ⟨rfl, HW.out.trans (hb9.mono HW.out.size)⟩
  obtain ⟨hm1, hm2⟩ := Classical.not_not.1 hm
  clear hm
  have hcov := HDEF.out.2.2.2
  have c1 := cov_left hcov hm1 hm2
  have c2 := cov_right hcov hm1 hm2
  have hpk := peak_parts hcov hm1 hm2 (steps_pos c1) (steps_pos c2)
  rw [← HDEF.out.1, ← HDEF.out.2.1] at hpk
  have hsh := share_parts (L := L) hm1 hm2 pv
  have hpos := share_pos hcov (q := pv) (ext_mem (b := gt) (steps_pos hcov)) (Int.le_of_eq HDEF.out.2.1)
  have hl0' := share_bd c1 pv
  have hn0' := share_bd c2 pv
  have hpl3 := plusR_ok (areaV (stepsV L f m)) (areaV (stepsV L m t))
  have hok : ∀ {f t}, Cov L f t → (areaV (stepsV L f t)).Ok 1000000000000000 := fun {f t} hc => area_ok (steps_ok hc.ok) hc.f0 hc.t1 (by have := steps_len L f t; have := hc.ok.len; omega)
  have hPl := fun V => hpl3 V (hok c1) (hok c2)
  rw [area_parts hcov hm1 hm2, ← HDEF.out.2.2.1, ← HAL.out.1, ← HAL.out.2] at hPl
  have HPl := Lib.hid hPl
  have HA2 := Lib.hid (fun V (hV : Below W.heap.size W V) => HA.out f m V hV)
  have HA3 := Lib.hid (fun V (hV : Below W.heap.size W V) => HA.out m t V hV)
  have HP2 := Lib.hid (fun V (hV : Below W.heap.size W V) => HP.out f m V hV)
  have HP3 := Lib.hid (fun V (hV : Below W.heap.size W V) => HP.out m t V hV)
  have HS1 := Lib.hid (fun V (hV : Below W.heap.size W V) => HS.out f t pv V hV)
  have HS2 := Lib.hid (fun V (hV : Below W.heap.size W V) => HS.out f m pv V hV)
  have HS3 := Lib.hid (fun V (hV : Below W.heap.size W V) => HS.out m t pv V hV)
  rw [areaS_ok c1] at HA2
  rw [areaS_ok c2] at HA3
  rw [extS_ok c1] at HP2
  rw [extS_ok c2] at HP3
  rw [shareS_ok hcov hp0 hp1, hsh] at HS1
  rw [shareS_ok c1 hp0 hp1] at HS2
  rw [shareS_ok c2 hp0 hp1] at HS3
  rw [hsh] at hpos
  clear hsh hpl3 hok hPl hcov c1 c2 HA HP HS HT1 HT2 HLe1 HLe2 HP1 HLo HA1 HOK
  generalize (areaV (stepsV L f m)).h = bh at *
  generalize (areaV (stepsV L f m)).l = bl at *
  generalize (areaV (stepsV L m t)).h = ch at *
  generalize (areaV (stepsV L m t)).l = cl at *
  generalize (extV gt (stepsV L f m)).f = yf at *
  generalize (extV gt (stepsV L f m)).v = yv at *
  generalize (extV gt (stepsV L m t)).f = zf at *
  generalize (extV gt (stepsV L m t)).v = zv at *
  generalize shareV pv (stepsV L f m) = sl at *
  generalize shareV pv (stepsV L m t) = sn at *
  have HPK := Lib.hid hpk
  clear hpk HDEF HAL
  go_upto_region 15 with (go_at_call 12; refine (HA2.out _ HW.out).mono ?_; rintro e v4 ⟨rfl, hb⟩)
  have hx := hb.trans ((below_box v4 (.cells #[.int .i64 bh, .int .i64 bl] 31)).mono hb.size)
  have hz := new_at v4 (.cells #[.int .i64 bh, .int .i64 bl] 31)
  obtain ⟨a13, ha13⟩ : ∃ a, a = v4.heap.size := ⟨_, rfl⟩
  rw [← ha13] at hz ⊢
  generalize v4.alloc (.cells #[.int .i64 bh, .int .i64 bl] 31) = V4 at *
  replace s0 := cell_keep2 hx s0
  replace p0 := cell_keep2 hx p0
  replace p1 := cell_keep2 hx p1
  replace x7 := cell_keep2 hx x7
  replace y7 := cell_keep2 hx y7
  replace x9 := cell_keep2 hx x9
  replace y9 := cell_keep2 hx y9
  replace x11 := cell_keep2 hx x11
  replace y11 := cell_keep2 hx y11
  obtain ⟨x13, y13⟩ := two_at hz
  replace HW := Lib.hid (HW.out.trans (hx.mono HW.out.size))
  clear hx hb hz ha13
  go_upto_region 16 with (go_at_call 12; refine (HA3.out _ HW.out).mono ?_; rintro e v5 ⟨rfl, hb⟩)
  have hx := hb.trans ((below_box v5 (.cells #[.int .i64 ch, .int .i64 cl] 31)).mono hb.size)
  have hz := new_at v5 (.cells #[.int .i64 ch, .int .i64 cl] 31)
  obtain ⟨a15, ha15⟩ : ∃ a, a = v5.heap.size := ⟨_, rfl⟩
  rw [← ha15] at hz ⊢
  generalize v5.alloc (.cells #[.int .i64 ch, .int .i64 cl] 31) = V5 at *
  replace s0 := cell_keep2 hx s0
  replace p0 := cell_keep2 hx p0
  replace p1 := cell_keep2 hx p1
  replace x7 := cell_keep2 hx x7
  replace y7 := cell_keep2 hx y7
  replace x9 := cell_keep2 hx x9
  replace y9 := cell_keep2 hx y9
  replace x11 := cell_keep2 hx x11
  replace y11 := cell_keep2 hx y11
  replace x13 := cell_keep2 hx x13
  replace y13 := cell_keep2 hx y13
  obtain ⟨x15, y15⟩ := two_at hz
  replace HW := Lib.hid (HW.out.trans (hx.mono HW.out.size))
  clear hx hb hz ha15
  go_upto_region 17 with (go_at_call 28; refine (HS1.out _ HW.out).mono ?_; rintro e v6 ⟨rfl, hb⟩)
  replace s0 := cell_keep2 hb s0
  replace p0 := cell_keep2 hb p0
  replace p1 := cell_keep2 hb p1
  replace x7 := cell_keep2 hb x7
  replace y7 := cell_keep2 hb y7
  replace x9 := cell_keep2 hb x9
  replace y9 := cell_keep2 hb y9
  replace x11 := cell_keep2 hb x11
  replace y11 := cell_keep2 hb y11
  replace x13 := cell_keep2 hb x13
  replace y13 := cell_keep2 hb y13
  replace x15 := cell_keep2 hb x15
  replace y15 := cell_keep2 hb y15
  replace HW := Lib.hid (HW.out.trans (hb.mono HW.out.size))
  clear hb
  go_upto_region 18 with (go_at_call 28; refine (HS2.out _ HW.out).mono ?_; rintro e v7 ⟨rfl, hb⟩)
  replace s0 := cell_keep2 hb s0
  replace p0 := cell_keep2 hb p0
  replace p1 := cell_keep2 hb p1
  replace x7 := cell_keep2 hb x7
  replace y7 := cell_keep2 hb y7
  replace x9 := cell_keep2 hb x9
  replace y9 := cell_keep2 hb y9
  replace x11 := cell_keep2 hb x11
  replace y11 := cell_keep2 hb y11
  replace x13 := cell_keep2 hb x13
  replace y13 := cell_keep2 hb y13
  replace x15 := cell_keep2 hb x15
  replace y15 := cell_keep2 hb y15
  replace HW := Lib.hid (HW.out.trans (hb.mono HW.out.size))
  clear hb
  go_upto_region 19 with (go_at_call 28; refine (HS3.out _ HW.out).mono ?_; rintro e v8 ⟨rfl, hb⟩)
  replace s0 := cell_keep2 hb s0
  replace p0 := cell_keep2 hb p0
  replace p1 := cell_keep2 hb p1
  replace x7 := cell_keep2 hb x7
  replace y7 := cell_keep2 hb y7
  replace x9 := cell_keep2 hb x9
  replace y9 := cell_keep2 hb y9
  replace x11 := cell_keep2 hb x11
  replace y11 := cell_keep2 hb y11
  replace x13 := cell_keep2 hb x13
  replace y13 := cell_keep2 hb y13
  replace x15 := cell_keep2 hb x15
  replace y15 := cell_keep2 hb y15
  replace HW := Lib.hid (HW.out.trans (hb.mono HW.out.size))
  clear hb
  go_upto_region 20 with (go_at_call 21; refine (HP2.out _ HW.out).mono ?_; rintro e v9 ⟨rfl, hb⟩)
  have hx := hb.trans ((below_box v9 (.cells #[.int .i64 yf, .int .i64 yv] 49)).mono hb.size)
  have hz := new_at v9 (.cells #[.int .i64 yf, .int .i64 yv] 49)
  obtain ⟨a23, ha23⟩ : ∃ a, a = v9.heap.size := ⟨_, rfl⟩
  rw [← ha23] at hz ⊢
  generalize v9.alloc (.cells #[.int .i64 yf, .int .i64 yv] 49) = V9 at *
  replace s0 := cell_keep2 hx s0
  replace p0 := cell_keep2 hx p0
  replace p1 := cell_keep2 hx p1
  replace x7 := cell_keep2 hx x7
  replace y7 := cell_keep2 hx y7
  replace x9 := cell_keep2 hx x9
  replace y9 := cell_keep2 hx y9
  replace x11 := cell_keep2 hx x11
  replace y11 := cell_keep2 hx y11
  replace x13 := cell_keep2 hx x13
  replace y13 := cell_keep2 hx y13
  replace x15 := cell_keep2 hx x15
  replace y15 := cell_keep2 hx y15
  obtain ⟨x23, y23⟩ := two_at hz
  replace HW := Lib.hid (HW.out.trans (hx.mono HW.out.size))
  clear hx hb hz ha23
  go_upto_region 21 with (go_at_call 21; refine (HP3.out _ HW.out).mono ?_; rintro e v10 ⟨rfl, hb⟩)
  have hx := hb.trans ((below_box v10 (.cells #[.int .i64 zf, .int .i64 zv] 49)).mono hb.size)
  have hz := new_at v10 (.cells #[.int .i64 zf, .int .i64 zv] 49)
  obtain ⟨a25, ha25⟩ : ∃ a, a = v10.heap.size := ⟨_, rfl⟩
  rw [← ha25] at hz ⊢
  generalize v10.alloc (.cells #[.int .i64 zf, .int .i64 zv] 49) = V10 at *
  replace s0 := cell_keep2 hx s0
  replace p0 := cell_keep2 hx p0
  replace p1 := cell_keep2 hx p1
  replace x7 := cell_keep2 hx x7
  replace y7 := cell_keep2 hx y7
  replace x9 := cell_keep2 hx x9
  replace y9 := cell_keep2 hx y9
  replace x11 := cell_keep2 hx x11
  replace y11 := cell_keep2 hx y11
  replace x13 := cell_keep2 hx x13
  replace y13 := cell_keep2 hx y13
  replace x15 := cell_keep2 hx x15
  replace y15 := cell_keep2 hx y15
  replace x23 := cell_keep2 hx x23
  replace y23 := cell_keep2 hx y23
  obtain ⟨x25, y25⟩ := two_at hz
  replace HW := Lib.hid (HW.out.trans (hx.mono HW.out.size))
  clear hx hb hz ha25
  go_upto_region 24 with (fail)
  have hx := below_box V10 (.cells #[.int .i64 yf, .int .i64 yv] 49)
  have hz := new_at V10 (.cells #[.int .i64 yf, .int .i64 yv] 49)
  have fz := frozen_pl hz
  obtain ⟨x27, y27⟩ := two_at hz
  obtain ⟨a27, ha27⟩ : ∃ a, a = V10.heap.size := ⟨_, rfl⟩
  rw [← ha27] at hz fz x27 y27 ⊢
  have hset := set2c hz (.int .i64 zf) (.int .i64 zv)
  have hxs : Below V10.heap.size V10 (((V10.alloc (.cells #[.int .i64 yf, .int .i64 yv] 49)).setCell ⟨a27, 0, none⟩ (.int .i64 zf)).setCell ⟨a27, 1, none⟩ (.int .i64 zv)) := below_set2 hx (by rw [ha27]; exact Nat.le_refl _)
  have HO := Lib.hid (⟨s0, p0, p1, x7, y7, x9, y9, x11, y11, x13, y13, x15, y15, x23, y23, x25, y25⟩ : _ ∧ _ ∧ _ ∧ _ ∧ _ ∧ _ ∧ _ ∧ _ ∧ _ ∧ _ ∧ _ ∧ _ ∧ _ ∧ _ ∧ _ ∧ _ ∧ _)
  replace s0 := cell_keep2 hx s0
  replace p0 := cell_keep2 hx p0
  replace p1 := cell_keep2 hx p1
  replace x7 := cell_keep2 hx x7
  replace y7 := cell_keep2 hx y7
  replace x9 := cell_keep2 hx x9
  replace y9 := cell_keep2 hx y9
  replace x11 := cell_keep2 hx x11
  replace y11 := cell_keep2 hx y11
  replace x13 := cell_keep2 hx x13
  replace y13 := cell_keep2 hx y13
  replace x15 := cell_keep2 hx x15
  replace y15 := cell_keep2 hx y15
  replace x23 := cell_keep2 hx x23
  replace y23 := cell_keep2 hx y23
  replace x25 := cell_keep2 hx x25
  replace y25 := cell_keep2 hx y25
  by_cases hyz : yv < zv
  · go_upto_region 26 with (fail)
    obtain ⟨hpe, hpe2⟩ := HPK.out.1 hyz
    subst hpe
    subst hpe2
    clear hx hz fz hset hxs x27 y27
    have hx := below_box V10 (.cells #[.int .i64 pf, .int .i64 pv] 49)
    obtain ⟨x27, y27⟩ := two_at (new_at V10 (.cells #[.int .i64 pf, .int .i64 pv] 49))
    rw [← ha27] at x27 y27
    replace s0 := cell_keep2 hx HO.out.1
    replace p0 := cell_keep2 hx HO.out.2.1
    replace p1 := cell_keep2 hx HO.out.2.2.1
    replace x7 := cell_keep2 hx HO.out.2.2.2.1
    replace y7 := cell_keep2 hx HO.out.2.2.2.2.1
    replace x9 := cell_keep2 hx HO.out.2.2.2.2.2.1
    replace y9 := cell_keep2 hx HO.out.2.2.2.2.2.2.1
    replace x11 := cell_keep2 hx HO.out.2.2.2.2.2.2.2.1
    replace y11 := cell_keep2 hx HO.out.2.2.2.2.2.2.2.2.1
    replace x13 := cell_keep2 hx HO.out.2.2.2.2.2.2.2.2.2.1
    replace y13 := cell_keep2 hx HO.out.2.2.2.2.2.2.2.2.2.2.1
    replace x15 := cell_keep2 hx HO.out.2.2.2.2.2.2.2.2.2.2.2.1
    replace y15 := cell_keep2 hx HO.out.2.2.2.2.2.2.2.2.2.2.2.2.1
    replace x23 := cell_keep2 hx HO.out.2.2.2.2.2.2.2.2.2.2.2.2.2.1
    replace y23 := cell_keep2 hx HO.out.2.2.2.2.2.2.2.2.2.2.2.2.2.2.1
    replace x25 := cell_keep2 hx HO.out.2.2.2.2.2.2.2.2.2.2.2.2.2.2.2.1
    replace y25 := cell_keep2 hx HO.out.2.2.2.2.2.2.2.2.2.2.2.2.2.2.2.2
    replace HW := Lib.hid (HW.out.trans (hx.mono HW.out.size))
    obtain ⟨wA, hwA⟩ : ∃ w, w = V10.alloc (.cells #[.int .i64 pf, .int .i64 pv] 49) := ⟨_, rfl⟩
    rw [← hwA] at s0 p0 p1 x7 y7 x9 y9 x11 y11 x13 y13 x15 y15 x23 y23 x25 y25 x27 y27 HW ⊢
    clear hwA hx ha27 HPK HO
    have q1 := fun w => eqlA_self ah al w
    have q2 := fun w => eqlS_self pf pv w
    have hsum : IntKind.i64.wrap (sl + sn) = sl + sn := IntWalk.i64_in _ (by omega)
    have hsum2 : wrap64 (sl + sn) = sl + sn := IntWalk.wrap64_in _ (by omega)
    have hS2 : ∀ V, Below wA.heap.size wA V → Below wA.heap.size wA V ∧ V.cell? ⟨a7, 0, none⟩ = some (.int .i64 ah) ∧ V.cell? ⟨a7, 1, none⟩ = some (.int .i64 al) ∧ V.cell? ⟨a9, 0, none⟩ = some (.int .i64 pf) ∧ V.cell? ⟨a9, 1, none⟩ = some (.int .i64 pv) ∧ V.cell? ⟨a13, 0, none⟩ = some (.int .i64 bh) ∧ V.cell? ⟨a13, 1, none⟩ = some (.int .i64 bl) ∧ V.cell? ⟨a15, 0, none⟩ = some (.int .i64 ch) ∧ V.cell? ⟨a15, 1, none⟩ = some (.int .i64 cl) ∧ V.cell? ⟨a27, 0, none⟩ = some (.int .i64 pf) ∧ V.cell? ⟨a27, 1, none⟩ = some (.int .i64 pv) := fun V hV => ⟨hV, cell_keep2 hV x7, cell_keep2 hV y7, cell_keep2 hV x9, cell_keep2 hV y9, cell_keep2 hV x13, cell_keep2 hV y13, cell_keep2 hV x15, cell_keep2 hV y15, cell_keep2 hV x27, cell_keep2 hV y27⟩
    have HS2 := Lib.hid hS2
    have s1 := hS2 wA.drew (below_drew (Below.refl _ _))
    have hrun : Below wA.heap.size wA wA.drew := below_drew (Below.refl _ _)
    clear hS2
    go_region_held3 (fun V => Below wA.heap.size wA V ∧ V.cell? ⟨a7, 0, none⟩ = some (.int .i64 ah) ∧ V.cell? ⟨a7, 1, none⟩ = some (.int .i64 al) ∧ V.cell? ⟨a9, 0, none⟩ = some (.int .i64 pf) ∧ V.cell? ⟨a9, 1, none⟩ = some (.int .i64 pv) ∧ V.cell? ⟨a13, 0, none⟩ = some (.int .i64 bh) ∧ V.cell? ⟨a13, 1, none⟩ = some (.int .i64 bl) ∧ V.cell? ⟨a15, 0, none⟩ = some (.int .i64 ch) ∧ V.cell? ⟨a15, 1, none⟩ = some (.int .i64 cl) ∧ V.cell? ⟨a27, 0, none⟩ = some (.int .i64 pf) ∧ V.cell? ⟨a27, 1, none⟩ = some (.int .i64 pv))
      (first | assumption | exact Sp1 | exact Ss)
      (first | (go_at_call 31; ((with_reducible refine (HPl.out _).mono ?_); rintro e wp1 ⟨rfl, hb⟩; replace hrun := hrun.trans (hb.mono hrun.size); have Sp1 := HS2.out _ hrun)) | (go_at_call 11; ((with_reducible refine (HSh.out _ (HW.out.trans (hrun.mono HW.out.size))).mono ?_); rintro e ws ⟨rfl, hb⟩; replace hrun := hrun.trans (hb.mono hrun.size); have Ss := HS2.out _ hrun)))
    all_goals
      have HF := Lib.hid (HW.out.trans (hrun.mono HW.out.size))
      go_wp2_with (fail)
      go_ret
      exact ⟨rfl, HF.out⟩
  · go_upto_region 26 with (fail)
    obtain ⟨hpe, hpe2⟩ := HPK.out.2 (by omega)
    subst hpe
    subst hpe2
    clear hx hz fz hset hxs x27 y27
    have hx := below_box V10 (.cells #[.int .i64 pf, .int .i64 pv] 49)
    obtain ⟨x27, y27⟩ := two_at (new_at V10 (.cells #[.int .i64 pf, .int .i64 pv] 49))
    rw [← ha27] at x27 y27
    replace s0 := cell_keep2 hx HO.out.1
    replace p0 := cell_keep2 hx HO.out.2.1
    replace p1 := cell_keep2 hx HO.out.2.2.1
    replace x7 := cell_keep2 hx HO.out.2.2.2.1
    replace y7 := cell_keep2 hx HO.out.2.2.2.2.1
    replace x9 := cell_keep2 hx HO.out.2.2.2.2.2.1
    replace y9 := cell_keep2 hx HO.out.2.2.2.2.2.2.1
    replace x11 := cell_keep2 hx HO.out.2.2.2.2.2.2.2.1
    replace y11 := cell_keep2 hx HO.out.2.2.2.2.2.2.2.2.1
    replace x13 := cell_keep2 hx HO.out.2.2.2.2.2.2.2.2.2.1
    replace y13 := cell_keep2 hx HO.out.2.2.2.2.2.2.2.2.2.2.1
    replace x15 := cell_keep2 hx HO.out.2.2.2.2.2.2.2.2.2.2.2.1
    replace y15 := cell_keep2 hx HO.out.2.2.2.2.2.2.2.2.2.2.2.2.1
    replace x23 := cell_keep2 hx HO.out.2.2.2.2.2.2.2.2.2.2.2.2.2.1
    replace y23 := cell_keep2 hx HO.out.2.2.2.2.2.2.2.2.2.2.2.2.2.2.1
    replace x25 := cell_keep2 hx HO.out.2.2.2.2.2.2.2.2.2.2.2.2.2.2.2.1
    replace y25 := cell_keep2 hx HO.out.2.2.2.2.2.2.2.2.2.2.2.2.2.2.2.2
    replace HW := Lib.hid (HW.out.trans (hx.mono HW.out.size))
    obtain ⟨wB, hwB⟩ : ∃ w, w = V10.alloc (.cells #[.int .i64 pf, .int .i64 pv] 49) := ⟨_, rfl⟩
    rw [← hwB] at s0 p0 p1 x7 y7 x9 y9 x11 y11 x13 y13 x15 y15 x23 y23 x25 y25 x27 y27 HW ⊢
    clear hwB hx ha27 HPK HO
    have q1 := fun w => eqlA_self ah al w
    have q2 := fun w => eqlS_self pf pv w
    have hsum : IntKind.i64.wrap (sl + sn) = sl + sn := IntWalk.i64_in _ (by omega)
    have hsum2 : wrap64 (sl + sn) = sl + sn := IntWalk.wrap64_in _ (by omega)
    have hS2 : ∀ V, Below wB.heap.size wB V → Below wB.heap.size wB V ∧ V.cell? ⟨a7, 0, none⟩ = some (.int .i64 ah) ∧ V.cell? ⟨a7, 1, none⟩ = some (.int .i64 al) ∧ V.cell? ⟨a9, 0, none⟩ = some (.int .i64 pf) ∧ V.cell? ⟨a9, 1, none⟩ = some (.int .i64 pv) ∧ V.cell? ⟨a13, 0, none⟩ = some (.int .i64 bh) ∧ V.cell? ⟨a13, 1, none⟩ = some (.int .i64 bl) ∧ V.cell? ⟨a15, 0, none⟩ = some (.int .i64 ch) ∧ V.cell? ⟨a15, 1, none⟩ = some (.int .i64 cl) ∧ V.cell? ⟨a27, 0, none⟩ = some (.int .i64 pf) ∧ V.cell? ⟨a27, 1, none⟩ = some (.int .i64 pv) := fun V hV => ⟨hV, cell_keep2 hV x7, cell_keep2 hV y7, cell_keep2 hV x9, cell_keep2 hV y9, cell_keep2 hV x13, cell_keep2 hV y13, cell_keep2 hV x15, cell_keep2 hV y15, cell_keep2 hV x27, cell_keep2 hV y27⟩
    have HS2 := Lib.hid hS2
    have s1 := hS2 wB.drew (below_drew (Below.refl _ _))
    have hrun : Below wB.heap.size wB wB.drew := below_drew (Below.refl _ _)
    clear hS2
    go_region_held3 (fun V => Below wB.heap.size wB V ∧ V.cell? ⟨a7, 0, none⟩ = some (.int .i64 ah) ∧ V.cell? ⟨a7, 1, none⟩ = some (.int .i64 al) ∧ V.cell? ⟨a9, 0, none⟩ = some (.int .i64 pf) ∧ V.cell? ⟨a9, 1, none⟩ = some (.int .i64 pv) ∧ V.cell? ⟨a13, 0, none⟩ = some (.int .i64 bh) ∧ V.cell? ⟨a13, 1, none⟩ = some (.int .i64 bl) ∧ V.cell? ⟨a15, 0, none⟩ = some (.int .i64 ch) ∧ V.cell? ⟨a15, 1, none⟩ = some (.int .i64 cl) ∧ V.cell? ⟨a27, 0, none⟩ = some (.int .i64 pf) ∧ V.cell? ⟨a27, 1, none⟩ = some (.int .i64 pv))
      (first | assumption | exact Sp1 | exact Ss)
      (first | (go_at_call 31; ((with_reducible refine (HPl.out _).mono ?_); rintro e wp1 ⟨rfl, hb⟩; replace hrun := hrun.trans (hb.mono hrun.size); have Sp1 := HS2.out _ hrun)) | (go_at_call 11; ((with_reducible refine (HSh.out _ (HW.out.trans (hrun.mono HW.out.size))).mono ?_); rintro e ws ⟨rfl, hb⟩; replace hrun := hrun.trans (hb.mono hrun.size); have Ss := HS2.out _ hrun)))
    all_goals
      have HF := Lib.hid (HW.out.trans (hrun.mono HW.out.size))
      go_wp2_with (fail)
      go_ret
      exact ⟨rfl, HF.out⟩
end Sx
end Go.Proofs.YtionocafkaemiaaDoor
