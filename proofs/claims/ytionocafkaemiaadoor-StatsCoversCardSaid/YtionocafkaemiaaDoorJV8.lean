/- StatsCovers: the walk. -/
import Derived.Test.YtionocafkaemiaaDoorJV12
namespace Go.Proofs.YtionocafkaemiaaDoor
open Go.RowKit Go.Sort Go.Lib
namespace Sx

attribute [local irreducible] wpQuiet
set_option maxRecDepth 100000 in
set_option maxHeartbeats 16000000 in
theorem covers_walk (W : World) (hT : Lib.TabIs Tryd.prog W "internal/strconv.uint64pow10" .u64 Lib.pow10Tab) (A : Option Addr) (c : Nat) (L : List Sm) (hL : SAt W A c L) (u most : Int) (hmb : -9223372036854775808 ≤ most ∧ most ≤ 9223372036854775807) (bits : Nat) (hb64 : bits < 2 ^ 64) (M : Option Addr) (d : Nat) (more : List Nat) (hM : EAt enB 1 W M d more) (hm8 : ∀ x, x ∈ more → x < 256) :
    Calls Tryd.prog 5 #[sv A L.length c, cv u most bits M more.length d] W fun e w' => e = .returned (.bool true) ∧ Below W.heap.size W w' := by
  obtain ⟨k1, k2⟩ := two_boxes W #[.slice A L.length c] #[.int .i64 u, .int .i64 most, .int .u64 bits, .slice M more.length d] 24 46
  have hb : Below W.heap.size W ((W.alloc (.cells #[.slice A L.length c] 24)).alloc (.cells #[.int .i64 u, .int .i64 most, .int .u64 bits, .slice M more.length d] 46)) := (below_box W _).alloc (by simp) _
  have hl1 := hL.1
  have hl2 := hL.2.1
  unfold maxLen at hl2
  have HT := Lib.hid (Lib.tabBelow_of_tabIs hT)
  have HSh := Lib.hid (fun V (hV : Below W.heap.size W V) => shown_ok V (HT.out V hV))
  have HEV := Lib.hid (fun m V (hV : Below W.heap.size W V) => env_ok A c L u m V (hL.below hV (Nat.le_refl _)))
  have HLM := Lib.hid (And.intro hL (And.intro hM hm8))
  obtain ⟨r, hr⟩ : ∃ r, r = W.heap.size := ⟨_, rfl⟩
  go_enter Tryd.func5, Tryd.ntmps5
  go_upto_region 1 with (fail)
  rw [← hr]
  generalize (W.alloc (.cells #[.slice A L.length c] 24)).alloc (.cells #[.int .i64 u, .int .i64 most, .int .u64 bits, .slice M more.length d] 46) = U at *
  rw [← hr] at k1 k2
  have HR := Lib.hid hr
  have s0 := one_at k1
  obtain ⟨y0, y1, y2, y3⟩ := four_at k2
  have HB := Lib.hid hb
  have H1 := Lib.hid k1
  have H2 := Lib.hid k2
  clear hL hT hb k1 k2 hM hm8 hr
  by_cases h : 60 < L.length
  · have hi : (60 : Int) < (L.length : Int) := by omega
    go_wp2_with (go_at_call 11; refine (HSh.out _ HB.out).mono ?_; rintro e v1 ⟨rfl, hb1⟩)
    go_ret
    exact ⟨rfl, HB.out.trans (hb1.mono HB.out.size)⟩
  have hi : ¬ (60 : Int) < (L.length : Int) := by omega
  have h60 : L.length ≤ 60 := by omega
  by_cases hc : ¬ chkE L u most = 0
  · have hx : envS L u most = ([], chkE L u most) := by unfold envS; rw [if_pos hc]
    have HE1 := Lib.hid (fun V (hV : Below W.heap.size W V) => HEV.out most V hV)
    rw [hx] at HE1
    have hne : ((chkE L u most) == 0) = false := by simpa using hc
    generalize chkE L u most = er at *
    go_upto_region 5 with (go_at_call 17; with_reducible refine (HE1.out _ HB.out).mono ?_; rintro e v1 ⟨A1, c1, rfl, hs1, hb1⟩)
    have hx1 := hb1.trans ((below_box v1 (.cells #[.slice A1 0 c1] 24)).mono hb1.size)
    have x0 := one_at (new_at v1 (.cells #[.slice A1 0 c1] 24))
    have HW1 := Lib.hid (HB.out.trans (hx1.mono HB.out.size))
    obtain ⟨a6, ha6⟩ : ∃ a, a = v1.heap.size := ⟨_, rfl⟩
    rw [← ha6] at x0 ⊢
    clear ha6 hx1 hb1 hs1
    generalize v1.alloc (.cells #[.slice A1 ([] : List Sm).length c1] 24) = V1 at *
    generalize v1.alloc (.cells #[.slice A1 0 c1] 24) = V1 at *
    go_wp2_with (go_at_call 11; refine (HSh.out _ HW1.out).mono ?_; rintro e v9 ⟨rfl, hb9⟩)
    go_ret
    exact ⟨rfl, HW1.out.trans (hb9.mono HW1.out.size)⟩

  have hce := Classical.not_not.1 hc
  clear hc
  obtain ⟨hE, hn, hm1, hm5⟩ := chkE_ok hce
  obtain ⟨m, rfl⟩ : ∃ m : Nat, most = (m : Int) := ⟨most.toNat, by omega⟩
  have hm0 : 0 < m := by omega
  obtain ⟨m2, hm2⟩ : ∃ m2, m2 = min (m + 1) 500 := ⟨_, rfl⟩
  obtain ⟨hbx, hbl⟩ := best_ok (u := u) hn hm0
  obtain ⟨hbx2, _⟩ := best_ok (u := u) (most := m2) hn (by omega)
  obtain ⟨hbx3, _⟩ := best_ok (u := u) (most := L.length) hn hn
  have he1 : envS L u (m : Int) = (overS L (bestL L u m), 0) := if_neg (by simpa using hce)
  have he2 : envS L u (m2 : Int) = (overS L (bestL L u m2), 0) := if_neg (by simpa using chkE_any hce (show (1 : Int) ≤ (m2 : Int) by omega) (by omega))
  have he3 : envS L u (L.length : Int) = (overS L (bestL L u L.length), 0) := if_neg (by simpa using chkE_any hce (show (1 : Int) ≤ (L.length : Int) by omega) (by omega))
  have hab := above_over hE hn hbx
  have hpk := peak_over hE hn hbx
  have hls := less_over hE hn hm0 (show m ≤ m2 by omega)
  have haa := area_best_all hE hn
  have hEV := over_ok hE (starts_of hn hbx)
  have hEM := over_ok hE (starts_of hn hbx2)
  have hEA := over_ok hE (starts_of hn hbx3)
  have hVm : (overS L (bestL L u m)).length ≤ m := by rw [over_len]; exact hbl
  have hMp : 0 < (overS L (bestL L u m2)).length := by rw [over_len]; exact (ext_pos hbx2).1
  have hAp : 0 < (overS L (bestL L u L.length)).length := by rw [over_len]; exact (ext_pos hbx3).1
  have HPL := Lib.hid (fun (hl : (propS L bits more).length ≤ m) (hk : checkS (propS L bits more) = 0) => prop_least hE hn bits more hm0 hl hk)
  have HE1 := Lib.hid (fun V (hV : Below W.heap.size W V) => HEV.out (m : Int) V hV)
  have HE2 := Lib.hid (fun V (hV : Below W.heap.size W V) => HEV.out (m2 : Int) V hV)
  have HE3 := Lib.hid (fun V (hV : Below W.heap.size W V) => HEV.out (L.length : Int) V hV)
  rw [he1] at HE1
  rw [he2] at HE2
  rw [he3] at HE3
  clear he1 he2 he3 hbx hbx2 hbx3 hbl HEV
  generalize overS L (bestL L u m) = V at *
  generalize overS L (bestL L u m2) = VM at *
  generalize overS L (bestL L u L.length) = VA at *
  have HokL := Lib.hid hE
  have HpL := Lib.hid hn
  have HokV := Lib.hid hEV
  have HpV := Lib.hid hab.pos
  have HokM := Lib.hid hEM
  have HpM := Lib.hid hMp
  have HokA := Lib.hid hEA
  have HpA := Lib.hid hAp
  obtain ⟨zv, hzv⟩ : ∃ z, z = arE u V := ⟨_, rfl⟩
  obtain ⟨zm, hzm⟩ : ∃ z, z = arE u VM := ⟨_, rfl⟩
  obtain ⟨zl, hzl⟩ : ∃ z, z = arE u L := ⟨_, rfl⟩
  obtain ⟨pk, hpkL⟩ : ∃ z, z = peakA L u := ⟨_, rfl⟩
  rw [← hzv, ← hzm] at hls
  rw [← hzl] at haa
  rw [← hpkL] at hpk
  have HzV := Lib.hid hzv
  have HzM := Lib.hid hzm
  have HzL := Lib.hid hzl
  have HzA := Lib.hid haa.symm
  have HpkL := Lib.hid hpkL
  have HpkV := Lib.hid hpk.symm
  have HLS := Lib.hid hls
  have HAB := Lib.hid hab
  have hVp : (0 : Int) < (V.length : Int) := by have := hab.pos; omega
  have hVmi : ¬ (m : Int) < (V.length : Int) := by omega
  have hLni : ¬ (L.length : Int) = 0 := by omega
  have hLn2 : ((L.length : Int) == 0) = false := by simpa using hLni
  have hVn2 : ((V.length : Int) == 0) = false := by simpa using (show ¬ (V.length : Int) = 0 by omega)
  have hm2e : (m2 : Int) = if (m : Int) + 1 < 500 then (m : Int) + 1 else 500 := by
    rcases Nat.lt_or_ge (m + 1) 500 with h5 | h5
    · rw [hm2, Nat.min_eq_left (by omega), if_pos (by omega)]; omega
    · rw [hm2, Nat.min_eq_right (by omega), if_neg (by omega)]; omega
  have HM2 := Lib.hid (And.intro hm2 hm2e)
  clear hE hn hab hpk hls haa hEV hEM hEA hVm hMp hAp hzv hzm hzl hpkL hce hm2 hm2e hm1
  -- the envelope
  go_upto_region 5 with (go_at_call 17; with_reducible refine (HE1.out _ HB.out).mono ?_; rintro e v1 ⟨A1, c1, rfl, hs1, hb1⟩)
  have hxb := hb1.trans ((below_box v1 (.cells #[.slice A1 V.length c1] 24)).mono hb1.size)
  have k6 := new_at v1 (.cells #[.slice A1 V.length c1] 24)
  have hs2 := hs1.below (below_box v1 (.cells #[.slice A1 V.length c1] 24)) (Nat.le_refl _)
  obtain ⟨b6, hb6⟩ : ∃ a, a = v1.heap.size := ⟨_, rfl⟩
  rw [← hb6] at k6 ⊢
  generalize v1.alloc (.cells #[.slice A1 V.length c1] 24) = V1 at *
  have HsL := Lib.hid (HLM.out.1.below HB.out (Nat.le_refl _))
  obtain ⟨gl, ol, rfl, _⟩ := HsL.out.s2 HpL.out
  obtain ⟨gv, ov, rfl, _⟩ := hs2.s2 HpV.out
  have HsV := Lib.hid hs2
  have H6 := Lib.hid k6
  clear hb6 k6 hs1 hs2 hb1

  replace H1 := Lib.hid (heap_keep H1.out hxb)
  replace H2 := Lib.hid (heap_keep H2.out hxb)
  replace HsL := Lib.hid (HsL.out.below hxb (Nat.le_refl _))
  replace HB := Lib.hid (HB.out.trans (hxb.mono HB.out.size))
  clear hxb HE1
  obtain ⟨y0, y1, y2, y3⟩ := four_at H2.out
  have s0 := one_at H1.out
  have t0 := one_at H6.out
  have HOV := Lib.hid (over_okL (some ⟨gv, ov, none⟩) c1 V (some ⟨gl, ol, none⟩) c L u V1 HsV.out HsL.out HAB.out HpL.out)
  go_upto_region 9 with (go_at_call 20; with_reducible refine HOV.out.mono ?_; rintro e V2 ⟨rfl, hb2⟩)

  replace H1 := Lib.hid (heap_keep H1.out hb2)
  replace H2 := Lib.hid (heap_keep H2.out hb2)
  replace HsL := Lib.hid (HsL.out.below hb2 (Nat.le_refl _))
  replace HB := Lib.hid (HB.out.trans (hb2.mono HB.out.size))
  replace H6 := Lib.hid (heap_keep H6.out hb2)
  replace HsV := Lib.hid (HsV.out.below hb2 (Nat.le_refl _))
  clear hb2 HOV y0 y1 y2 y3 s0 t0
  obtain ⟨f10, hf10⟩ := peakW HokV.out HpV.out
  obtain ⟨f12, hf12⟩ := peakW HokL.out HpL.out
  have HF10 := Lib.hid hf10
  have HF12 := Lib.hid hf12
  clear hf10 hf12
  -- region 9
  obtain ⟨xa, hxa⟩ : ∃ x, x = (sm V 0).a := ⟨_, rfl⟩
  have hAr : ∀ Y, Below V2.heap.size V2 Y → Calls Tryd.prog 12 #[sv (some ⟨gv, ov, none⟩) V.length c1, .int .i64 xa, .int .i64 u] Y fun e w' => e = .returned (.tuple #[.agg #[.int .i64 zv.h, .int .i64 zv.l], .int .i64 0]) ∧ Below Y.heap.size Y w' := fun Y hY => by
    have := Area_ok (some ⟨gv, ov, none⟩) c1 V (sm V 0).a u Y (HsV.out.below hY (Nat.le_refl _))
    rw [areaW HokV.out HpV.out, ← HzV.out, ← hxa] at this
    exact this
  have HAr := Lib.hid (And.intro hAr hxa)
  clear hAr hxa
  go_upto_region 9 with (fail)
  go_cut [8, 9] from 27 to 258 (fun p q wx => ∃ b, p = .pointer (some ⟨b, 0, none⟩) ∧ q = .int .i64 0 ∧ wx.heap[b]? = some (.cells #[.int .i64 zv.h, .int .i64 zv.l] 31 (0, 0)) ∧ Below V2.heap.size V2 wx)
  case first =>
    refine cov_r9 b6 gv ov V.length c1 (r + 1) xa u (zv.h) (zv.l) _ _ _ _ _ _ _ _ _ _ _ _ _ _ _ _ _ _ _ _ _ _ _ _ _ _ _ _ _ _ _ _ _ _ _ _ _ _ _ _ _ _ _ _ _ _ _ _ _ _ _ _ _ _ _ _ _ _ _ _ _ _ _ _ _ _ _ _ _ _ _ _ _ _ _ _ _ _ _ _ _ _ _ _ _ _ _ _ _ _ _ _ _ _ _ _ _ _ _ _ _ _ _ _ _ _ _ _ _ _ _ _ _ _ _ _ _ _ _ _ _ _ _ _ _ _ _ _ _ _ _ _ _ _ _ _ _ _ _ _ _ _ _ _ _ _ _ _ _ _ _ _ _ _ _ _ _ _ _ _ _ _ _ _ _ _ _ _ _ _ _ _ _ _ _ _ _ _ _ _ _ _ _ _ _ _ _ _ _ _ _ _ _ _ _ _ _ _ _ _ _ _ _ _ _ _ _ _ _ _ _ _ _ _ _ _ _ _ _ _ _ _ _ _ _ _ _ _ _ _ _ _ _ _ _ _ _ _ _ _ _ _ _ _ _ _ _ _ _ _ _ _ _ _ _ _ _ _ _ (one_at H6.out) (by rw [HAr.out.2]; exact sat_first HsV.out HpV.out) (four_at H2.out).1 HpV.out HAr.out.1 (fun _ _ _ _ _ h => h) ?_
    intro b w' v75 v76 v77 v78 v79 v80 v81 v82 v83 v84 v85 v86 h8 hrun
    (try go_wp2_with (fail))
    go_meet
    exact ⟨b, rfl, rfl, h8, hrun⟩
  case rest =>
  clear HAr
  obtain ⟨b9, rfl, rfl, k8, hbw⟩ := hcut
  obtain ⟨Z1, hZ1⟩ : ∃ V, V = wc := ⟨_, rfl⟩
  subst hZ1
  replace H1 := Lib.hid (heap_keep H1.out hbw)
  replace H2 := Lib.hid (heap_keep H2.out hbw)
  replace HsL := Lib.hid (HsL.out.below hbw (Nat.le_refl _))
  replace HB := Lib.hid (HB.out.trans (hbw.mono HB.out.size))
  replace H6 := Lib.hid (heap_keep H6.out hbw)
  replace HsV := Lib.hid (HsV.out.below hbw (Nat.le_refl _))
  have H9 := Lib.hid k8
  clear k8 hbw
  -- region 10
  obtain ⟨xa, hxa⟩ : ∃ x, x = (sm V 0).a := ⟨_, rfl⟩
  have hAr : ∀ Y, Below Z1.heap.size Z1 Y → Calls Tryd.prog 21 #[sv (some ⟨gv, ov, none⟩) V.length c1, .int .i64 xa, .int .i64 u] Y fun e w' => e = .returned (.tuple #[.agg #[.int .i64 f10, .int .i64 pk], .int .i64 0]) ∧ Below Y.heap.size Y w' := fun Y hY => by
    have := peak_ok (some ⟨gv, ov, none⟩) c1 V (sm V 0).a u Y (HsV.out.below hY (Nat.le_refl _))
    rw [HF10.out, ← HpkV.out, ← hxa] at this
    exact this
  have HAr := Lib.hid (And.intro hAr hxa)
  clear hAr hxa
  go_upto_region 10 with (fail)
  go_cut [10, 11] from 27 to 258 (fun p q wx => ∃ b, p = .pointer (some ⟨b, 0, none⟩) ∧ q = .int .i64 0 ∧ wx.heap[b]? = some (.cells #[.int .i64 f10, .int .i64 pk] 49 (0, 0)) ∧ Below Z1.heap.size Z1 wx)
  case first =>
    refine cov_r10 b6 gv ov V.length c1 (r + 1) xa u (f10) (pk) _ _ _ _ _ _ _ _ _ _ _ _ _ _ _ _ _ _ _ _ _ _ _ _ _ _ _ _ _ _ _ _ _ _ _ _ _ _ _ _ _ _ _ _ _ _ _ _ _ _ _ _ _ _ _ _ _ _ _ _ _ _ _ _ _ _ _ _ _ _ _ _ _ _ _ _ _ _ _ _ _ _ _ _ _ _ _ _ _ _ _ _ _ _ _ _ _ _ _ _ _ _ _ _ _ _ _ _ _ _ _ _ _ _ _ _ _ _ _ _ _ _ _ _ _ _ _ _ _ _ _ _ _ _ _ _ _ _ _ _ _ _ _ _ _ _ _ _ _ _ _ _ _ _ _ _ _ _ _ _ _ _ _ _ _ _ _ _ _ _ _ _ _ _ _ _ _ _ _ _ _ _ _ _ _ _ _ _ _ _ _ _ _ _ _ _ _ _ _ _ _ _ _ _ _ _ _ _ _ _ _ _ _ _ _ _ _ _ _ _ _ _ _ _ _ _ _ _ _ _ _ _ _ _ _ _ _ _ _ _ _ _ _ _ _ _ _ _ _ _ _ _ _ _ _ _ _ _ _ (one_at H6.out) (by rw [HAr.out.2]; exact sat_first HsV.out HpV.out) (four_at H2.out).1 HpV.out HAr.out.1 (fun _ _ _ _ _ h => h) ?_
    intro b w' v87 v88 v89 v90 v91 v92 v93 v94 v95 v96 v97 v98 h8 hrun
    (try go_wp2_with (fail))
    go_meet
    exact ⟨b, rfl, rfl, h8, hrun⟩
  case rest =>
  clear HAr
  obtain ⟨b10, rfl, rfl, k8, hbw⟩ := hcut
  obtain ⟨Z2, hZ2⟩ : ∃ V, V = wc := ⟨_, rfl⟩
  subst hZ2
  replace H1 := Lib.hid (heap_keep H1.out hbw)
  replace H2 := Lib.hid (heap_keep H2.out hbw)
  replace HsL := Lib.hid (HsL.out.below hbw (Nat.le_refl _))
  replace HB := Lib.hid (HB.out.trans (hbw.mono HB.out.size))
  replace H6 := Lib.hid (heap_keep H6.out hbw)
  replace HsV := Lib.hid (HsV.out.below hbw (Nat.le_refl _))
  replace H9 := Lib.hid (heap_keep H9.out hbw)
  have H10 := Lib.hid k8
  clear k8 hbw
  -- region 11
  obtain ⟨xa, hxa⟩ : ∃ x, x = (sm L 0).a := ⟨_, rfl⟩
  have hAr : ∀ Y, Below Z2.heap.size Z2 Y → Calls Tryd.prog 21 #[sv (some ⟨gl, ol, none⟩) L.length c, .int .i64 xa, .int .i64 u] Y fun e w' => e = .returned (.tuple #[.agg #[.int .i64 f12, .int .i64 pk], .int .i64 0]) ∧ Below Y.heap.size Y w' := fun Y hY => by
    have := peak_ok (some ⟨gl, ol, none⟩) c L (sm L 0).a u Y (HsL.out.below hY (Nat.le_refl _))
    rw [HF12.out, ← HpkL.out, ← hxa] at this
    exact this
  have HAr := Lib.hid (And.intro hAr hxa)
  clear hAr hxa
  go_upto_region 11 with (fail)
  go_cut [12, 13] from 27 to 258 (fun p q wx => ∃ b, p = .pointer (some ⟨b, 0, none⟩) ∧ q = .int .i64 0 ∧ wx.heap[b]? = some (.cells #[.int .i64 f12, .int .i64 pk] 49 (0, 0)) ∧ Below Z2.heap.size Z2 wx)
  case first =>
    refine cov_r11 r gl ol L.length c (r + 1) xa u (f12) (pk) _ _ _ _ _ _ _ _ _ _ _ _ _ _ _ _ _ _ _ _ _ _ _ _ _ _ _ _ _ _ _ _ _ _ _ _ _ _ _ _ _ _ _ _ _ _ _ _ _ _ _ _ _ _ _ _ _ _ _ _ _ _ _ _ _ _ _ _ _ _ _ _ _ _ _ _ _ _ _ _ _ _ _ _ _ _ _ _ _ _ _ _ _ _ _ _ _ _ _ _ _ _ _ _ _ _ _ _ _ _ _ _ _ _ _ _ _ _ _ _ _ _ _ _ _ _ _ _ _ _ _ _ _ _ _ _ _ _ _ _ _ _ _ _ _ _ _ _ _ _ _ _ _ _ _ _ _ _ _ _ _ _ _ _ _ _ _ _ _ _ _ _ _ _ _ _ _ _ _ _ _ _ _ _ _ _ _ _ _ _ _ _ _ _ _ _ _ _ _ _ _ _ _ _ _ _ _ _ _ _ _ _ _ _ _ _ _ _ _ _ _ _ _ _ _ _ _ _ _ _ _ _ _ _ _ _ _ _ _ _ _ _ _ _ _ _ _ _ _ _ _ _ _ _ _ _ _ _ _ (one_at H1.out) (by rw [HAr.out.2]; exact sat_first HsL.out HpL.out) (four_at H2.out).1 HpL.out HAr.out.1 (fun _ _ _ _ _ h => h) ?_
    intro b w' v99 v100 v101 v102 v103 v104 v105 v106 v107 v108 v109 v110 h8 hrun
    (try go_wp2_with (fail))
    go_meet
    exact ⟨b, rfl, rfl, h8, hrun⟩
  case rest =>
  clear HAr
  obtain ⟨b11, rfl, rfl, k8, hbw⟩ := hcut
  obtain ⟨Z3, hZ3⟩ : ∃ V, V = wc := ⟨_, rfl⟩
  subst hZ3
  replace H1 := Lib.hid (heap_keep H1.out hbw)
  replace H2 := Lib.hid (heap_keep H2.out hbw)
  replace HsL := Lib.hid (HsL.out.below hbw (Nat.le_refl _))
  replace HB := Lib.hid (HB.out.trans (hbw.mono HB.out.size))
  replace H6 := Lib.hid (heap_keep H6.out hbw)
  replace HsV := Lib.hid (HsV.out.below hbw (Nat.le_refl _))
  replace H9 := Lib.hid (heap_keep H9.out hbw)
  replace H10 := Lib.hid (heap_keep H10.out hbw)
  have H12 := Lib.hid k8
  clear k8 hbw
  go_step
  refine covers_b ?_ ?_ h60 hb64 hm5 hm0 hl1 hl2 HSh.out HE2.out HE3.out HLM.out HokL.out HpL.out HokV.out HpV.out HokM.out HpM.out HokA.out HpA.out HzV.out HzM.out HzL.out HzA.out HLS.out HPL.out HM2.out H1.out H2.out HsL.out HB.out H6.out HsV.out H9.out H10.out H12.out
  · kernel_rfl
  · rfl
end Sx
end Go.Proofs.YtionocafkaemiaaDoor
