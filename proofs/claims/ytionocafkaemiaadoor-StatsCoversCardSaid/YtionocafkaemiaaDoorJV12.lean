/- StatsCovers: the walk, its end. StatsCovers: the walk, its middle. -/
import Derived.Test.YtionocafkaemiaaDoorJL2
import Derived.Test.YtionocafkaemiaaDoorJL8
import Derived.Test.YtionocafkaemiaaDoorJA23
import Derived.Test.YtionocafkaemiaaDoorJA8
import Derived.Test.YtionocafkaemiaaDoorJA13
import Derived.Test.YtionocafkaemiaaDoorJV9
namespace Go.Proofs.YtionocafkaemiaaDoor
open Go.RowKit Go.Sort Go.Lib
namespace Sx
theorem areaW {M : List Sm} {u : Int} (h : OkE M u) (hn : 0 < M.length) : areaS M (sm M 0).a u = (arE u M, 0) := by unfold areaS; rw [if_neg (by rw [ask_cov.2 (cov_whole h hn)]; simp)]; rfl
theorem peakW {M : List Sm} {u : Int} (h : OkE M u) (hn : 0 < M.length) : ∃ f, extS gt M (sm M 0).a u = (⟨f, peakA M u⟩, 0) := by unfold extS; rw [if_neg (by rw [ask_cov.2 (cov_whole h hn)]; simp)]; exact ⟨_, rfl⟩
theorem sat_first {w : World} {g o c : Nat} {V : List Sm} (h : SAt w (some ⟨g, o, none⟩) c V) (hn : 0 < V.length) : w.cell? ⟨g, o, none⟩ = some (.int .i64 (sm V 0).a) := by
  obtain ⟨g', o', e, _, d0, _⟩ := h.s2 hn
  injection e with e; injection e with e1 e2 _
  subst e1; subst e2
  rw [Nat.zero_mul, Nat.add_zero] at d0
  exact d0
theorem chkE_any {L : List Sm} {u most k : Int} (h : chkE L u most = 0) (h1 : 1 ≤ k) (h2 : k ≤ 500) : chkE L u k = 0 := by
  unfold chkE at h ⊢
  split at h
  · next h3 => exact absurd h h3
  · next h3 =>
    rw [if_neg h3]
    split at h
    · cases h
    · next h4 =>
      split at h
      · cases h
      · next h5 =>
        rw [if_neg (fun h6 => h4 (by rcases h6 with h6 | h6 | h6 | h6; (· exact .inl h6); (· exact .inr (.inl h6)); (· omega); omega)), if_neg h5]
/-- The code behind a region. -/
def restAfter (n : Nat) : Code → Option Code
  | .seq a b => match a with
    | .region k _ _ => if k = n then some b else restAfter n b
    | x => match restAfter n x with
      | some c => some c
      | none => restAfter n b
  | .cond _ a b => match restAfter n a with
    | some c => some c
    | none => restAfter n b
  | .block _ c => restAfter n c
  | .scope c => restAfter n c
  | _ => none
attribute [local irreducible] wpQuiet
noncomputable def rest20 : Code := (Tryd.f5.body.bind (restAfter 20)).getD .skip
set_option maxRecDepth 1000000 in
set_option maxHeartbeats 16000000 in
theorem covers_c {W w : World} {r gl ol c d m bits b6 b9 b10 b11 b14 b16 b18 b19 b20 : Nat} {u  : Int} {M : Option Addr} {more : List Nat} {L V : List Sm} {zv zm zl : Ar} {u0 u1 u4 u24 u25 u26 u27 u28 u29 u30 u31 u32 u33 u34 u35 u36 u37 u38 u39 u40 u41 u42 u43 u44 u45 u46 u47 u48 u49 u50 u51 u52 u53 u54 u55 u56 u57 u58 u59 u60 u61 u62 u63 u64 u65 u66 u67 u68 u69 u70 u71 u72 u73 u74 u75 u76 u77 u78 u79 u80 u81 u82 u83 u84 u85 u86 u87 u88 u89 u90 u91 u92 u93 u94 u95 u96 u97 u98 u99 u100 u101 u102 u103 u104 u105 u106 u107 u108 u109 u110 u111 u112 u113 u114 u115 u116 u117 u118 u119 u120 u121 u122 u123 u124 u125 u126 u127 u128 u129 u130 u131 u132 u133 u134 u135 u136 u137 u138 u139 u140 u141 u142 u143 u144 u145 u146 u147 u148 u149 u150 u151 u152 u153 u154 u155 u156 u157 u158 u159 u160 u161 u162 u163 u164 u165 u166 u167 u168 u169 u170 u171 u172 u173 u174 u175 u176 u177 u178 u179 u180 u181 u182 u183 u184 u185 u186 u187 u188 u189 u190 u191 u192 u193 u194 u195 u196 u197 u198 u199 u200 u201 u202 u203 u204 u205 u206 u207 u208 u209 u210 u211 u212 u213 u214 u215 u216 u217 u218 u219 u220 u221 u222 u223 u224 u225 u226 u227 u228 u229 u230 u231 u232 u233 u234 u235 u236 u237 u238 u239 u240 u241 u242 u243 u244 u245 u246 u247 u248 u249 u250 u251 u252 u253 u254 u255 u256 u257 u258 : Value} {code : Code} {Q : Exit → Act → World → Prop}
    (hcode : code = rest20) (hQ0 : Q = bodyPost Tryd.prog Tryd.f5 fun e w' => e = .returned (.bool true) ∧ Below W.heap.size W w')
    (h60 : L.length ≤ 60)
    (hb64 : bits < 2 ^ 64)
    (_hm5 : (m : Int) ≤ 500)
    (_hm0 : 0 < m)
    (_hl1 : L.length ≤ c)
    (_hl2 : c ≤ 2 ^ 63 - 1)
    (cHSh : ∀ V, Below W.heap.size W V → Calls Tryd.prog 11 #[] V fun e w' => e = .returned (.bool true) ∧ Below V.heap.size V w')
    (cHLM : SAt W (some ⟨gl, ol, none⟩) c L ∧ EAt enB 1 W M d more ∧ ∀ x, x ∈ more → x < 256)
    (cHokL : OkE L u)
    (cHpL : 0 < L.length)
    (cHzV : zv = arE u V)
    (cHLS : lessV zv zm = false)
    (cHPL : (propS L bits more).length ≤ m → checkS (propS L bits more) = 0 → 0 < (propS L bits more).length ∧ OkE (propS L bits more) u ∧ lessV (arE u (propS L bits more)) (arE u V) = false)
    (cH1 : w.heap[r]? = some (.cells #[.slice (some ⟨gl, ol, none⟩) L.length c] 24 (0, 0)))
    (cH2 : w.heap[r + 1]? = some (.cells #[.int .i64 u, .int .i64 (m : Int), .int .u64 bits, .slice M more.length d] 46 (0, 0)))
    (cHsL : SAt w (some ⟨gl, ol, none⟩) c L)
    (cHB : Below W.heap.size W w)
    (cH9 : w.heap[b9]? = some (.cells #[.int .i64 zv.h, .int .i64 zv.l] 31 (0, 0)))
    (cH18 : w.heap[b18]? = some (.cells #[.int .i64 zm.h, .int .i64 zm.l] 31 (0, 0)))
    (cH20 : w.heap[b19]? = some (.cells #[.int .i64 zl.h, .int .i64 zl.l] 31 (0, 0)))
    (cH22 : w.heap[b20]? = some (.cells #[.int .i64 zl.h, .int .i64 zl.l] 31 (0, 0)))
    : Code.wp Tryd.prog code Q ⟨#[u0, u1, .pointer (some ⟨r, 0, none⟩), .pointer (some ⟨r + 1, 0, none⟩), u4, .int .i64 (L.length : Int), .pointer (some ⟨b6, 0, none⟩), .int .i64 0, .pointer (some ⟨b9, 0, none⟩), .int .i64 0, .pointer (some ⟨b10, 0, none⟩), .int .i64 0, .pointer (some ⟨b11, 0, none⟩), .int .i64 0, .pointer (some ⟨b14, 0, none⟩), .int .i64 0, .pointer (some ⟨b16, 0, none⟩), .int .i64 0, .pointer (some ⟨b18, 0, none⟩), .int .i64 0, .pointer (some ⟨b19, 0, none⟩), .int .i64 0, .pointer (some ⟨b20, 0, none⟩), .int .i64 0, u24, u25, u26, u27, u28, u29, u30, u31, u32, u33, u34, u35, u36, u37, u38, u39, u40, u41, u42, u43, u44, u45, u46, u47, u48, u49, u50, u51, u52, u53, u54, u55, u56, u57, u58, u59, u60, u61, u62, u63, u64, u65, u66, u67, u68, u69, u70, u71, u72, u73, u74, u75, u76, u77, u78, u79, u80, u81, u82, u83, u84, u85, u86, u87, u88, u89, u90, u91, u92, u93, u94, u95, u96, u97, u98, u99, u100, u101, u102, u103, u104, u105, u106, u107, u108, u109, u110, u111, u112, u113, u114, u115, u116, u117, u118, u119, u120, u121, u122, u123, u124, u125, u126, u127, u128, u129, u130, u131, u132, u133, u134, u135, u136, u137, u138, u139, u140, u141, u142, u143, u144, u145, u146, u147, u148, u149, u150, u151, u152, u153, u154, u155, u156, u157, u158, u159, u160, u161, u162, u163, u164, u165, u166, u167, u168, u169, u170, u171, u172, u173, u174, u175, u176, u177, u178, u179, u180, u181, u182, u183, u184, u185, u186, u187, u188, u189, u190, u191, u192, u193, u194, u195, u196, u197, u198, u199, u200, u201, u202, u203, u204, u205, u206, u207, u208, u209, u210, u211, u212, u213, u214, u215, u216, u217, u218, u219, u220, u221, u222, u223, u224, u225, u226, u227, u228, u229, u230, u231, u232, u233, u234, u235, u236, u237, u238, u239, u240, u241, u242, u243, u244, u245, u246, u247, u248, u249, u250, u251, u252, u253, u254, u255, u256, u257, u258], []⟩ w := by
  subst hcode hQ0
  have HSh := Lib.hid cHSh
  have HLM := Lib.hid cHLM
  have HokL := Lib.hid cHokL
  have HpL := Lib.hid cHpL
  have HzV := Lib.hid cHzV
  have HLS := Lib.hid cHLS
  have HPL := Lib.hid cHPL
  have H1 := Lib.hid cH1
  have H2 := Lib.hid cH2
  have HsL := Lib.hid cHsL
  have HB := Lib.hid cHB
  have H9 := Lib.hid cH9
  have H18 := Lib.hid cH18
  have H20 := Lib.hid cH20
  have H22 := Lib.hid cH22
  clear cHSh cHLM cHokL cHpL cHzV cHLS cHPL cH1 cH2 cHsL cHB cH9 cH18 cH20 cH22
  conv => arg 2; whnf
  obtain ⟨p8a, p8b⟩ := two_at H9.out
  obtain ⟨q8a, q8b⟩ := two_at H18.out
  obtain ⟨r8a, r8b⟩ := two_at H20.out
  obtain ⟨t8a, t8b⟩ := two_at H22.out
  have hne : ∀ w, (binOp .neq 31 (.agg #[.int .i64 zl.h, .int .i64 zl.l]) (.agg #[.int .i64 zl.h, .int .i64 zl.l])).run Tryd.prog w = .ok (.bool false) w := fun w => by rw [neq_area]; simp
  have hlr := lessR_ok zv zm
  rw [HLS.out] at hlr
  have HLR := Lib.hid hlr
  clear hlr
  go_upto_region 23 with (go_at_call 22; with_reducible refine (HLR.out _).mono ?_; rintro e V7 ⟨rfl, hb7⟩; replace p8a := cell_keep2 hb7 p8a; replace p8b := cell_keep2 hb7 p8b; replace r8a := cell_keep2 hb7 r8a; replace r8b := cell_keep2 hb7 r8b; replace t8a := cell_keep2 hb7 t8a; replace t8b := cell_keep2 hb7 t8b)
  clear p8a p8b q8a q8b r8a r8b t8a t8b hne HLR
  replace H1 := Lib.hid (heap_keep H1.out hb7)
  replace H2 := Lib.hid (heap_keep H2.out hb7)
  replace HsL := Lib.hid (HsL.out.below hb7 (Nat.le_refl _))
  replace HB := Lib.hid (HB.out.trans (hb7.mono HB.out.size))
  replace H9 := Lib.hid (heap_keep H9.out hb7)
  replace H18 := Lib.hid (heap_keep H18.out hb7)
  replace H20 := Lib.hid (heap_keep H20.out hb7)
  replace H22 := Lib.hid (heap_keep H22.out hb7)
  clear hb7
  obtain ⟨y0, y1, y2, y3⟩ := four_at H2.out
  have s0 := one_at H1.out
  obtain ⟨WP, hWP⟩ : ∃ X, X = propS L bits more := ⟨_, rfl⟩
  have hpr := proposed_ok (some ⟨gl, ol, none⟩) c L u (m : Int) bits M d more V7 HsL.out (HLM.out.2.1.below HB.out (Nat.le_refl _)) HokL.out.ok h60 hb64 HLM.out.2.2
  rw [← hWP] at hpr HPL
  have HPR := Lib.hid hpr
  clear hpr hWP
  go_upto_region 24 with (go_at_call 23; with_reducible refine HPR.out.mono ?_; rintro e v5 ⟨A4, c4, rfl, hs1, hb1⟩)
  have hxb := hb1.trans ((below_box v5 (.cells #[.slice A4 WP.length c4] 24)).mono hb1.size)
  have k6 := new_at v5 (.cells #[.slice A4 WP.length c4] 24)
  have hs2 := hs1.below (below_box v5 (.cells #[.slice A4 WP.length c4] 24)) (Nat.le_refl _)
  obtain ⟨b24, hb6⟩ : ∃ a, a = v5.heap.size := ⟨_, rfl⟩
  rw [← hb6] at k6 ⊢
  generalize v5.alloc (.cells #[.slice A4 WP.length c4] 24) = U5 at *
  have HsW := Lib.hid hs2
  have H24 := Lib.hid k6
  clear hb6 k6 hs1 hs2 hb1 y0 y1 y2 y3 s0 HPR
  replace H1 := Lib.hid (heap_keep H1.out hxb)
  replace H2 := Lib.hid (heap_keep H2.out hxb)
  replace HsL := Lib.hid (HsL.out.below hxb (Nat.le_refl _))
  replace HB := Lib.hid (HB.out.trans (hxb.mono HB.out.size))
  replace H9 := Lib.hid (heap_keep H9.out hxb)
  replace H18 := Lib.hid (heap_keep H18.out hxb)
  replace H20 := Lib.hid (heap_keep H20.out hxb)
  replace H22 := Lib.hid (heap_keep H22.out hxb)
  clear hxb
  obtain ⟨y0, y1, y2, y3⟩ := four_at H2.out
  have w24 := one_at H24.out
  by_cases hw : m < WP.length
  · have hwi : (m : Int) < (WP.length : Int) := by omega
    go_wp2_with (go_at_call 11; refine (HSh.out _ HB.out).mono ?_; rintro e v9 ⟨rfl, hb9⟩)
    go_ret
    exact ⟨rfl, HB.out.trans (hb9.mono HB.out.size)⟩
  have hwi : ¬ (m : Int) < (WP.length : Int) := by omega
  have hck := check_ok A4 c4 WP U5 HsW.out
  by_cases hcw : ¬ checkS WP = 0
  · have hne : ((checkS WP) == 0) = false := by simpa using hcw
    generalize checkS WP = er at *
    have HCK := Lib.hid hck
    clear hck
    go_wp2_with (first | (go_at_call 24; with_reducible refine HCK.out.mono ?_; rintro e v8 ⟨rfl, hb8⟩; have H8 := Lib.hid (HB.out.trans (hb8.mono HB.out.size)); clear hb8) | (go_at_call 11; refine (HSh.out _ H8.out).mono ?_; rintro e v9 ⟨rfl, hb9⟩))
    go_ret
    exact ⟨rfl, H8.out.trans (hb9.mono H8.out.size)⟩
  have hcw0 := Classical.not_not.1 hcw
  rw [hcw0] at hck
  have HCK := Lib.hid hck
  obtain ⟨hWp, hWok, hWls⟩ := HPL.out (by omega) hcw0
  obtain ⟨zw, hzw⟩ : ∃ z, z = arE u WP := ⟨_, rfl⟩
  rw [← hzw, ← HzV.out] at hWls
  have HzW := Lib.hid hzw
  have HpW := Lib.hid hWp
  have HokW := Lib.hid hWok
  have HWL := Lib.hid hWls
  clear hck hcw hcw0 hzw hWok hWls HPL hWp
  go_upto_region 26 with (go_at_call 24; with_reducible refine HCK.out.mono ?_; rintro e V8 ⟨rfl, hb8⟩)
  clear y0 y1 y2 y3 w24 HCK
  replace H1 := Lib.hid (heap_keep H1.out hb8)
  replace H2 := Lib.hid (heap_keep H2.out hb8)
  replace HsL := Lib.hid (HsL.out.below hb8 (Nat.le_refl _))
  replace HB := Lib.hid (HB.out.trans (hb8.mono HB.out.size))
  replace H9 := Lib.hid (heap_keep H9.out hb8)
  replace H18 := Lib.hid (heap_keep H18.out hb8)
  replace H20 := Lib.hid (heap_keep H20.out hb8)
  replace H22 := Lib.hid (heap_keep H22.out hb8)
  replace H24 := Lib.hid (heap_keep H24.out hb8)
  replace HsW := Lib.hid (HsW.out.below hb8 (Nat.le_refl _))
  clear hb8
  obtain ⟨gw, ow, rfl, _⟩ := HsW.out.s2 HpW.out
  -- region 26
  obtain ⟨xa, hxa⟩ : ∃ x, x = (sm WP 0).a := ⟨_, rfl⟩
  have hAr : ∀ Y, Below V8.heap.size V8 Y → Calls Tryd.prog 12 #[sv (some ⟨gw, ow, none⟩) WP.length c4, .int .i64 xa, .int .i64 u] Y fun e w' => e = .returned (.tuple #[.agg #[.int .i64 zw.h, .int .i64 zw.l], .int .i64 0]) ∧ Below Y.heap.size Y w' := fun Y hY => by
    have := Area_ok (some ⟨gw, ow, none⟩) c4 WP (sm WP 0).a u Y (HsW.out.below hY (Nat.le_refl _))
    rw [areaW HokW.out HpW.out, ← HzW.out, ← hxa] at this
    exact this
  have HAr := Lib.hid (And.intro hAr hxa)
  clear hAr hxa
  go_upto_region 26 with (fail)
  go_cut [25, 26] from 27 to 258 (fun p q wx => ∃ b, p = .pointer (some ⟨b, 0, none⟩) ∧ q = .int .i64 0 ∧ wx.heap[b]? = some (.cells #[.int .i64 zw.h, .int .i64 zw.l] 31 (0, 0)) ∧ Below V8.heap.size V8 wx)
  case first =>
    refine cov_r26 b24 gw ow WP.length c4 (r + 1) xa u (zw.h) (zw.l) _ _ _ _ _ _ _ _ _ _ _ _ _ _ _ _ _ _ _ _ _ _ _ _ _ _ _ _ _ _ _ _ _ _ _ _ _ _ _ _ _ _ _ _ _ _ _ _ _ _ _ _ _ _ _ _ _ _ _ _ _ _ _ _ _ _ _ _ _ _ _ _ _ _ _ _ _ _ _ _ _ _ _ _ _ _ _ _ _ _ _ _ _ _ _ _ _ _ _ _ _ _ _ _ _ _ _ _ _ _ _ _ _ _ _ _ _ _ _ _ _ _ _ _ _ _ _ _ _ _ _ _ _ _ _ _ _ _ _ _ _ _ _ _ _ _ _ _ _ _ _ _ _ _ _ _ _ _ _ _ _ _ _ _ _ _ _ _ _ _ _ _ _ _ _ _ _ _ _ _ _ _ _ _ _ _ _ _ _ _ _ _ _ _ _ _ _ _ _ _ _ _ _ _ _ _ _ _ _ _ _ _ _ _ _ _ _ _ _ _ _ _ _ _ _ _ _ _ _ _ _ _ _ _ _ _ _ _ _ _ _ _ _ _ _ _ _ _ _ _ _ _ _ _ _ _ _ _ _ (one_at H24.out) (by rw [HAr.out.2]; exact sat_first HsW.out HpW.out) (four_at H2.out).1 HpW.out HAr.out.1 (fun _ _ _ _ _ h => h) ?_
    intro b w' v236 v237 v238 v239 v240 v241 v242 v243 v244 v245 v246 v247 h8 hrun
    (try go_wp2_with (fail))
    go_meet
    exact ⟨b, rfl, rfl, h8, hrun⟩
  case rest =>
  clear HAr
  obtain ⟨b26, rfl, rfl, k8, hbw⟩ := hcut
  obtain ⟨Z7, hZ7⟩ : ∃ V, V = wc := ⟨_, rfl⟩
  subst hZ7
  replace H1 := Lib.hid (heap_keep H1.out hbw)
  replace H2 := Lib.hid (heap_keep H2.out hbw)
  replace HsL := Lib.hid (HsL.out.below hbw (Nat.le_refl _))
  replace HB := Lib.hid (HB.out.trans (hbw.mono HB.out.size))
  replace H9 := Lib.hid (heap_keep H9.out hbw)
  replace H18 := Lib.hid (heap_keep H18.out hbw)
  replace H20 := Lib.hid (heap_keep H20.out hbw)
  replace H22 := Lib.hid (heap_keep H22.out hbw)
  replace H24 := Lib.hid (heap_keep H24.out hbw)
  replace HsW := Lib.hid (HsW.out.below hbw (Nat.le_refl _))
  have H26 := Lib.hid k8
  clear k8 hbw
  obtain ⟨p8a, p8b⟩ := two_at H9.out
  obtain ⟨q8a, q8b⟩ := two_at H26.out
  have hlr := lessR_ok zw zv
  rw [HWL.out] at hlr
  have HLR := Lib.hid hlr
  clear hlr
  go_wp2_with (first | (go_at_call 22; with_reducible refine (HLR.out _).mono ?_; rintro e V9 ⟨rfl, hb7⟩; have H9b := Lib.hid (HB.out.trans (hb7.mono HB.out.size)); clear hb7) | (go_at_call 11; refine (HSh.out _ H9b.out).mono ?_; rintro e v9 ⟨rfl, hb9⟩))
  go_ret
  exact ⟨rfl, H9b.out.trans (hb9.mono H9b.out.size)⟩
end Sx
end Go.Proofs.YtionocafkaemiaaDoor
namespace Go.Proofs.YtionocafkaemiaaDoor
open Go.RowKit Go.Sort Go.Lib
namespace Sx
attribute [local irreducible] wpQuiet
noncomputable def rest11 : Code := (Tryd.f5.body.bind (restAfter 11)).getD .skip
set_option maxRecDepth 1000000 in
set_option maxHeartbeats 16000000 in
theorem covers_b {W w : World} {r gl ol c d m bits m2 b6 b9 b10 b11 gv ov c1 : Nat} {u f10 f12 pk : Int} {M : Option Addr} {more : List Nat} {L V VM VA : List Sm} {zv zm zl : Ar} {u0 u1 u4 u14 u15 u16 u17 u18 u19 u20 u21 u22 u23 u24 u25 u26 u27 u28 u29 u30 u31 u32 u33 u34 u35 u36 u37 u38 u39 u40 u41 u42 u43 u44 u45 u46 u47 u48 u49 u50 u51 u52 u53 u54 u55 u56 u57 u58 u59 u60 u61 u62 u63 u64 u65 u66 u67 u68 u69 u70 u71 u72 u73 u74 u75 u76 u77 u78 u79 u80 u81 u82 u83 u84 u85 u86 u87 u88 u89 u90 u91 u92 u93 u94 u95 u96 u97 u98 u99 u100 u101 u102 u103 u104 u105 u106 u107 u108 u109 u110 u111 u112 u113 u114 u115 u116 u117 u118 u119 u120 u121 u122 u123 u124 u125 u126 u127 u128 u129 u130 u131 u132 u133 u134 u135 u136 u137 u138 u139 u140 u141 u142 u143 u144 u145 u146 u147 u148 u149 u150 u151 u152 u153 u154 u155 u156 u157 u158 u159 u160 u161 u162 u163 u164 u165 u166 u167 u168 u169 u170 u171 u172 u173 u174 u175 u176 u177 u178 u179 u180 u181 u182 u183 u184 u185 u186 u187 u188 u189 u190 u191 u192 u193 u194 u195 u196 u197 u198 u199 u200 u201 u202 u203 u204 u205 u206 u207 u208 u209 u210 u211 u212 u213 u214 u215 u216 u217 u218 u219 u220 u221 u222 u223 u224 u225 u226 u227 u228 u229 u230 u231 u232 u233 u234 u235 u236 u237 u238 u239 u240 u241 u242 u243 u244 u245 u246 u247 u248 u249 u250 u251 u252 u253 u254 u255 u256 u257 u258 : Value} {code : Code} {Q : Exit → Act → World → Prop}
    (hcode : code = rest11) (hQ0 : Q = bodyPost Tryd.prog Tryd.f5 fun e w' => e = .returned (.bool true) ∧ Below W.heap.size W w')
    (h60 : L.length ≤ 60)
    (hb64 : bits < 2 ^ 64)
    (hm5 : (m : Int) ≤ 500)
    (hm0 : 0 < m)
    (hl1 : L.length ≤ c)
    (hl2 : c ≤ 2 ^ 63 - 1)
    (cHSh : ∀ V, Below W.heap.size W V → Calls Tryd.prog 11 #[] V fun e w' => e = .returned (.bool true) ∧ Below V.heap.size V w')
    (cHE2 : ∀ V, Below W.heap.size W V → Calls Tryd.prog 17 #[sv (some ⟨gl, ol, none⟩) L.length c, .int .i64 u, .int .i64 (m2 : Int)] V fun e w' => ∃ A' c', e = .returned (.tuple #[sv A' VM.length c', .int .i64 0]) ∧ SAt w' A' c' VM ∧ Below V.heap.size V w')
    (cHE3 : ∀ V, Below W.heap.size W V → Calls Tryd.prog 17 #[sv (some ⟨gl, ol, none⟩) L.length c, .int .i64 u, .int .i64 (L.length : Int)] V fun e w' => ∃ A' c', e = .returned (.tuple #[sv A' VA.length c', .int .i64 0]) ∧ SAt w' A' c' VA ∧ Below V.heap.size V w')
    (cHLM : SAt W (some ⟨gl, ol, none⟩) c L ∧ EAt enB 1 W M d more ∧ ∀ x, x ∈ more → x < 256)
    (cHokL : OkE L u)
    (cHpL : 0 < L.length)
    (cHokV : OkE V u)
    (cHpV : 0 < V.length)
    (cHokM : OkE VM u)
    (cHpM : 0 < VM.length)
    (cHokA : OkE VA u)
    (cHpA : 0 < VA.length)
    (cHzV : zv = arE u V)
    (cHzM : zm = arE u VM)
    (cHzL : zl = arE u L)
    (cHzA : zl = arE u VA)
    (cHLS : lessV zv zm = false)
    (cHPL : (propS L bits more).length ≤ m → checkS (propS L bits more) = 0 → 0 < (propS L bits more).length ∧ OkE (propS L bits more) u ∧ lessV (arE u (propS L bits more)) (arE u V) = false)
    (cHM2 : m2 = min (m + 1) 500 ∧ (m2 : Int) = if (m : Int) + 1 < 500 then (m : Int) + 1 else 500)
    (cH1 : w.heap[r]? = some (.cells #[.slice (some ⟨gl, ol, none⟩) L.length c] 24 (0, 0)))
    (cH2 : w.heap[r + 1]? = some (.cells #[.int .i64 u, .int .i64 (m : Int), .int .u64 bits, .slice M more.length d] 46 (0, 0)))
    (cHsL : SAt w (some ⟨gl, ol, none⟩) c L)
    (cHB : Below W.heap.size W w)
    (cH6 : w.heap[b6]? = some (.cells #[.slice (some ⟨gv, ov, none⟩) V.length c1] 24 (0, 0)))
    (cHsV : SAt w (some ⟨gv, ov, none⟩) c1 V)
    (cH9 : w.heap[b9]? = some (.cells #[.int .i64 zv.h, .int .i64 zv.l] 31 (0, 0)))
    (cH10 : w.heap[b10]? = some (.cells #[.int .i64 f10, .int .i64 pk] 49 (0, 0)))
    (cH12 : w.heap[b11]? = some (.cells #[.int .i64 f12, .int .i64 pk] 49 (0, 0)))
    : Code.wp Tryd.prog code Q ⟨#[u0, u1, .pointer (some ⟨r, 0, none⟩), .pointer (some ⟨r + 1, 0, none⟩), u4, .int .i64 (L.length : Int), .pointer (some ⟨b6, 0, none⟩), .int .i64 0, .pointer (some ⟨b9, 0, none⟩), .int .i64 0, .pointer (some ⟨b10, 0, none⟩), .int .i64 0, .pointer (some ⟨b11, 0, none⟩), .int .i64 0, u14, u15, u16, u17, u18, u19, u20, u21, u22, u23, u24, u25, u26, u27, u28, u29, u30, u31, u32, u33, u34, u35, u36, u37, u38, u39, u40, u41, u42, u43, u44, u45, u46, u47, u48, u49, u50, u51, u52, u53, u54, u55, u56, u57, u58, u59, u60, u61, u62, u63, u64, u65, u66, u67, u68, u69, u70, u71, u72, u73, u74, u75, u76, u77, u78, u79, u80, u81, u82, u83, u84, u85, u86, u87, u88, u89, u90, u91, u92, u93, u94, u95, u96, u97, u98, u99, u100, u101, u102, u103, u104, u105, u106, u107, u108, u109, u110, u111, u112, u113, u114, u115, u116, u117, u118, u119, u120, u121, u122, u123, u124, u125, u126, u127, u128, u129, u130, u131, u132, u133, u134, u135, u136, u137, u138, u139, u140, u141, u142, u143, u144, u145, u146, u147, u148, u149, u150, u151, u152, u153, u154, u155, u156, u157, u158, u159, u160, u161, u162, u163, u164, u165, u166, u167, u168, u169, u170, u171, u172, u173, u174, u175, u176, u177, u178, u179, u180, u181, u182, u183, u184, u185, u186, u187, u188, u189, u190, u191, u192, u193, u194, u195, u196, u197, u198, u199, u200, u201, u202, u203, u204, u205, u206, u207, u208, u209, u210, u211, u212, u213, u214, u215, u216, u217, u218, u219, u220, u221, u222, u223, u224, u225, u226, u227, u228, u229, u230, u231, u232, u233, u234, u235, u236, u237, u238, u239, u240, u241, u242, u243, u244, u245, u246, u247, u248, u249, u250, u251, u252, u253, u254, u255, u256, u257, u258], []⟩ w := by
  subst hcode hQ0
  have HSh := Lib.hid cHSh
  have HE2 := Lib.hid cHE2
  have HE3 := Lib.hid cHE3
  have HLM := Lib.hid cHLM
  have HokL := Lib.hid cHokL
  have HpL := Lib.hid cHpL
  have HokV := Lib.hid cHokV
  have HpV := Lib.hid cHpV
  have HokM := Lib.hid cHokM
  have HpM := Lib.hid cHpM
  have HokA := Lib.hid cHokA
  have HpA := Lib.hid cHpA
  have HzV := Lib.hid cHzV
  have HzM := Lib.hid cHzM
  have HzL := Lib.hid cHzL
  have HzA := Lib.hid cHzA
  have HLS := Lib.hid cHLS
  have HPL := Lib.hid cHPL
  have HM2 := Lib.hid cHM2
  have H1 := Lib.hid cH1
  have H2 := Lib.hid cH2
  have HsL := Lib.hid cHsL
  have HB := Lib.hid cHB
  have H6 := Lib.hid cH6
  have HsV := Lib.hid cHsV
  have H9 := Lib.hid cH9
  have H10 := Lib.hid cH10
  have H12 := Lib.hid cH12
  clear cHSh cHE2 cHE3 cHLM cHokL cHpL cHokV cHpV cHokM cHpM cHokA cHpA cHzV cHzM cHzL cHzA cHLS cHPL cHM2 cH1 cH2 cHsL cHB cH6 cHsV cH9 cH10 cH12
  conv => arg 2; whnf
  have t10 := (two_at H10.out).2
  have t12 := (two_at H12.out).2
  have hm5n : m ≤ 500 := by omega
  have qw : IntKind.i64.wrap ((m : Int) + 1) = (m : Int) + 1 := IntWalk.i64_in _ (by omega)
  have qm1 : (if (m : Int) + 1 < 500 then (m : Int) + 1 else 500) = (m2 : Int) := HM2.out.2.symm
  have qm2 : min ((m : Int) + 1) 500 = (m2 : Int) := by have := HM2.out.1; omega
  have qm3 : (if (500 : Int) < (m : Int) + 1 then 500 else (m : Int) + 1) = (m2 : Int) := by
    have := HM2.out.1
    rcases Nat.lt_or_ge 500 (m + 1) with h5 | h5
    · rw [if_pos (by omega)]; omega
    · rw [if_neg (by omega)]; omega
  obtain ⟨y0, y1, y2, y3⟩ := four_at H2.out
  have s0 := one_at H1.out
  go_upto_region 15 with (go_at_call 17; with_reducible refine (HE2.out _ HB.out).mono ?_; rintro e v3 ⟨A2, c2, rfl, hs1, hb1⟩)
  have hxb := hb1.trans ((below_box v3 (.cells #[.slice A2 VM.length c2] 24)).mono hb1.size)
  have k6 := new_at v3 (.cells #[.slice A2 VM.length c2] 24)
  have hs2 := hs1.below (below_box v3 (.cells #[.slice A2 VM.length c2] 24)) (Nat.le_refl _)
  obtain ⟨b14, hb6⟩ : ∃ a, a = v3.heap.size := ⟨_, rfl⟩
  rw [← hb6] at k6 ⊢
  generalize v3.alloc (.cells #[.slice A2 VM.length c2] 24) = U3 at *
  obtain ⟨gm, om, rfl, _⟩ := hs2.s2 HpM.out
  have HsM := Lib.hid hs2
  have H14 := Lib.hid k6
  clear hb6 k6 hs1 hs2 hb1 y0 y1 y2 y3 s0
  replace H1 := Lib.hid (heap_keep H1.out hxb)
  replace H2 := Lib.hid (heap_keep H2.out hxb)
  replace HsL := Lib.hid (HsL.out.below hxb (Nat.le_refl _))
  replace HB := Lib.hid (HB.out.trans (hxb.mono HB.out.size))
  replace H6 := Lib.hid (heap_keep H6.out hxb)
  replace HsV := Lib.hid (HsV.out.below hxb (Nat.le_refl _))
  replace H9 := Lib.hid (heap_keep H9.out hxb)
  replace H10 := Lib.hid (heap_keep H10.out hxb)
  replace H12 := Lib.hid (heap_keep H12.out hxb)
  clear hxb
  clear t10 t12 qw qm1 qm2 qm3 HE2
  obtain ⟨y0, y1, y2, y3⟩ := four_at H2.out
  have s0 := one_at H1.out
  go_upto_region 16 with (go_at_call 17; with_reducible refine (HE3.out _ HB.out).mono ?_; rintro e v4 ⟨A3, c3, rfl, hs1, hb1⟩)
  have hxb := hb1.trans ((below_box v4 (.cells #[.slice A3 VA.length c3] 24)).mono hb1.size)
  have k6 := new_at v4 (.cells #[.slice A3 VA.length c3] 24)
  have hs2 := hs1.below (below_box v4 (.cells #[.slice A3 VA.length c3] 24)) (Nat.le_refl _)
  obtain ⟨b16, hb6⟩ : ∃ a, a = v4.heap.size := ⟨_, rfl⟩
  rw [← hb6] at k6 ⊢
  generalize v4.alloc (.cells #[.slice A3 VA.length c3] 24) = U4 at *
  obtain ⟨ga, oa, rfl, _⟩ := hs2.s2 HpA.out
  have HsA := Lib.hid hs2
  have H16 := Lib.hid k6
  clear hb6 k6 hs1 hs2 hb1 y0 y1 y2 y3 s0
  replace H1 := Lib.hid (heap_keep H1.out hxb)
  replace H2 := Lib.hid (heap_keep H2.out hxb)
  replace HsL := Lib.hid (HsL.out.below hxb (Nat.le_refl _))
  replace HB := Lib.hid (HB.out.trans (hxb.mono HB.out.size))
  replace H6 := Lib.hid (heap_keep H6.out hxb)
  replace HsV := Lib.hid (HsV.out.below hxb (Nat.le_refl _))
  replace H9 := Lib.hid (heap_keep H9.out hxb)
  replace H10 := Lib.hid (heap_keep H10.out hxb)
  replace H12 := Lib.hid (heap_keep H12.out hxb)
  replace H14 := Lib.hid (heap_keep H14.out hxb)
  replace HsM := Lib.hid (HsM.out.below hxb (Nat.le_refl _))
  clear hxb
  clear HE3
  have u14 := one_at H14.out
  have u16 := one_at H16.out
  have hMn2 : ((VM.length : Int) == 0) = false := by have := HpM.out; simpa using (show ¬ (VM.length : Int) = 0 by omega)
  have hAn2 : ((VA.length : Int) == 0) = false := by have := HpA.out; simpa using (show ¬ (VA.length : Int) = 0 by omega)
  go_upto_region 18 with (fail)
  clear u14 u16 hMn2 hAn2
  -- region 18
  obtain ⟨xa, hxa⟩ : ∃ x, x = (sm VM 0).a := ⟨_, rfl⟩
  have hAr : ∀ Y, Below U4.heap.size U4 Y → Calls Tryd.prog 12 #[sv (some ⟨gm, om, none⟩) VM.length c2, .int .i64 xa, .int .i64 u] Y fun e w' => e = .returned (.tuple #[.agg #[.int .i64 zm.h, .int .i64 zm.l], .int .i64 0]) ∧ Below Y.heap.size Y w' := fun Y hY => by
    have := Area_ok (some ⟨gm, om, none⟩) c2 VM (sm VM 0).a u Y (HsM.out.below hY (Nat.le_refl _))
    rw [areaW HokM.out HpM.out, ← HzM.out, ← hxa] at this
    exact this
  have HAr := Lib.hid (And.intro hAr hxa)
  clear hAr hxa
  go_upto_region 18 with (fail)
  go_cut [18, 19] from 27 to 258 (fun p q wx => ∃ b, p = .pointer (some ⟨b, 0, none⟩) ∧ q = .int .i64 0 ∧ wx.heap[b]? = some (.cells #[.int .i64 zm.h, .int .i64 zm.l] 31 (0, 0)) ∧ Below U4.heap.size U4 wx)
  case first =>
    refine cov_r18 b14 gm om VM.length c2 (r + 1) xa u (zm.h) (zm.l) _ _ _ _ _ _ _ _ _ _ _ _ _ _ _ _ _ _ _ _ _ _ _ _ _ _ _ _ _ _ _ _ _ _ _ _ _ _ _ _ _ _ _ _ _ _ _ _ _ _ _ _ _ _ _ _ _ _ _ _ _ _ _ _ _ _ _ _ _ _ _ _ _ _ _ _ _ _ _ _ _ _ _ _ _ _ _ _ _ _ _ _ _ _ _ _ _ _ _ _ _ _ _ _ _ _ _ _ _ _ _ _ _ _ _ _ _ _ _ _ _ _ _ _ _ _ _ _ _ _ _ _ _ _ _ _ _ _ _ _ _ _ _ _ _ _ _ _ _ _ _ _ _ _ _ _ _ _ _ _ _ _ _ _ _ _ _ _ _ _ _ _ _ _ _ _ _ _ _ _ _ _ _ _ _ _ _ _ _ _ _ _ _ _ _ _ _ _ _ _ _ _ _ _ _ _ _ _ _ _ _ _ _ _ _ _ _ _ _ _ _ _ _ _ _ _ _ _ _ _ _ _ _ _ _ _ _ _ _ _ _ _ _ _ _ _ _ _ _ _ _ _ _ _ _ _ _ _ _ (one_at H14.out) (by rw [HAr.out.2]; exact sat_first HsM.out HpM.out) (four_at H2.out).1 HpM.out HAr.out.1 (fun _ _ _ _ _ h => h) ?_
    intro b w' v165 v166 v167 v168 v169 v170 v171 v172 v173 v174 v175 v176 h8 hrun
    (try go_wp2_with (fail))
    go_meet
    exact ⟨b, rfl, rfl, h8, hrun⟩
  case rest =>
  clear HAr
  obtain ⟨b18, rfl, rfl, k8, hbw⟩ := hcut
  obtain ⟨Z4, hZ4⟩ : ∃ V, V = wc := ⟨_, rfl⟩
  subst hZ4
  replace H1 := Lib.hid (heap_keep H1.out hbw)
  replace H2 := Lib.hid (heap_keep H2.out hbw)
  replace HsL := Lib.hid (HsL.out.below hbw (Nat.le_refl _))
  replace HB := Lib.hid (HB.out.trans (hbw.mono HB.out.size))
  replace H6 := Lib.hid (heap_keep H6.out hbw)
  replace HsV := Lib.hid (HsV.out.below hbw (Nat.le_refl _))
  replace H9 := Lib.hid (heap_keep H9.out hbw)
  replace H10 := Lib.hid (heap_keep H10.out hbw)
  replace H12 := Lib.hid (heap_keep H12.out hbw)
  replace H14 := Lib.hid (heap_keep H14.out hbw)
  replace HsM := Lib.hid (HsM.out.below hbw (Nat.le_refl _))
  replace H16 := Lib.hid (heap_keep H16.out hbw)
  replace HsA := Lib.hid (HsA.out.below hbw (Nat.le_refl _))
  have H18 := Lib.hid k8
  clear k8 hbw
  -- region 19
  obtain ⟨xa, hxa⟩ : ∃ x, x = (sm VA 0).a := ⟨_, rfl⟩
  have hAr : ∀ Y, Below Z4.heap.size Z4 Y → Calls Tryd.prog 12 #[sv (some ⟨ga, oa, none⟩) VA.length c3, .int .i64 xa, .int .i64 u] Y fun e w' => e = .returned (.tuple #[.agg #[.int .i64 zl.h, .int .i64 zl.l], .int .i64 0]) ∧ Below Y.heap.size Y w' := fun Y hY => by
    have := Area_ok (some ⟨ga, oa, none⟩) c3 VA (sm VA 0).a u Y (HsA.out.below hY (Nat.le_refl _))
    rw [areaW HokA.out HpA.out, ← HzA.out, ← hxa] at this
    exact this
  have HAr := Lib.hid (And.intro hAr hxa)
  clear hAr hxa
  go_upto_region 19 with (fail)
  go_cut [20, 21] from 27 to 258 (fun p q wx => ∃ b, p = .pointer (some ⟨b, 0, none⟩) ∧ q = .int .i64 0 ∧ wx.heap[b]? = some (.cells #[.int .i64 zl.h, .int .i64 zl.l] 31 (0, 0)) ∧ Below Z4.heap.size Z4 wx)
  case first =>
    refine cov_r19 b16 ga oa VA.length c3 (r + 1) xa u (zl.h) (zl.l) _ _ _ _ _ _ _ _ _ _ _ _ _ _ _ _ _ _ _ _ _ _ _ _ _ _ _ _ _ _ _ _ _ _ _ _ _ _ _ _ _ _ _ _ _ _ _ _ _ _ _ _ _ _ _ _ _ _ _ _ _ _ _ _ _ _ _ _ _ _ _ _ _ _ _ _ _ _ _ _ _ _ _ _ _ _ _ _ _ _ _ _ _ _ _ _ _ _ _ _ _ _ _ _ _ _ _ _ _ _ _ _ _ _ _ _ _ _ _ _ _ _ _ _ _ _ _ _ _ _ _ _ _ _ _ _ _ _ _ _ _ _ _ _ _ _ _ _ _ _ _ _ _ _ _ _ _ _ _ _ _ _ _ _ _ _ _ _ _ _ _ _ _ _ _ _ _ _ _ _ _ _ _ _ _ _ _ _ _ _ _ _ _ _ _ _ _ _ _ _ _ _ _ _ _ _ _ _ _ _ _ _ _ _ _ _ _ _ _ _ _ _ _ _ _ _ _ _ _ _ _ _ _ _ _ _ _ _ _ _ _ _ _ _ _ _ _ _ _ _ _ _ _ _ _ _ _ _ _ (one_at H16.out) (by rw [HAr.out.2]; exact sat_first HsA.out HpA.out) (four_at H2.out).1 HpA.out HAr.out.1 (fun _ _ _ _ _ h => h) ?_
    intro b w' v177 v178 v179 v180 v181 v182 v183 v184 v185 v186 v187 v188 h8 hrun
    (try go_wp2_with (fail))
    go_meet
    exact ⟨b, rfl, rfl, h8, hrun⟩
  case rest =>
  clear HAr
  obtain ⟨b19, rfl, rfl, k8, hbw⟩ := hcut
  obtain ⟨Z5, hZ5⟩ : ∃ V, V = wc := ⟨_, rfl⟩
  subst hZ5
  replace H1 := Lib.hid (heap_keep H1.out hbw)
  replace H2 := Lib.hid (heap_keep H2.out hbw)
  replace HsL := Lib.hid (HsL.out.below hbw (Nat.le_refl _))
  replace HB := Lib.hid (HB.out.trans (hbw.mono HB.out.size))
  replace H6 := Lib.hid (heap_keep H6.out hbw)
  replace HsV := Lib.hid (HsV.out.below hbw (Nat.le_refl _))
  replace H9 := Lib.hid (heap_keep H9.out hbw)
  replace H10 := Lib.hid (heap_keep H10.out hbw)
  replace H12 := Lib.hid (heap_keep H12.out hbw)
  replace H14 := Lib.hid (heap_keep H14.out hbw)
  replace HsM := Lib.hid (HsM.out.below hbw (Nat.le_refl _))
  replace H16 := Lib.hid (heap_keep H16.out hbw)
  replace HsA := Lib.hid (HsA.out.below hbw (Nat.le_refl _))
  replace H18 := Lib.hid (heap_keep H18.out hbw)
  have H20 := Lib.hid k8
  clear k8 hbw
  -- region 20
  obtain ⟨xa, hxa⟩ : ∃ x, x = (sm L 0).a := ⟨_, rfl⟩
  have hAr : ∀ Y, Below Z5.heap.size Z5 Y → Calls Tryd.prog 12 #[sv (some ⟨gl, ol, none⟩) L.length c, .int .i64 xa, .int .i64 u] Y fun e w' => e = .returned (.tuple #[.agg #[.int .i64 zl.h, .int .i64 zl.l], .int .i64 0]) ∧ Below Y.heap.size Y w' := fun Y hY => by
    have := Area_ok (some ⟨gl, ol, none⟩) c L (sm L 0).a u Y (HsL.out.below hY (Nat.le_refl _))
    rw [areaW HokL.out HpL.out, ← HzL.out, ← hxa] at this
    exact this
  have HAr := Lib.hid (And.intro hAr hxa)
  clear hAr hxa
  go_upto_region 20 with (fail)
  go_cut [22, 23] from 27 to 258 (fun p q wx => ∃ b, p = .pointer (some ⟨b, 0, none⟩) ∧ q = .int .i64 0 ∧ wx.heap[b]? = some (.cells #[.int .i64 zl.h, .int .i64 zl.l] 31 (0, 0)) ∧ Below Z5.heap.size Z5 wx)
  case first =>
    refine cov_r20 r gl ol L.length c (r + 1) xa u (zl.h) (zl.l) _ _ _ _ _ _ _ _ _ _ _ _ _ _ _ _ _ _ _ _ _ _ _ _ _ _ _ _ _ _ _ _ _ _ _ _ _ _ _ _ _ _ _ _ _ _ _ _ _ _ _ _ _ _ _ _ _ _ _ _ _ _ _ _ _ _ _ _ _ _ _ _ _ _ _ _ _ _ _ _ _ _ _ _ _ _ _ _ _ _ _ _ _ _ _ _ _ _ _ _ _ _ _ _ _ _ _ _ _ _ _ _ _ _ _ _ _ _ _ _ _ _ _ _ _ _ _ _ _ _ _ _ _ _ _ _ _ _ _ _ _ _ _ _ _ _ _ _ _ _ _ _ _ _ _ _ _ _ _ _ _ _ _ _ _ _ _ _ _ _ _ _ _ _ _ _ _ _ _ _ _ _ _ _ _ _ _ _ _ _ _ _ _ _ _ _ _ _ _ _ _ _ _ _ _ _ _ _ _ _ _ _ _ _ _ _ _ _ _ _ _ _ _ _ _ _ _ _ _ _ _ _ _ _ _ _ _ _ _ _ _ _ _ _ _ _ _ _ _ _ _ _ _ _ _ _ _ _ _ (one_at H1.out) (by rw [HAr.out.2]; exact sat_first HsL.out HpL.out) (four_at H2.out).1 HpL.out HAr.out.1 (fun _ _ _ _ _ h => h) ?_
    intro b w' v189 v190 v191 v192 v193 v194 v195 v196 v197 v198 v199 v200 h8 hrun
    (try go_wp2_with (fail))
    go_meet
    exact ⟨b, rfl, rfl, h8, hrun⟩
  case rest =>
  clear HAr
  obtain ⟨b20, rfl, rfl, k8, hbw⟩ := hcut
  obtain ⟨Z6, hZ6⟩ : ∃ V, V = wc := ⟨_, rfl⟩
  subst hZ6
  replace H1 := Lib.hid (heap_keep H1.out hbw)
  replace H2 := Lib.hid (heap_keep H2.out hbw)
  replace HsL := Lib.hid (HsL.out.below hbw (Nat.le_refl _))
  replace HB := Lib.hid (HB.out.trans (hbw.mono HB.out.size))
  replace H6 := Lib.hid (heap_keep H6.out hbw)
  replace HsV := Lib.hid (HsV.out.below hbw (Nat.le_refl _))
  replace H9 := Lib.hid (heap_keep H9.out hbw)
  replace H10 := Lib.hid (heap_keep H10.out hbw)
  replace H12 := Lib.hid (heap_keep H12.out hbw)
  replace H14 := Lib.hid (heap_keep H14.out hbw)
  replace HsM := Lib.hid (HsM.out.below hbw (Nat.le_refl _))
  replace H16 := Lib.hid (heap_keep H16.out hbw)
  replace HsA := Lib.hid (HsA.out.below hbw (Nat.le_refl _))
  replace H18 := Lib.hid (heap_keep H18.out hbw)
  replace H20 := Lib.hid (heap_keep H20.out hbw)
  have H22 := Lib.hid k8
  clear k8 hbw
  go_step
  refine covers_c ?_ ?_ h60 hb64 hm5 hm0 hl1 hl2 HSh.out HLM.out HokL.out HpL.out HzV.out HLS.out HPL.out H1.out H2.out HsL.out HB.out H9.out H18.out H20.out H22.out
  · kernel_rfl
  · rfl
end Sx
end Go.Proofs.YtionocafkaemiaaDoor
