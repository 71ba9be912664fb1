/- The quantile of the reference. -/
import Derived.Test.YtionocafkaemiaaDoorJR7
import Derived.Test.YtionocafkaemiaaDoorK2
namespace Go.Proofs.YtionocafkaemiaaDoor
open Go.RowKit Go.Lib
namespace Sx
attribute [local irreducible] wpQuiet

theorem q_take {M : List Sp} {K den : Int} {k : Nat} (h : k = M.length) : (M.take k).foldl (qStep M K den) (-1) = quantR M K den := by rw [h, List.take_length]; rfl
theorem q_bd {M : List Sp} {K den : Int} (h : ∀ x, x ∈ M → 0 ≤ x.v ∧ x.v ≤ 1000000000000) (k : Nat) : -1 ≤ (M.take k).foldl (qStep M K den) (-1) ∧ (M.take k).foldl (qStep M K den) (-1) ≤ 1000000000000 := by
  have key : ∀ (N : List Sp) (b : Int), (∀ x, x ∈ N → 0 ≤ x.v ∧ x.v ≤ 1000000000000) → -1 ≤ b ∧ b ≤ 1000000000000 → -1 ≤ N.foldl (qStep M K den) b ∧ N.foldl (qStep M K den) b ≤ 1000000000000 := by
    intro N
    induction N with
    | nil => intro b _ hb; exact hb
    | cons x N ih =>
      intro b hx hb
      rw [List.foldl_cons]
      refine ih _ (fun y hy => hx y (List.mem_cons_of_mem _ hy)) ?_
      have := hx x (List.mem_cons_self ..)
      unfold qStep
      split
      · omega
      · exact hb
  exact key _ _ (fun x hx => h x (List.mem_of_mem_take hx)) (by omega)
set_option maxRecDepth 100000 in
set_option maxHeartbeats 4000000 in
theorem quantR_ok (A : Option Addr) (c : Nat) (L : List Sm) (f t num den : Int) (W : World) (hL : SAt W A c L) :
    Calls Tryd.prog 15 #[sv A L.length c, .int .i64 f, .int .i64 t, .int .i64 num, .int .i64 den] W fun e w' => e = .returned (.tuple #[.int .i64 (quantS L f t num den).1, .int .i64 (quantS L f t num den).2]) ∧ Below W.heap.size W w' := by
  have hb := below_box W (.cells #[.slice A L.length c] 24)
  have hn := one_at (new_at W (.cells #[.slice A L.length c] 24))
  have hcm := hL.2.1
  have hlc := hL.1
  unfold maxLen at hcm
  have hAK := fun V (hV : Below W.heap.size W V) => askedR_ok A c L f t V (hL.below hV (Nat.le_refl _))
  by_cases hask : askS L f t = 0
  · have hcov := ask_cov.1 hask
    have hST := fun V (hV : Below W.heap.size W V) => stepsR_ok A c L f t V (hL.below hV (Nat.le_refl _)) hcov.ok
    have hx : quantS L f t num den = if num < 1 ∨ den < num ∨ 1000 < den then (0, 2) else (quantR (stepsV L f t) (num * (t - f)) den, 0) := by unfold quantS; rw [if_neg (by omega)]
    have hlen := hcov.ok.len
    have hsl := steps_len L f t
    have hokp := steps_ok hcov.ok (f := f) (t := t)
    have hbnd := leV_bd hokp hcov.f0 hcov.t1
    have hqbd := q_bd (M := stepsV L f t) (K := num * (t - f)) (den := den) fun x hx => ⟨(hokp x hx).v0, (hokp x hx).v1⟩
    have hst : ∀ k, k < (stepsV L f t).length → OkP 0 1000000000000 (sp (stepsV L f t) k) := fun k h => by
      have hx := hokp _ (List.mem_of_getElem? (sp_get h))
      have := hx.f0; have := hx.ft; have := hx.t1; have := hcov.f0; have := hcov.t1
      exact ⟨by omega, by omega, by omega, hx.v0, hx.v1⟩
    have hf0 := hcov.f0; have hft := hcov.ft; have ht1 := hcov.t1
    rw [hask] at hAK
    rw [hx]
    have HX := Lib.hid (And.intro hb (And.intro hAK (And.intro hST (And.intro hbnd (And.intro hst hqbd)))))
    clear hb hAK hST hL hask hcov hx hbnd hst hokp hqbd
    by_cases g1 : num < 1
    · rw [if_pos (.inl g1)]
      go_enter Tryd.func15, Tryd.ntmps15
      go_upto_region 1 with (fail)
      generalize W.alloc (.cells #[.slice A L.length c] 24) = V at *
      go_wp2_with (first | (go_at_call 42; refine (HX.out.2.1 _ HX.out.1).mono ?_; rintro e w1 ⟨rfl, hb1⟩; have H1 := Lib.hid (HX.out.1.trans (hb1.mono HX.out.1.size)); clear hb1))
      go_ret2
      exact ⟨rfl, H1.out⟩
    by_cases g2 : den < num
    · rw [if_pos (.inr (.inl g2))]
      go_enter Tryd.func15, Tryd.ntmps15
      go_upto_region 1 with (fail)
      generalize W.alloc (.cells #[.slice A L.length c] 24) = V at *
      go_wp2_with (first | (go_at_call 42; refine (HX.out.2.1 _ HX.out.1).mono ?_; rintro e w1 ⟨rfl, hb1⟩; have H1 := Lib.hid (HX.out.1.trans (hb1.mono HX.out.1.size)); clear hb1))
      go_ret2
      exact ⟨rfl, H1.out⟩
    by_cases g3 : 1000 < den
    · rw [if_pos (.inr (.inr g3))]
      go_enter Tryd.func15, Tryd.ntmps15
      go_upto_region 1 with (fail)
      generalize W.alloc (.cells #[.slice A L.length c] 24) = V at *
      go_wp2_with (first | (go_at_call 42; refine (HX.out.2.1 _ HX.out.1).mono ?_; rintro e w1 ⟨rfl, hb1⟩; have H1 := Lib.hid (HX.out.1.trans (hb1.mono HX.out.1.size)); clear hb1))
      go_ret2
      exact ⟨rfl, H1.out⟩
    rw [if_neg (by omega)]
    have hK := mul_bd (a := num) (b := t - f) (A := 1000) (B := 1000000000000) (by omega) (by omega) (by omega) (by omega)
    have e3 : num * (t - f) = num * (t - f) := rfl
    obtain ⟨K, hKe⟩ : ∃ K, num * (t - f) = K := ⟨_, rfl⟩
    rw [hKe] at hK HX
    go_enter Tryd.func15, Tryd.ntmps15
    go_upto_region 1 with (fail)
    generalize W.alloc (.cells #[.slice A L.length c] 24) = V at *
    go_upto_region 7 with (first | (go_at_call 42; refine (HX.out.2.1 _ HX.out.1).mono ?_; rintro e w1 ⟨rfl, hb1⟩; replace hn := cell_keep2 hb1 hn; have H1 := Lib.hid (HX.out.1.trans (hb1.mono HX.out.1.size)); clear hb1) | (go_at_call 48; refine (HX.out.2.2.1 _ H1.out).mono ?_; rintro e w2 ⟨⟨B, d, rfl, hM⟩, hb2⟩))
    have H2 := Lib.hid (H1.out.trans (hb2.mono H1.out.size))
    have hMc := hM.1
    have hMm := hM.2.1
    unfold maxLen at hMm
    have hbnd := HX.out.2.2.2.1
    have hst := HX.out.2.2.2.2.1
    have hqbd := HX.out.2.2.2.2.2
    generalize hMeq : stepsV L f t = M at *
    have HME := Lib.hid hMeq
    have HM := Lib.hid hM
    have HB := Lib.hid (And.intro hbnd (And.intro hst hqbd))
    clear hM hb2 hn hMeq hbnd hst hqbd e3
    go_wp2_with (fail)
    go_loopw [14, 15] (fun s i wr => ∃ (k : Nat), k ≤ M.length ∧ s = .int .i64 ((M.take k).foldl (qStep M K den) (-1)) ∧ i = .int .i64 (k : Int) ∧ Below w2.heap.size w2 wr) (fun _ i _ => M.length - (intOf i).toNat)
    case atStart => exact ⟨0, Nat.zero_le _, rfl, rfl, Below.refl _ _⟩
    case round =>
      obtain ⟨k, hk, rfl, rfl, hbw⟩ := hrel
      by_cases hlt : k < M.length
      · have hlti : (k : Int) < (M.length : Int) := by omega
        obtain ⟨g, o, rfl, hg2, d3⟩ := HM.out.2.2 k _ (sp_get hlt)
        have hnx := quantR_take K den hlt
        obtain ⟨q0, q1⟩ := HB.out.2.2 k
        have hy := HB.out.2.1 k hlt
        obtain ⟨x, hx⟩ : ∃ x, x = sp M k := ⟨_, rfl⟩
        rw [← hx] at hnx hy d3
        obtain ⟨b, hbe⟩ : ∃ b, b = (M.take k).foldl (qStep M K den) (-1) := ⟨_, rfl⟩
        rw [← hbe] at hnx q0 q1
        have D2 := d3 2 _ (by omega) rfl
        have HR := Lib.hid (And.intro hnx (And.intro hbw (And.intro D2 (And.intro hbe hx))))
        have y3 := hy.v0
        have y4 := hy.v1
        clear hnx hbw d3 D2 hy
        rw [← hbe]
        clear hbe hx
        obtain ⟨w3, hw3⟩ : ∃ w3, w3 = wr := ⟨_, rfl⟩
        subst hw3
        go_wp2_with (fail)
        go_loopw [16, 17] (fun s i wr => ∃ (j : Nat), j ≤ M.length ∧ s = .int .i64 (leV x.v (M.take j)) ∧ i = .int .i64 (j : Int) ∧ Below w2.heap.size w2 wr) (fun _ i _ => M.length - (intOf i).toNat)
        case atStart => exact ⟨0, Nat.zero_le _, rfl, rfl, HR.out.2.1⟩
        case round =>
          obtain ⟨j, hj, rfl, rfl, hbz⟩ := hrel
          by_cases hjt : j < M.length
          · have hjti : (j : Int) < (M.length : Int) := by omega
            obtain ⟨g', o', e', hg3, d4⟩ := HM.out.2.2 j _ (sp_get hjt)
            injection e' with e'; injection e' with e1 e2 _
            subst e1; subst e2
            have hnj := leV_take x.v hjt
            have hzj := HB.out.2.1 j hjt
            have l0 := HB.out.1 x.v j hj
            have l1 := HB.out.1 x.v (j + 1) hjt
            rw [hnj] at l1
            obtain ⟨z, hz⟩ : ∃ z, z = sp M j := ⟨_, rfl⟩
            rw [← hz] at hnj hzj d4 l1
            have E0 := cell_keep2 hbz (d4 0 _ (by omega) rfl)
            have E1 := cell_keep2 hbz (d4 1 _ (by omega) rfl)
            have E2 := cell_keep2 hbz (d4 2 _ (by omega) rfl)
            rw [Nat.add_zero] at E0
            have X2 := cell_keep2 hbz HR.out.2.2.1
            have hg := Nat.lt_of_lt_of_le hg3 hbz.size
            obtain ⟨n, hn⟩ : ∃ n, n = leV x.v (M.take j) := ⟨_, rfl⟩
            rw [← hn] at hnj l0 l1 ⊢
            obtain ⟨zf, zt, zv⟩ := z
            obtain ⟨xf, xt, xv⟩ := x
            dsimp only at E0 E1 E2 X2 hnj l1 y3 y4
            have z0 := hzj.f0; have z1 := hzj.ft; have z2 := hzj.t1
            have z3 := hzj.v0; have z4 := hzj.v1
            dsimp only at z0 z1 z2 z3 z4
            have HJ := Lib.hid (And.intro hnj hbz)
            have l0a := l0.1; have l0b := l0.2
            have l1a := l1.1; have l1b := l1.2
            clear hnj hbz d4 hzj hz l0 l1 hg2 hg3 hn
            by_cases hle : zv ≤ xv
            · rw [if_pos hle] at l1a l1b HJ
              go_upto_region 15 with (fail)
              go_quiet (fail)
              go_upto_region 16 with (fail)
              obtain ⟨V5, hV5⟩ : ∃ V5, V5 = wr.drewN nq := ⟨_, rfl⟩
              rw [← hV5]
              replace E0 : V5.cell? ⟨g, o + j * 3, none⟩ = some (.int .i64 zf) := by rw [hV5]; exact E0
              replace E1 : V5.cell? ⟨g, o + j * 3 + 1, none⟩ = some (.int .i64 zt) := by rw [hV5]; exact E1
              have hgV : g < V5.heap.size := by rw [hV5]; exact hg
              have HV5 := Lib.hid (show Below w2.heap.size w2 V5 by rw [hV5]; exact below_drewN HJ.out.2 _)
              clear hV5
              go_quiet (fail)
              go_wp2_with (fail)
              refine ⟨⟨j + 1, by omega, ?_, by go_num, below_drewN HV5.out _⟩, by simp [intOf]; omega⟩
              rw [HJ.out.1, Int.add_sub_assoc]
            · rw [if_neg hle] at l1a l1b HJ
              go_upto_region 15 with (fail)
              go_quiet (fail)
              go_wp2_with (fail)
              refine ⟨⟨j + 1, by omega, ?_, by go_num, below_drewN HJ.out.2 _⟩, by simp [intOf]; omega⟩
              rw [HJ.out.1, Int.add_zero]
          · obtain rfl : j = M.length := by omega
            have l1 := HB.out.1 x.v M.length (Nat.le_refl _)
            rw [List.take_length] at l1 ⊢
            have hgW := Nat.lt_of_lt_of_le hg2 hbz.size
            have X2 := cell_keep2 hbz HR.out.2.2.1
            have hst := HR.out.1.trans (show qStep M K den b x = if K ≤ leV x.v M * den ∧ (b < 0 ∨ x.v < b) then x.v else b from rfl)
            obtain ⟨n, hn⟩ : ∃ n, n = leV x.v M := ⟨_, rfl⟩
            rw [← hn] at l1 hst ⊢
            have hPb := mul_bd (a := n) (b := den) (A := 500000000000000) (B := 1000) l1.1 (by omega) (by omega) (by omega)
            obtain ⟨P, hP⟩ : ∃ P, n * den = P := ⟨_, rfl⟩
            rw [hP] at hPb hst
            obtain ⟨xf, xt, xv⟩ := x
            dsimp only at X2 y3 y4 hst
            have l1a := l1.1; have l1b := l1.2
            have HZ := Lib.hid (And.intro hst hbz)
            clear hst hbz l1 hn hg2
            by_cases c1 : K ≤ P
            · by_cases c2 : b < 0
              · rw [if_pos ⟨c1, .inl c2⟩] at HZ
                go_wp2_with (fail)
                go_roundw
                case rel => exact ⟨k + 1, by omega, by rw [HZ.out.1], by go_num, HZ.out.2⟩
                case measure => simp [intOf]; omega
              · by_cases c3 : xv < b
                · rw [if_pos ⟨c1, .inr c3⟩] at HZ
                  go_wp2_with (fail)
                  go_roundw
                  case rel => exact ⟨k + 1, by omega, by rw [HZ.out.1], by go_num, HZ.out.2⟩
                  case measure => simp [intOf]; omega
                · rw [if_neg (fun h => by omega)] at HZ
                  go_wp2_with (fail)
                  go_roundw
                  case rel => exact ⟨k + 1, by omega, by rw [HZ.out.1], by go_num, HZ.out.2⟩
                  case measure => simp [intOf]; omega
            · rw [if_neg (fun h => c1 h.1)] at HZ
              go_wp2_with (fail)
              go_roundw
              case rel => exact ⟨k + 1, by omega, by rw [HZ.out.1], by go_num, HZ.out.2⟩
              case measure => simp [intOf]; omega
      · rw [q_take (K := K) (den := den) (M := M) (k := k) (by omega)]
        have HR := Lib.hid (H2.out.trans (hbw.mono H2.out.size))
        clear hbw
        go_wp2_with (fail)
        go_ret2
        exact ⟨by rw [HME.out, hKe]; rfl, HR.out⟩
  · have hx : quantS L f t num den = (0, askS L f t) := by unfold quantS; rw [if_pos hask]
    rw [hx]
    have HX := Lib.hid (And.intro hb hAK)
    generalize askS L f t = e at *
    clear hb hAK hL hx
    go_enter Tryd.func15, Tryd.ntmps15
    go_upto_region 1 with (fail)
    generalize W.alloc (.cells #[.slice A L.length c] 24) = V at *
    go_wp2_with (first | (go_at_call 42; refine (HX.out.2 _ HX.out.1).mono ?_; rintro e w1 ⟨rfl, hb1⟩; have H1 := Lib.hid (HX.out.1.trans (hb1.mono HX.out.1.size)); clear hb1))
    go_ret2
    exact ⟨rfl, H1.out⟩
end Sx
end Go.Proofs.YtionocafkaemiaaDoor
