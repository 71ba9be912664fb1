/- The specification: Share. -/
import Derived.Test.YtionocafkaemiaaDoorJR5
namespace Go.Proofs.YtionocafkaemiaaDoor
open Go.RowKit Go.Lib
namespace Sx
attribute [local irreducible] wpQuiet

/-- What each step adds to the share. -/
def shr (bd : Int) (x : Sp) : Int := if bd ≤ x.v then x.t - x.f else 0
theorem share_take {bd : Int} {M : List Sp} {k : Nat} (h : k < M.length) : shareV bd (M.take (k + 1)) = shareV bd (M.take k) + shr bd (sp M k) := by
  unfold shareV
  rw [List.take_add_one, sp_get h]
  exact sum_add1 _ _ _
theorem share_all {bd : Int} {M : List Sp} {k : Nat} (h : k = M.length) : shareV bd (M.take k) = shareV bd M := by rw [h, List.take_length]
theorem shareV_bd {bd f t : Int} {M : List Sp} (h : ∀ x, x ∈ M → OkP f t x) (hf : 0 ≤ f) (ht : t ≤ 1000000000000) (hl : M.length ≤ 500) (k : Nat) : 0 ≤ shareV bd (M.take k) ∧ shareV bd (M.take k) ≤ 500000000000000 := by
  obtain ⟨h1, h2⟩ := sum_bd (f := shr bd) (B := 1000000000000) (l := M.take k) (fun x hx => by
    have hx := h x (List.mem_of_mem_take hx)
    have := hx.f0; have := hx.ft; have := hx.t1
    unfold shr; split <;> omega)
  have h3 : (M.take k).length ≤ M.length := by rw [List.length_take]; omega
  refine ⟨h1, Int.le_trans h2 ?_⟩
  omega
set_option maxRecDepth 100000 in
set_option maxHeartbeats 4000000 in
theorem shareR_ok (A : Option Addr) (c : Nat) (L : List Sm) (f t bd : Int) (W : World) (hL : SAt W A c L) :
    Calls Tryd.prog 29 #[sv A L.length c, .int .i64 f, .int .i64 t, .int .i64 bd] W fun e w' => e = .returned (.tuple #[.int .i64 (shareS L f t bd).1, .int .i64 (shareS L f t bd).2]) ∧ Below W.heap.size W w' := by
  have hb := below_box W (.cells #[.slice A L.length c] 24)
  have hn := one_at (new_at W (.cells #[.slice A L.length c] 24))
  have hcm := hL.2.1
  have hlc := hL.1
  unfold maxLen at hcm
  have hAK := fun V (hV : Below W.heap.size W V) => askedR_ok A c L f t V (hL.below hV (Nat.le_refl _))
  have HT := Lib.hid (fun V => numR_ok bd V)
  by_cases hask : askS L f t = 0
  · have hcov := ask_cov.1 hask
    have hST := fun V (hV : Below W.heap.size W V) => stepsR_ok A c L f t V (hL.below hV (Nat.le_refl _)) hcov.ok
    have hx : shareS L f t bd = if inT bd = false then (0, 7) else (shareV bd (stepsV L f t), 0) := by unfold shareS; rw [if_neg (by omega)]
    have hlen := hcov.ok.len
    have hsl := steps_len L f t
    have hbnd := fun k => shareV_bd (bd := bd) (steps_ok hcov.ok (f := f) (t := t)) hcov.f0 hcov.t1 (by omega) k
    have hst : ∀ k, k < (stepsV L f t).length → OkP 0 1000000000000 (sp (stepsV L f t) k) := fun k h => by
      have hx := steps_ok hcov.ok (f := f) (t := t) _ (List.mem_of_getElem? (sp_get h))
      have := hx.f0; have := hx.ft; have := hx.t1; have := hcov.f0; have := hcov.t1
      exact ⟨by omega, by omega, by omega, hx.v0, hx.v1⟩
    rw [hask] at hAK
    rw [hx]
    have HX := Lib.hid (And.intro hb (And.intro hAK (And.intro hST (And.intro hbnd hst))))
    clear hb hAK hST hL hask hcov hx hbnd hst
    cases ht : inT bd with
    | false =>
      rw [ht] at HT
      clear ht
      go_enter Tryd.func29, Tryd.ntmps29
      go_upto_region 1 with (fail)
      generalize W.alloc (.cells #[.slice A L.length c] 24) = V at *
      go_wp2_with (first | (go_at_call 42; refine (HX.out.2.1 _ HX.out.1).mono ?_; rintro e w1 ⟨rfl, hb1⟩; have H1 := Lib.hid (HX.out.1.trans (hb1.mono HX.out.1.size)); clear hb1) | (go_at_call 61; refine (HT.out _).mono ?_; rintro e w2 ⟨rfl, hw⟩; have hw := hw.symm; subst hw))
      go_ret2
      exact ⟨rfl, H1.out⟩
    | true =>
      rw [ht] at HT
      clear ht
      go_enter Tryd.func29, Tryd.ntmps29
      go_upto_region 1 with (fail)
      generalize W.alloc (.cells #[.slice A L.length c] 24) = V at *
      go_upto_region 9 with (first | (go_at_call 42; refine (HX.out.2.1 _ HX.out.1).mono ?_; rintro e w1 ⟨rfl, hb1⟩; replace hn := cell_keep2 hb1 hn; have H1 := Lib.hid (HX.out.1.trans (hb1.mono HX.out.1.size)); clear hb1) | (go_at_call 61; refine (HT.out _).mono ?_; rintro e w2 ⟨rfl, hw⟩; have hw := hw.symm; subst hw) | (go_at_call 48; refine (HX.out.2.2.1 _ H1.out).mono ?_; rintro e w2 ⟨⟨B, d, rfl, hM⟩, hb2⟩))
      have H2 := Lib.hid (H1.out.trans (hb2.mono H1.out.size))
      have hMc := hM.1
      have hMm := hM.2.1
      unfold maxLen at hMm
      have hbnd := HX.out.2.2.2.1
      have hst := HX.out.2.2.2.2
      generalize hMeq : stepsV L f t = M at *
      have HME := Lib.hid hMeq
      have HM := Lib.hid hM
      have HB := Lib.hid (And.intro hbnd hst)
      clear hM hb2 hn hMeq hbnd hst
      go_wp2_with (fail)
      go_loopw [12, 13] (fun s i wr => ∃ (k : Nat), k ≤ M.length ∧ s = .int .i64 (shareV bd (M.take k)) ∧ i = .int .i64 (k : Int) ∧ Below w2.heap.size w2 wr) (fun _ i _ => M.length - (intOf i).toNat)
      case atStart => exact ⟨0, Nat.zero_le _, rfl, rfl, Below.refl _ _⟩
      case round =>
        obtain ⟨k, hk, rfl, rfl, hbw⟩ := hrel
        by_cases hlt : k < M.length
        · have hlti : (k : Int) < (M.length : Int) := by omega
          obtain ⟨g, o, rfl, hg, d3⟩ := (HM.out.below hbw (Nat.le_refl _)).2.2 k _ (sp_get hlt)
          have e0 := d3 0 _ (by omega) rfl
          have e1 := d3 1 _ (by omega) rfl
          have e2 := d3 2 _ (by omega) rfl
          rw [Nat.add_zero] at e0
          have hnx := share_take (bd := bd) hlt
          obtain ⟨b1, b2⟩ := HB.out.1 k
          obtain ⟨b3, b4⟩ := HB.out.1 (k + 1)
          have hy := HB.out.2 k hlt
          unfold shr at hnx
          rw [hnx] at b3 b4
          generalize hs : shareV bd (M.take k) = s at *
          generalize sp M k = y at *
          obtain ⟨yf, yt, yv⟩ := y
          have y0 := hy.f0
          have y1 := hy.ft
          have y2 := hy.t1
          dsimp only at e0 e1 e2 y0 y1 y2 hnx b3 b4
          have HR := Lib.hid (And.intro hnx hbw)
          clear hnx hbw d3 hg hy hs
          by_cases hge : bd ≤ yv
          · rw [if_pos hge] at b3 b4 HR
            go_upto_region 12 with (fail)
            go_quiet (fail)
            go_wp2_with (fail)
            refine ⟨⟨k + 1, by omega, ?_, by go_num, below_drewN HR.out.2 _⟩, by simp [intOf]; omega⟩
            rw [HR.out.1, Int.add_sub_assoc]
          · rw [if_neg hge] at b3 b4 HR
            go_wp2_with (fail)
            go_roundw
            case rel => exact ⟨k + 1, by omega, by rw [HR.out.1]; simp, by go_num, HR.out.2⟩
            case measure => simp [intOf]; omega
        · have hq := share_all (bd := bd) (M := M) (k := k) (by omega)
          rw [hq]
          have HR := Lib.hid (H2.out.trans (hbw.mono H2.out.size))
          clear hbw hq
          go_wp2_with (fail)
          go_ret2
          exact ⟨by rw [HME.out]; rfl, HR.out⟩
  · have hx : shareS L f t bd = (0, askS L f t) := by unfold shareS; rw [if_pos hask]
    rw [hx]
    have HX := Lib.hid (And.intro hb hAK)
    generalize askS L f t = e at *
    clear hb hAK hL hx
    go_enter Tryd.func29, Tryd.ntmps29
    go_upto_region 1 with (fail)
    generalize W.alloc (.cells #[.slice A L.length c] 24) = V at *
    go_wp2_with (first | (go_at_call 42; refine (HX.out.2 _ HX.out.1).mono ?_; rintro e w1 ⟨rfl, hb1⟩; have H1 := Lib.hid (HX.out.1.trans (hb1.mono HX.out.1.size)); clear hb1))
    go_ret2
    exact ⟨rfl, H1.out⟩
end Sx
end Go.Proofs.YtionocafkaemiaaDoor
