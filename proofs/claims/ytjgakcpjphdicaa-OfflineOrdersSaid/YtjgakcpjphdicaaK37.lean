/- The specification: addresses, valid. The specification: valid, Valid, Waste. -/
import Derived.Test.YtjgakcpjphdicaaK4
import Derived.Test.YtjgakcpjphdicaaK15
import Derived.Test.YtjgakcpjphdicaaK20
namespace Go.Proofs.Ytjgakcpjphdicaa
open Go.RowKit Go.Sort
namespace Of

set_option maxRecDepth 100000 in
set_option maxHeartbeats 2000000 in
theorem addrR_ok (w : World) (lA : Option Addr) (lc : Nat) (L : List OB) (A : Option Addr) (c : Nat) (M : List Int) (hl : OBAt w lA lc L) (hm : IAt w A c M) :
    Calls Try.prog 45 #[.slice lA L.length lc, .slice A M.length c] w fun e w' => e = .returned (.bool (!M.any farB && decide (M.length = L.length))) ∧ w = w' := by
  have hcap := hl.2.1
  have hlc := hl.1
  have hmc := hm.1
  have hmcap := hm.2.1
  unfold maxLen at hcap hmcap
  have HM := Lib.hid hm
  clear hl hm
  go_enter Try.func45, Try.ntmps45
  go_wp2_with (fail)
  go_loop [5] (fun i => ∃ k : Nat, k ≤ M.length ∧ i = .int .i64 k ∧ M.any farB = (M.drop k).any farB) (fun i => M.length - (intOf i).toNat)
  case atStart => exact ⟨0, Nat.zero_le _, rfl, rfl⟩
  case round =>
    obtain ⟨k, hk, rfl, hall⟩ := hrel
    by_cases hlt : k < M.length
    · obtain ⟨g, o, rfl, hg, d0⟩ := HM.out.at hlt
      have hd : M.drop k = addr M k :: M.drop (k + 1) := by
        rw [List.drop_eq_getElem_cons hlt]; congr 1
        unfold addr
        rw [List.getD_eq_getElem?_getD, List.getElem?_eq_getElem hlt]; rfl
      rw [hd, List.any_cons] at hall
      have hfr : farB (addr M k) = (decide (addr M k < 0) || decide (1099511627776 < addr M k)) := rfl
      generalize addr M k = x at *
      have HA := Lib.hid (And.intro hall hfr)
      clear hall hfr hd
      by_cases h1 : x < 0
      · have hf : M.any farB = true := by rw [HA.out.1, HA.out.2, decide_eq_true h1]; rfl
        have HF := Lib.hid hf
        clear hf
        go_wp2
        go_ret
        exact ⟨by rw [HF.out]; rfl, rfl⟩
      · by_cases h2 : 1099511627776 < x
        · have hf : M.any farB = true := by rw [HA.out.1, HA.out.2, decide_eq_true h2]; simp
          have HF := Lib.hid hf
          clear hf
          go_wp2
          go_ret
          exact ⟨by rw [HF.out]; rfl, rfl⟩
        · have hf : farB x = false := by rw [HA.out.2, decide_eq_false h1, decide_eq_false h2]; rfl
          have HF := Lib.hid hf
          clear hf
          go_wp2
          go_round
          case rel => exact ⟨k + 1, by omega, by go_num, by rw [HA.out.1, HF.out]; rfl⟩
          case measure => simp [intOf]; omega
    · obtain rfl : k = M.length := by omega
      rw [List.drop_length] at hall
      have HA := Lib.hid hall
      clear hall
      by_cases hne : M.length = L.length
      · have hb : ((M.length : Int) == (L.length : Int)) = true := by simp; omega
        have HNE := Lib.hid hne
        clear hne
        go_wp2
        go_ret
        exact ⟨by rw [HA.out, decide_eq_true HNE.out]; rfl, rfl⟩
      · have hb : ((M.length : Int) == (L.length : Int)) = false := by simp; omega
        have HNE := Lib.hid hne
        clear hne
        go_wp2
        go_ret
        exact ⟨by rw [HA.out, decide_eq_false HNE.out]; rfl, rfl⟩
end Of
end Go.Proofs.Ytjgakcpjphdicaa
namespace Go.Proofs.Ytjgakcpjphdicaa
open Go.RowKit Go.Sort
namespace Of

def rowOk (L : List OB) (M : List Int) (i : Nat) : Bool := okAt L M i && (List.range i).all fun k => !clashP L M i k
theorem isLay_def (L : List OB) (M : List Int) : isLay L M = (List.range L.length).all (rowOk L M) := rfl

attribute [local irreducible] wpQuiet
set_option maxRecDepth 100000 in
set_option maxHeartbeats 4000000 in
theorem validR_ok (w : World) (lA : Option Addr) (lc : Nat) (L : List OB) (A : Option Addr) (c : Nat) (M : List Int) (hl : OBAt w lA lc L) (hm : IAt w A c M) (hL : OkL L) (hML : M.length = L.length) (hfar : M.any farB = false) :
    Calls Try.prog 46 #[.slice lA L.length lc, .slice A M.length c] w fun e w' => e = .returned (.tuple #[.bool (validV L M).1, .int .i64 (validV L M).2]) ∧ Below w.heap.size w w' := by
  have hlen := hL.1
  have hcap := hl.2.1
  have hlc := hl.1
  have hmc := hm.1
  have hmcap := hm.2.1
  unfold maxLen at hcap hmcap
  have HH := Lib.hid (And.intro hl (And.intro hm (And.intro hL (And.intro hML hfar))))
  clear hl hm hL hML hfar
  go_enter Try.func46, Try.ntmps46
  go_wp2_with (fail)
  go_loopw [6, 7] (fun top i wr => ∃ k : Nat, k ≤ L.length ∧ i = .int .i64 k ∧ top = .int .i64 (topF L M (List.range k)) ∧ isLay L M = ((List.range L.length).drop k).all (rowOk L M) ∧ Below w.heap.size w wr) (fun _ i _ => L.length - (intOf i).toNat)
  case atStart => exact ⟨0, Nat.zero_le _, rfl, rfl, rfl, Below.refl _ _⟩
  case round =>
    obtain ⟨i, hi, rfl, rfl, hall, hbw⟩ := hrel
    by_cases hil : i < L.length
    · have hlw := HH.out.1.below hbw (Nat.le_refl _)
      have hmw := HH.out.2.1.below hbw (Nat.le_refl _)
      obtain ⟨g, oo, rfl, hgl, y0, y1, y2, y3⟩ := hlw.at hil
      obtain ⟨gm, om, rfl, hgm, ym⟩ := hmw.at (j := i) (by rw [HH.out.2.2.2.1]; exact hil)
      have hbi := HH.out.2.2.1.blk i
      have ha1 := isPow_bd hbi.a0
      have hfi := far_bd HH.out.2.2.2.2 i
      have hoa : okAt L M i = (addr M i % (blk L i).a == 0) := by unfold okAt; rw [Bool.eq_iff_iff, decide_eq_true_eq, beq_iff_eq]
      rw [drop_range hil, List.all_cons] at hall
      have hro : rowOk L M i = (okAt L M i && (List.range i).all fun k => !clashP L M i k) := rfl
      have htop : topF L M (List.range (i + 1)) = max (topF L M (List.range i)) (addr M i + (blk L i).s) := by rw [List.range_succ, topF_snoc]
      have htb := topF_bd HH.out.2.2.1 HH.out.2.2.2.2 (List.range i)
      have hs1 := hbi.s1
      have hs2 := hbi.s2
      have hiM : i < M.length := by rw [HH.out.2.2.2.1]; exact hil
      have HT := Lib.hid (And.intro hall (And.intro hro (And.intro htop hbw)))
      clear hall hro htop hbw hbi hlw hmw
      generalize hbb : blk L i = b at *
      have HBB := Lib.hid hbb
      clear hbb
      obtain ⟨s, a, f, u⟩ := b
      dsimp only at y0 y1 y2 y3 ha1 hoa hs1 hs2 HT
      generalize hmi : addr M i = x at *
      have HMI := Lib.hid hmi
      clear hmi
      generalize topF L M (List.range i) = tp at *
      obtain ⟨rr, hrr⟩ : ∃ rr, rr = x % a := ⟨_, rfl⟩
      rw [← hrr] at hoa
      have hrb : 0 ≤ rr ∧ rr < a := by rw [hrr]; exact ⟨Int.emod_nonneg _ (by omega), Int.emod_lt_of_pos _ (by omega)⟩
      have q0 : x % a = rr := hrr.symm
      have q1 : x.tmod a = rr := by rw [hrr]; exact Int.tmod_eq_emod_of_nonneg hfi.1
      have q3 : IntKind.i64.wrap rr = rr := IntWalk.i64_in _ (by omega)
      have ha0 : a ≠ 0 := by omega
      clear hrr
      cases hoo : okAt L M i with
      | false =>
        rw [hoo] at hoa HT
        have hne0 : (rr != 0) = true := by rw [bne, ← hoa]; rfl
        have hz : isLay L M = false := by rw [HT.out.1, HT.out.2.1]; rfl
        have HZZ := Lib.hid hz
        clear hoo hoa hz hrb
        go_upto_region 5 with (fail)
        go_quiet (fail)
        go_wp2
        go_ret2
        exact ⟨by unfold validV; rw [HZZ.out]; rfl, below_drewN HT.out.2.2.2 _⟩
      | true =>
        rw [hoo] at hoa HT
        have hne0 : (rr != 0) = false := by rw [bne, ← hoa]; rfl
        clear hoo hoa hrb
        go_upto_region 5 with (fail)
        go_quiet (fail)
        have hb5 := below_drewN HT.out.2.2.2 nq
        have HB5 := Lib.hid hb5
        clear hb5 y0 y1 y2 y3 ym q0 q1 q3 ha0
        generalize wr.drewN nq = w5 at *
        go_wp2_with (fail)
        go_loopw [8] (fun jj wr => ∃ j : Nat, j ≤ i ∧ jj = .int .i64 j ∧ ((List.range i).all fun k => !clashP L M i k) = (((List.range i).drop j).all fun k => !clashP L M i k) ∧ Below w.heap.size w wr) (fun jj _ => i - (intOf jj).toNat)
        case atStart => exact ⟨0, Nat.zero_le _, rfl, rfl, HB5.out⟩
        case round =>
          obtain ⟨j, hj, rfl, hall, hv⟩ := hrel
          have hlw := HH.out.1.below hv (Nat.le_refl _)
          have hmw := HH.out.2.1.below hv (Nat.le_refl _)
          obtain ⟨g2, oo2, e, hgl2', z0, z1, z2, z3⟩ := hlw.at hil
          injection e with e; injection e with e1 e2 _
          subst e1; subst e2
          obtain ⟨g2, oo2, e, hgm2, zm⟩ := hmw.at (j := i) hiM
          injection e with e; injection e with e1 e2 _
          subst e1; subst e2
          rw [HBB.out] at z0 z1 z2 z3
          rw [HMI.out] at zm
          by_cases hjk : j < i
          · have hyl : j < L.length := by omega
            obtain ⟨g2, oo2, e, hgl2, y0, y1, y2, y3⟩ := hlw.at hyl
            injection e with e; injection e with e1 e2 _
            subst e1; subst e2
            obtain ⟨g2, oo2, e, _, ym⟩ := hmw.at (j := j) (by omega)
            injection e with e; injection e with e1 e2 _
            subst e1; subst e2
            have hby := HH.out.2.2.1.blk j
            have ys1 := hby.s1
            have ys2 := hby.s2
            have hfy := far_bd HH.out.2.2.2.2 j
            rw [drop_range hjk, List.all_cons] at hall
            have hhit : clashP L M i j = (meet ⟨s, a, f, u⟩ (blk L j) && (decide (x < addr M j + (blk L j).s) && decide (addr M j < x + s))) := by unfold clashP; rw [HBB.out, HMI.out]
            have hmt := fun W => meetR_grown ⟨s, a, f, u⟩ (blk L j) W
            have hyM : j < M.length := by omega
            generalize blk L j = bj at *
            generalize addr M j = mx at *
            obtain ⟨ks, ka, kf, ku⟩ := bj
            dsimp only [ob] at y0 y1 y2 y3 z0 z1 z2 z3 ys1 ys2 hmt hhit
            have X0 := fun n os => cell_grown hgl2 y0 n os
            have X1 := fun n os => cell_grown hgl2 y1 n os
            have X2 := fun n os => cell_grown hgl2 y2 n os
            have X3 := fun n os => cell_grown hgl2 y3 n os
            have Z0 := fun n os => cell_grown hgl2 z0 n os
            have Z1 := fun n os => cell_grown hgl2 z1 n os
            have Z2 := fun n os => cell_grown hgl2 z2 n os
            have Z3 := fun n os => cell_grown hgl2 z3 n os
            have YM := fun n os => cell_grown hgm2 ym n os
            have ZM := fun n os => cell_grown hgm2 zm n os
            have hdone : ∀ n os, Below w.heap.size w (grow (wr.drewN n) os) := fun n os => hv.trans (grown_below n os hv.size)
            have HD := Lib.hid hdone
            have HAL := Lib.hid (And.intro hall hhit)
            have HM := Lib.hid hmt
            have q2 : IntKind.i64.wrap (mx + ks) = mx + ks := IntWalk.i64_in _ (by omega)
            have q4 : IntKind.i64.wrap (x + s) = x + s := IntWalk.i64_in _ (by omega)
            have mixed : Try.prog.follows .mixedOrders = true := by kernel_rfl
            clear hdone hall hhit hmt y0 y1 y2 y3 z0 z1 z2 z3 ym zm hv hby hlw hmw
            cases hme : meet ⟨s, a, f, u⟩ ⟨ks, ka, kf, ku⟩ with
            | false =>
              rw [hme] at HM
              have hh : clashP L M i j = false := by rw [HAL.out.2, hme]; rfl
              have HHH := Lib.hid hh
              clear hh hme
              go_upto_region 10 with (fail)
              go_quiet_grown ((go_at_call 68; exact Calls.grown_of (HM.out _)))
              go_wp2
              go_roundw
              case rel => exact ⟨j + 1, by omega, by go_num, by rw [HAL.out.1, HHH.out]; rfl, HD.out _ _⟩
              case measure => simp [intOf]; omega
            | true =>
              rw [hme] at HM
              by_cases hxm : x < mx + ks
              · by_cases hxn : mx < x + s
                · have hh : clashP L M i j = true := by rw [HAL.out.2, hme, decide_eq_true hxm, decide_eq_true hxn]; rfl
                  have hz : isLay L M = false := by rw [HT.out.1, HT.out.2.1, HAL.out.1, hh]; rfl
                  have HZZ := Lib.hid hz
                  clear hh hz hme
                  go_upto_region 10 with (fail)
                  go_quiet_grown ((go_at_call 68; exact Calls.grown_of (HM.out _)))
                  go_wp2
                  go_ret2
                  exact ⟨by unfold validV; rw [HZZ.out]; rfl, HD.out _ _⟩
                · have hh : clashP L M i j = false := by rw [HAL.out.2, hme, decide_eq_true hxm, decide_eq_false hxn]; rfl
                  have HHH := Lib.hid hh
                  have hxn' : x + s ≤ mx := by omega
                  have hxd : decide (mx < x + s) = false := decide_eq_false hxn
                  clear hh hme
                  go_upto_region 10 with (fail)
                  go_quiet_grown ((go_at_call 68; exact Calls.grown_of (HM.out _)))
                  go_wp2
                  go_roundw
                  case rel => exact ⟨j + 1, by omega, by go_num, by rw [HAL.out.1, HHH.out]; rfl, HD.out _ _⟩
                  case measure => simp [intOf]; omega
              · have hh : clashP L M i j = false := by rw [HAL.out.2, hme, decide_eq_false hxm]; rfl
                have HHH := Lib.hid hh
                have hxm' : mx + ks ≤ x := by omega
                have hxd : decide (x < mx + ks) = false := decide_eq_false hxm
                clear hh hme
                go_upto_region 10 with (fail)
                go_quiet_grown ((go_at_call 68; exact Calls.grown_of (HM.out _)))
                go_wp2
                go_roundw
                case rel => exact ⟨j + 1, by omega, by go_num, by rw [HAL.out.1, HHH.out]; rfl, HD.out _ _⟩
                case measure => simp [intOf]; omega
          · obtain rfl : j = i := by omega
            rw [List.drop_eq_nil_of_le (by simp)] at hall
            have q2 : IntKind.i64.wrap (x + s) = x + s := IntWalk.i64_in _ (by omega)
            have hnx : isLay L M = ((List.range L.length).drop (j + 1)).all (rowOk L M) := by
              rw [HT.out.1, HT.out.2.1, hall]; rfl
            have HNX := Lib.hid (And.intro hnx (And.intro HT.out.2.2.1 hv))
            clear hnx hv hall z1 z2 z3 hlw hmw
            go_upto_region 12 with (fail)
            go_region
            go_wp2
            go_roundw
            case rel => exact ⟨j + 1, by omega, by go_num, by rw [HNX.out.2.1], HNX.out.1, by first | exact HNX.out.2.2 | exact below_drew HNX.out.2.2⟩
            case measure => simp [intOf]; omega
    · obtain rfl : i = L.length := by omega
      rw [List.drop_eq_nil_of_le (by simp)] at hall
      have HR := Lib.hid (And.intro hall hbw)
      clear hall hbw
      go_wp2
      go_ret2
      exact ⟨by unfold validV; rw [HR.out.1]; rfl, HR.out.2⟩
end Of
end Go.Proofs.Ytjgakcpjphdicaa
