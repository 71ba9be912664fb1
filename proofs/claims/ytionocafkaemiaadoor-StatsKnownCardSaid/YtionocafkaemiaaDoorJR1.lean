/- The specification: Time, Number, Check, at. -/
import Derived.Test.YtionocafkaemiaaDoorK2
namespace Go.Proofs.YtionocafkaemiaaDoor
open Go.RowKit Go.Lib
namespace Sx

set_option maxHeartbeats 2000000 in
theorem timeR_ok (t : Int) (w : World) : Calls Tryd.prog 55 #[.int .i64 t] w fun e w' => e = .returned (.bool (inT t)) ∧ w' = w := by
  unfold inT
  by_cases h : 0 ≤ t
  · have h' : t ≥ 0 := h
    rw [decide_eq_true h, Bool.true_and]
    go_enter Tryd.func55, Tryd.ntmps55
    go_wp2
    go_ret
    exact ⟨rfl, rfl⟩
  · have h' : ¬ t ≥ 0 := h
    rw [decide_eq_false h, Bool.false_and]
    go_enter Tryd.func55, Tryd.ntmps55
    go_wp2
    go_ret
    exact ⟨rfl, rfl⟩
set_option maxHeartbeats 2000000 in
theorem numR_ok (t : Int) (w : World) : Calls Tryd.prog 61 #[.int .i64 t] w fun e w' => e = .returned (.bool (inT t)) ∧ w' = w := by
  unfold inT
  by_cases h : 0 ≤ t
  · have h' : t ≥ 0 := h
    rw [decide_eq_true h, Bool.true_and]
    go_enter Tryd.func61, Tryd.ntmps61
    go_wp2
    go_ret
    exact ⟨rfl, rfl⟩
  · have h' : ¬ t ≥ 0 := h
    rw [decide_eq_false h, Bool.false_and]
    go_enter Tryd.func61, Tryd.ntmps61
    go_wp2
    go_ret
    exact ⟨rfl, rfl⟩
theorem chk_next {last : Int} {x : Sm} {L : List Sm} : chkF last (x :: L) = if (inT x.a && inT x.v) = false then 7 else if x.a ≤ last then 6 else chkF x.a L := rfl
def lastA (L : List Sm) (k : Nat) : Int := if k = 0 then -1 else (sm L (k - 1)).a
attribute [local irreducible] wpQuiet
set_option maxRecDepth 100000 in
set_option maxHeartbeats 4000000 in
theorem checkR_ok (A : Option Addr) (c : Nat) (L : List Sm) (W : World) (hL : SAt W A c L) : Calls Tryd.prog 36 #[sv A L.length c] W fun e w' => e = .returned (.int .i64 (checkS L)) ∧ Below W.heap.size W w' := by
  have hb := below_box W (.cells #[.slice A L.length c] 24)
  have hn := one_at (new_at W (.cells #[.slice A L.length c] 24))
  have hcm := hL.2.1
  have hlc := hL.1
  unfold maxLen at hcm
  by_cases h5 : 500 < L.length
  · have hr : checkS L = 3 := if_pos h5
    have HX := Lib.hid (And.intro hb hr)
    clear hb hn hr hL
    go_enter Tryd.func36, Tryd.ntmps36
    go_wp2
    go_ret
    exact ⟨by rw [HX.out.2]; rfl, HX.out.1⟩
  · have hr : checkS L = chkF (-1) L := if_neg h5
    have hLV := hL.below hb (Nat.le_refl _)
    have HX := Lib.hid (And.intro hb (And.intro hr hLV))
    clear hb hr hLV hL
    go_enter Tryd.func36, Tryd.ntmps36
    go_upto_region 1 with (fail)
    generalize W.alloc (.cells #[.slice A L.length c] 24) = V at *
    have HN := Lib.hid hn
    go_wp2_with (fail)
    go_loopw [3] (fun i wr => ∃ k : Nat, k ≤ L.length ∧ i = .int .i64 (k : Int) ∧ chkF (-1) L = chkF (lastA L k) (L.drop k) ∧ Below V.heap.size V wr) (fun i _ => L.length - (intOf i).toNat)
    case atStart => exact ⟨0, Nat.zero_le _, rfl, rfl, Below.refl _ _⟩
    case round =>
      obtain ⟨k, hk, rfl, hck, hbw⟩ := hrel
      have s0 := cell_keep2 hbw HN.out
      clear hn
      by_cases hlt : k < L.length
      · have hLw := HX.out.2.2.below hbw (Nat.le_refl _)
        obtain ⟨g, o, rfl, hg, d0, d1⟩ := hLw.s2 hlt
        have hdn := drop_next (sm_get hlt)
        rw [hdn, chk_next] at hck
        have hprev : 0 < k → wr.cell? ⟨g, o + (k - 1) * 2, none⟩ = some (.int .i64 (lastA L k)) := fun h0 => by
          obtain ⟨g', o', e, _, e0, _⟩ := hLw.s2 (j := k - 1) (by omega)
          injection e with e; injection e with e1 e2 _
          subst e1; subst e2
          rw [e0]; unfold lastA; rw [if_neg (by omega)]
        have hla : lastA L (k + 1) = (sm L k).a := by unfold lastA; rw [if_neg (by omega), Nat.add_sub_cancel]
        have hl0 : k = 0 → lastA L k = -1 := fun e => by unfold lastA; rw [if_pos e]
        generalize lastA L k = la at *
        generalize sm L k = x at *
        obtain ⟨xa, xv⟩ := x
        dsimp only at hck d0 d1 hla
        have HR := Lib.hid (And.intro hck (And.intro hbw hla))
        have HT := Lib.hid (fun V => timeR_ok xa V)
        have HV := Lib.hid (fun V => numR_ok xv V)
        have HP := Lib.hid (And.intro hprev hl0)
        clear hck hbw hLw hla hdn hprev hl0
        go_upto_region 7 with (fail)
        obtain ⟨V1, hV1⟩ : ∃ V1, V1 = wr.alloc (.cells #[.int .i64 xa, .int .i64 xv] 49) := ⟨_, rfl⟩
        rw [← hV1]
        obtain ⟨ub, hub⟩ : ∃ ub, ub = wr.heap.size := ⟨_, rfl⟩
        rw [← hub]
        have hbx : V1.heap[ub]? = some (.cells #[.int .i64 xa, .int .i64 xv] 49 (0, 0)) := by rw [hV1, hub, heapAlloc, if_pos rfl]
        have hbV : Below wr.heap.size wr V1 := by rw [hV1]; exact below_box _ _
        obtain ⟨u0, u1⟩ := two_at hbx
        replace s0 := cell_keep2 hbV s0
        have H1 := Lib.hid (And.intro hbV (HR.out.2.1.trans (hbV.mono HR.out.2.1.size)))
        clear hV1 hub hbx hbV d0 d1
        cases ht : inT xa with
        | false =>
          rw [ht] at HT
          have hr := HR.out.1.trans (if_pos (by rw [ht]; rfl))
          have HQ := Lib.hid hr
          clear hr ht
          go_wp2_with (go_at_call 55; refine (HT.out _).mono ?_; rintro e w1 ⟨rfl, hw⟩; have hw := hw.symm; subst hw)
          go_ret
          exact ⟨by rw [HX.out.2.1, HQ.out]; rfl, HX.out.1.trans (H1.out.2.mono HX.out.1.size)⟩
        | true =>
          rw [ht] at HT
          cases hv : inT xv with
          | false =>
            rw [hv] at HV
            have hr := HR.out.1.trans (if_pos (by rw [ht, hv]; rfl))
            have HQ := Lib.hid hr
            clear hr ht hv
            go_wp2_with (first | (go_at_call 55; refine (HT.out _).mono ?_; rintro e w1 ⟨rfl, hw⟩; have hw := hw.symm; subst hw) | (go_at_call 61; refine (HV.out _).mono ?_; rintro e w1 ⟨rfl, hw⟩; have hw := hw.symm; subst hw))
            go_ret
            exact ⟨by rw [HX.out.2.1, HQ.out]; rfl, HX.out.1.trans (H1.out.2.mono HX.out.1.size)⟩
          | true =>
            rw [hv] at HV
            have hr := HR.out.1.trans (if_neg (by rw [ht, hv]; simp))
            have ht0 := (inT_iff.1 ht).1
            by_cases hk0 : k = 0
            · have hnl : ¬ xa ≤ la := by rw [HP.out.2 hk0]; omega
              have hr2 := hr.trans (if_neg hnl)
              have HQ := Lib.hid hr2
              subst hk0
              clear hr hr2 ht hv hnl ht0
              go_upto_region 9 with (first | (go_at_call 55; refine (HT.out _).mono ?_; rintro e w1 ⟨rfl, hw⟩; have hw := hw.symm; subst hw) | (go_at_call 61; refine (HV.out _).mono ?_; rintro e w1 ⟨rfl, hw⟩; have hw := hw.symm; subst hw))
              go_quiet (fail)
              go_wp2
              go_roundw
              case rel => exact ⟨1, by omega, by go_num, by rw [HQ.out, ← HR.out.2.2], below_drewN H1.out.2 _⟩
              case measure => simp [intOf]; omega
            · have q0 := cell_keep2 H1.out.1 (HP.out.1 (by omega))
              obtain ⟨j, hj⟩ : ∃ j, k = j + 1 := ⟨k - 1, by omega⟩
              have q1 : decide ((0 : Int) < (k : Int)) = true := by simp; omega
              have q2 : decide (0 < k) = true := by simp; omega
              have q3 : (k : Int) - 1 = (j : Int) := by omega
              have q4 : (j : Int) < (L.length : Int) := by omega
              rw [show k - 1 = j by omega] at q0
              have HJ := Lib.hid (And.intro hj hk0)
              clear hj hk0
              by_cases hle : xa ≤ la
              · have hr2 := hr.trans (if_pos hle)
                have HQ := Lib.hid hr2
                clear hr hr2 ht hv ht0
                go_upto_region 9 with (first | (go_at_call 55; refine (HT.out _).mono ?_; rintro e w1 ⟨rfl, hw⟩; have hw := hw.symm; subst hw) | (go_at_call 61; refine (HV.out _).mono ?_; rintro e w1 ⟨rfl, hw⟩; have hw := hw.symm; subst hw))
                go_quiet (fail)
                go_wp2
                go_ret
                exact ⟨by rw [HX.out.2.1, HQ.out]; rfl, HX.out.1.trans ((below_drewN H1.out.2 _).mono HX.out.1.size)⟩
              · have hr2 := hr.trans (if_neg hle)
                have hle2 : decide (xa ≤ la) = false := decide_eq_false hle
                have HQ := Lib.hid hr2
                clear hr hr2 ht hv ht0
                go_upto_region 9 with (first | (go_at_call 55; refine (HT.out _).mono ?_; rintro e w1 ⟨rfl, hw⟩; have hw := hw.symm; subst hw) | (go_at_call 61; refine (HV.out _).mono ?_; rintro e w1 ⟨rfl, hw⟩; have hw := hw.symm; subst hw))
                go_quiet (fail)
                go_wp2
                go_roundw
                case rel => exact ⟨k + 1, by omega, by go_num, by rw [HQ.out, ← HR.out.2.2], below_drewN H1.out.2 _⟩
                case measure => simp [intOf]; omega
      · obtain rfl : k = L.length := by omega
        rw [List.drop_length] at hck
        have HR := Lib.hid (And.intro hck hbw)
        clear hck hbw
        go_wp2
        go_ret
        exact ⟨by rw [HX.out.2.1, HR.out.1]; rfl, HX.out.1.trans (HR.out.2.mono HX.out.1.size)⟩
end Sx
end Go.Proofs.YtionocafkaemiaaDoor
