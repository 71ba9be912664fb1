/- The specification: Time, Number, Check, at. The program: isTime, isValue, Check. The program: comparing, index. -/
import Derived.Test.YtionocafkaemiaaDoorK2
namespace Go.Proofs.YtionocafkaemiaaDoor
open Go.RowKit Go.Lib
namespace Sx

set_option maxHeartbeats 2000000 in
theorem timeR_ok (t : Int) (w : World) : Calls Tryd.prog 55 #[.int .i64 t] w fun e w' => e = .returned (.bool (inT t)) ∧ w' = w := by
  unfold inT
  by_cases h : 0 ≤ t
  · have h' : t ≥ 0 := h
    rw [decide_eq_true h, Bool.true_and]
    go_enter Tryd.func55, Tryd.ntmps55
    go_wp2
    go_ret
    exact ⟨rfl, rfl⟩
  · have h' : ¬ t ≥ 0 := h
    rw [decide_eq_false h, Bool.false_and]
    go_enter Tryd.func55, Tryd.ntmps55
    go_wp2
    go_ret
    exact ⟨rfl, rfl⟩
set_option maxHeartbeats 2000000 in
theorem numR_ok (t : Int) (w : World) : Calls Tryd.prog 61 #[.int .i64 t] w fun e w' => e = .returned (.bool (inT t)) ∧ w' = w := by
  unfold inT
  by_cases h : 0 ≤ t
  · have h' : t ≥ 0 := h
    rw [decide_eq_true h, Bool.true_and]
    go_enter Tryd.func61, Tryd.ntmps61
    go_wp2
    go_ret
    exact ⟨rfl, rfl⟩
  · have h' : ¬ t ≥ 0 := h
    rw [decide_eq_false h, Bool.false_and]
    go_enter Tryd.func61, Tryd.ntmps61
    go_wp2
    go_ret
    exact ⟨rfl, rfl⟩
theorem chk_next {last : Int} {x : Sm} {L : List Sm} : chkF last (x :: L) = if (inT x.a && inT x.v) = false then 7 else if x.a ≤ last then 6 else chkF x.a L := rfl
def lastA (L : List Sm) (k : Nat) : Int := if k = 0 then -1 else (sm L (k - 1)).a
attribute [local irreducible] wpQuiet
set_option maxRecDepth 100000 in
set_option maxHeartbeats 4000000 in
theorem checkR_ok (A : Option Addr) (c : Nat) (L : List Sm) (W : World) (hL : SAt W A c L) : Calls Tryd.prog 36 #[sv A L.length c] W fun e w' => e = .returned (.int .i64 (checkS L)) ∧ Below W.heap.size W w' := by
  have hb := below_box W (.cells #[.slice A L.length c] 24)
  have hn := one_at (new_at W (.cells #[.slice A L.length c] 24))
  have hcm := hL.2.1
  have hlc := hL.1
  unfold maxLen at hcm
  by_cases h5 : 500 < L.length
  · have hr : checkS L = 3 := if_pos h5
    have HX := Lib.hid (And.intro hb hr)
    clear hb hn hr hL
    go_enter Tryd.func36, Tryd.ntmps36
    go_wp2
    go_ret
    exact ⟨by rw [HX.out.2]; rfl, HX.out.1⟩
  · have hr : checkS L = chkF (-1) L := if_neg h5
    have hLV := hL.below hb (Nat.le_refl _)
    have HX := Lib.hid (And.intro hb (And.intro hr hLV))
    clear hb hr hLV hL
    go_enter Tryd.func36, Tryd.ntmps36
    go_upto_region 1 with (fail)
    generalize W.alloc (.cells #[.slice A L.length c] 24) = V at *
    have HN := Lib.hid hn
    go_wp2_with (fail)
    go_loopw [3] (fun i wr => ∃ k : Nat, k ≤ L.length ∧ i = .int .i64 (k : Int) ∧ chkF (-1) L = chkF (lastA L k) (L.drop k) ∧ Below V.heap.size V wr) (fun i _ => L.length - (intOf i).toNat)
    case atStart => exact ⟨0, Nat.zero_le _, rfl, rfl, Below.refl _ _⟩
    case round =>
      obtain ⟨k, hk, rfl, hck, hbw⟩ := hrel
      have s0 := cell_keep2 hbw HN.out
      clear hn
      by_cases hlt : k < L.length
      · have hLw := HX.out.2.2.below hbw (Nat.le_refl _)
        obtain ⟨g, o, rfl, hg, d0, d1⟩ := hLw.s2 hlt
        have hdn := drop_next (sm_get hlt)
        rw [hdn, chk_next] at hck
        have hprev : 0 < k → wr.cell? ⟨g, o + (k - 1) * 2, none⟩ = some (.int .i64 (lastA L k)) := fun h0 => by
          obtain ⟨g', o', e, _, e0, _⟩ := hLw.s2 (j := k - 1) (by omega)
          injection e with e; injection e with e1 e2 _
          subst e1; subst e2
          rw [e0]; unfold lastA; rw [if_neg (by omega)]
        have hla : lastA L (k + 1) = (sm L k).a := by unfold lastA; rw [if_neg (by omega), Nat.add_sub_cancel]
        have hl0 : k = 0 → lastA L k = -1 := fun e => by unfold lastA; rw [if_pos e]
        generalize lastA L k = la at *
        generalize sm L k = x at *
        obtain ⟨xa, xv⟩ := x
        dsimp only at hck d0 d1 hla
        have HR := Lib.hid (And.intro hck (And.intro hbw hla))
        have HT := Lib.hid (fun V => timeR_ok xa V)
        have HV := Lib.hid (fun V => numR_ok xv V)
        have HP := Lib.hid (And.intro hprev hl0)
        clear hck hbw hLw hla hdn hprev hl0
        go_upto_region 7 with (fail)
        obtain ⟨V1, hV1⟩ : ∃ V1, V1 = wr.alloc (.cells #[.int .i64 xa, .int .i64 xv] 49) := ⟨_, rfl⟩
        rw [← hV1]
        obtain ⟨ub, hub⟩ : ∃ ub, ub = wr.heap.size := ⟨_, rfl⟩
        rw [← hub]
        have hbx : V1.heap[ub]? = some (.cells #[.int .i64 xa, .int .i64 xv] 49 (0, 0)) := by rw [hV1, hub, heapAlloc, if_pos rfl]
        have hbV : Below wr.heap.size wr V1 := by rw [hV1]; exact below_box _ _
        obtain ⟨u0, u1⟩ := two_at hbx
        replace s0 := cell_keep2 hbV s0
        have H1 := Lib.hid (And.intro hbV (HR.out.2.1.trans (hbV.mono HR.out.2.1.size)))
        clear hV1 hub hbx hbV d0 d1
        cases ht : inT xa with
        | false =>
          rw [ht] at HT
          have hr := HR.out.1.trans (if_pos (by rw [ht]; rfl))
          have HQ := Lib.hid hr
          clear hr ht
          go_wp2_with (go_at_call 55; refine (HT.out _).mono ?_; rintro e w1 ⟨rfl, hw⟩; have hw := hw.symm; subst hw)
          go_ret
          exact ⟨by rw [HX.out.2.1, HQ.out]; rfl, HX.out.1.trans (H1.out.2.mono HX.out.1.size)⟩
        | true =>
          rw [ht] at HT
          cases hv : inT xv with
          | false =>
            rw [hv] at HV
            have hr := HR.out.1.trans (if_pos (by rw [ht, hv]; rfl))
            have HQ := Lib.hid hr
            clear hr ht hv
            go_wp2_with (first | (go_at_call 55; refine (HT.out _).mono ?_; rintro e w1 ⟨rfl, hw⟩; have hw := hw.symm; subst hw) | (go_at_call 61; refine (HV.out _).mono ?_; rintro e w1 ⟨rfl, hw⟩; have hw := hw.symm; subst hw))
            go_ret
            exact ⟨by rw [HX.out.2.1, HQ.out]; rfl, HX.out.1.trans (H1.out.2.mono HX.out.1.size)⟩
          | true =>
            rw [hv] at HV
            have hr := HR.out.1.trans (if_neg (by rw [ht, hv]; simp))
            have ht0 := (inT_iff.1 ht).1
            by_cases hk0 : k = 0
            · have hnl : ¬ xa ≤ la := by rw [HP.out.2 hk0]; omega
              have hr2 := hr.trans (if_neg hnl)
              have HQ := Lib.hid hr2
              subst hk0
              clear hr hr2 ht hv hnl ht0
              go_upto_region 9 with (first | (go_at_call 55; refine (HT.out _).mono ?_; rintro e w1 ⟨rfl, hw⟩; have hw := hw.symm; subst hw) | (go_at_call 61; refine (HV.out _).mono ?_; rintro e w1 ⟨rfl, hw⟩; have hw := hw.symm; subst hw))
              go_quiet (fail)
              go_wp2
              go_roundw
              case rel => exact ⟨1, by omega, by go_num, by rw [HQ.out, ← HR.out.2.2], below_drewN H1.out.2 _⟩
              case measure => simp [intOf]; omega
            · have q0 := cell_keep2 H1.out.1 (HP.out.1 (by omega))
              obtain ⟨j, hj⟩ : ∃ j, k = j + 1 := ⟨k - 1, by omega⟩
              have q1 : decide ((0 : Int) < (k : Int)) = true := by simp; omega
              have q2 : decide (0 < k) = true := by simp; omega
              have q3 : (k : Int) - 1 = (j : Int) := by omega
              have q4 : (j : Int) < (L.length : Int) := by omega
              rw [show k - 1 = j by omega] at q0
              have HJ := Lib.hid (And.intro hj hk0)
              clear hj hk0
              by_cases hle : xa ≤ la
              · have hr2 := hr.trans (if_pos hle)
                have HQ := Lib.hid hr2
                clear hr hr2 ht hv ht0
                go_upto_region 9 with (first | (go_at_call 55; refine (HT.out _).mono ?_; rintro e w1 ⟨rfl, hw⟩; have hw := hw.symm; subst hw) | (go_at_call 61; refine (HV.out _).mono ?_; rintro e w1 ⟨rfl, hw⟩; have hw := hw.symm; subst hw))
                go_quiet (fail)
                go_wp2
                go_ret
                exact ⟨by rw [HX.out.2.1, HQ.out]; rfl, HX.out.1.trans ((below_drewN H1.out.2 _).mono HX.out.1.size)⟩
              · have hr2 := hr.trans (if_neg hle)
                have hle2 : decide (xa ≤ la) = false := decide_eq_false hle
                have HQ := Lib.hid hr2
                clear hr hr2 ht hv ht0
                go_upto_region 9 with (first | (go_at_call 55; refine (HT.out _).mono ?_; rintro e w1 ⟨rfl, hw⟩; have hw := hw.symm; subst hw) | (go_at_call 61; refine (HV.out _).mono ?_; rintro e w1 ⟨rfl, hw⟩; have hw := hw.symm; subst hw))
                go_quiet (fail)
                go_wp2
                go_roundw
                case rel => exact ⟨k + 1, by omega, by go_num, by rw [HQ.out, ← HR.out.2.2], below_drewN H1.out.2 _⟩
                case measure => simp [intOf]; omega
      · obtain rfl : k = L.length := by omega
        rw [List.drop_length] at hck
        have HR := Lib.hid (And.intro hck hbw)
        clear hck hbw
        go_wp2
        go_ret
        exact ⟨by rw [HX.out.2.1, HR.out.1]; rfl, HX.out.1.trans (HR.out.2.mono HX.out.1.size)⟩
end Sx
end Go.Proofs.YtionocafkaemiaaDoor
namespace Go.Proofs.YtionocafkaemiaaDoor
open Go.RowKit Go.Lib
namespace Sx

set_option maxHeartbeats 2000000 in
theorem isTime_ok (t : Int) (w : World) : Calls Tryd.prog 49 #[.int .i64 t] w fun e w' => e = .returned (.bool (inT t)) ∧ w' = w := by
  unfold inT
  by_cases h : 0 ≤ t
  · have h' : t ≥ 0 := h
    rw [decide_eq_true h, Bool.true_and]
    go_enter Tryd.func49, Tryd.ntmps49
    go_wp2
    go_ret
    exact ⟨rfl, rfl⟩
  · have h' : ¬ t ≥ 0 := h
    rw [decide_eq_false h, Bool.false_and]
    go_enter Tryd.func49, Tryd.ntmps49
    go_wp2
    go_ret
    exact ⟨rfl, rfl⟩
set_option maxHeartbeats 2000000 in
theorem isValue_ok (t : Int) (w : World) : Calls Tryd.prog 59 #[.int .i64 t] w fun e w' => e = .returned (.bool (inT t)) ∧ w' = w := by
  unfold inT
  by_cases h : 0 ≤ t
  · have h' : t ≥ 0 := h
    rw [decide_eq_true h, Bool.true_and]
    go_enter Tryd.func59, Tryd.ntmps59
    go_wp2
    go_ret
    exact ⟨rfl, rfl⟩
  · have h' : ¬ t ≥ 0 := h
    rw [decide_eq_false h, Bool.false_and]
    go_enter Tryd.func59, Tryd.ntmps59
    go_wp2
    go_ret
    exact ⟨rfl, rfl⟩
set_option maxRecDepth 100000 in
set_option maxHeartbeats 4000000 in
theorem check_ok (A : Option Addr) (c : Nat) (L : List Sm) (W : World) (hL : SAt W A c L) : Calls Tryd.prog 24 #[sv A L.length c] W fun e w' => e = .returned (.int .i64 (checkS L)) ∧ Below W.heap.size W w' := by
  have hb := below_box W (.cells #[.slice A L.length c] 24)
  have hn := one_at (new_at W (.cells #[.slice A L.length c] 24))
  have hcm := hL.2.1
  have hlc := hL.1
  unfold maxLen at hcm
  by_cases h5 : 500 < L.length
  · have hr : checkS L = 3 := if_pos h5
    have HX := Lib.hid (And.intro hb hr)
    clear hb hn hr hL
    go_enter Tryd.func24, Tryd.ntmps24
    go_wp2
    go_ret
    exact ⟨by rw [HX.out.2]; rfl, HX.out.1⟩
  · have hr : checkS L = chkF (-1) L := if_neg h5
    have hLV := hL.below hb (Nat.le_refl _)
    have HX := Lib.hid (And.intro hb (And.intro hr hLV))
    clear hb hr hLV hL
    go_enter Tryd.func24, Tryd.ntmps24
    go_upto_region 1 with (fail)
    generalize W.alloc (.cells #[.slice A L.length c] 24) = V at *
    have HN := Lib.hid hn
    go_upto_region 5 with (fail)
    clear hn
    go_loopw [3, 13] (fun la i wr => ∃ (k : Nat) (l : Int), k ≤ L.length ∧ i = .int .i64 (k : Int) ∧ la = .int .i64 l ∧ chkF (-1) L = chkF l (L.drop k) ∧ Below V.heap.size V wr) (fun _ i _ => L.length - (intOf i).toNat)
    case atStart => exact ⟨0, -1, Nat.zero_le _, rfl, rfl, rfl, Below.refl _ _⟩
    case round =>
      obtain ⟨k, la, hk, rfl, rfl, hck, hbw⟩ := hrel
      by_cases hlt : k < L.length
      · have hLw := HX.out.2.2.below hbw (Nat.le_refl _)
        obtain ⟨g, o, rfl, hg, d0, d1⟩ := hLw.s2 hlt
        rw [drop_next (sm_get hlt), chk_next] at hck
        generalize sm L k = x at *
        obtain ⟨xa, xv⟩ := x
        dsimp only at hck d0 d1
        have HR := Lib.hid (And.intro hck hbw)
        have HT := Lib.hid (fun V => isTime_ok xa V)
        have HV := Lib.hid (fun V => isValue_ok xv V)
        clear hck hbw hLw
        go_upto_region 7 with (fail)
        obtain ⟨V1, hV1⟩ : ∃ V1, V1 = wr.alloc (.cells #[.int .i64 xa, .int .i64 xv] 49) := ⟨_, rfl⟩
        rw [← hV1]
        obtain ⟨ub, hub⟩ : ∃ ub, ub = wr.heap.size := ⟨_, rfl⟩
        rw [← hub]
        have hbx : V1.heap[ub]? = some (.cells #[.int .i64 xa, .int .i64 xv] 49 (0, 0)) := by rw [hV1, hub, heapAlloc, if_pos rfl]
        have hbV : Below wr.heap.size wr V1 := by rw [hV1]; exact below_box _ _
        obtain ⟨u0, u1⟩ := two_at hbx
        have H1 := Lib.hid (HR.out.2.trans (hbV.mono HR.out.2.size))
        clear hV1 hub hbx hbV d0 d1
        cases ht : inT xa with
        | false =>
          rw [ht] at HT
          have HQ := Lib.hid (HR.out.1.trans (if_pos (by rw [ht]; rfl)))
          clear ht
          go_wp2_with (go_at_call 49; refine (HT.out _).mono ?_; rintro e w1 ⟨rfl, hw⟩; have hw := hw.symm; subst hw)
          go_ret
          exact ⟨by rw [HX.out.2.1, HQ.out]; rfl, HX.out.1.trans (H1.out.mono HX.out.1.size)⟩
        | true =>
          rw [ht] at HT
          cases hv : inT xv with
          | false =>
            rw [hv] at HV
            have HQ := Lib.hid (HR.out.1.trans (if_pos (by rw [ht, hv]; rfl)))
            clear ht hv
            go_wp2_with (first | (go_at_call 49; refine (HT.out _).mono ?_; rintro e w1 ⟨rfl, hw⟩; have hw := hw.symm; subst hw) | (go_at_call 59; refine (HV.out _).mono ?_; rintro e w1 ⟨rfl, hw⟩; have hw := hw.symm; subst hw))
            go_ret
            exact ⟨by rw [HX.out.2.1, HQ.out]; rfl, HX.out.1.trans (H1.out.mono HX.out.1.size)⟩
          | true =>
            rw [hv] at HV
            have hr := HR.out.1.trans (if_neg (by rw [ht, hv]; simp))
            clear ht hv
            by_cases hle : xa ≤ la
            · have HQ := Lib.hid (hr.trans (if_pos hle))
              clear hr
              go_wp2_with (first | (go_at_call 49; refine (HT.out _).mono ?_; rintro e w1 ⟨rfl, hw⟩; have hw := hw.symm; subst hw) | (go_at_call 59; refine (HV.out _).mono ?_; rintro e w1 ⟨rfl, hw⟩; have hw := hw.symm; subst hw))
              go_ret
              exact ⟨by rw [HX.out.2.1, HQ.out]; rfl, HX.out.1.trans (H1.out.mono HX.out.1.size)⟩
            · have HQ := Lib.hid (hr.trans (if_neg hle))
              clear hr
              go_wp2_with (first | (go_at_call 49; refine (HT.out _).mono ?_; rintro e w1 ⟨rfl, hw⟩; have hw := hw.symm; subst hw) | (go_at_call 59; refine (HV.out _).mono ?_; rintro e w1 ⟨rfl, hw⟩; have hw := hw.symm; subst hw))
              go_roundw
              case rel => exact ⟨k + 1, xa, by omega, by go_num, rfl, HQ.out, H1.out⟩
              case measure => simp [intOf]; omega
      · obtain rfl : k = L.length := by omega
        rw [List.drop_length] at hck
        have HR := Lib.hid (And.intro hck hbw)
        clear hck hbw
        go_wp2
        go_ret
        exact ⟨by rw [HX.out.2.1, HR.out.1]; rfl, HX.out.1.trans (HR.out.2.mono HX.out.1.size)⟩
end Sx
end Go.Proofs.YtionocafkaemiaaDoor
namespace Go.Proofs.YtionocafkaemiaaDoor
open Go.RowKit Go.Lib
namespace Sx

theorem nan64_ok (x : Int) (w : World) : Calls Tryd.prog 76 #[.int .i64 x] w fun e w' => e = .returned (.bool false) ∧ w = w' := by
  go_enter Tryd.func76, Tryd.ntmps76
  go_wp2
  go_ret
  exact ⟨by simp, rfl⟩
def cmpV (a b : Int) : Int := if a < b then -1 else if b < a then 1 else 0
set_option maxHeartbeats 1000000 in
theorem cmp64_ok (a b : Int) (w : World) : Calls Tryd.prog 47 #[.int .i64 a, .int .i64 b] w fun e w' => e = .returned (.int .i64 (cmpV a b)) ∧ w = w' := by
  unfold cmpV
  by_cases h : a < b
  · rw [if_pos h]
    go_enter Tryd.func47, Tryd.ntmps47
    go_wp2_with (go_at_call 76; refine (nan64_ok _ _).mono ?_; rintro e w' ⟨rfl, rfl⟩)
    go_ret
    exact ⟨rfl, rfl⟩
  · rw [if_neg h]
    by_cases h2 : b < a
    · rw [if_pos h2]
      go_enter Tryd.func47, Tryd.ntmps47
      go_wp2_with (go_at_call 76; refine (nan64_ok _ _).mono ?_; rintro e w' ⟨rfl, rfl⟩)
      go_ret
      exact ⟨rfl, rfl⟩
    · rw [if_neg h2]
      go_enter Tryd.func47, Tryd.ntmps47
      go_wp2_with (go_at_call 76; refine (nan64_ok _ _).mono ?_; rintro e w' ⟨rfl, rfl⟩)
      go_ret
      exact ⟨rfl, rfl⟩
theorem cmpV_lt {a b : Int} : cmpV a b < 0 ↔ a < b := by unfold cmpV; split <;> (try split) <;> omega
theorem cmpV_eq {a b : Int} : cmpV a b = 0 ↔ a = b := by unfold cmpV; split <;> (try split) <;> omega
set_option maxHeartbeats 2000000 in
theorem idxc_ok (x : Sm) (t : Int) (w : World) : Calls Tryd.prog 84 #[.agg #[.int .i64 x.a, .int .i64 x.v], .int .i64 t] w fun e w' => e = .returned (.int .i64 (cmpV x.a t)) ∧ Below w.heap.size w w' := by
  have hb := below_box w (.cells #[.int .i64 x.a, .int .i64 x.v] 49)
  have hn := two_at (new_at w (.cells #[.int .i64 x.a, .int .i64 x.v] 49))
  obtain ⟨u0, u1⟩ := hn
  obtain ⟨xa, xv⟩ := x
  dsimp only at hb u0 u1 ⊢
  have HC := Lib.hid (fun V => cmp64_ok xa t V)
  have HB := Lib.hid hb
  clear hb
  go_enter Tryd.func84, Tryd.ntmps84
  go_wp2_with (go_at_call 47; refine (HC.out _).mono ?_; rintro e w1 ⟨rfl, rfl⟩)
  go_ret
  exact ⟨rfl, HB.out⟩
/-- How many samples lie ahead of a time. -/
def low (L : List Sm) (t : Int) : Nat := L.countP fun x => decide (x.a < t)
theorem low_at {L : List Sm} (h : L.Pairwise fun x y => x.a < y.a) (t : Int) : (∀ i, i < low L t → (sm L i).a < t) ∧ (∀ i, low L t ≤ i → i < L.length → t ≤ (sm L i).a) := by
  have e : low L t = upto L (t - 1) := by
    unfold low upto
    apply List.countP_congr
    intro x _
    simp only [decide_eq_true_eq]
    omega
  rw [e]
  obtain ⟨h1, h2⟩ := upto_at h (t - 1)
  exact ⟨fun i hi => by have := h1 i hi; omega, fun i h3 h4 => by have := h2 i h3 h4; omega⟩
theorem low_is {L : List Sm} {t : Int} {k : Nat} (hk : k ≤ L.length) (h1 : ∀ i, i < k → (sm L i).a < t) (h2 : ∀ i, k ≤ i → i < L.length → t ≤ (sm L i).a) : low L t = k := by
  have e : low L t = upto L (t - 1) := by
    unfold low upto
    apply List.countP_congr
    intro x _
    simp only [decide_eq_true_eq]
    omega
  rw [e]
  exact upto_is hk (fun i hi => by have := h1 i hi; omega) fun i h3 h4 => by have := h2 i h3 h4; omega
/-- Is there a sample at a time? -/
def isAt (L : List Sm) (t : Int) : Bool := decide (low L t < L.length) && decide ((sm L (low L t)).a = t)
/-- The program's index. -/
theorem idx_is {L : List Sm} (h : L.Pairwise fun x y => x.a < y.a) (t : Int) : idx L t = if isAt L t = true then (low L t : Int) else (low L t : Int) - 1 := by
  obtain ⟨l1, l2⟩ := low_at h t
  have hle : low L t ≤ L.length := List.countP_le_length
  have hlt : ∀ {i j : Nat}, i < j → j < L.length → (sm L i).a < (sm L j).a := fun {i j} hij hj => by
    rw [sm_el hj, sm_el (show i < L.length by omega)]
    exact (List.pairwise_iff_getElem.1 h) i j (by omega) hj hij
  unfold idx isAt
  generalize low L t = k at *
  by_cases h1 : k < L.length ∧ (sm L k).a = t
  · have hu : upto L t = k + 1 := upto_is (by omega) (fun i hi => by
      rcases Nat.lt_or_ge i k with h2 | h2
      · have := l1 i h2; omega
      · obtain rfl : i = k := by omega
        omega) fun i h2 h3 => by have := hlt (i := k) (j := i) (by omega) h3; omega
    rw [hu, if_pos (by rw [decide_eq_true h1.1, decide_eq_true h1.2]; rfl)]; omega
  · have hu : upto L t = k := upto_is hle (fun i hi => by have := l1 i hi; omega) fun i h2 h3 => by
      have h4 := l2 i h2 h3
      rcases Nat.lt_or_ge k i with h5 | h5
      · have := l2 k (Nat.le_refl _) (by omega); have := hlt h5 h3; omega
      · obtain rfl : i = k := by omega
        have : (sm L i).a ≠ t := fun e => h1 ⟨h3, e⟩
        omega
    rw [hu, if_neg (by simp only [Bool.and_eq_true, decide_eq_true_eq]; exact h1)]
theorem low_le (L : List Sm) (t : Int) : low L t ≤ L.length := List.countP_le_length
set_option maxRecDepth 100000 in
set_option maxHeartbeats 4000000 in
theorem bin_ok (A : Option Addr) (c : Nat) (L : List Sm) (t : Int) (w : World) (hL : SAt w A c L) (hs : OkS L) :
    Calls Tryd.prog 83 #[.slice A L.length c, .int .i64 t, .func (.func 84) #[] #[]] w fun e w' => e = .returned (.tuple #[.int .i64 (low L t : Int), .bool (isAt L t)]) ∧ Below w.heap.size w w' := by
  have hlen := hs.len
  have hcm := hL.2.1
  have hlc := hL.1
  unfold maxLen at hcm
  have HX := Lib.hid (And.intro hL hs)
  clear hL hs
  go_enter Tryd.func83, Tryd.ntmps83
  go_upto_region 3 with (fail)
  go_loopw [9, 10] (fun x y wr => ∃ i j : Nat, i ≤ j ∧ j ≤ L.length ∧ x = .int .i64 (i : Int) ∧ y = .int .i64 (j : Int) ∧ (∀ k, k < i → (sm L k).a < t) ∧ (∀ k, j ≤ k → k < L.length → t ≤ (sm L k).a) ∧ Below w.heap.size w wr) (fun x y _ => (intOf y).toNat - (intOf x).toNat)
  case atStart => exact ⟨0, L.length, Nat.zero_le _, Nat.le_refl _, rfl, rfl, fun k hk => by omega, fun k _ hk => by omega, Below.refl _ _⟩
  case round =>
    obtain ⟨i, j, hij, hj, rfl, rfl, h1, h2, hb⟩ := hrel
    by_cases hlt : i < j
    · obtain ⟨m, hm⟩ : ∃ m, m = (i + j) / 2 := ⟨_, rfl⟩
      have hq : ((i : Int) + (j : Int)) / 2 = (m : Int) := by omega
      have hm1 : i ≤ m := by omega
      have hm2 : m < j := by omega
      have hb' := HX.out.1.below hb (Nat.le_refl _)
      obtain ⟨g, o, rfl, hg, d0, d1⟩ := hb'.s2 (j := m) (by omega)
      have hml : (m : Int) < (L.length : Int) := by omega
      have hlow : (sm L m).a < t → ∀ k, k < m + 1 → (sm L k).a < t := fun h k hk => by
        rcases Nat.lt_or_ge k m with h3 | h3
        · have := HX.out.2.lt h3 (by omega); omega
        · obtain rfl : k = m := by omega
          exact h
      have hhigh : ¬ (sm L m).a < t → ∀ k, m ≤ k → k < L.length → t ≤ (sm L k).a := fun h k h3 h4 => by
        rcases Nat.lt_or_ge m k with h5 | h5
        · have := HX.out.2.lt h5 h4; omega
        · obtain rfl : k = m := by omega
          omega
      have hcc := fun V => idxc_ok (sm L m) t V
      have hcv := @cmpV_lt (sm L m).a t
      generalize cmpV (sm L m).a t = cv at *
      generalize sm L m = x at *
      obtain ⟨xa, xv⟩ := x
      dsimp only at d0 d1 hlow hhigh hcc hcv
      have HC := Lib.hid (And.intro hcc (And.intro hlow (And.intro hhigh (And.intro h1 (And.intro h2 hb)))))
      have HM := Lib.hid (And.intro hm hcv)
      clear hcc hlow hhigh h1 h2 hb hb' hm hcv
      by_cases hcv : cv < 0
      · have HL := Lib.hid (HC.out.2.1 (HM.out.2.1 hcv))
        go_wp2_with (go_at_call 84; refine (HC.out.1 _).mono ?_; rintro e w1 ⟨rfl, hb1⟩; have H1 := Lib.hid (HC.out.2.2.2.2.2.trans (hb1.mono HC.out.2.2.2.2.2.size)); clear hb1)
        go_roundw
        case rel => exact ⟨m + 1, j, by omega, by omega, by go_num, rfl, HL.out, HC.out.2.2.2.2.1, H1.out⟩
        case measure => simp [intOf]; omega
      · have HL := Lib.hid (HC.out.2.2.1 fun e => hcv (HM.out.2.2 e))
        go_wp2_with (go_at_call 84; refine (HC.out.1 _).mono ?_; rintro e w1 ⟨rfl, hb1⟩; have H1 := Lib.hid (HC.out.2.2.2.2.2.trans (hb1.mono HC.out.2.2.2.2.2.size)); clear hb1)
        go_roundw
        case rel => exact ⟨i, m, by omega, by omega, rfl, by go_num, HC.out.2.2.2.1, HL.out, H1.out⟩
        case measure => simp [intOf]; omega
    · obtain rfl : i = j := by omega
      have hlo := low_is hj h1 h2
      have hr : isAt L t = (decide (i < L.length) && decide ((sm L i).a = t)) := by unfold isAt; rw [hlo]
      have HR := Lib.hid (And.intro hlo (And.intro hr hb))
      clear h1 h2 hlo hr
      by_cases hil : i < L.length
      · have hb' := HX.out.1.below hb (Nat.le_refl _)
        obtain ⟨g, o, rfl, hg, d0, d1⟩ := hb'.s2 hil
        have hcc := fun V => idxc_ok (sm L i) t V
        have hcv := @cmpV_eq (sm L i).a t
        generalize cmpV (sm L i).a t = cv at *
        generalize sm L i = x at *
        obtain ⟨xa, xv⟩ := x
        dsimp only at d0 d1 hcc hcv
        have hbe : (cv == 0) = decide (xa = t) := by rw [Bool.eq_iff_iff, beq_iff_eq, decide_eq_true_eq]; exact hcv
        have HC := Lib.hid (And.intro hcc hbe)
        clear hcc hcv hb hb' hbe
        go_wp2_with (go_at_call 84; refine (HC.out.1 _).mono ?_; rintro e w1 ⟨rfl, hb1⟩; have H1 := Lib.hid (HR.out.2.2.trans (hb1.mono HR.out.2.2.size)); clear hb1)
        go_ret2
        refine ⟨?_, H1.out⟩
        rw [HR.out.1, HR.out.2.1, decide_eq_true hil, Bool.true_and, ← HC.out.2]
        first | done | rfl
      · clear hb
        go_wp2
        go_ret2
        refine ⟨?_, HR.out.2.2⟩
        rw [HR.out.1, HR.out.2.1, decide_eq_false hil, Bool.false_and]
        first | done | rfl
set_option maxHeartbeats 4000000 in
/-- The index of the sample that is valid at a time. -/
theorem index_ok (A : Option Addr) (c : Nat) (L : List Sm) (t : Int) (W : World) (hL : SAt W A c L) (hs : OkS L) : Calls Tryd.prog 63 #[sv A L.length c, .int .i64 t] W fun e w' => e = .returned (.int .i64 (idx L t)) ∧ Below W.heap.size W w' := by
  have hb := below_box W (.cells #[.slice A L.length c] 24)
  have hn := one_at (new_at W (.cells #[.slice A L.length c] 24))
  have hbin := bin_ok A c L t _ (hL.below hb (Nat.le_refl _)) hs
  have hi := idx_is hs.asc t
  have hl := low_le L t
  have hlen := hs.len
  generalize low L t = lo at *
  have HX := Lib.hid (And.intro hb (And.intro hbin hi))
  clear hb hbin hi hL hs
  go_enter Tryd.func63, Tryd.ntmps63
  go_upto_region 1 with (fail)
  generalize W.alloc (.cells #[.slice A L.length c] 24) = V at *
  cases hf : isAt L t with
  | true =>
    rw [hf] at HX
    clear hf
    go_wp2_with (go_at_call 83; refine HX.out.2.1.mono ?_; rintro e w1 ⟨rfl, hb1⟩; have H1 := Lib.hid (HX.out.1.trans (hb1.mono HX.out.1.size)); clear hb1)
    go_ret
    exact ⟨by rw [HX.out.2.2]; first | done | rfl, H1.out⟩
  | false =>
    rw [hf] at HX
    clear hf
    go_wp2_with (go_at_call 83; refine HX.out.2.1.mono ?_; rintro e w1 ⟨rfl, hb1⟩; have H1 := Lib.hid (HX.out.1.trans (hb1.mono HX.out.1.size)); clear hb1)
    go_ret
    exact ⟨by rw [HX.out.2.2]; first | done | rfl, H1.out⟩
end Sx
end Go.Proofs.YtionocafkaemiaaDoor
