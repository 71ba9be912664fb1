/- The program: isTime, isValue, Check. -/
import Derived.Test.YtionocafkaemiaaDoorJR1
namespace Go.Proofs.YtionocafkaemiaaDoor
open Go.RowKit Go.Lib
namespace Sx

set_option maxHeartbeats 2000000 in
theorem isTime_ok (t : Int) (w : World) : Calls Tryd.prog 49 #[.int .i64 t] w fun e w' => e = .returned (.bool (inT t)) ∧ w' = w := by
  unfold inT
  by_cases h : 0 ≤ t
  · have h' : t ≥ 0 := h
    rw [decide_eq_true h, Bool.true_and]
    go_enter Tryd.func49, Tryd.ntmps49
    go_wp2
    go_ret
    exact ⟨rfl, rfl⟩
  · have h' : ¬ t ≥ 0 := h
    rw [decide_eq_false h, Bool.false_and]
    go_enter Tryd.func49, Tryd.ntmps49
    go_wp2
    go_ret
    exact ⟨rfl, rfl⟩
set_option maxHeartbeats 2000000 in
theorem isValue_ok (t : Int) (w : World) : Calls Tryd.prog 59 #[.int .i64 t] w fun e w' => e = .returned (.bool (inT t)) ∧ w' = w := by
  unfold inT
  by_cases h : 0 ≤ t
  · have h' : t ≥ 0 := h
    rw [decide_eq_true h, Bool.true_and]
    go_enter Tryd.func59, Tryd.ntmps59
    go_wp2
    go_ret
    exact ⟨rfl, rfl⟩
  · have h' : ¬ t ≥ 0 := h
    rw [decide_eq_false h, Bool.false_and]
    go_enter Tryd.func59, Tryd.ntmps59
    go_wp2
    go_ret
    exact ⟨rfl, rfl⟩
set_option maxRecDepth 100000 in
set_option maxHeartbeats 4000000 in
theorem check_ok (A : Option Addr) (c : Nat) (L : List Sm) (W : World) (hL : SAt W A c L) : Calls Tryd.prog 24 #[sv A L.length c] W fun e w' => e = .returned (.int .i64 (checkS L)) ∧ Below W.heap.size W w' := by
  have hb := below_box W (.cells #[.slice A L.length c] 24)
  have hn := one_at (new_at W (.cells #[.slice A L.length c] 24))
  have hcm := hL.2.1
  have hlc := hL.1
  unfold maxLen at hcm
  by_cases h5 : 500 < L.length
  · have hr : checkS L = 3 := if_pos h5
    have HX := Lib.hid (And.intro hb hr)
    clear hb hn hr hL
    go_enter Tryd.func24, Tryd.ntmps24
    go_wp2
    go_ret
    exact ⟨by rw [HX.out.2]; rfl, HX.out.1⟩
  · have hr : checkS L = chkF (-1) L := if_neg h5
    have hLV := hL.below hb (Nat.le_refl _)
    have HX := Lib.hid (And.intro hb (And.intro hr hLV))
    clear hb hr hLV hL
    go_enter Tryd.func24, Tryd.ntmps24
    go_upto_region 1 with (fail)
    generalize W.alloc (.cells #[.slice A L.length c] 24) = V at *
    have HN := Lib.hid hn
    go_upto_region 5 with (fail)
    clear hn
    go_loopw [3, 13] (fun la i wr => ∃ (k : Nat) (l : Int), k ≤ L.length ∧ i = .int .i64 (k : Int) ∧ la = .int .i64 l ∧ chkF (-1) L = chkF l (L.drop k) ∧ Below V.heap.size V wr) (fun _ i _ => L.length - (intOf i).toNat)
    case atStart => exact ⟨0, -1, Nat.zero_le _, rfl, rfl, rfl, Below.refl _ _⟩
    case round =>
      obtain ⟨k, la, hk, rfl, rfl, hck, hbw⟩ := hrel
      by_cases hlt : k < L.length
      · have hLw := HX.out.2.2.below hbw (Nat.le_refl _)
        obtain ⟨g, o, rfl, hg, d0, d1⟩ := hLw.s2 hlt
        rw [drop_next (sm_get hlt), chk_next] at hck
        generalize sm L k = x at *
        obtain ⟨xa, xv⟩ := x
        dsimp only at hck d0 d1
        have HR := Lib.hid (And.intro hck hbw)
        have HT := Lib.hid (fun V => isTime_ok xa V)
        have HV := Lib.hid (fun V => isValue_ok xv V)
        clear hck hbw hLw
        go_upto_region 7 with (fail)
        obtain ⟨V1, hV1⟩ : ∃ V1, V1 = wr.alloc (.cells #[.int .i64 xa, .int .i64 xv] 49) := ⟨_, rfl⟩
        rw [← hV1]
        obtain ⟨ub, hub⟩ : ∃ ub, ub = wr.heap.size := ⟨_, rfl⟩
        rw [← hub]
        have hbx : V1.heap[ub]? = some (.cells #[.int .i64 xa, .int .i64 xv] 49 (0, 0)) := by rw [hV1, hub, heapAlloc, if_pos rfl]
        have hbV : Below wr.heap.size wr V1 := by rw [hV1]; exact below_box _ _
        obtain ⟨u0, u1⟩ := two_at hbx
        have H1 := Lib.hid (HR.out.2.trans (hbV.mono HR.out.2.size))
        clear hV1 hub hbx hbV d0 d1
        cases ht : inT xa with
        | false =>
          rw [ht] at HT
          have HQ := Lib.hid (HR.out.1.trans (if_pos (by rw [ht]; rfl)))
          clear ht
          go_wp2_with (go_at_call 49; refine (HT.out _).mono ?_; rintro e w1 ⟨rfl, hw⟩; have hw := hw.symm; subst hw)
          go_ret
          exact ⟨by rw [HX.out.2.1, HQ.out]; rfl, HX.out.1.trans (H1.out.mono HX.out.1.size)⟩
        | true =>
          rw [ht] at HT
          cases hv : inT xv with
          | false =>
            rw [hv] at HV
            have HQ := Lib.hid (HR.out.1.trans (if_pos (by rw [ht, hv]; rfl)))
            clear ht hv
            go_wp2_with (first | (go_at_call 49; refine (HT.out _).mono ?_; rintro e w1 ⟨rfl, hw⟩; have hw := hw.symm; subst hw) | (go_at_call 59; refine (HV.out _).mono ?_; rintro e w1 ⟨rfl, hw⟩; have hw := hw.symm; subst hw))
            go_ret
            exact ⟨by rw [HX.out.2.1, HQ.out]; rfl, HX.out.1.trans (H1.out.mono HX.out.1.size)⟩
          | true =>
            rw [hv] at HV
            have hr := HR.out.1.trans (if_neg (by rw [ht, hv]; simp))
            clear ht hv
            by_cases hle : xa ≤ la
            · have HQ := Lib.hid (hr.trans (if_pos hle))
              clear hr
              go_wp2_with (first | (go_at_call 49; refine (HT.out _).mono ?_; rintro e w1 ⟨rfl, hw⟩; have hw := hw.symm; subst hw) | (go_at_call 59; refine (HV.out _).mono ?_; rintro e w1 ⟨rfl, hw⟩; have hw := hw.symm; subst hw))
              go_ret
              exact ⟨by rw [HX.out.2.1, HQ.out]; rfl, HX.out.1.trans (H1.out.mono HX.out.1.size)⟩
            · have HQ := Lib.hid (hr.trans (if_neg hle))
              clear hr
              go_wp2_with (first | (go_at_call 49; refine (HT.out _).mono ?_; rintro e w1 ⟨rfl, hw⟩; have hw := hw.symm; subst hw) | (go_at_call 59; refine (HV.out _).mono ?_; rintro e w1 ⟨rfl, hw⟩; have hw := hw.symm; subst hw))
              go_roundw
              case rel => exact ⟨k + 1, xa, by omega, by go_num, rfl, HQ.out, H1.out⟩
              case measure => simp [intOf]; omega
      · obtain rfl : k = L.length := by omega
        rw [List.drop_length] at hck
        have HR := Lib.hid (And.intro hck hbw)
        clear hck hbw
        go_wp2
        go_ret
        exact ⟨by rw [HX.out.2.1, HR.out.1]; rfl, HX.out.1.trans (HR.out.2.mono HX.out.1.size)⟩
end Sx
end Go.Proofs.YtionocafkaemiaaDoor
