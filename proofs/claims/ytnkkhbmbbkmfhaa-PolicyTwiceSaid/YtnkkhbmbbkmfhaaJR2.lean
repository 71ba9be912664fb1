/- The specification: next, first, end, asked, policy. -/
import Derived.Test.YtnkkhbmbbkmfhaaJR1
import Derived.Test.YtnkkhbmbbkmfhaaK1
namespace Go.Proofs.Ytnkkhbmbbkmfhaa
open Go.RowKit
namespace Py

set_option maxRecDepth 100000 in
set_option maxHeartbeats 2000000 in
theorem nextR_ok (A : Option Addr) (c : Nat) (L : List PU) (i : Nat) (hi : i < L.length) (w : World) (h : UAt w A c L) :
    Calls Try.prog 63 #[.slice A L.length c, .int .i64 (i : Int)] w fun e w' => e = .returned (.int .i64 (nextI L i)) ∧ ∃ q, w' = w.drewN q := by
  have hcap := h.2.1
  have hlc := h.1
  unfold maxLen at hcap
  obtain ⟨g, o, rfl, hg, d0, d1, d2⟩ := h.at hi
  have HX := Lib.hid h
  clear h d1 d2
  generalize hp : (use L i).p = p at *
  have hv : nextI L i = nxt p (L.drop (i + 1)) (i + 1) := by rw [← hp]
  have HV := Lib.hid hv
  clear hv hp
  go_enter Try.func63, Try.ntmps63
  go_wp2_with (fail)
  go_loopw [5] (fun k wr => ∃ m : Nat, m ≤ L.length ∧ k = .int .i64 m ∧ nextI L i = nxt p (L.drop m) m ∧ ∃ q, wr = w.drewN q) (fun k _ => L.length - (intOf k).toNat)
  case atStart => exact ⟨i + 1, by omega, by go_num, HV.out, 0, rfl⟩
  case round =>
    obtain ⟨m, hm, rfl, hn, q, hq⟩ := hrel
    have hX := HX.out.drew q
    rw [← hq] at hX
    have y0 : wr.cell? ⟨g, o + i * 3, none⟩ = some (.int .i64 p) := by rw [hq]; exact d0
    have HQ := Lib.hid hq
    clear hq d0
    by_cases hlt : m < L.length
    · obtain ⟨g', o', hgo, _, c0, c1, c2⟩ := hX.at hlt
      injection hgo with hgo; injection hgo with hg1 hg2 _
      subst hg1; subst hg2
      clear c1 c2 hX
      rw [drop_next (use_get hlt), nxt_cons] at hn
      generalize (use L m).p = bp at *
      by_cases hb : bp = p
      · have hb1 : (bp == p) = true := by simp [hb]
        rw [if_pos hb] at hn
        have HN := Lib.hid hn
        clear hn hb
        go_upto_region 4 with (fail)
        go_quiet (fail)
        go_wp2
        go_ret
        exact ⟨by rw [HN.out]; rfl, _, by rw [HQ.out, drew_drewN]⟩
      · have hb1 : (bp == p) = false := by simp [hb]
        rw [if_neg hb] at hn
        have HN := Lib.hid hn
        clear hn hb
        go_upto_region 4 with (fail)
        go_quiet (fail)
        go_wp2_with (fail)
        go_roundw
        case rel => exact ⟨m + 1, by omega, by go_num, HN.out, _, by rw [HQ.out, drew_drewN]⟩
        case measure => simp [intOf]; omega
    · obtain rfl : m = L.length := by omega
      rw [List.drop_length] at hn
      have HN := Lib.hid hn
      clear hn hX y0
      go_wp2
      go_ret
      exact ⟨by rw [HN.out]; rfl, _, HQ.out⟩
set_option maxRecDepth 100000 in
set_option maxHeartbeats 2000000 in
theorem firstR_ok (A : Option Addr) (c : Nat) (L : List PU) (i : Nat) (hi : i < L.length) (w : World) (h : UAt w A c L) :
    Calls Try.prog 53 #[.slice A L.length c, .int .i64 (i : Int)] w fun e w' => e = .returned (.bool (firstB L i)) ∧ ∃ q, w' = w.drewN q := by
  have hcap := h.2.1
  have hlc := h.1
  unfold maxLen at hcap
  obtain ⟨g, o, rfl, hg, d0, d1, d2⟩ := h.at hi
  have HX := Lib.hid h
  clear h d1 d2
  unfold firstB
  generalize (use L i).p = p at *
  go_enter Try.func53, Try.ntmps53
  go_wp2_with (fail)
  go_loopw [5] (fun k wr => ∃ m : Nat, m ≤ i ∧ k = .int .i64 m ∧ ((L.take m).all fun v => !decide (v.p = p)) = true ∧ ∃ q, wr = w.drewN q) (fun k _ => i - (intOf k).toNat)
  case atStart => exact ⟨0, by omega, rfl, by simp, 0, rfl⟩
  case round =>
    obtain ⟨m, hm, rfl, hn, q, hq⟩ := hrel
    have hX := HX.out.drew q
    rw [← hq] at hX
    have y0 : wr.cell? ⟨g, o + i * 3, none⟩ = some (.int .i64 p) := by rw [hq]; exact d0
    have HQ := Lib.hid hq
    clear hq d0
    by_cases hlt : m < i
    · obtain ⟨g', o', hgo, _, c0, c1, c2⟩ := hX.at (j := m) (by omega)
      injection hgo with hgo; injection hgo with hg1 hg2 _
      subst hg1; subst hg2
      clear c1 c2 hX
      have hnx : ((L.take (m + 1)).all fun v => !decide (v.p = p)) = !decide ((use L m).p = p) := by
        rw [take_next (use_get (show m < L.length by omega)), List.all_append, hn]; simp
      have hmem : use L m ∈ L.take i := take_mem.2 ⟨m, hlt, by omega, rfl⟩
      have hbad : (use L m).p = p → ((L.take i).all fun v => !decide (v.p = p)) = false := fun e => by
        rw [List.all_eq_false]; exact ⟨_, hmem, by rw [decide_eq_true e]; simp⟩
      have hml : m < L.length := by omega
      generalize (use L m).p = bp at *
      by_cases hb : bp = p
      · have hb1 : (bp == p) = true := by simp [hb]
        have HN := Lib.hid (hbad hb)
        clear hn hb hbad hnx hmem
        go_upto_region 4 with (fail)
        go_quiet (fail)
        go_wp2
        go_ret
        exact ⟨by rw [HN.out]; rfl, _, by rw [HQ.out, drew_drewN]⟩
      · have hb1 : (bp == p) = false := by simp [hb]
        rw [decide_eq_false hb] at hnx
        have HN := Lib.hid hnx
        clear hn hb hbad hnx hmem
        go_upto_region 4 with (fail)
        go_quiet (fail)
        go_wp2_with (fail)
        go_roundw
        case rel => exact ⟨m + 1, by omega, by go_num, HN.out, _, by rw [HQ.out, drew_drewN]⟩
        case measure => simp [intOf]; omega
    · obtain rfl : m = i := by omega
      have HN := Lib.hid hn
      clear hn hX y0
      go_wp2
      go_ret
      exact ⟨by rw [HN.out]; rfl, _, HQ.out⟩
set_option maxRecDepth 100000 in
set_option maxHeartbeats 2000000 in
theorem endR_ok (A : Option Addr) (c : Nat) (L : List PU) (w : World) (h : UAt w A c L) :
    Calls Try.prog 64 #[.slice A L.length c] w fun e w' => e = .returned (.int .i64 (endV L)) ∧ w' = w := by
  have hcap := h.2.1
  have hlc := h.1
  unfold maxLen at hcap
  have HX := Lib.hid h
  clear h
  go_enter Try.func64, Try.ntmps64
  go_wp2_with (fail)
  go_loop [3, 4] (fun n k => ∃ m : Nat, m ≤ L.length ∧ k = .int .i64 m ∧ n = .int .i64 (endV (L.take m))) (fun _ k => L.length - (intOf k).toNat)
  case atStart => exact ⟨0, by omega, rfl, rfl⟩
  case round =>
    obtain ⟨m, hm, rfl, rfl⟩ := hrel
    by_cases hlt : m < L.length
    · obtain ⟨g, o, rfl, _, c0, c1, c2⟩ := HX.out.at hlt
      have hn := endV_take hlt
      have HN := Lib.hid hn
      generalize (use L m).t = t at *
      generalize endV (L.take m) = e at *
      clear hn c0 c1
      go_wp2
      go_round
      case rel => exact ⟨m + 1, by omega, by go_num, by rw [HN.out]; first | done | (rw [Int.max_def]; congr 1 <;> split <;> split <;> omega)⟩
      case measure => simp [intOf]; omega
    · obtain rfl : m = L.length := by omega
      go_wp2
      go_ret
      exact ⟨rfl, rfl⟩
theorem costR_val (h w : Int) : (if (!inR h 0 1000) || !inR w 0 1000000000 then (7 : Int) else 0) = costV h w := by
  unfold inR costV
  by_cases h1 : 0 ≤ h <;> by_cases h2 : h ≤ 1000 <;> by_cases h3 : 0 ≤ w <;> by_cases h4 : w ≤ 1000000000 <;> simp [h1, h2, h3, h4] <;> omega
set_option maxHeartbeats 2000000 in
theorem costR_ok (h w : Int) (W : World) : Calls Try.prog 17 #[cbx h w] W fun e w' => e = .returned (.int .i64 (costV h w)) ∧ Below W.heap.size W w' := by
  have hb := below_box W (.cells #[.int .i64 h, .int .i64 w] 24)
  have HF := Lib.hid (fun V => fromR_ok h 0 1000 V)
  have HT := Lib.hid (fun V => fromR_ok w 0 1000000000 V)
  have hv := costR_val h w
  have H := Lib.hid hb
  clear hb
  generalize inR h 0 1000 = b1 at *
  generalize inR w 0 1000000000 = b2 at *
  cases b1 with
  | false =>
    have HV := Lib.hid hv
    clear hv
    go_enter Try.func17, Try.ntmps17
    go_wp2_with (go_at_call 46; first | (with_reducible refine (HF.out _).mono ?_; rintro e w' ⟨rfl, rfl⟩))
    go_ret
    exact ⟨by rw [← HV.out]; rfl, H.out⟩
  | true =>
    cases b2 with
    | false =>
      have HV := Lib.hid hv
      clear hv
      go_enter Try.func17, Try.ntmps17
      go_wp2_with (go_at_call 46; first | (with_reducible refine (HF.out _).mono ?_; rintro e w' ⟨rfl, rfl⟩) | (with_reducible refine (HT.out _).mono ?_; rintro e w' ⟨rfl, rfl⟩))
      go_ret
      exact ⟨by rw [← HV.out]; rfl, H.out⟩
    | true =>
      have HV := Lib.hid hv
      clear hv
      go_enter Try.func17, Try.ntmps17
      go_wp2_with (go_at_call 46; first | (with_reducible refine (HF.out _).mono ?_; rintro e w' ⟨rfl, rfl⟩) | (with_reducible refine (HT.out _).mono ?_; rintro e w' ⟨rfl, rfl⟩))
      go_ret
      exact ⟨by rw [← HV.out]; rfl, H.out⟩
/-- The error of a trace and costs. -/
def askV (L : List PU) (h w : Int) : Int := if checkV L = 0 then costV h w else checkV L
set_option maxHeartbeats 2000000 in
theorem askedR_ok (A : Option Addr) (c : Nat) (L : List PU) (h w : Int) (W : World) (hL : UAt W A c L) :
    Calls Try.prog 40 #[.slice A L.length c, cbx h w] W fun e w' => e = .returned (.int .i64 (askV L h w)) ∧ Below W.heap.size W w' := by
  have hb := below_box W (.cells #[.int .i64 h, .int .i64 w] 24)
  have hX := checkR_ok A c L _ (hL.below hb (Nat.le_refl _))
  have hC := fun V => costR_ok h w V
  unfold askV
  by_cases hv : checkV L = 0
  · rw [hv] at hX
    rw [if_pos hv]
    have HX := Lib.hid hX
    have HC := Lib.hid hC
    have H := Lib.hid hb
    clear hb hX hC hv
    go_enter Try.func40, Try.ntmps40
    go_wp2_with (first | (go_at_call 16; refine HX.out.mono ?_; rintro e w' ⟨rfl, q, rfl⟩) | (go_at_call 17; refine (HC.out _).mono ?_; rintro e w' ⟨rfl, hb⟩; have HB := Lib.hid hb; clear hb))
    go_ret
    exact ⟨rfl, (below_drewN H.out _).trans (HB.out.mono (by simp))⟩
  · rw [if_neg hv]
    have hne : (checkV L == 0) = false := by simp [hv]
    have HX := Lib.hid hX
    have H := Lib.hid hb
    clear hb hX hC hv
    generalize checkV L = cv at *
    go_enter Try.func40, Try.ntmps40
    go_wp2_with (first | (go_at_call 16; refine HX.out.mono ?_; rintro e w' ⟨rfl, q, rfl⟩))
    go_ret
    exact ⟨rfl, below_drewN H.out _⟩
end Py
end Go.Proofs.Ytnkkhbmbbkmfhaa
