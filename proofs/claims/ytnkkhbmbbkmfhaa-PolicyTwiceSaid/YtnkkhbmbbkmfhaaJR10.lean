/- The specification: Worst. -/
import Derived.Test.YtnkkhbmbbkmfhaaJR9
namespace Go.Proofs.Ytnkkhbmbbkmfhaa
open Go.RowKit
namespace Py

/-- What a call that returns uses says. -/
def UsesOut (w : World) (x : Int) (L : List PU) (e : Ending) (w' : World) : Prop :=
  (x ≠ 0 → e = .returned (.tuple #[.slice none 0 0, .int .i64 x])) ∧ (x = 0 → ∃ A' c', e = .returned (.tuple #[.slice A' L.length c', .int .i64 0]) ∧ EAt eu 3 w' A' c' L) ∧ Below w.heap.size w w'
set_option maxRecDepth 100000 in
set_option maxHeartbeats 4000000 in
theorem worstR_ok (h w age n : Int) (W : World) :
    Calls Try.prog 26 #[cbx h w, .int .i64 age, .int .i64 n] W (UsesOut W (worstE h w age n) (worstL age n.toNat)) := by
  have hb := below_box W (.cells #[.int .i64 h, .int .i64 w] 24)
  have HC := Lib.hid (fun V => costR_ok h w V)
  have HF := Lib.hid (fun V => fromR_ok age 0 1000000000 V)
  have HX := Lib.hid hb
  clear hb
  have hbad : (costV h w ≠ 0 ∨ age < 0 ∨ 1000000000 < age ∨ n < 1 ∨ 200 < n) → worstE h w age n = 7 := fun e => by unfold worstE; rw [if_pos e]
  by_cases hcv : costV h w = 0
  · rw [hcv] at HC
    cases hin : inR age 0 1000000000 with
    | false =>
      have hE := hbad (by unfold inR at hin; by_cases a : 0 ≤ age <;> by_cases a2 : age ≤ 1000000000 <;> simp [a, a2] at hin <;> omega)
      rw [hE]
      rw [hin] at HF
      clear hbad hcv hin hE
      unfold UsesOut
      go_enter Try.func26, Try.ntmps26
      go_wp2_with (first
        | (go_at_call 17; refine (HC.out _).mono ?_; rintro e w1 ⟨rfl, hb1⟩; have HB1 := Lib.hid hb1; clear hb1)
        | (go_at_call 46; refine (HF.out _).mono ?_; rintro e w2 ⟨rfl, rfl⟩))
      go_ret2
      exact ⟨fun _ => rfl, fun e => (by omega), HX.out.trans (HB1.out.mono HX.out.size)⟩
    | true =>
      have hab : 0 ≤ age ∧ age ≤ 1000000000 := by unfold inR at hin; simp at hin; exact hin
      rw [hin] at HF
      by_cases hn0 : n < 1
      · have hE := hbad (by omega)
        rw [hE]
        clear hbad hcv hin hE
        unfold UsesOut
        go_enter Try.func26, Try.ntmps26
        go_wp2_with (first
          | (go_at_call 17; refine (HC.out _).mono ?_; rintro e w1 ⟨rfl, hb1⟩; have HB1 := Lib.hid hb1; clear hb1)
          | (go_at_call 46; refine (HF.out _).mono ?_; rintro e w2 ⟨rfl, rfl⟩))
        go_ret2
        exact ⟨fun _ => rfl, fun e => (by omega), HX.out.trans (HB1.out.mono HX.out.size)⟩
      by_cases hn1 : 200 < n
      · have hE := hbad (by omega)
        rw [hE]
        clear hbad hcv hin hE
        unfold UsesOut
        go_enter Try.func26, Try.ntmps26
        go_wp2_with (first
          | (go_at_call 17; refine (HC.out _).mono ?_; rintro e w1 ⟨rfl, hb1⟩; have HB1 := Lib.hid hb1; clear hb1)
          | (go_at_call 46; refine (HF.out _).mono ?_; rintro e w2 ⟨rfl, rfl⟩))
        go_ret2
        exact ⟨fun _ => rfl, fun e => (by omega), HX.out.trans (HB1.out.mono HX.out.size)⟩
      obtain ⟨m, rfl⟩ : ∃ m : Nat, n = ((m + 1 : Nat) : Int) := ⟨(n - 1).toNat, by omega⟩
      have hm : m + 1 ≤ 200 := by omega
      have hE : worstE h w age ((m + 1 : Nat) : Int) = if 1000000000 < 1 + (m : Int) * (age + 2) then 2 else 0 := by
        unfold worstE
        rw [if_neg (by omega)]
        have e : (((m + 1 : Nat) : Int) - 1) = (m : Int) := by omega
        rw [e]
      rw [hE, Int.toNat_natCast]
      have hmb := worst_bd hab.1 hab.2 (Nat.le_refl m) (by omega)
      obtain ⟨y, hy⟩ : ∃ y, y = (m : Int) * (age + 2) := ⟨_, rfl⟩
      rw [← hy] at hmb ⊢
      have qy : (m : Int) * (age + 2) = y := hy.symm
      obtain ⟨a0, a1⟩ := hab
      obtain ⟨y0, _, y1⟩ := hmb
      have HY := Lib.hid hy
      clear hbad hcv hin hE hy hn0 hn1
      by_cases hy2 : 1000000000 < 1 + y
      · rw [if_pos hy2]
        unfold UsesOut
        go_enter Try.func26, Try.ntmps26
        go_wp2_with (first
          | (go_at_call 17; refine (HC.out _).mono ?_; rintro e w1 ⟨rfl, hb1⟩; have HB1 := Lib.hid hb1; clear hb1)
          | (go_at_call 46; refine (HF.out _).mono ?_; rintro e w2 ⟨rfl, rfl⟩))
        go_ret2
        exact ⟨fun _ => rfl, fun e => (by omega), HX.out.trans (HB1.out.mono HX.out.size)⟩
      · rw [if_neg hy2]
        go_enter Try.func26, Try.ntmps26
        go_upto_region 6 with (first
          | (go_at_call 17; refine (HC.out _).mono ?_; rintro e w1 ⟨rfl, hb1⟩; have HB1 := Lib.hid hb1; clear hb1)
          | (go_at_call 46; refine (HF.out _).mono ?_; rintro e w2 ⟨rfl, rfl⟩))
        clear qy
        have H0 := Lib.hid (owne_nil (enc := eu) (k := 3) w2 w2.heap.size 86)
        go_wp2_with (fail)
        go_loopw [8, 9] (fun v i wr => ∃ (k : Nat) (B : Option Addr) (d : Nat) (M : List PU), k ≤ m + 1 ∧ i = .int .i64 k ∧ v = .slice B M.length d ∧ M = worstL age k ∧ OwnE eu 3 wr w2.heap.size 86 B d M ∧ Below w2.heap.size w2 wr) (fun _ i _ => m + 1 - (intOf i).toNat)
        case atStart => exact ⟨0, none, 0, [], Nat.zero_le _, rfl, rfl, rfl, H0.out, Below.refl _ _⟩
        case round =>
          obtain ⟨k, B, d, M, hk, rfl, rfl, hM, hrow, hbw⟩ := hrel
          have hMl : M.length = k := by rw [hM, worstL_len]
          by_cases hlt : k < m + 1
          · have hkb := worst_bd a0 a1 (show k ≤ m by omega) (by omega)
            rw [← HY.out] at hkb
            have hnx := worstL_succ age k
            obtain ⟨x, hx⟩ : ∃ x, x = (k : Int) * (age + 2) := ⟨_, rfl⟩
            have hu : worstU age k = ⟨0, x, x + 1⟩ := by rw [hx]; rfl
            rw [← hx] at hkb
            obtain ⟨x0, x1, _⟩ := hkb
            have qx : (k : Int) * (age + 2) = x := hx.symm
            have HR := Lib.hid (And.intro hM (And.intro hrow (And.intro hbw (And.intro hnx (And.intro hu hMl)))))
            have hsz := hbw.size
            have hM2 : M.length ≤ 200 := by omega
            clear hx hM hrow hbw hnx hu hMl
            go_wp2_with (at_builtin; refine wpList_e EU Try.underlying22 use_info (by decide) ?_ (.tmp 38) (.tmp 49) ?_ w2.heap.size B d M ?_ (HR.out.2.1.alloc _) (some ⟨wr.heap.size, 0, none⟩) 1 [⟨0, x, x + 1⟩] ?_ (oneU _ _ _) (fun h => by cases h) ?_ ?_ ?_; (exact rfl); (exact rfl); (exact rfl); (exact rfl); (simp; omega); (simp; omega); intro A8 c8 w8 h8 b8 _ _; obtain ⟨U, hU⟩ : ∃ U, U = M ++ [⟨0, x, x + 1⟩] := ⟨_, rfl⟩; rw [← hU] at h8 ⊢; have H8 := Lib.hid (And.intro h8 (And.intro b8 hU)); clear h8 b8 hU)
            go_roundw
            case rel => exact ⟨k + 1, A8, c8, U, by omega, by go_num, rfl, by rw [H8.out.2.2, HR.out.2.2.2.1, HR.out.2.2.2.2.1, HR.out.1], H8.out.1, (HR.out.2.2.1.alloc hsz _).trans H8.out.2.1⟩
            case measure => simp [intOf]; omega
          · obtain rfl : k = m + 1 := by omega
            have HR := Lib.hid (And.intro hM (And.intro (OwnE.at EU hrow).1 hbw))
            clear hM hrow hbw hMl
            go_wp2
            go_ret2
            rw [← HR.out.1]
            refine ⟨fun e => absurd rfl e, fun _ => ⟨B, d, rfl, HR.out.2.1⟩, ?_⟩
            have e1 := HX.out.trans (HB1.out.mono HX.out.size)
            exact e1.trans (HR.out.2.2.mono e1.size)
  · have hE := hbad (.inl hcv)
    rw [hE]
    have hne : (costV h w != 0) = true := by simp [hcv]
    clear hbad hE hcv
    generalize costV h w = cv at *
    unfold UsesOut
    go_enter Try.func26, Try.ntmps26
    go_wp2_with (first
      | (go_at_call 17; refine (HC.out _).mono ?_; rintro e w1 ⟨rfl, hb1⟩; have HB1 := Lib.hid hb1; clear hb1)
      | (go_at_call 46; refine (HF.out _).mono ?_; rintro e w2 ⟨rfl, rfl⟩))
    go_ret2
    exact ⟨fun _ => rfl, fun e => (by omega), HX.out.trans (HB1.out.mono HX.out.size)⟩
end Py
end Go.Proofs.Ytnkkhbmbbkmfhaa
