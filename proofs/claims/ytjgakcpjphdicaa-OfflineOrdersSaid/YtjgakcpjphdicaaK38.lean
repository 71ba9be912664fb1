/- The specification: Valid, Waste. -/
import Derived.Test.YtjgakcpjphdicaaK37
namespace Go.Proofs.Ytjgakcpjphdicaa
open Go.RowKit
namespace Of

set_option maxRecDepth 100000 in
set_option maxHeartbeats 4000000 in
theorem ValidR_ok (w : World) (lA : Option Addr) (lc : Nat) (L : List OB) (A : Option Addr) (c : Nat) (M : List Int) (hl : OBAt w lA lc L) (hm : IAt w A c M) :
    Calls Try.prog 17 #[.slice lA L.length lc, .slice A M.length c] w fun e w' => e = .returned (.tuple #[.bool (validRes L M).1, .int .i64 (validRes L M).2.1, .int .i64 (validRes L M).2.2]) ∧ Below w.heap.size w w' := by
  have hck := checkR_ok lA lc L w hl
  unfold validRes
  rcases checkV_cases L with hv | hv | hv
  · have hL := (checkV_ok L).1 hv
    rw [hv] at hck
    rw [hv, if_neg (by simp)]
    have hcap := hl.2.1
    have hlc := hl.1
    have hmc := hm.1
    have hmcap := hm.2.1
    unfold maxLen at hcap hmcap
    have had := fun W (hb : Below w.heap.size w W) => addrR_ok W lA lc L A c M (hl.below hb (Nat.le_refl _)) (hm.below hb (Nat.le_refl _))
    have HC := Lib.hid hck
    by_cases hbad : M.length ≠ L.length ∨ M.any farB = true
    · rw [if_pos hbad]
      have hx : (!M.any farB && decide (M.length = L.length)) = false := by
        rcases hbad with h | h
        · rw [decide_eq_false h]; simp
        · rw [h]; rfl
      rw [hx] at had
      have HA := Lib.hid had
      clear hck hL hv had hbad hx hl hm
      go_enter Try.func17, Try.ntmps17
      go_wp2_with (first
        | (go_at_call 20; refine HC.out.mono ?_; rintro e w1 ⟨rfl, hb1⟩; have HB1 := Lib.hid hb1; clear hb1)
        | (go_at_call 45; refine (HA.out _ HB1.out).mono ?_; rintro e w2 ⟨rfl, rfl⟩))
      go_ret3
      exact ⟨rfl, HB1.out⟩
    · rw [if_neg hbad]
      have hML : M.length = L.length := by
        by_cases h : M.length = L.length
        · exact h
        · exact absurd (.inl h) hbad
      have hfar : M.any farB = false := by
        cases h : M.any farB with
        | false => rfl
        | true => exact absurd (.inr h) hbad
      have hx : (!M.any farB && decide (M.length = L.length)) = true := by rw [hfar, decide_eq_true hML]; rfl
      rw [hx] at had
      have hva := fun W (hb : Below w.heap.size w W) => validR_ok W lA lc L A c M (hl.below hb (Nat.le_refl _)) (hm.below hb (Nat.le_refl _)) hL hML hfar
      have HA := Lib.hid had
      have HV := Lib.hid hva
      generalize validV L M = vv at *
      clear hck hL hv had hbad hx hl hm hva hML hfar
      go_enter Try.func17, Try.ntmps17
      go_wp2_with (first
        | (go_at_call 20; refine HC.out.mono ?_; rintro e w1 ⟨rfl, hb1⟩; have HB1 := Lib.hid hb1; clear hb1)
        | (go_at_call 45; refine (HA.out _ HB1.out).mono ?_; rintro e w2 ⟨rfl, rfl⟩)
        | (go_at_call 46; refine (HV.out _ HB1.out).mono ?_; rintro e w3 ⟨rfl, hb3⟩; have HB3 := Lib.hid hb3; clear hb3))
      go_ret3
      exact ⟨rfl, HB1.out.trans (HB3.out.mono HB1.out.size)⟩
  all_goals
    rw [hv] at hck
    rw [hv, if_pos (by simp)]
    have HC := Lib.hid hck
    clear hck hv hl hm
    go_enter Try.func17, Try.ntmps17
    go_wp2_with (go_at_call 20; refine HC.out.mono ?_; rintro e w1 ⟨rfl, hb1⟩; have HB1 := Lib.hid hb1; clear hb1)
    go_ret3
    exact ⟨rfl, HB1.out⟩

set_option maxRecDepth 100000 in
set_option maxHeartbeats 2000000 in
theorem WasteR_ok (w : World) (lA : Option Addr) (lc : Nat) (L : List OB) (A : Option Addr) (c : Nat) (M : List Int) (hl : OBAt w lA lc L) (hm : IAt w A c M) :
    Calls Try.prog 19 #[.slice lA L.length lc, .slice A M.length c] w fun e w' => e = .returned (.tuple #[.int .i64 (wasteRes L M).1, .int .i64 (wasteRes L M).2]) ∧ Below w.heap.size w w' := by
  have hv := ValidR_ok w lA lc L A c M hl hm
  have hp := fun W (hb : Below w.heap.size w W) => PeakR_ok lA lc L W (hl.below hb (Nat.le_refl _))
  unfold wasteRes
  have hvb := valid_bd (L := L) (M := M)
  have hpb := peak_bd (L := L)
  have hcs := validRes_cases L M
  generalize validRes L M = vr at *
  generalize peakRes L = pr at *
  obtain ⟨b, top, er⟩ := vr
  obtain ⟨pk1, pk2, pk3⟩ := pr
  dsimp only at hv hvb hcs hp hpb ⊢
  rcases hcs with rfl | rfl | rfl | rfl
  · obtain ⟨h1, h2, h3⟩ := hvb rfl
    obtain ⟨h4, h5⟩ := hpb h1
    rw [if_neg (by simp)]
    have HV := Lib.hid hv
    have HP := Lib.hid hp
    clear hv hp hl hm hvb hpb h1
    cases b with
    | false =>
      go_enter Try.func19, Try.ntmps19
      go_wp2_with (go_at_call 17; refine HV.out.mono ?_; rintro e w1 ⟨rfl, hb1⟩; have HB1 := Lib.hid hb1; clear hb1)
      go_ret2
      exact ⟨rfl, HB1.out⟩
    | true =>
      have q1 : IntKind.i64.wrap (top - pk1) = top - pk1 := IntWalk.i64_in _ (by omega)
      go_enter Try.func19, Try.ntmps19
      go_wp2_with (first
        | (go_at_call 17; refine HV.out.mono ?_; rintro e w1 ⟨rfl, hb1⟩; have HB1 := Lib.hid hb1; clear hb1)
        | (go_at_call 26; refine (HP.out _ HB1.out).mono ?_; rintro e w2 ⟨rfl, hb2⟩; have HB2 := Lib.hid hb2; clear hb2))
      go_ret2
      exact ⟨rfl, HB1.out.trans (HB2.out.mono HB1.out.size)⟩
  all_goals
    rw [if_pos (by simp)]
    have HV := Lib.hid hv
    clear hv hp hl hm hvb hpb
    go_enter Try.func19, Try.ntmps19
    go_wp2_with (go_at_call 17; refine HV.out.mono ?_; rintro e w1 ⟨rfl, hb1⟩; have HB1 := Lib.hid hb1; clear hb1)
    go_ret2
    exact ⟨rfl, HB1.out⟩
end Of
end Go.Proofs.Ytjgakcpjphdicaa
