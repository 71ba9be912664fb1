/- The specification: at, Value, asked. -/
import Derived.Test.YtionocafkaemiaaDoorJR1
namespace Go.Proofs.YtionocafkaemiaaDoor
open Go.RowKit Go.Lib
namespace Sx

def valS (L : List Sm) (t : Int) : Int × Int := if checkS L ≠ 0 then (0, checkS L) else if inT t = false then (0, 7) else if idx L t < 0 then (0, 4) else ((sm L (upto L t - 1)).v, 0)
set_option maxRecDepth 100000 in
set_option maxHeartbeats 4000000 in
theorem atR_ok (A : Option Addr) (c : Nat) (L : List Sm) (t : Int) (W : World) (hL : SAt W A c L) (hs : OkS L) : Calls Tryd.prog 64 #[sv A L.length c, .int .i64 t] W fun e w' => e = .returned (.int .i64 (idx L t)) ∧ Below W.heap.size W w' := by
  have hb := below_box W (.cells #[.slice A L.length c] 24)
  have hn := one_at (new_at W (.cells #[.slice A L.length c] 24))
  have hcm := hL.2.1
  have hlc := hL.1
  have hlen := hs.len
  unfold maxLen at hcm
  have hLV := hL.below hb (Nat.le_refl _)
  have HX := Lib.hid (And.intro hb (And.intro hLV hs))
  clear hb hLV hL hs
  go_enter Tryd.func64, Tryd.ntmps64
  go_upto_region 1 with (fail)
  generalize W.alloc (.cells #[.slice A L.length c] 24) = V at *
  go_wp2_with (fail)
  go_loopw [5] (fun i wr => ∃ k : Nat, k ≤ L.length ∧ i = .int .i64 ((k : Int) - 1) ∧ (∀ j, k ≤ j → j < L.length → t < (sm L j).a) ∧ wr = V) (fun i _ => (intOf i + 1).toNat)
  case atStart => exact ⟨L.length, Nat.le_refl _, rfl, fun j h1 h2 => by omega, rfl⟩
  case round =>
    obtain ⟨k, hk, rfl, hgt, rfl⟩ := hrel
    rcases Nat.eq_zero_or_pos k with rfl | hk0
    · have hu : idx L t = -1 := by unfold idx; rw [upto_is (Nat.zero_le _) (fun i hi => by omega) hgt]; rfl
      have HU := Lib.hid hu
      clear hu hgt
      go_wp2
      go_ret
      exact ⟨by rw [HU.out]; rfl, HX.out.1⟩
    · obtain ⟨j, hj⟩ : ∃ j, k = j + 1 := ⟨k - 1, by omega⟩
      have hq : (k : Int) - 1 = (j : Int) := by omega
      obtain ⟨g, o, rfl, hg, d0, d1⟩ := HX.out.2.1.s2 (j := j) (by omega)
      have hjl : (j : Int) < (L.length : Int) := by omega
      rw [hq]
      have hstep : t < (sm L j).a → ∀ i, j ≤ i → i < L.length → t < (sm L i).a := fun h i h1 h2 => by
        rcases Nat.lt_or_ge i k with h3 | h3
        · obtain rfl : i = j := by omega
          exact h
        · exact hgt i h3 h2
      have hend : ¬ t < (sm L j).a → idx L t = (j : Int) := fun h => by
        unfold idx
        rw [upto_is (k := k) hk (fun i hi => ?_) hgt]
        · omega
        · rcases Nat.lt_or_ge i j with h3 | h3
          · have := HX.out.2.2.lt h3 (by omega); omega
          · obtain rfl : i = j := by omega
            omega
      generalize (sm L j).a = xa at *
      have HS := Lib.hid (And.intro hstep (And.intro hend hj))
      clear hstep hend hj hgt hq hk0
      by_cases hgt : xa > t
      · have HN := Lib.hid (HS.out.1 hgt)
        go_wp2
        go_roundw
        case rel => exact ⟨j, by omega, by go_num, HN.out, trivial⟩
        case measure => simp [intOf]; try omega
      · have HN := Lib.hid (HS.out.2.1 hgt)
        go_wp2
        go_ret
        exact ⟨by rw [HN.out]; rfl, HX.out.1⟩
theorem S3.below {W w1 w2 : World} {n b b2 o : Nat} {v x : Value} (s : Below n W w1 ∧ w1.cell? ⟨b, 0, none⟩ = some v ∧ w1.cell? ⟨b2, o, none⟩ = some x) (hb : Below w1.heap.size w1 w2) (hn : n ≤ W.heap.size := by exact Nat.le_refl _) : Below n W w2 ∧ w2.cell? ⟨b, 0, none⟩ = some v ∧ w2.cell? ⟨b2, o, none⟩ = some x :=
  ⟨s.1.trans (hb.mono (Nat.le_trans hn s.1.size)), cell_keep2 hb s.2.1, cell_keep2 hb s.2.2⟩
set_option maxHeartbeats 4000000 in
theorem valueR_ok (A : Option Addr) (c : Nat) (L : List Sm) (t : Int) (W : World) (hL : SAt W A c L) : Calls Tryd.prog 35 #[sv A L.length c, .int .i64 t] W fun e w' => e = .returned (.tuple #[.int .i64 (valS L t).1, .int .i64 (valS L t).2]) ∧ Below W.heap.size W w' := by
  have hb := below_box W (.cells #[.slice A L.length c] 24)
  have hn := one_at (new_at W (.cells #[.slice A L.length c] 24))
  have hcm := hL.2.1
  have hlc := hL.1
  unfold maxLen at hcm
  have hCK := fun V (hV : Below W.heap.size W V) => checkR_ok A c L V (hL.below hV (Nat.le_refl _))
  have HT := Lib.hid (fun V => timeR_ok t V)
  by_cases hck : checkS L = 0
  · have hs := (checkS_ok L).1 hck
    have hAT := fun V (hV : Below W.heap.size W V) => atR_ok A c L t V (hL.below hV (Nat.le_refl _)) hs
    have hv : valS L t = if inT t = false then (0, 7) else if idx L t < 0 then (0, 4) else ((sm L (upto L t - 1)).v, 0) := by unfold valS; rw [if_neg (by omega)]
    rw [hck] at hCK
    have HX := Lib.hid (And.intro hb (And.intro hCK (And.intro hAT (And.intro hL hv))))
    clear hb hCK hAT hL hv hck
    cases ht : inT t with
    | false =>
      rw [ht] at HT HX
      have hv := HX.out.2.2.2.2.trans (if_pos rfl)
      have HV := Lib.hid hv
      clear hv ht hs
      go_enter Tryd.func35, Tryd.ntmps35
      go_upto_region 1 with (fail)
      generalize W.alloc (.cells #[.slice A L.length c] 24) = V at *
      go_wp2_with (first | (go_at_call 36; refine (HX.out.2.1 _ HX.out.1).mono ?_; rintro e w1 ⟨rfl, hb1⟩; replace hn := cell_keep2 hb1 hn; have H1 := Lib.hid (HX.out.1.trans (hb1.mono HX.out.1.size)); clear hb1) | (go_at_call 55; refine (HT.out _).mono ?_; rintro e w2 ⟨rfl, hw⟩; have hw := hw.symm; subst hw))
      go_ret2
      exact ⟨by rw [HV.out]; rfl, H1.out⟩
    | true =>
      rw [ht] at HT HX
      have hv := HX.out.2.2.2.2.trans (if_neg (by simp))
      have hul := upto_le L t
      by_cases hi : idx L t < 0
      · have hv2 := hv.trans (if_pos hi)
        have HV := Lib.hid hv2
        clear hv hv2 ht hs
        generalize idx L t = ix at *
        go_enter Tryd.func35, Tryd.ntmps35
        go_upto_region 1 with (fail)
        generalize W.alloc (.cells #[.slice A L.length c] 24) = V at *
        go_wp2_with (first | (go_at_call 36; refine (HX.out.2.1 _ HX.out.1).mono ?_; rintro e w1 ⟨rfl, hb1⟩; replace hn := cell_keep2 hb1 hn; have H1 := Lib.hid (HX.out.1.trans (hb1.mono HX.out.1.size)); clear hb1) | (go_at_call 55; refine (HT.out _).mono ?_; rintro e w2 ⟨rfl, hw⟩; have hw := hw.symm; subst hw) | (go_at_call 64; refine (HX.out.2.2.1 _ H1.out).mono ?_; rintro e w3 ⟨rfl, hb3⟩; have H3 := Lib.hid (H1.out.trans (hb3.mono H1.out.size)); clear hb3))
        go_ret2
        exact ⟨by rw [HV.out]; rfl, H3.out⟩
      · have hv2 := hv.trans (if_neg hi)
        have HV := Lib.hid hv2
        obtain ⟨j, hj⟩ : ∃ j : Nat, upto L t = j + 1 := ⟨upto L t - 1, by unfold idx at hi; omega⟩
        have hix : idx L t = (j : Int) := by unfold idx; omega
        have hj1 : upto L t - 1 = j := by omega
        rw [hix] at HX hi
        rw [hj1] at HV
        have hjl : j < L.length := by omega
        have hjli : (j : Int) < (L.length : Int) := by omega
        have hjn : ¬ (j : Int) < 0 := by omega
        clear hv hv2 ht hs hj hix hj1 hul hi
        go_enter Tryd.func35, Tryd.ntmps35
        go_upto_region 1 with (fail)
        generalize W.alloc (.cells #[.slice A L.length c] 24) = V at *
        go_upto_region 8 with (first | (go_at_call 36; refine (HX.out.2.1 _ HX.out.1).mono ?_; rintro e w1 ⟨rfl, hb1⟩; replace hn := cell_keep2 hb1 hn; have H1 := Lib.hid (HX.out.1.trans (hb1.mono HX.out.1.size)); clear hb1) | (go_at_call 55; refine (HT.out _).mono ?_; rintro e w2 ⟨rfl, hw⟩; have hw := hw.symm; subst hw) | (go_at_call 64; refine (HX.out.2.2.1 _ H1.out).mono ?_; rintro e w3 ⟨rfl, hb3⟩; replace hn := cell_keep2 hb3 hn; have H3 := Lib.hid (H1.out.trans (hb3.mono H1.out.size)); clear hb3))
        have hL3 := HX.out.2.2.2.1.below H3.out (Nat.le_refl _)
        obtain ⟨g, o, rfl, hg, d0, d1⟩ := hL3.s2 hjl
        generalize (sm L j).v = xv at *
        have s0 : Below W.heap.size W w3.drew ∧ w3.drew.cell? ⟨W.heap.size, 0, none⟩ = some (.slice (some ⟨g, o, none⟩) L.length c) ∧ w3.drew.cell? ⟨g, o + j * 2 + 1, none⟩ = some (.int .i64 xv) := ⟨below_drew H3.out, hn, d1⟩
        have HAT := Lib.hid HX.out.2.2.1
        clear hL3 d0
        go_region_held3 (fun w' => Below W.heap.size W w' ∧ w'.cell? ⟨W.heap.size, 0, none⟩ = some (.slice (some ⟨g, o, none⟩) L.length c) ∧ w'.cell? ⟨g, o + j * 2 + 1, none⟩ = some (.int .i64 xv))
          (first | assumption | exact S3.below (by assumption) hb4)
          (first | (go_at_call 64; with_reducible refine (HAT.out _ (And.left (by assumption))).mono ?_; rintro e w4 ⟨rfl, hb4⟩))
        all_goals
          have hb4' : Below w3.heap.size w3 w4 := ⟨hb4.os, hb4.tape, hb4.output, hb4.size, hb4.block⟩
          have H4 := Lib.hid (H3.out.trans (hb4'.mono H3.out.size))
          clear hb4 hb4'
          go_wp2_with (fail)
          go_ret2
          exact ⟨by rw [HV.out]; rfl, H4.out⟩
  · have hv : valS L t = (0, checkS L) := by unfold valS; rw [if_pos hck]
    have hne : (checkS L == 0) = false := by simp [hck]
    have hne2 : (checkS L != 0) = true := by simp [hck]
    rw [hv]
    have HX := Lib.hid (And.intro hb hCK)
    clear hb hCK hL hv hck
    generalize checkS L = cv at *
    go_enter Tryd.func35, Tryd.ntmps35
    go_upto_region 1 with (fail)
    generalize W.alloc (.cells #[.slice A L.length c] 24) = V at *
    go_wp2_with (go_at_call 36; refine (HX.out.2 _ HX.out.1).mono ?_; rintro e w1 ⟨rfl, hb1⟩; have H1 := Lib.hid (HX.out.1.trans (hb1.mono HX.out.1.size)); clear hb1)
    go_ret2
    exact ⟨rfl, H1.out⟩
end Sx
end Go.Proofs.YtionocafkaemiaaDoor
