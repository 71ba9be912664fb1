/- OfflineLoads: the walk. -/
import Derived.Test.YtjgakcpjphdicaaJO4
import Derived.Test.YtjgakcpjphdicaaJP16
namespace Go.Proofs.Ytjgakcpjphdicaa
open Go.RowKit
namespace Of

theorem peak_laws {L : List OB} (hv : checkV L = 0) : ∃ (pk : Int) (pt : Nat), peakRes L = (pk, (pt : Int), 0) ∧ (∀ t : Nat, t < 1001 → 0 ≤ loadV L t ∧ loadV L t ≤ pk) ∧ (∀ t : Nat, t < pt → loadV L t < pk) ∧ loadV L pt = pk ∧ pk ≤ 32768000 := by
  have hL := (checkV_ok L).1 hv
  have hb : ∀ t : Int, 0 ≤ loadV L t ∧ loadV L t ≤ 32768000 := fun t => by have := loadV_take hL L.length t; rwa [List.take_length] at this
  have hbd := pk_bd (f := fun t : Nat => loadV L t) (B := 32768000) (by omega) (fun t => (hb t).2) 1001
  refine ⟨(peakV L).1, (peakV L).2, ?_, fun t ht => ⟨(hb t).1, pk_max (f := fun t : Nat => loadV L t) 1001 t ht⟩, fun t ht => pk_first (f := fun t : Nat => loadV L t) 1001 t ht, ?_, hbd.2.1⟩
  · unfold peakRes
    rw [if_neg (by rw [hv]; simp)]
  · rcases pk_at (f := fun t : Nat => loadV L t) 1001 with h | ⟨_, h, _⟩
    · have e : peakV L = (0, 0) := h
      have h0 := pk_max (f := fun t : Nat => loadV L t) 1001 0 (by omega)
      rw [e]
      have e2 : (pk (fun t : Nat => loadV L t) 1001).1 = 0 := by rw [h]
      rw [e2] at h0
      have := (hb 0).1
      show loadV L ((0 : Nat) : Int) = 0
      have h1 : loadV L ((0 : Nat) : Int) ≤ 0 := h0
      have h2 : 0 ≤ loadV L ((0 : Nat) : Int) := (hb _).1
      omega
    · exact h
set_option maxRecDepth 100000 in
set_option maxHeartbeats 8000000 in
theorem loads_walk (W : World) (A : Option Addr) (c : Nat) (L : List OB) (hL : OBAt W A c L) : Calls Try.prog 8 #[.slice A L.length c] W fun e w' => e = .returned (.bool true) ∧ Below W.heap.size W w' := by
  have hcap := hL.2.1
  have hlc := hL.1
  unfold maxLen at hcap
  have hck := checkR_ok A c L W hL
  have HL := Lib.hid hL
  clear hL
  by_cases a1 : 100 < L.length
  · clear hck
    go_enter Try.func8, Try.ntmps8
    go_wp2_with (go_at_call 11; refine (shown_ok _).mono ?_; rintro e w1 ⟨rfl, b1⟩; have B1 := Lib.hid b1; clear b1)
    go_ret
    exact ⟨rfl, B1.out⟩
  · by_cases hv : checkV L = 0
    · rw [hv] at hck
      have HC := Lib.hid hck
      have hOk := (checkV_ok L).1 hv
      obtain ⟨pk, pt, hpk, hp1, hp2, hp3, hp4⟩ := peak_laws hv
      have hP := fun W1 (h : Below W.heap.size W W1) => Peak_ok A c L W1 (HL.out.below h (Nat.le_refl _))
      rw [hpk] at hP
      have hLd := fun W1 (t : Nat) (ht : t < 1001) (h : Below W.heap.size W W1) => Load_ok A c L (t : Int) W1 (HL.out.below h (Nat.le_refl _))
      have hlr : ∀ t : Nat, t < 1001 → loadRes L (t : Int) = (loadV L t, 0) := fun t ht => by unfold loadRes; rw [if_neg (by rw [hv]; simp), if_neg (by omega)]
      have HH := Lib.hid (And.intro hP (And.intro hLd (And.intro hlr (And.intro hp1 (And.intro hp2 (And.intro hp3 hOk))))))
      clear hck hP hLd hlr hp1 hp2 hp3 hpk hOk
      go_enter Try.func8, Try.ntmps8
      go_wp2_with (go_at_call 20; refine HC.out.mono ?_; rintro e w1 ⟨rfl, b1⟩; have B1 := Lib.hid b1; clear b1)
      go_wp2_with (go_at_call 21; refine (HH.out.1 _ B1.out).mono ?_; rintro e w2 ⟨rfl, b2⟩; have B2 := Lib.hid (B1.out.trans (b2.mono B1.out.size)); clear b2)
      go_loopw [7, 8] (fun s i wr => ∃ k : Nat, k ≤ L.length ∧ i = .int .i64 (k : Int) ∧ s = .int .i64 (wantV (L.take k)) ∧ Below W.heap.size W wr) (fun _ i _ => L.length - (intOf i).toNat)
      case atStart => exact ⟨0, Nat.zero_le _, rfl, rfl, B2.out⟩
      case round =>
        obtain ⟨k, hk, rfl, rfl, hB⟩ := hrel
        by_cases hkl : k < L.length
        · have hLw := HL.out.below hB (Nat.le_refl _)
          obtain ⟨g, oo, hlA, hg, d0, d1, d2, d3⟩ := hLw.at hkl
          have hb := HH.out.2.2.2.2.2.2.blk k
          have q1 := hb.s1
          have q2 := hb.s2
          have q3 := hb.f0
          have q4 := hb.ft
          have q5 := hb.t1
          obtain ⟨w0, w9⟩ := want_bd (L := L.take k) fun x hx => HH.out.2.2.2.2.2.2.2 x (List.mem_of_mem_take hx)
          rw [List.length_take] at w9
          obtain ⟨z1, z2⟩ := area_bd hb
          have hsn : wantV (L.take (k + 1)) = wantV (L.take k) + areaB (blk L k) := by rw [take_next (blk_get hkl), wantV_snoc]
          have hw1 : IntKind.i64.wrap ((blk L k).t - (blk L k).f) = (blk L k).t - (blk L k).f := IntWalk.i64_in _ (by omega)
          have hw2 : IntKind.i64.wrap ((blk L k).s * ((blk L k).t - (blk L k).f)) = areaB (blk L k) := by
            show IntKind.i64.wrap (areaB (blk L k)) = _
            exact IntWalk.i64_in _ (by omega)
          have hw3 : IntKind.i64.wrap (wantV (L.take k) + areaB (blk L k)) = wantV (L.take (k + 1)) := by rw [hsn]; exact IntWalk.i64_in _ (by omega)
          have HB := Lib.hid hB
          clear hB hLw hsn hb w0 w9 z1 z2 d1
          subst hlA
          generalize (blk L k).t = bt at *
          generalize (blk L k).f = bf at *
          generalize (blk L k).s = bs at *
          generalize hWb : wantV (L.take (k + 1)) = wb at *
          generalize wantV (L.take k) = wa at *
          generalize areaB (blk L k) = ar at *
          have HWB := Lib.hid hWb
          clear hWb
          go_upto_region 9 with (fail)
          go_quiet (fail)
          go_wp2
          go_roundw
          case rel => exact ⟨k + 1, by omega, by go_num, by rw [HWB.out], by first | exact below_drew HB.out | exact below_drewN HB.out _⟩
          case measure => simp [intOf]; omega
        · obtain rfl : k = L.length := by omega
          rw [List.take_length]
          have HB := Lib.hid hB
          clear hB
          have hsw := sum_want (L := L) HH.out.2.2.2.2.2.2.2
          have HSW := Lib.hid hsw
          clear hsw
          generalize wantV L = wv at *
          go_wp2_with (fail)
          go_loopw [6, 9] (fun s i wr2 => ∃ k : Nat, k ≤ 1001 ∧ i = .int .i64 (k : Int) ∧ s = .int .i64 (sumV L k) ∧ Below W.heap.size W wr2) (fun _ i _ => 1001 - (intOf i).toNat)
          case atStart => exact ⟨0, by omega, rfl, rfl, HB.out⟩
          case round =>
            obtain ⟨k, hk, rfl, rfl, hB⟩ := hrel
            by_cases hkl : k < 1001
            · have hload := HH.out.2.1 _ k hkl hB
              rw [HH.out.2.2.1 k hkl] at hload
              obtain ⟨l1, l2⟩ := HH.out.2.2.2.1 k hkl
              obtain ⟨s1, s2⟩ := sum_bd (L := L) (B := 32768000) (fun t => by
                have := loadV_take HH.out.2.2.2.2.2.2 L.length (t : Int)
                rwa [List.take_length] at this) k
              have hsn : sumV L (k + 1) = sumV L k + loadV L (k : Int) := rfl
              have hlt := HH.out.2.2.2.2.1 k
              have heq := HH.out.2.2.2.2.2.1
              have hat : k = pt → loadV L (k : Int) = pk := fun e => by rw [e]; exact heq
              have hws : IntKind.i64.wrap (sumV L k + loadV L (k : Int)) = sumV L (k + 1) := by rw [hsn]; exact IntWalk.i64_in _ (by omega)
              have HLO := Lib.hid hload
              have HB2 := Lib.hid hB
              clear hload hB hsn heq s1 s2
              generalize loadV L (k : Int) = a at *
              generalize hSn : sumV L (k + 1) = sn at *
              generalize sumV L k = sk at *
              have HSN := Lib.hid hSn
              clear hSn
              have d0 : decide (a < 0) = false := decide_eq_false (by omega)
              have d1 : decide (pk < a) = false := decide_eq_false (by omega)
              have f0 : ¬ a < 0 := by omega
              have f1 : ¬ pk < a := by omega
              by_cases c1 : k < pt
              · have g1 := hlt c1
                have g2 : (a == pk) = false := by simp; omega
                have g3 : ((k : Int) == (pt : Int)) = false := by simp; omega
                have g4 : decide ((k : Int) < (pt : Int)) = true := decide_eq_true (by omega)
                have g5 : (k : Int) < (pt : Int) := by omega
                clear hlt hat
                go_wp2_with (go_at_call 24; refine HLO.out.mono ?_; rintro e w5 ⟨rfl, b5⟩; have B5 := Lib.hid (HB2.out.trans (b5.mono HB2.out.size)); clear b5)
                go_roundw
                case rel => exact ⟨k + 1, by omega, by go_num, by rw [HSN.out], B5.out⟩
                case measure => simp [intOf]; omega
              · by_cases c2 : k = pt
                · have g1 := hat c2
                  have g2 : (a == pk) = true := by simp [g1]
                  have g3 : ((k : Int) == (pt : Int)) = true := by simp [c2]
                  have g4 : decide ((k : Int) < (pt : Int)) = false := decide_eq_false (by omega)
                  have g5 : ¬ (k : Int) < (pt : Int) := by omega
                  have g6 : (a != pk) = false := by simp [g1]
                  clear hlt hat g1 c2
                  go_wp2_with (go_at_call 24; refine HLO.out.mono ?_; rintro e w5 ⟨rfl, b5⟩; have B5 := Lib.hid (HB2.out.trans (b5.mono HB2.out.size)); clear b5)
                  go_roundw
                  case rel => exact ⟨k + 1, by omega, by go_num, by rw [HSN.out], B5.out⟩
                  case measure => simp [intOf]; omega
                · have g3 : ((k : Int) == (pt : Int)) = false := by simp; omega
                  have g4 : decide ((k : Int) < (pt : Int)) = false := decide_eq_false (by omega)
                  have g5 : ¬ (k : Int) < (pt : Int) := by omega
                  clear hlt hat
                  go_wp2_with (go_at_call 24; refine HLO.out.mono ?_; rintro e w5 ⟨rfl, b5⟩; have B5 := Lib.hid (HB2.out.trans (b5.mono HB2.out.size)); clear b5)
                  go_roundw
                  case rel => exact ⟨k + 1, by omega, by go_num, by rw [HSN.out], B5.out⟩
                  case measure => simp [intOf]; omega
            · obtain rfl : k = 1001 := by omega
              have HB2 := Lib.hid hB
              clear hB
              rw [HSW.out]
              go_wp2_with (go_at_call 11; refine (shown_ok _).mono ?_; rintro e w7 ⟨rfl, b7⟩; have B7 := Lib.hid (HB2.out.trans (b7.mono HB2.out.size)); clear b7)
              go_ret
              exact ⟨rfl, B7.out⟩
    · have HC := Lib.hid hck
      clear hck
      generalize checkV L = e0 at *
      have hne : (e0 != 0) = true := by simpa using hv
      clear hv
      go_enter Try.func8, Try.ntmps8
      go_wp2_with (go_at_call 20; refine HC.out.mono ?_; rintro e w1 ⟨rfl, b1⟩; have B1 := Lib.hid b1; clear b1)
      go_wp2_with (go_at_call 11; refine (shown_ok _).mono ?_; rintro e w2 ⟨rfl, b2⟩; have B2 := Lib.hid (B1.out.trans (b2.mono B1.out.size)); clear b2)
      go_ret
      exact ⟨rfl, B2.out⟩
end Of
end Go.Proofs.Ytjgakcpjphdicaa
