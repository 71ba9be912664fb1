/- OfflineFewer: the walk. -/
import Derived.Test.YtjgakcpjphdicaaJO4
import Derived.Test.YtjgakcpjphdicaaJM5
import Derived.Test.YtjgakcpjphdicaaJP19
import Derived.Deep.AppendLies
namespace Go.Proofs.Ytjgakcpjphdicaa
open Go.RowKit
namespace Of

theorem OBAt.take {w : World} {A : Option Addr} {c : Nat} {L : List OB} (h : OBAt w A c L) (k c' : Nat) (hk : min k L.length ≤ c') (hc : c' ≤ maxLen) : OBAt w A c' (L.take k) :=
  ⟨by rw [List.length_take]; exact hk, hc, fun j x hx => by
    rw [List.getElem?_take] at hx
    split at hx
    · exact h.2.2 j x hx
    · cases hx⟩
theorem OBAt.drop {w : World} {g o c k : Nat} {L : List OB} (h : OBAt w (some ⟨g, o, none⟩) c L) (hk : k ≤ L.length) : OBAt w (if c = k then some ⟨g, o, none⟩ else some ⟨g, o + k * 4, none⟩) (c - k) (L.drop k) := by
  have h1 := h.1
  have h2 := h.2.1
  refine ⟨by rw [List.length_drop]; omega, by omega, fun j x hx => ?_⟩
  rw [List.getElem?_drop] at hx
  obtain ⟨g', o', hA, hg, d0, d1, d2, d3⟩ := h.2.2 _ x hx
  injection hA with hA; injection hA with e1 e2
  subst e1; subst e2
  have hj := (List.getElem?_eq_some_iff.1 hx).1
  rw [if_neg (by omega)]
  have e : o + (k + j) * 4 = o + k * 4 + j * 4 := by omega
  rw [e] at d0 d1 d2 d3
  exact ⟨g, o + k * 4, rfl, hg, d0, d1, d2, d3⟩

theorem below_setc {n : Nat} {w w1 : World} (h : Below n w w1) {k : Nat} (hk : n ≤ k) (i : Nat) (v : Value) : Below n w (w1.setCell ⟨k, i, none⟩ v) :=
  ⟨h.os, h.tape, h.output, by rw [setCell_size]; exact h.size, fun q hq => (setCell_far _ _ _ _ (by show q ≠ k; omega)).trans (h.block q hq)⟩
/-- While the blocks are turned. -/
structure TogS (W wr : World) (gt ct : Nat) (L : List OB) (k : Nat) : Prop where
  row : OwnB wr W.heap.size (some ⟨gt, 0, none⟩) ct (togK L k)
  below : Below W.heap.size W wr

set_option maxRecDepth 100000 in
set_option maxHeartbeats 8000000 in
theorem fewer_walk (W : World) (A : Option Addr) (c : Nat) (L : List OB) (hL : OBAt W A c L) (m : Nat) (hm : m < 256) : Calls Try.prog 6 #[.slice A L.length c, .int .u8 (m : Int)] W fun e w' => e = .returned (.bool true) ∧ Below W.heap.size W w' := by
  have hcap := hL.2.1
  have hlc := hL.1
  unfold maxLen at hcap
  have hck := checkR_ok A c L W hL
  have HL := Lib.hid hL
  by_cases a1 : 8 < L.length
  · clear hck hL
    go_enter Try.func6, Try.ntmps6
    go_wp2_with (go_at_call 11; refine (shown_ok _).mono ?_; rintro e w1 ⟨rfl, b1⟩; have B1 := Lib.hid b1; clear b1)
    go_ret
    exact ⟨rfl, B1.out⟩
  · by_cases a2 : L.length = 0
    · have a3 : ((L.length : Int) == 0) = true := by simp [a2]
      clear hck hL
      go_enter Try.func6, Try.ntmps6
      go_wp2_with (go_at_call 11; refine (shown_ok _).mono ?_; rintro e w1 ⟨rfl, b1⟩; have B1 := Lib.hid b1; clear b1)
      go_ret
      exact ⟨rfl, B1.out⟩
    · have a3 : ((L.length : Int) == 0) = false := beq_eq_false_iff_ne.2 (by omega)
      by_cases hv : checkV L = 0
      · rw [hv] at hck
        have HC := Lib.hid hck
        obtain ⟨g, o, rfl, hg⟩ := hL.head (by omega)
        have hmod := Nat.mod_lt m (show 0 < L.length by omega)
        have hwm : IntKind.i64.wrap (m : Int) = (m : Int) := IntWalk.i64_in _ (by omega)
        obtain ⟨k, hk⟩ : ∃ k, k = m % L.length := ⟨_, rfl⟩
        have hmk : (m : Int) % (L.length : Int) = (k : Int) := by rw [hk]; exact (Int.natCast_emod _ _).symm
        rw [← hk] at hmod
        have hB := fun W1 (h : Below W.heap.size W W1) => (Best_ok W1 _ c L (HL.out.below h (Nat.le_refl _))).mono fun e w' h => h.yes hv (by omega)
        have HB := Lib.hid hB
        have HK := Lib.hid hk
        have HMK := Lib.hid hmk
        clear hck hL hB hk hmk
        go_enter Try.func6, Try.ntmps6
        go_wp2_with (go_at_call 20; refine HC.out.mono ?_; rintro e w1 ⟨rfl, b1⟩; have B1 := Lib.hid b1; clear b1)
        go_upto_region 5 with (go_at_call 12; refine (HB.out _ B1.out).mono ?_; rintro e w2 ⟨gb, oA, oc, rfl, h2, h2o, b2⟩; have B2 := Lib.hid (B1.out.trans (b2.mono B1.out.size)); clear h2 h2o b2)
        rw [HMK.out]
        have hs1 := (HL.out.below B2.out (Nat.le_refl _)).take k c (by omega) (by unfold maxLen; omega)
        have hs2 := (HL.out.below B2.out (Nat.le_refl _)).drop (k := k + 1) (by omega)
        obtain ⟨k1, hk1⟩ : ∃ z, z = k + 1 := ⟨_, rfl⟩
        rw [← hk1] at hs2
        have hl1 : (L.take k).length = k := by rw [List.length_take]; omega
        have hl2 : (L.drop k1).length = L.length - k1 := by rw [List.length_drop]
        have hl3 : (L.eraseIdx k).length = L.length - 1 := List.length_eraseIdx_of_lt hmod
        have her : L.take k ++ L.drop k1 = L.eraseIdx k := by rw [hk1]; exact erase_is L k
        have hve := ok_erase hv k
        have hle := best_erase hv hmod
        have hB3 := fun w3 A3 c3 (h : OBAt w3 A3 c3 (L.eraseIdx k)) => (Best_ok w3 A3 c3 (L.eraseIdx k) h).mono fun e w' h => h.yes hve (by omega)
        have hwk : IntKind.i64.wrap ((k : Int) + 1) = (k1 : Int) := by rw [hk1]; exact IntWalk.i64_in _ (by omega)
        have e1 : (0 : Int) ≤ (k : Int) := by omega
        have e2 : (k : Int) ≤ (c : Int) := by omega
        have e3 : (0 : Int) ≤ (k1 : Int) := by omega
        have e4 : (k1 : Int) ≤ (L.length : Int) := by omega
        have e5 : (L.length : Int) ≤ (c : Int) := by omega
        have hrow : OwnB (w2.alloc (.cells #[] 42)).drew w2.heap.size (some ⟨w2.heap.size, 0, none⟩) 0 [] := row_below (ownb_new w2) (below_drew (Below.refl _ _))
        obtain ⟨L1, hL1⟩ : ∃ z, z = L.take k := ⟨_, rfl⟩
        obtain ⟨L2, hL2⟩ : ∃ z, z = L.drop k1 := ⟨_, rfl⟩
        obtain ⟨L3, hL3⟩ : ∃ z, z = L.eraseIdx k := ⟨_, rfl⟩
        rw [← hL1] at hs1 hl1 her
        rw [← hL2] at hs2 hl2 her
        rw [← hL3] at her hle hl3 hB3
        have HS := Lib.hid (And.intro hs1 (And.intro hs2 (And.intro hl1 (And.intro hl2 (And.intro hl3 (And.intro her (And.intro hB3 (And.intro hle hrow))))))))
        have HK1 := Lib.hid hk1
        have hb0 : Below w2.heap.size w2 (w2.alloc (.cells #[] 42)).drew := below_drew (below_box _ _)
        have HB0 := Lib.hid hb0
        clear hs1 hs2 hl1 hl2 hl3 her hB3 hle hrow hL1 hL2 hL3 hk1 hve hb0
        go_region_law (first
          | (refine step_b (by rfl) (.tmp 46) (.tmp 49) (by rfl) w2.heap.size (some ⟨w2.heap.size, 0, none⟩) 0 [] (by rfl) HS.out.2.2.2.2.2.2.2.2 (some ⟨g, o, none⟩) c L1 (by rw [HS.out.2.2.1]; rfl) (HS.out.1.below HB0.out (Nat.le_refl _)) (fun h => by cases h) (by have := HS.out.2.2.1; simp; omega) HB0.out.size ?_
             intro A7 c7 w7 h7 b7
             rw [List.nil_append] at h7 ⊢
             have H7 := Lib.hid (And.intro h7 (HB0.out.trans b7))
             clear h7 b7)
          | (refine step_b (by rfl) (.tmp 50) (.tmp 54) (by rfl) w2.heap.size A7 c7 L1 (by rfl) H7.out.1 (if c = k1 then some ⟨g, o, none⟩ else some ⟨g, o + k1 * 4, none⟩) (c - k1) L2 (by rw [HS.out.2.2.2.1]; rfl) (HS.out.2.1.below H7.out.2 (Nat.le_refl _)) (fun h => by split at h <;> cases h) (by have := HS.out.2.2.1; have := HS.out.2.2.2.1; omega) H7.out.2.size ?_
             intro A8 c8 w8 h8 b8
             rw [HS.out.2.2.2.2.2.1] at h8 ⊢
             have H8 := Lib.hid (And.intro h8 (H7.out.2.trans b8))
             clear h8 b8)
          | (go_simp; go_at_call 12; refine (HS.out.2.2.2.2.2.2.1 _ _ _ (OwnB.at H8.out.1).1).mono ?_; rintro e w9 ⟨g9, o9, c9, rfl, h9, i9, b9⟩; have H9 := Lib.hid (H8.out.2.trans (b9.mono H8.out.2.size)); clear h9 i9 b9))
        generalize (if c = k1 then some (⟨g, o, none⟩ : Addr) else some ⟨g, o + k1 * 4, none⟩) = Aq at *
        have hle := HS.out.2.2.2.2.2.2.2.1
        have HT := Lib.hid hle
        generalize topOf L3 (bestV L3) = T3 at *
        generalize topOf L (bestV L) = T0 at *
        have q1 : ¬ T0 < T3 := by omega
        have q2 : decide (T0 < T3) = false := decide_eq_false q1
        clear hle
        go_upto_region 8 with (fail)
        have b09 : Below W.heap.size W w9 := B2.out.trans (H9.out.mono B2.out.size)
        have B9 := Lib.hid (And.intro b09 (HL.out.below b09 (Nat.le_refl _)))
        clear b09
        go_upto_region 9 with (at_builtin; refine wpList_b rfl (.tmp 72) (.tmp 73) rfl w9.heap.size (some ⟨w9.heap.size, 0, none⟩) 0 [] rfl (ownb_new w9) (some ⟨g, o, none⟩) c L rfl (B9.out.2.below (below_box w9 _) (Nat.le_refl _)) (fun h => by cases h) (by simp; omega) (by simp) ?_; intro At ct wa ha ba; rw [List.nil_append] at ha ⊢; have HA := Lib.hid (And.intro (row_low ha B9.out.1.size) (B9.out.1.trans (((below_box w9 (.cells #[] 42)).trans ba).mono B9.out.1.size))); clear ha ba)
        obtain ⟨gt, rfl⟩ : ∃ gt, At = some ⟨gt, 0, none⟩ := by
          rcases HA.out.1.2 with ⟨hv, h0⟩ | ⟨g', _, _, hv, _⟩
          · omega
          · injection hv with hv _ _
            exact ⟨g', hv⟩
        have hoa := OwnB.at (w := wa) (B := W.heap.size) (A := some ⟨gt, 0, none⟩) (c := ct) (L := L) HA.out.1
        have hct := hoa.1.1
        have hct2 := hoa.1.2.1
        have hgt := (hoa.2 gt rfl).1
        unfold maxLen at hct2
        have H0 := Lib.hid (⟨by unfold togK; simpa using HA.out.1, HA.out.2⟩ : TogS W wa gt ct L 0)
        have hOkL := (checkV_ok L).1 hv
        have HOK := Lib.hid hOkL
        clear hOkL hoa
        go_wp2_with (fail)
        go_loopw [15, 16] (fun s i wr => ∃ k : Nat, k ≤ L.length ∧ i = .int .i64 (k : Int) ∧ s = .int .i64 (sumS (L.take k)) ∧ TogS W wr gt ct L k) (fun _ i _ => L.length - (intOf i).toNat)
        case atStart => exact ⟨0, Nat.zero_le _, rfl, rfl, H0.out⟩
        case round =>
          obtain ⟨j, hj, rfl, rfl, hT⟩ := hrel
          by_cases hjl : j < L.length
          · have hrow := hT.row
            unfold OwnB at hrow
            rw [togK_len] at hrow
            obtain ⟨g0, g1, g2, g3⟩ := cb_get _ j _ (togK_get hjl)
            have hc := fun i hi => World.ownsRow.cellAt hrow i hi
            have hf := fun i => World.ownsRow.frozenAt hrow i
            have d1 := (hc (j * 4 + 1) (by omega)).trans g1
            have d2 := (hc (j * 4 + 2) (by omega)).trans g2
            have d3 := (hc (j * 4 + 3) (by omega)).trans g3
            have f1 := hf (j * 4 + 1)
            have f2 := hf (j * 4 + 2)
            have f3 := hf (j * 4 + 3)
            have h1 := (World.ownsRow.stored hrow (j * 4 + 1) (.int .i64 1)).1
            have h2 := (World.ownsRow.stored h1 (j * 4 + 2) (.int .i64 0)).1
            have h3 := (World.ownsRow.stored h2 (j * 4 + 3) (.int .i64 5)).1
            rw [cb_set _ j _ (togK_get hjl), togK_set hjl] at h3
            have hb3 := below_setc (below_setc (below_setc hT.below hgt (j * 4 + 1) (.int .i64 1)) hgt (j * 4 + 2) (.int .i64 0)) hgt (j * 4 + 3) (.int .i64 5)
            have H3 := Lib.hid (And.intro h3 hb3)
            have ej : (j : Int) < (L.length : Int) := by omega
            have ej0 : (0 : Int) ≤ (j : Int) := by omega
            clear hrow g0 g1 g2 g3 hc hf h1 h2 h3 hb3 hT
            go_upto_region 14 with (fail)
            generalize ((wr.setCell ⟨gt, j * 4 + 1, none⟩ (.int .i64 1)).setCell ⟨gt, j * 4 + 2, none⟩ (.int .i64 0)).setCell ⟨gt, j * 4 + 3, none⟩ (.int .i64 5) = w14 at *
            have hg1 : (togK L (j + 1))[j]? = some (tog (blk L j)) := by
              rw [← togK_set hjl, List.getElem?_set]
              simp [togK_len, hjl, tog]
            have d0 : w14.cell? ⟨gt, j * 4, none⟩ = some (.int .i64 (blk L j).s) := (World.ownsRow.cellAt H3.out.1 (j * 4) (by omega)).trans (cb_get _ j _ hg1).1
            have hsn : sumS (L.take (j + 1)) = sumS (L.take j) + (blk L j).s := by rw [take_next (blk_get hjl), sumS_snoc]
            obtain ⟨z1, z2⟩ := sumS_bd (L := L.take j) fun x hx => HOK.out.2 x (List.mem_of_mem_take hx)
            rw [List.length_take] at z2
            have z3 := (HOK.out.blk j).s1
            have z4 := (HOK.out.blk j).s2
            have hws : IntKind.i64.wrap (sumS (L.take j) + (blk L j).s) = sumS (L.take (j + 1)) := by rw [hsn]; exact IntWalk.i64_in _ (by omega)
            clear d1 d2 d3 f1 f2 f3 hg1 hsn z1 z2 z3 z4
            generalize (blk L j).s = bs at *
            generalize hSn : sumS (L.take (j + 1)) = sn at *
            generalize sumS (L.take j) = sk at *
            have HSN := Lib.hid hSn
            clear hSn
            go_wp2
            go_roundw
            case rel => exact ⟨j + 1, by omega, by go_num, by rw [HSN.out], ⟨by unfold OwnB; rw [togK_len]; exact H3.out.1, H3.out.2⟩⟩
            case measure => simp [intOf]; omega
          · obtain rfl : j = L.length := by omega
            rw [List.take_length]
            have hrow := hT.row
            rw [togK_all] at hrow
            have hat := (OwnB.at hrow).1
            have hlt : (L.map tog).length = L.length := List.length_map _
            have hvt := tog_ok hv
            have hB4 := (Best_ok wr _ ct (L.map tog) hat).mono fun e w' h => h.yes hvt (by omega)
            have hQ4 := fun w5 (h : Below wr.heap.size wr w5) => (Quick_ok w5 _ ct (L.map tog) (hat.below h (Nat.le_refl _)) (fun _ => stabS_small (by omega))).mono fun e w' h => h.2 hvt
            have htb := tog_best hv
            have htq := tog_quick hv
            rw [htb] at hB4
            unfold Laid at hQ4
            rw [hlt, htq] at hQ4
            rw [hlt] at hB4
            have HF := Lib.hid (And.intro hB4 (And.intro hQ4 hT.below))
            clear hrow hat hvt hB4 hQ4 htb htq hT H0
            generalize sumS L = sm at *
            go_wp2_with (go_at_call 12; fail)
            refine HF.out.1.mono ?_
            rintro e w20 ⟨g20, o20, c20, rfl, h20, i20, b20⟩
            have B20 := Lib.hid (And.intro b20 (HF.out.2.2.trans (b20.mono HF.out.2.2.size)))
            clear h20 i20 b20 hlt
            go_wp2_with (go_at_call 23; fail)
            refine (HF.out.2.1 _ B20.out.1).mono ?_
            rintro e w21 ⟨g21, rfl, h21, _, b21⟩
            have B21 := Lib.hid (B20.out.2.trans (b21.mono B20.out.2.size))
            clear h21 b21
            go_wp2_with (go_at_call 11; refine (shown_ok _).mono ?_; rintro e w22 ⟨rfl, b22⟩; have B22 := Lib.hid (B21.out.trans (b22.mono B21.out.size)); clear b22)
            go_ret
            exact ⟨rfl, B22.out⟩
      · have HC := Lib.hid hck
        clear hck hL
        generalize checkV L = e0 at *
        have hne : (e0 != 0) = true := by simpa using hv
        clear hv
        go_enter Try.func6, Try.ntmps6
        go_wp2_with (go_at_call 20; refine HC.out.mono ?_; rintro e w1 ⟨rfl, b1⟩; have B1 := Lib.hid b1; clear b1)
        go_wp2_with (go_at_call 11; refine (shown_ok _).mono ?_; rintro e w2 ⟨rfl, b2⟩; have B2 := Lib.hid (B1.out.trans (b2.mono B1.out.size)); clear b2)
        go_ret
        exact ⟨rfl, B2.out⟩
end Of
end Go.Proofs.Ytjgakcpjphdicaa
