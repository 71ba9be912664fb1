/- The law's lower. -/
import Derived.Test.YtjgakcpjphdicaaJP23
import Derived.Test.YtjgakcpjphdicaaK29
import Derived.Test.YtjgakcpjphdicaaJO4
import Derived.BigQuiet
namespace Go.Proofs.Ytjgakcpjphdicaa
open Go.RowKit
namespace Of

set_option maxRecDepth 100000 in
set_option maxHeartbeats 4000000 in
theorem lower_ok (w : World) (lA : Option Addr) (lc : Nat) (L : List OB) (hl : OBAt w lA lc L) (B : Option Addr) (d : Nat) (M : List Int) (hm : IAt w B d M) (tp : Int) (hvr : validRes L M = (true, tp, 0)) :
    Calls Try.prog 31 #[.slice lA L.length lc, .slice B M.length d, .int .i64 tp] w fun e w' => e = .returned (.bool true) ∧ Below w.heap.size w w' := by
  obtain ⟨hck, hML, hfar, -, -⟩ := valid_open hvr
  have hlow := lower_law hvr
  have hL := (checkV_ok L).1 hck
  have hlen : M.length ≤ 500 := by rw [hML]; exact hL.1
  have hcap := hm.2.1
  have hmc := hm.1
  have hlcap := hl.2.1
  have hlc := hl.1
  unfold maxLen at hcap hlcap
  have HH := Lib.hid (And.intro hl (And.intro hm (And.intro hck hML)))
  have HLOW := Lib.hid hlow
  have HL := Lib.hid hL
  clear hl hm hck hML hfar hlow hvr hL
  go_enter Try.func31, Try.ntmps31
  go_wp2_with (fail)
  go_loopw [7, 8] (fun s i wr => ∃ (k : Nat) (A : Option Addr) (c : Nat), k ≤ M.length ∧ i = .int .i64 k ∧ s = .slice A k c ∧ QS w wr A c (lord M k)) (fun _ i _ => M.length - (intOf i).toNat)
  case atStart => exact ⟨0, none, 0, Nat.zero_le _, rfl, rfl, ⟨own_nil _ _ _, Below.refl _ _⟩⟩
  case round =>
    obtain ⟨i, A, c, hi, rfl, rfl, hq⟩ := hrel
    by_cases hlt : i < M.length
    · obtain ⟨hO, hol⟩ := lord_ord M i
      have hrow := hq.row
      have hia := (OwnI.at hrow).1
      have hic := hia.1
      rw [List.length_map, hol] at hic
      have hicm := hia.2.1
      unfold maxLen at hicm
      have hnx : lord M (i + 1) = insK (lord M i) i (lk M (lord M i) i i) := by
        have e : lord M (i + 1) = insK (lord M i) i (lk M (lord M i) i (lord M i).length) := rfl
        rw [hol] at e; exact e
      have hin : ∀ x, x ∈ lord M i → x < i := hO.2
      have HX := Lib.hid (And.intro hol (And.intro hnx (And.intro hq hin)))
      clear hO hol hrow hia hnx hq hin
      generalize hoo : lord M i = o at *
      have HOO := Lib.hid hoo
      clear hoo
      obtain ⟨gm, om, rfl, hgm, ymi⟩ := (HH.out.2.1.below HX.out.2.2.1.below (Nat.le_refl _)).at (j := i) hlt
      clear hgm ymi
      rcases (show A = none ∨ ∃ g, A = some ⟨g, 0, none⟩ from by
        rcases HX.out.2.2.1.row.2 with ⟨hv, _⟩ | ⟨g', _, _, hv, _⟩
        · injection hv with hv _ _; exact .inl hv
        · injection hv with hv _ _; exact .inr ⟨g', hv⟩) with rfl | ⟨g, rfl⟩
      · have hnil := OwnI.nil HX.out.2.2.1.row rfl
        obtain ⟨hc0, ho0⟩ := hnil
        have ho0 : o = [] := by
          cases o with
          | nil => rfl
          | cons x o => cases ho0
        subst hc0; subst ho0
        have hi0 : i = 0 := by have := HX.out.1; simpa using this.symm
        subst hi0
        go_wp2_with (fail)
        go_loopw [9] (fun kk wr => kk = .int .i64 0 ∧ QS w wr none 0 []) (fun _ _ => 0)
        case atStart => exact ⟨rfl, HX.out.2.2.1⟩
        case round =>
          obtain ⟨rfl, hq2⟩ := hrel
          have HQ2 := Lib.hid hq2
          clear hq2
          go_upto_region 6 with (fail)
          go_quiet (fail)
          have HQ2 := Lib.hid (HQ2.out.step (below_drewN (Below.refl _ _) nq))
          generalize wr.drewN nq = wr at *
          go_upto_region 8 with (fail)
          have S0 : Below wr.heap.size wr wr.drew := below_drew (Below.refl _ _)
          have S38 : Below wr.heap.size wr (wr.alloc c0).drew := below_drew (below_box _ _)
          have S44 : Below wr.heap.size wr (wr.alloc (c1 (0 : Int))).drew := below_drew (below_box _ _)
          have SA : Below wr.heap.size wr ((wr.alloc c0).alloc (c1 (0 : Int))).drew := below_drew ((below_box _ _).trans ((below_box _ _).mono (by simp)))
          have SB : Below wr.heap.size wr ((wr.alloc (c1 (0 : Int))).alloc c0).drew := below_drew ((below_box _ _).trans ((below_box _ _).mono (by simp)))
          have TA := Lib.hid (two_a wr (0 : Int)).drew
          have TB := Lib.hid (two_b wr (0 : Int)).drew
          have OC := Lib.hid (show OwnI (wr.alloc c0).drew wr.heap.size 3 (some ⟨wr.heap.size, 0, none⟩) 0 [] from own_new wr)
          go_region_held3 (fun w' => Below wr.heap.size wr w')
            (first | (with_reducible exact S0) | (with_reducible exact S38) | (with_reducible exact S44) | (with_reducible exact SA) | (with_reducible exact SB) | (with_reducible exact S3) | (with_reducible exact S3C) | (with_reducible exact S4) | (with_reducible exact S5) | go_keep)
            (first
              | (refine step_own ?_ (.tmp 48) (.tmp 51) ?_ wr.heap.size A5 c5 [(0 : Int)] ?_ H45.out none 0 [] ?_ (iat_nil _) (fun _ => rfl) (Nat.le_of_ble_eq_true rfl) S4.size ?_
                 (exact rfl)
                 (exact rfl)
                 (exact rfl)
                 (exact rfl)
                 intro A9 c9 w9 h9 b9
                 rw [List.append_nil] at h9 ⊢
                 have S5 : Below wr.heap.size wr w9 := S4.trans b9
                 have H49 := Lib.hid (And.intro h9 S5)
                 clear h9 b9)
              | (refine step_own ?_ (.tmp 45) (.tmp 47) ?_ wr.heap.size A4 c4 [] ?_ HT1.out.row (some ⟨_, 0, none⟩) 1 [(0 : Int)] ?_ HT1.out.one (fun h => by cases h) (Nat.le_of_ble_eq_true rfl) S3T.size ?_
                 (exact rfl)
                 (exact rfl)
                 (exact rfl)
                 (exact rfl)
                 intro A5 c5 w5 h5 b5
                 rw [List.nil_append] at h5 ⊢
                 have S4 : Below wr.heap.size wr w5 := S3T.trans b5
                 have H45 := Lib.hid h5
                 clear h5 b5)
              | (refine step_two ?_ (.tmp 41) (.tmp 44) ?_ wr.heap.size (some ⟨wr.heap.size, 0, none⟩) 0 [] (wr.heap.size + 1) (0 : Int) ?_ TA.out none 0 [] ?_ (iat_nil _) (fun _ => rfl) (Nat.le_of_ble_eq_true rfl) SA.size ?_
                 (exact rfl)
                 (exact rfl)
                 (exact rfl)
                 (exact rfl)
                 intro A4 c4 w4 h4 b4
                 rw [List.nil_append] at h4 ⊢
                 have S3 : Below wr.heap.size wr w4 := SA.trans b4
                 have S3T := S3
                 have HT1 := Lib.hid h4
                 clear h4 b4)
              | (refine step_two ?_ (.tmp 41) (.tmp 44) ?_ wr.heap.size (some ⟨wr.heap.size + 1, 0, none⟩) 0 [] wr.heap.size (0 : Int) ?_ TB.out none 0 [] ?_ (iat_nil _) (fun _ => rfl) (Nat.le_of_ble_eq_true rfl) SB.size ?_
                 (exact rfl)
                 (exact rfl)
                 (exact rfl)
                 (exact rfl)
                 intro A4 c4 w4 h4 b4
                 rw [List.nil_append] at h4 ⊢
                 have S3 : Below wr.heap.size wr w4 := SB.trans b4
                 have S3T := S3
                 have HT1 := Lib.hid h4
                 clear h4 b4)
              | (refine step_own ?_ (.tmp 41) (.tmp 44) ?_ wr.heap.size (some ⟨wr.heap.size, 0, none⟩) 0 [] ?_ OC.out none 0 [] ?_ (iat_nil _) (fun _ => rfl) (Nat.le_of_ble_eq_true rfl) S38.size ?_
                 (exact rfl)
                 (exact rfl)
                 (exact rfl)
                 (exact rfl)
                 intro A4 c4 w4 h4 b4
                 rw [List.nil_append] at h4 ⊢
                 have S3 : Below wr.heap.size wr w4 := S38.trans b4
                 have S3C : Below wr.heap.size wr (w4.alloc (c1 (0 : Int))) := S3.alloc S3.size _
                 have S3T := S3C
                 have HT1 := Lib.hid (two_c (w := wr) (0 : Int) h4)
                 clear h4 b4))
          all_goals
            go_wp2
            go_roundw
            case rel => exact ⟨1, A9, c9, by omega, by go_num, rfl, ⟨row_low H49.out.1 HQ2.out.below.size, HQ2.out.below.trans (H49.out.2.mono HQ2.out.below.size)⟩⟩
            case measure => simp [intOf]; omega
      go_wp2_with (fail)
      go_loopw [9] (fun kk wr => ∃ k : Nat, k ≤ i ∧ kk = .int .i64 k ∧ lk M o i i = lk M o i k ∧ QS w wr (some ⟨g, 0, none⟩) c o) (fun kk _ => (intOf kk).toNat)
      case atStart => exact ⟨i, Nat.le_refl _, rfl, rfl, HX.out.2.2.1⟩
      case round =>
        obtain ⟨k, hk, rfl, hqk, hq2⟩ := hrel
        have HQ2 := Lib.hid hq2
        by_cases h0 : k = 0
        · have hqz : lk M o i i = k := by rw [hqk, h0]; rfl
          have HQK := Lib.hid hqz
          have h00 : ¬ (0 : Int) < (k : Int) := by omega
          have h00d : ¬ 0 < k := by omega
          clear hqk hqz hq2 h0
          go_upto_region 6 with (fail)
          go_quiet (fail)
          have HQ2 := Lib.hid (HQ2.out.step (below_drewN (Below.refl _ _) nq))
          clear h00d
          generalize wr.drewN nq = wr at *
          go_upto_region 8 with (fail)
          have ek : (k : Int) ≤ (i : Int) := by omega
          have ekc : (k : Int) ≤ (c : Int) := by omega
          have ek0 : (0 : Int) ≤ (k : Int) := by omega
          obtain ⟨M1, hM1⟩ : ∃ M, M = zsP (o.take k) := ⟨_, rfl⟩
          obtain ⟨M2, hM2⟩ : ∃ M, M = zsP (o.drop k) := ⟨_, rfl⟩
          have hl1 : M1.length = k := by rw [hM1, List.length_map, List.length_take, HX.out.1]; omega
          have hl2 : M2.length = i - k := by rw [hM2, List.length_map, List.length_drop, HX.out.1]
          obtain ⟨X2, hX2⟩ : ∃ M, M = M1 ++ [(i : Int)] := ⟨_, rfl⟩
          obtain ⟨X3, hX3⟩ : ∃ M, M = X2 ++ M2 := ⟨_, rfl⟩
          have hl3 : X2.length = k + 1 := by rw [hX2, List.length_append, hl1]; rfl
          have hl4 : X3.length = i + 1 := by rw [hX3, List.length_append, hl3, hl2]; omega
          have hI := (OwnI.at HQ2.out.row).1
          have hs1 : IAt wr (some ⟨g, 0, none⟩) c M1 := by
            have := hI.take k c (by rw [List.length_map, HX.out.1]; omega) (by unfold maxLen; omega)
            rw [hM1]; unfold zsP at this ⊢; rw [List.map_take]; exact this
          have hs2 : IAt wr (if c = k then some ⟨g, 0, none⟩ else some ⟨g, k, none⟩) (c - k) M2 := by
            by_cases hck : c = k
            · have h0 : M2 = [] := List.length_eq_zero_iff.1 (by rw [hl2]; omega)
              rw [if_pos hck, h0]
              exact ⟨Nat.zero_le _, by unfold maxLen; omega, fun q x hx => by simp at hx⟩
            · rw [if_neg hck]
              have := hI.drop (k := k) (by rw [List.length_map, HX.out.1]; exact hk)
              rw [Nat.zero_add] at this
              rw [hM2]; unfold zsP at this ⊢; rw [List.map_drop]; exact this
          have HM := Lib.hid (And.intro hs1 (And.intro hs2 (And.intro hl1 (And.intro hl2 (And.intro hX2 (And.intro hX3 (And.intro hl3 (And.intro hl4 (And.intro hM1 hM2)))))))))
          clear hs1 hs2 hl1 hl2 hX2 hX3 hl3 hl4 hM1 hM2 hI
          have hii : i ≤ 500 := by omega
          have S0 : Below wr.heap.size wr wr.drew := below_drew (Below.refl _ _)
          have S38 : Below wr.heap.size wr (wr.alloc c0).drew := below_drew (below_box _ _)
          have S44 : Below wr.heap.size wr (wr.alloc (c1 (i : Int))).drew := below_drew (below_box _ _)
          have SA : Below wr.heap.size wr ((wr.alloc c0).alloc (c1 (i : Int))).drew := below_drew ((below_box _ _).trans ((below_box _ _).mono (by simp)))
          have SB : Below wr.heap.size wr ((wr.alloc (c1 (i : Int))).alloc c0).drew := below_drew ((below_box _ _).trans ((below_box _ _).mono (by simp)))
          have TA := Lib.hid (two_a wr (i : Int)).drew
          have TB := Lib.hid (two_b wr (i : Int)).drew
          have OC := Lib.hid (show OwnI (wr.alloc c0).drew wr.heap.size 3 (some ⟨wr.heap.size, 0, none⟩) 0 [] from own_new wr)
          go_region_held3 (fun w' => Below wr.heap.size wr w')
            (first | (with_reducible exact S0) | (with_reducible exact S38) | (with_reducible exact S44) | (with_reducible exact SA) | (with_reducible exact SB) | (with_reducible exact S3) | (with_reducible exact S3C) | (with_reducible exact S4) | (with_reducible exact S5) | go_keep)
            (first
              | (refine step_own ?_ (.tmp 48) (.tmp 51) ?_ wr.heap.size A5 c5 X2 ?_ H45.out (if c = k then some ⟨g, 0, none⟩ else some ⟨g, k, none⟩) (c - k) M2 ?_ (HM.out.2.1.below S4 (Nat.le_refl _)) (fun h => absurd h (ite_ne_none _ _ _)) (by rw [HM.out.2.2.2.2.2.2.1, HM.out.2.2.2.1]; omega) S4.size ?_
                 (exact rfl)
                 (exact rfl)
                 (exact rfl)
                 (rw [HM.out.2.2.2.1]; exact rfl)
                 intro A9 c9 w9 h9 b9
                 rw [← HM.out.2.2.2.2.2.1] at h9 ⊢
                 have S5 : Below wr.heap.size wr w9 := S4.trans b9
                 have H49 := Lib.hid (And.intro h9 S5)
                 clear h9 b9)
              | (refine step_own ?_ (.tmp 45) (.tmp 47) ?_ wr.heap.size A4 c4 M1 ?_ HT1.out.row (some ⟨_, 0, none⟩) 1 [(i : Int)] ?_ HT1.out.one (fun h => by cases h) (by rw [HM.out.2.2.1]; show k + 1 ≤ 1000000; omega) S3T.size ?_
                 (exact rfl)
                 (exact rfl)
                 (exact rfl)
                 (exact rfl)
                 intro A5 c5 w5 h5 b5
                 rw [← HM.out.2.2.2.2.1] at h5 ⊢
                 have S4 : Below wr.heap.size wr w5 := S3T.trans b5
                 have H45 := Lib.hid h5
                 clear h5 b5)
              | (refine step_two ?_ (.tmp 41) (.tmp 44) ?_ wr.heap.size (some ⟨wr.heap.size, 0, none⟩) 0 [] (wr.heap.size + 1) (i : Int) ?_ TA.out (some ⟨g, 0, none⟩) c M1 ?_ (HM.out.1.below SA (Nat.le_refl _)) (fun h => by cases h) (by rw [HM.out.2.2.1]; show 0 + k ≤ 1000000; omega) SA.size ?_
                 (exact rfl)
                 (exact rfl)
                 (exact rfl)
                 (rw [HM.out.2.2.1]; exact rfl)
                 intro A4 c4 w4 h4 b4
                 rw [List.nil_append] at h4 ⊢
                 have S3 : Below wr.heap.size wr w4 := SA.trans b4
                 have S3T := S3
                 have HT1 := Lib.hid h4
                 clear h4 b4)
              | (refine step_two ?_ (.tmp 41) (.tmp 44) ?_ wr.heap.size (some ⟨wr.heap.size + 1, 0, none⟩) 0 [] wr.heap.size (i : Int) ?_ TB.out (some ⟨g, 0, none⟩) c M1 ?_ (HM.out.1.below SB (Nat.le_refl _)) (fun h => by cases h) (by rw [HM.out.2.2.1]; show 0 + k ≤ 1000000; omega) SB.size ?_
                 (exact rfl)
                 (exact rfl)
                 (exact rfl)
                 (rw [HM.out.2.2.1]; exact rfl)
                 intro A4 c4 w4 h4 b4
                 rw [List.nil_append] at h4 ⊢
                 have S3 : Below wr.heap.size wr w4 := SB.trans b4
                 have S3T := S3
                 have HT1 := Lib.hid h4
                 clear h4 b4)
              | (refine step_own ?_ (.tmp 41) (.tmp 44) ?_ wr.heap.size (some ⟨wr.heap.size, 0, none⟩) 0 [] ?_ OC.out (some ⟨g, 0, none⟩) c M1 ?_ (HM.out.1.below S38 (Nat.le_refl _)) (fun h => by cases h) (by rw [HM.out.2.2.1]; show 0 + k ≤ 1000000; omega) S38.size ?_
                 (exact rfl)
                 (exact rfl)
                 (exact rfl)
                 (rw [HM.out.2.2.1]; exact rfl)
                 intro A4 c4 w4 h4 b4
                 rw [List.nil_append] at h4 ⊢
                 have S3 : Below wr.heap.size wr w4 := S38.trans b4
                 have S3C : Below wr.heap.size wr (w4.alloc (c1 (i : Int))) := S3.alloc S3.size _
                 have S3T := S3C
                 have HT1 := Lib.hid (two_c (w := wr) (i : Int) h4)
                 clear h4 b4))
          all_goals
            go_wp2
            go_roundw
            case rel => exact ⟨i + 1, A9, c9, by omega, by go_num, by rw [HM.out.2.2.2.2.2.2.2.1], ⟨by
                rw [HX.out.2.1, HQK.out]
                have h := H49.out.1
                rw [HM.out.2.2.2.2.2.1, HM.out.2.2.2.2.1, HM.out.2.2.2.2.2.2.2.2.1, HM.out.2.2.2.2.2.2.2.2.2] at h
                have e : zsP (insK o i k) = zsP (o.take k) ++ [(i : Int)] ++ zsP (o.drop k) := by unfold insK zsP; simp
                rw [e]
                exact row_low h HQ2.out.below.size, HQ2.out.below.trans (H49.out.2.mono HQ2.out.below.size)⟩⟩
            case measure => simp [intOf]; omega
        · obtain ⟨j, hj⟩ : ∃ j, k = j + 1 := ⟨k - 1, by omega⟩
          have hoj : o[j]? = some (o.getD j 0) := by rw [List.getD_eq_getElem?_getD, List.getElem?_eq_getElem (by rw [HX.out.1]; omega)]; rfl
          have hjl : o.getD j 0 < i := HX.out.2.2.2 _ (List.mem_of_getElem? hoj)
          have hjM : o.getD j 0 < M.length := by omega
          obtain ⟨g', o', eg', hg, ox⟩ := iat_nat (OwnI.at hq2.row).1 hoj
          injection eg' with eg'; injection eg' with eg1 eg2 _
          subst eg1; subst eg2
          rw [Nat.zero_add] at ox
          have hmw := HH.out.2.1.below hq2.below (Nat.le_refl _)
          obtain ⟨g2, o2, eg', hgm, ymi⟩ := hmw.at hlt
          injection eg' with eg'; injection eg' with eg1 eg2 _
          subst eg1; subst eg2
          obtain ⟨g2, o2, eg', hgm', ymy⟩ := hmw.at hjM
          injection eg' with eg'; injection eg' with eg1 eg2 _
          subst eg1; subst eg2
          clear hgm' hmw
          have hqn : lk M o i k = if addr M i < addr M (o.getD j 0) then lk M o i j else k := by rw [hj]; rfl
          rw [hqn] at hqk
          generalize o.getD j 0 = y at *
          generalize addr M y = vy at *
          generalize addr M i = vi at *
          have hjm : IntKind.i64.wrap ((k : Int) - 1) = (j : Int) := by rw [IntWalk.i64_in _ (by omega)]; omega
          have hjm2 : (k : Int) - 1 = (j : Int) := by omega
          have h01 : (0 : Int) < (k : Int) := by omega
          have h01d : 0 < k := by omega
          have ejl : (j : Int) < (i : Int) := by omega
          have eyM : (y : Int) < (M.length : Int) := by omega
          have eiM : (i : Int) < (M.length : Int) := by omega
          have hjk : j < k := by omega
          have hji : j ≤ i := by omega
          clear hq2 hoj hqn hj h0
          by_cases hb : vi < vy
          · rw [if_pos hb] at hqk
            have hbd : decide (vi < vy) = true := decide_eq_true hb
            have HQK := Lib.hid hqk
            clear hqk
            go_upto_region 6 with (fail)
            go_quiet (fail)
            have HQ2 := Lib.hid (HQ2.out.step (below_drewN (Below.refl _ _) nq))
            clear ox ymi ymy h01d hbd hgm
            generalize wr.drewN nq = wr at *
            go_wp2
            go_roundw
            case rel => exact ⟨j, hji, rfl, HQK.out, HQ2.out⟩
            case measure => simp [intOf]; omega
          · rw [if_neg hb] at hqk
            have hbd : decide (vi < vy) = false := decide_eq_false hb
            have hqz : lk M o i i = k := hqk
            have HQK := Lib.hid hqz
            clear hqk hqz
            go_upto_region 6 with (fail)
            go_quiet (fail)
            have HQ2 := Lib.hid (HQ2.out.step (below_drewN (Below.refl _ _) nq))
            clear ox ymi ymy h01d hbd hgm hjm hjm2 h01 ejl hjk hji eyM eiM hb hg
            generalize wr.drewN nq = wr at *
            go_upto_region 8 with (fail)
            have ek : (k : Int) ≤ (i : Int) := by omega
            have ekc : (k : Int) ≤ (c : Int) := by omega
            have ek0 : (0 : Int) ≤ (k : Int) := by omega
            obtain ⟨M1, hM1⟩ : ∃ M, M = zsP (o.take k) := ⟨_, rfl⟩
            obtain ⟨M2, hM2⟩ : ∃ M, M = zsP (o.drop k) := ⟨_, rfl⟩
            have hl1 : M1.length = k := by rw [hM1, List.length_map, List.length_take, HX.out.1]; omega
            have hl2 : M2.length = i - k := by rw [hM2, List.length_map, List.length_drop, HX.out.1]
            obtain ⟨X2, hX2⟩ : ∃ M, M = M1 ++ [(i : Int)] := ⟨_, rfl⟩
            obtain ⟨X3, hX3⟩ : ∃ M, M = X2 ++ M2 := ⟨_, rfl⟩
            have hl3 : X2.length = k + 1 := by rw [hX2, List.length_append, hl1]; rfl
            have hl4 : X3.length = i + 1 := by rw [hX3, List.length_append, hl3, hl2]; omega
            have hI := (OwnI.at HQ2.out.row).1
            have hs1 : IAt wr (some ⟨g, 0, none⟩) c M1 := by
              have := hI.take k c (by rw [List.length_map, HX.out.1]; omega) (by unfold maxLen; omega)
              rw [hM1]; unfold zsP at this ⊢; rw [List.map_take]; exact this
            have hs2 : IAt wr (if c = k then some ⟨g, 0, none⟩ else some ⟨g, k, none⟩) (c - k) M2 := by
              by_cases hck : c = k
              · have h0 : M2 = [] := List.length_eq_zero_iff.1 (by rw [hl2]; omega)
                rw [if_pos hck, h0]
                exact ⟨Nat.zero_le _, by unfold maxLen; omega, fun q x hx => by simp at hx⟩
              · rw [if_neg hck]
                have := hI.drop (k := k) (by rw [List.length_map, HX.out.1]; exact hk)
                rw [Nat.zero_add] at this
                rw [hM2]; unfold zsP at this ⊢; rw [List.map_drop]; exact this
            have HM := Lib.hid (And.intro hs1 (And.intro hs2 (And.intro hl1 (And.intro hl2 (And.intro hX2 (And.intro hX3 (And.intro hl3 (And.intro hl4 (And.intro hM1 hM2)))))))))
            clear hs1 hs2 hl1 hl2 hX2 hX3 hl3 hl4 hM1 hM2 hI
            have hii : i ≤ 500 := by omega
            have S0 : Below wr.heap.size wr wr.drew := below_drew (Below.refl _ _)
            have S38 : Below wr.heap.size wr (wr.alloc c0).drew := below_drew (below_box _ _)
            have S44 : Below wr.heap.size wr (wr.alloc (c1 (i : Int))).drew := below_drew (below_box _ _)
            have SA : Below wr.heap.size wr ((wr.alloc c0).alloc (c1 (i : Int))).drew := below_drew ((below_box _ _).trans ((below_box _ _).mono (by simp)))
            have SB : Below wr.heap.size wr ((wr.alloc (c1 (i : Int))).alloc c0).drew := below_drew ((below_box _ _).trans ((below_box _ _).mono (by simp)))
            have TA := Lib.hid (two_a wr (i : Int)).drew
            have TB := Lib.hid (two_b wr (i : Int)).drew
            have OC := Lib.hid (show OwnI (wr.alloc c0).drew wr.heap.size 3 (some ⟨wr.heap.size, 0, none⟩) 0 [] from own_new wr)
            go_region_held3 (fun w' => Below wr.heap.size wr w')
              (first | (with_reducible exact S0) | (with_reducible exact S38) | (with_reducible exact S44) | (with_reducible exact SA) | (with_reducible exact SB) | (with_reducible exact S3) | (with_reducible exact S3C) | (with_reducible exact S4) | (with_reducible exact S5) | go_keep)
              (first
                | (refine step_own ?_ (.tmp 48) (.tmp 51) ?_ wr.heap.size A5 c5 X2 ?_ H45.out (if c = k then some ⟨g, 0, none⟩ else some ⟨g, k, none⟩) (c - k) M2 ?_ (HM.out.2.1.below S4 (Nat.le_refl _)) (fun h => absurd h (ite_ne_none _ _ _)) (by rw [HM.out.2.2.2.2.2.2.1, HM.out.2.2.2.1]; omega) S4.size ?_
                   (exact rfl)
                   (exact rfl)
                   (exact rfl)
                   (rw [HM.out.2.2.2.1]; exact rfl)
                   intro A9 c9 w9 h9 b9
                   rw [← HM.out.2.2.2.2.2.1] at h9 ⊢
                   have S5 : Below wr.heap.size wr w9 := S4.trans b9
                   have H49 := Lib.hid (And.intro h9 S5)
                   clear h9 b9)
                | (refine step_own ?_ (.tmp 45) (.tmp 47) ?_ wr.heap.size A4 c4 M1 ?_ HT1.out.row (some ⟨_, 0, none⟩) 1 [(i : Int)] ?_ HT1.out.one (fun h => by cases h) (by rw [HM.out.2.2.1]; show k + 1 ≤ 1000000; omega) S3T.size ?_
                   (exact rfl)
                   (exact rfl)
                   (exact rfl)
                   (exact rfl)
                   intro A5 c5 w5 h5 b5
                   rw [← HM.out.2.2.2.2.1] at h5 ⊢
                   have S4 : Below wr.heap.size wr w5 := S3T.trans b5
                   have H45 := Lib.hid h5
                   clear h5 b5)
                | (refine step_two ?_ (.tmp 41) (.tmp 44) ?_ wr.heap.size (some ⟨wr.heap.size, 0, none⟩) 0 [] (wr.heap.size + 1) (i : Int) ?_ TA.out (some ⟨g, 0, none⟩) c M1 ?_ (HM.out.1.below SA (Nat.le_refl _)) (fun h => by cases h) (by rw [HM.out.2.2.1]; show 0 + k ≤ 1000000; omega) SA.size ?_
                   (exact rfl)
                   (exact rfl)
                   (exact rfl)
                   (rw [HM.out.2.2.1]; exact rfl)
                   intro A4 c4 w4 h4 b4
                   rw [List.nil_append] at h4 ⊢
                   have S3 : Below wr.heap.size wr w4 := SA.trans b4
                   have S3T := S3
                   have HT1 := Lib.hid h4
                   clear h4 b4)
                | (refine step_two ?_ (.tmp 41) (.tmp 44) ?_ wr.heap.size (some ⟨wr.heap.size + 1, 0, none⟩) 0 [] wr.heap.size (i : Int) ?_ TB.out (some ⟨g, 0, none⟩) c M1 ?_ (HM.out.1.below SB (Nat.le_refl _)) (fun h => by cases h) (by rw [HM.out.2.2.1]; show 0 + k ≤ 1000000; omega) SB.size ?_
                   (exact rfl)
                   (exact rfl)
                   (exact rfl)
                   (rw [HM.out.2.2.1]; exact rfl)
                   intro A4 c4 w4 h4 b4
                   rw [List.nil_append] at h4 ⊢
                   have S3 : Below wr.heap.size wr w4 := SB.trans b4
                   have S3T := S3
                   have HT1 := Lib.hid h4
                   clear h4 b4)
                | (refine step_own ?_ (.tmp 41) (.tmp 44) ?_ wr.heap.size (some ⟨wr.heap.size, 0, none⟩) 0 [] ?_ OC.out (some ⟨g, 0, none⟩) c M1 ?_ (HM.out.1.below S38 (Nat.le_refl _)) (fun h => by cases h) (by rw [HM.out.2.2.1]; show 0 + k ≤ 1000000; omega) S38.size ?_
                   (exact rfl)
                   (exact rfl)
                   (exact rfl)
                   (rw [HM.out.2.2.1]; exact rfl)
                   intro A4 c4 w4 h4 b4
                   rw [List.nil_append] at h4 ⊢
                   have S3 : Below wr.heap.size wr w4 := S38.trans b4
                   have S3C : Below wr.heap.size wr (w4.alloc (c1 (i : Int))) := S3.alloc S3.size _
                   have S3T := S3C
                   have HT1 := Lib.hid (two_c (w := wr) (i : Int) h4)
                   clear h4 b4))
            all_goals
              go_wp2
              go_roundw
              case rel => exact ⟨i + 1, A9, c9, by omega, by go_num, by rw [HM.out.2.2.2.2.2.2.2.1], ⟨by
                  rw [HX.out.2.1, HQK.out]
                  have h := H49.out.1
                  rw [HM.out.2.2.2.2.2.1, HM.out.2.2.2.2.1, HM.out.2.2.2.2.2.2.2.2.1, HM.out.2.2.2.2.2.2.2.2.2] at h
                  have e : zsP (insK o i k) = zsP (o.take k) ++ [(i : Int)] ++ zsP (o.drop k) := by unfold insK zsP; simp
                  rw [e]
                  exact row_low h HQ2.out.below.size, HQ2.out.below.trans (H49.out.2.mono HQ2.out.below.size)⟩⟩
              case measure => simp [intOf]; omega
    · obtain rfl : i = M.length := by omega
      obtain ⟨hO, hol⟩ := lord_ord M M.length
      have hia := (OwnI.at hq.row).1
      have hly : Calls Try.prog 28 #[.slice lA L.length lc, .slice A M.length c] wr fun e w' => ∃ ga, e = .returned (.tuple #[.slice (some ⟨ga, 0, none⟩) M.length M.length, .int .i64 (lays L (lord M M.length)).T, .int .i64 0]) ∧ RowI 2 w' ga (lays L (lord M M.length)).A ∧ wr.heap.size ≤ ga ∧ Below wr.heap.size wr w' := by
        have h := (Lay_ok wr lA lc L A c (zsP (lord M M.length)) (HH.out.1.below hq.below (Nat.le_refl _)) hia (by rw [List.length_map, hol]; omega)).mono fun e w' h => h.yes HH.out.2.2.1 _ rfl (by rw [← HH.out.2.2.2]; exact hO) (by rw [← HH.out.2.2.2]; exact hol)
        rw [List.length_map, hol] at h
        refine h.mono ?_
        intro e w' h2
        unfold Laid at h2
        rw [← HH.out.2.2.2] at h2
        exact h2
      have hlw := HLOW.out
      have hln : (lays L (lord M M.length)).A.length = M.length := by rw [lays_len, HH.out.2.2.2]
      rw [← HH.out.2.2.2] at hlw
      have hT : ¬ tp < (lays L (lord M M.length)).T := Int.not_lt.2 hlw.1
      have hTd : decide (tp < (lays L (lord M M.length)).T) = false := decide_eq_false hT
      have HW := Lib.hid (And.intro hlw.2 hln)
      generalize (lays L (lord M M.length)).A = Z at *
      generalize (lays L (lord M M.length)).T = T at *
      have HLY := Lib.hid hly
      have HQ := Lib.hid hq
      clear hly hO hol hia hq hlw hln
      go_upto_region 13 with (go_at_call 28; refine HLY.out.mono ?_; rintro e w3 ⟨ga, rfl, hr, hg, hb3⟩; have H3 := Lib.hid (And.intro hr (And.intro hg (HQ.out.below.trans (hb3.mono HQ.out.below.size)))); clear hr hg hb3)
      clear hT hTd
      go_wp2_with (fail)
      go_loopw [13] (fun ii wr => ∃ i : Nat, i ≤ M.length ∧ ii = .int .i64 i ∧ Below w3.heap.size w3 wr) (fun ii _ => M.length - (intOf ii).toNat)
      case atStart => exact ⟨0, Nat.zero_le _, rfl, Below.refl _ _⟩
      case round =>
        obtain ⟨i, hi, rfl, hb⟩ := hrel
        by_cases hlt : i < M.length
        · have hz := (H3.out.1.at (by rw [HW.out.2]; unfold maxLen; omega)).below hb (Nat.le_refl _)
          obtain ⟨g2, o2, eg', hgz, yz⟩ := hz.at (j := i) (by rw [HW.out.2]; exact hlt)
          injection eg' with eg'; injection eg' with eg1 eg2 _
          subst eg1; subst eg2
          rw [Nat.zero_add] at yz
          obtain ⟨gm, om, rfl, hgm, ym⟩ := (HH.out.2.1.below (H3.out.2.2.trans (hb.mono H3.out.2.2.size)) (Nat.le_refl _)).at (j := i) hlt
          have hle := HW.out.1 i hlt
          generalize addr M i = vi at *
          generalize addr Z i = vz at *
          have hn : ¬ vi < vz := Int.not_lt.2 hle
          have hnd : decide (vi < vz) = false := decide_eq_false hn
          have eiM : (i : Int) < (M.length : Int) := by omega
          have HB := Lib.hid hb
          clear hle hb
          go_upto_region 15 with (fail)
          go_quiet (fail)
          go_wp2
          go_roundw
          case rel => exact ⟨i + 1, by omega, by go_num, below_drewN HB.out _⟩
          case measure => simp [intOf]; omega
        · obtain rfl : i = M.length := by omega
          go_wp2
          go_ret
          exact ⟨rfl, H3.out.2.2.trans (hb.mono H3.out.2.2.size)⟩
end Of
end Go.Proofs.Ytjgakcpjphdicaa
