/- PolicyBest: the walk. -/
import Derived.Test.YtnkkhbmbbkmfhaaJS3
import Derived.Test.YtnkkhbmbbkmfhaaJL4
import Derived.Test.YtnkkhbmbbkmfhaaJP18
namespace Go.Proofs.Ytnkkhbmbbkmfhaa
open Go.RowKit Go.Sort Go.Lib
namespace Py

def mineL (F : List Bool) (k : Nat) : List Nat := (List.range k).filter fun i => F.getD i false
theorem mineL_succ (F : List Bool) (k : Nat) : mineL F (k + 1) = if F.getD k false = true then mineL F k ++ [k] else mineL F k := by
  unfold mineL
  rw [List.range_succ, List.filter_append, List.filter_cons]
  split <;> simp_all
theorem mineL_lt (F : List Bool) (k : Nat) : ∀ i, i ∈ mineL F k → i < k := fun i hi => List.mem_range.1 (List.mem_filter.1 hi).1
theorem mineL_len (F : List Bool) (k : Nat) : (mineL F k).length ≤ k := by
  unfold mineL
  have := List.length_filter_le (fun i => F.getD i false) (List.range k)
  rwa [List.length_range] at this
theorem right_any {w : World} {A : Option Addr} {c : Nat} {K : List Nat} {n : Nat} (hK : IAt w A c (zs K)) (ha : Asc K) (hb : ∀ k, k ∈ K → k < n) :
    Calls Try.prog 31 #[.slice A K.length c, .int .i64 (n : Int)] w fun e w' => e = .returned (.bool true) ∧ Below w.heap.size w w' :=
  (right_ok w A c K n hK ha hb).mono fun e w' ⟨h1, q, h2⟩ => ⟨h1, by rw [h2]; exact below_drewN (Below.refl _ _) q⟩
theorem leastL_asc (h w : Int) (G : List PU) (k : Nat) : Asc (leastL h w G k) := List.Pairwise.filter _ List.pairwise_lt_range
set_option maxRecDepth 100000 in
set_option maxHeartbeats 8000000 in
theorem best_walk (W : World) (A : Option Addr) (c : Nat) (L : List PU) (hL : UAt W A c L) (h w pk pa pm : Int) (B : Option Addr) (cb : Nat) (F : List Bool) (hF : EAt ebl 1 W B cb F) : Calls Try.prog 10 #[.slice A L.length c, cbx h w, .agg #[.int .i64 pk, .int .i64 pa, .int .i64 pm, .slice B F.length cb]] W fun e w' => e = .returned (.bool true) ∧ Below W.heap.size W w' := by
  obtain ⟨k1, k2⟩ := two_boxes W #[.int .i64 h, .int .i64 w] #[.int .i64 pk, .int .i64 pa, .int .i64 pm, .slice B F.length cb] 24 59
  have hb2 : Below W.heap.size W ((W.alloc (.cells #[.int .i64 h, .int .i64 w] 24)).alloc (.cells #[.int .i64 pk, .int .i64 pa, .int .i64 pm, .slice B F.length cb] 59)) := (below_box W _).alloc (by simp) _
  have hD := fun V (hV : Below W.heap.size W V) => (checkR_ok A c L V (hL.below hV (Nat.le_refl _))).mono fun e w' h => checkR_any h
  have hcc := fun V => costR_ok h w V
  have hcm := hL.2.1
  have hfm := hF.2.1
  unfold maxLen at hcm hfm
  have hlc := hL.1
  have hfc := hF.1
  have HX := Lib.hid (And.intro hb2 (And.intro k1 k2))
  have HFA := Lib.hid (fun V => far_ok V A c L.length 60)
  have HD := Lib.hid hD
  have HCC := Lib.hid hcc
  have HL := Lib.hid (And.intro hL hF)
  clear hb2 k1 k2 hL hF hD hcc
  obtain ⟨n, hn⟩ : ∃ n, n = L.length := ⟨_, rfl⟩
  obtain ⟨fl, hfl⟩ : ∃ n, n = F.length := ⟨_, rfl⟩
  rw [← hn] at HFA HD hlc ⊢
  rw [← hfl] at HX hfc ⊢
  have HN := Lib.hid (And.intro hn hfl)
  clear hn hfl
  go_enter Try.func10, Try.ntmps10
  go_upto_region 1 with (fail)
  generalize hV : (W.alloc (.cells #[.int .i64 h, .int .i64 w] 24)).alloc (.cells #[.int .i64 pk, .int .i64 pa, .int .i64 pm, .slice B fl cb] 59) = V at *
  have c0 : V.cell? ⟨W.heap.size, 0, none⟩ = some (.int .i64 h) := by rw [cell_of_row _ _ _ _ _ _ HX.out.2.1]; rfl
  have c1 : V.cell? ⟨W.heap.size, 1, none⟩ = some (.int .i64 w) := by rw [cell_of_row _ _ _ _ _ _ HX.out.2.1]; rfl
  have o0 : V.cell? ⟨W.heap.size + 1, 0, none⟩ = some (.int .i64 pk) := by rw [cell_of_row _ _ _ _ _ _ HX.out.2.2]; rfl
  have o1 : V.cell? ⟨W.heap.size + 1, 1, none⟩ = some (.int .i64 pa) := by rw [cell_of_row _ _ _ _ _ _ HX.out.2.2]; rfl
  have o2 : V.cell? ⟨W.heap.size + 1, 2, none⟩ = some (.int .i64 pm) := by rw [cell_of_row _ _ _ _ _ _ HX.out.2.2]; rfl
  have o3 : V.cell? ⟨W.heap.size + 1, 3, none⟩ = some (.slice B fl cb) := by rw [cell_of_row _ _ _ _ _ _ HX.out.2.2]; rfl
  clear hV
  have H1 := Lib.hid HX.out.1
  generalize hzv : checkV L = z at *
  generalize hz2v : costV h w = z2 at *
  have HZ := Lib.hid (And.intro hzv hz2v)
  clear hzv hz2v
  obtain ⟨bv, hbv⟩ : ∃ bv : Bool, bv = (farB n 60 || (z != 0) || (z2 != 0) || decide (200 < (fl : Int))) := ⟨_, rfl⟩
  have HBV := Lib.hid hbv
  go_cut [36] from 19 to 35 (fun b wx => b = .bool bv ∧ Below V.heap.size V wx)
  case first =>
    cases hf : farB n 60 with
    | true =>
      rw [hf] at HFA hbv
      clear hf
      go_wp2_with (go_at_call 11; refine (HFA.out _).mono ?_; rintro e w1 ⟨rfl, hw⟩; have hw := hw.symm; subst hw)
      go_meet
      exact ⟨by rw [hbv]; rfl, Below.refl _ _⟩
    | false =>
      rw [hf] at HFA hbv
      clear hf
      cases hz : (z != 0) with
      | true =>
        rw [hz] at hbv
        go_wp2_with (first | (go_at_call 11; refine (HFA.out _).mono ?_; rintro e w1 ⟨rfl, hw⟩; have hw := hw.symm; subst hw) | (go_at_call 16; refine (HD.out _ H1.out).mono ?_; rintro e w2 ⟨rfl, hb⟩; have H2 := Lib.hid hb; clear hb))
        go_meet
        exact ⟨by rw [hbv]; rfl, H2.out⟩
      | false =>
        rw [hz] at hbv
        cases hz2 : (z2 != 0) with
        | true =>
          rw [hz2] at hbv
          go_wp2_with (first | (go_at_call 11; refine (HFA.out _).mono ?_; rintro e w1 ⟨rfl, hw⟩; have hw := hw.symm; subst hw) | (go_at_call 16; refine (HD.out _ H1.out).mono ?_; rintro e w2 ⟨rfl, hb⟩; replace c0 := cell_keep2 hb c0; replace c1 := cell_keep2 hb c1; have H2 := Lib.hid hb; clear hb) | (go_at_call 17; refine (HCC.out _).mono ?_; rintro e w3 ⟨rfl, hb⟩; have H3 := Lib.hid (H2.out.trans (hb.mono H2.out.size)); clear hb))
          go_meet
          exact ⟨by rw [hbv]; rfl, H3.out⟩
        | false =>
          rw [hz2] at hbv
          have HB2 := Lib.hid (show bv = decide (200 < (fl : Int)) by rw [hbv]; rfl)
          clear hbv
          go_wp2_with (first | (go_at_call 11; refine (HFA.out _).mono ?_; rintro e w1 ⟨rfl, hw⟩; have hw := hw.symm; subst hw) | (go_at_call 16; refine (HD.out _ H1.out).mono ?_; rintro e w2 ⟨rfl, hb⟩; replace c0 := cell_keep2 hb c0; replace c1 := cell_keep2 hb c1; replace o3 := cell_keep2 hb o3; have H2 := Lib.hid hb; clear hb) | (go_at_call 17; refine (HCC.out _).mono ?_; rintro e w3 ⟨rfl, hb⟩; replace o3 := cell_keep2 hb o3; have H3 := Lib.hid (H2.out.trans (hb.mono H2.out.size)); clear hb))
          go_meet
          exact ⟨by rw [HB2.out], H3.out⟩
  case rest =>
  obtain ⟨rfl, hbc⟩ := hcut
  obtain ⟨V2, hV2⟩ : ∃ V2, V2 = wc := ⟨_, rfl⟩
  subst hV2
  replace c0 := cell_keep2 hbc c0
  replace c1 := cell_keep2 hbc c1
  replace o0 := cell_keep2 hbc o0
  replace o1 := cell_keep2 hbc o1
  replace o2 := cell_keep2 hbc o2
  replace o3 := cell_keep2 hbc o3
  replace H1 := Lib.hid (H1.out.trans (hbc.mono H1.out.size))
  clear hbc hbv
  cases bv with
  | true =>
    go_wp2_with (go_at_call 12; refine (awake_ok _).mono ?_; rintro e w3 ⟨rfl, hb⟩; have HZ := Lib.hid hb; clear hb)
    go_ret
    exact ⟨rfl, H1.out.trans (HZ.out.mono H1.out.size)⟩
  | false =>
    have hall := HBV.out.symm
    simp only [Bool.or_eq_false_iff, bne_eq_false_iff_eq, decide_eq_false_iff_not] at hall
    obtain ⟨⟨⟨_, hz⟩, hz2⟩, hf2⟩ := hall
    have hfl2 : fl ≤ 200 := by omega
    have hask : askV L h w = 0 := by unfold askV; rw [if_pos (HZ.out.1.trans hz)]; exact HZ.out.2.trans hz2
    obtain ⟨hokL, hokC⟩ := ask_ok.1 hask
    have hgl : (gapsV L).length ≤ n := by rw [HN.out.1]; have := firsts_gaps L; omega
    have hn2 : n ≤ 200 := by rw [HN.out.1]; exact hokL.len
    have hGa := fun V (hV : Below W.heap.size W V) => (Gaps_ok A c L V (HL.out.1.below hV (Nat.le_refl _))).mono fun e w' hh => (And.intro (hh.2.1 ((checkV_ok L).2 hokL)) hh.2.2 : (∃ A' c', e = Ending.returned (.tuple #[.slice A' (gapsV L).length c', .int .i64 0]) ∧ EAt eu 3 w' A' c' (gapsV L)) ∧ Below V.heap.size V w')
    have hLe := fun V (hV : Below W.heap.size W V) => (Least_ok A c L h w V (HL.out.1.below hV (Nat.le_refl _))).mono fun e w' hh => (And.intro (hh.2.1 hask) hh.2.2 : (∃ A' c', e = Ending.returned (.tuple #[.slice A' (leastL h w (gapsV L) (gapsV L).length).length c', .int .i64 (leastV L h w), .int .i64 0]) ∧ IAt w' A' c' (zs (leastL h w (gapsV L) (gapsV L).length))) ∧ Below V.heap.size V w')
    have hKe := fun V (B' : Option Addr) (d' : Nat) (K : List Nat) (hV : Below W.heap.size W V) (hK : IAt V B' d' (zs K)) => keptR_ok A c L h w B' d' K V (HL.out.1.below hV (Nat.le_refl _)) hK hokL hokC
    have hCo := fun k a m V (hV : Below W.heap.size W V) => Cost_ok A c L h w k a m V (HL.out.1.below hV (Nat.le_refl _))
    have hLi := fun nn V (hV : Below W.heap.size W V) => Limited_ok A c L h w nn V (HL.out.1.below hV (Nat.le_refl _))
    rw [← HN.out.1] at hGa hLe hKe hCo hLi
    rw [hask] at hCo hLi
    have hka := leastL_asc h w (gapsV L) (gapsV L).length
    have hkl : ∀ k, k ∈ leastL h w (gapsV L) (gapsV L).length → k < (gapsV L).length := fun k hk => (mem_leastL.1 hk).1
    have hkv := least_kept L h w
    have hkm := fun K => kept_least L h w K
    have hcx : ∀ k a m : Int, (costX L h w k a m 0).2 = 0 → leastV L h w ≤ (costX L h w k a m 0).1 := fun k a m e => by
      unfold costX at *
      rw [if_neg (by omega)] at *
      split at e
      · next hp => rw [if_pos hp]; exact cost_least hokL hokC hp
      · cases e
    have hll := fun m => lim_laws hokL hokC m
    have hbl := fun m => best_laws hokL hokC m
    have HGA := Lib.hid hGa
    have HLE := Lib.hid hLe
    have HKE := Lib.hid hKe
    have HCO := Lib.hid hCo
    have HLI := Lib.hid hLi
    have HLAW := Lib.hid (And.intro hka (And.intro hkl (And.intro hkv (And.intro hkm (And.intro hcx (And.intro hll hbl))))))
    clear hz hz2 hf2 hask hokL hokC hGa hLe hKe hCo hLi hka hkl hkv hkm hcx hll hbl
    generalize gapsV L = G at *
    generalize leastV L h w = lv at *
    generalize leastL h w G G.length = K at *
    go_upto_region 4 with (go_at_call 19; refine (HGA.out _ H1.out).mono ?_; rintro e w2 ⟨⟨A2, d2, rfl, g2⟩, hb2⟩)
    replace c0 := cell_keep2 hb2 c0
    replace c1 := cell_keep2 hb2 c1
    replace o0 := cell_keep2 hb2 o0
    replace o1 := cell_keep2 hb2 o1
    replace o2 := cell_keep2 hb2 o2
    replace o3 := cell_keep2 hb2 o3
    have H2 := Lib.hid (H1.out.trans (hb2.mono H1.out.size))
    have q2 := g2.1
    have s2 := g2.2.1
    unfold maxLen at s2
    have R2 := Lib.hid (uat_e.2 g2)
    clear hb2 g2
    go_upto_region 5 with (go_at_call 15; refine (HLE.out _ H2.out).mono ?_; rintro e w3 ⟨⟨A3, d3, rfl, g3⟩, hb3⟩)
    replace c0 := cell_keep2 hb3 c0
    replace c1 := cell_keep2 hb3 c1
    replace o0 := cell_keep2 hb3 o0
    replace o1 := cell_keep2 hb3 o1
    replace o2 := cell_keep2 hb3 o2
    replace o3 := cell_keep2 hb3 o3
    have H3 := Lib.hid (H2.out.trans (hb3.mono H2.out.size))
    obtain ⟨q3, s3⟩ := iat_len g3
    have R3 := Lib.hid (And.intro (R2.out.below hb3 (Nat.le_refl _)) g3)
    clear hb3 g3
    have hri := right_any (w := w3) R3.out.2 HLAW.out.1 HLAW.out.2.1
    have HRI := Lib.hid hri
    clear hri
    have hlvv : (lv != lv) = false := by simp
    have hgn : ¬ ((G.length : Int) > (n : Int)) := by omega
    go_upto_region 7 with (first | (go_at_call 31; refine HRI.out.mono ?_; rintro e w4 ⟨rfl, hb4⟩; have R4 := Lib.hid (And.intro (R3.out.1.below hb4 (Nat.le_refl _)) (R3.out.2.below hb4 (Nat.le_refl _))); replace c0 := cell_keep2 hb4 c0; replace c1 := cell_keep2 hb4 c1; replace o0 := cell_keep2 hb4 o0; replace o1 := cell_keep2 hb4 o1; replace o2 := cell_keep2 hb4 o2; replace o3 := cell_keep2 hb4 o3; have H4 := Lib.hid (H3.out.trans (hb4.mono H3.out.size)); have hke4 := HKE.out _ _ _ K H4.out R4.out.2; rw [HLAW.out.2.2.1] at hke4; have HK4 := Lib.hid hke4; clear hb4 hke4) | (go_at_call 32; refine HK4.out.mono ?_; rintro e w5 ⟨rfl, hb5⟩))
    replace c0 := cell_keep2 hb5 c0
    replace c1 := cell_keep2 hb5 c1
    replace o0 := cell_keep2 hb5 o0
    replace o1 := cell_keep2 hb5 o1
    replace o2 := cell_keep2 hb5 o2
    replace o3 := cell_keep2 hb5 o3
    have H5 := Lib.hid (H4.out.trans (hb5.mono H4.out.size))
    have R5 := Lib.hid (R4.out.1.below hb5 (Nat.le_refl _))
    clear hb5
    have hco := HCO.out pk pa pm w5 H5.out
    have hcx := HLAW.out.2.2.2.2.1 pk pa pm
    generalize (costX L h w pk pa pm 0).1 = xn at *
    generalize (costX L h w pk pa pm 0).2 = xe at *
    have HC5 := Lib.hid hco
    clear hco
    go_upto_region 8 with (go_at_call 13; refine HC5.out.mono ?_; rintro e w6 ⟨rfl, hb6⟩)
    replace c0 := cell_keep2 hb6 c0
    replace c1 := cell_keep2 hb6 c1
    replace o0 := cell_keep2 hb6 o0
    replace o1 := cell_keep2 hb6 o1
    replace o2 := cell_keep2 hb6 o2
    replace o3 := cell_keep2 hb6 o3
    have H6 := Lib.hid (H5.out.trans (hb6.mono H5.out.size))
    have R6 := Lib.hid (R5.out.below hb6 (Nat.le_refl _))
    clear hb6 hgn hlvv
    go_cut [92] from 86 to 91 (fun b wx => b = .bool false ∧ wx = w6)
    case first =>
      by_cases hxe : xe = 0
      · have h9 := hcx hxe
        have h8 : ¬ xn < lv := by omega
        clear hcx h9
        subst hxe
        go_wp2_with (fail)
        go_meet
        exact ⟨rfl, rfl⟩
      · have h8 : (xe == 0) = false := by simp [hxe]
        clear hcx hxe
        go_wp2_with (fail)
        go_meet
        exact ⟨rfl, rfl⟩
    case rest =>
    obtain ⟨rfl, hwc⟩ := hcut
    have hwc := hwc.symm
    subst hwc
    clear hcx
    have H0 := Lib.hid (owne_nil (enc := enN) (k := 1) w6 w6.heap.size 3)
    go_upto_region 12 with (fail)
    go_loopw [13, 14] (fun v i wr => ∃ (k : Nat) (D : Option Addr) (e : Nat) (M : List Nat), k ≤ G.length ∧ k ≤ fl ∧ i = .int .i64 k ∧ v = .slice D M.length e ∧ M = mineL F k ∧ M.length ≤ k ∧ OwnE enN 1 wr w6.heap.size 3 D e M ∧ Below w6.heap.size w6 wr) (fun _ i _ => G.length - (intOf i).toNat)
    case atStart => exact ⟨0, none, 0, [], Nat.zero_le _, Nat.zero_le _, rfl, rfl, rfl, Nat.le_refl _, H0.out, Below.refl _ _⟩
    case round =>
      obtain ⟨k, D, e, M, hk, hkf, rfl, rfl, hM, hMl, hrow, hbw⟩ := hrel
      have hmr := (OwnE.at EN hrow).1
      have hme := hmr.1
      have hmm := hmr.2.1
      unfold maxLen at hmm
      have x0 := cell_keep2 hbw c0
      have x1 := cell_keep2 hbw c1
      have y0 := cell_keep2 hbw o0
      have y1 := cell_keep2 hbw o1
      have y2 := cell_keep2 hbw o2
      have y3 := cell_keep2 hbw o3
      have HW6 := Lib.hid (H6.out.trans (hbw.mono H6.out.size))
      obtain ⟨bg, hbg⟩ : ∃ bg : Bool, bg = (decide (k < G.length) && decide (k < fl)) := ⟨_, rfl⟩
      have HR := Lib.hid (And.intro hM (And.intro hrow (And.intro hbw (And.intro hmr hbg))))
      clear hM hrow hbw hmr
      obtain ⟨V9, hV9⟩ : ∃ V9, V9 = wr := ⟨_, rfl⟩
      subst hV9
      go_upto_region 12 with (fail)
      go_cut [103] from 93 to 102 (fun b wx => b = .bool bg ∧ wx = V9)
      case first =>
        by_cases h1 : k < G.length
        · by_cases h2 : k < fl
          · have hb : bg = true := by rw [hbg]; simp [h1, h2]
            have HB := Lib.hid hb
            clear hbg hb
            go_wp2_with (fail)
            go_meet
            exact ⟨by rw [HB.out], rfl⟩
          · have hb : bg = false := by rw [hbg]; simp [h2]
            have HB := Lib.hid hb
            clear hbg hb
            go_wp2_with (fail)
            go_meet
            exact ⟨by rw [HB.out], rfl⟩
        · have hb : bg = false := by rw [hbg]; simp [h1]
          have HB := Lib.hid hb
          clear hbg hb
          go_wp2_with (fail)
          go_meet
          exact ⟨by rw [HB.out], rfl⟩
      case rest =>
      obtain ⟨rfl, hwc⟩ := hcut
      have hwc := hwc.symm
      subst hwc
      clear hbg
      cases bg with
      | true =>
        have hb := HR.out.2.2.2.2
        simp only [Bool.true_eq, Bool.and_eq_true, decide_eq_true_eq] at hb
        obtain ⟨h1, h2⟩ := hb
        have hFw := HL.out.2.below HW6.out (Nat.le_refl _)
        obtain ⟨b, hb⟩ : ∃ b, F[k]? = some b := ⟨_, List.getElem?_eq_getElem (by rw [← HN.out.2]; exact h2)⟩
        obtain ⟨gf, of, rfl, hgf, f0⟩ := hFw.b1 hb
        have hbd : F.getD k false = b := by rw [List.getD_eq_getElem?_getD, hb]; rfl
        have hms := mineL_succ F k
        rw [hbd, ← HR.out.1] at hms
        have HMS := Lib.hid hms
        have h2i : (k : Int) < (fl : Int) := by omega
        clear hFw hb hbd hms
        cases b with
        | true =>
          have hn := HMS.out.trans (if_pos rfl)
          have HN2 := Lib.hid hn
          clear hn
          go_wp2_with (at_builtin; refine wpList_e EN Try.underlying33 int_info (by decide) ?_ (.tmp 111) (.tmp 113) ?_ w6.heap.size D e M ?_ (HR.out.2.1.alloc _) (some ⟨V9.heap.size, 0, none⟩) 1 [k] ?_ (oneN _ _ k) (fun h => by cases h) ?_ ?_ ?_; (exact rfl); (exact rfl); (exact rfl); (exact rfl); (simp; omega); (simp; have := HR.out.2.2.1.size; omega); intro A8 c8 w8 h8 b8 _ _; obtain ⟨U, hU⟩ : ∃ U, U = M ++ [k] := ⟨_, rfl⟩; rw [← hU] at h8 ⊢; have H8 := Lib.hid (And.intro h8 (And.intro b8 hU)); clear h8 b8 hU)
          go_roundw
          case rel => exact ⟨k + 1, A8, c8, U, by omega, by omega, by go_num, rfl, by rw [HN2.out, H8.out.2.2], by rw [H8.out.2.2]; simp; omega, H8.out.1, (HR.out.2.2.1.alloc HR.out.2.2.1.size _).trans H8.out.2.1⟩
          case measure => simp [intOf]; omega
        | false =>
          have hn := HMS.out.trans (if_neg (by simp))
          have HN2 := Lib.hid hn
          clear hn
          go_wp2_with (fail)
          go_roundw
          case rel => exact ⟨k + 1, D, e, M, by omega, by omega, by go_num, rfl, HN2.out.symm, by omega, HR.out.2.1, HR.out.2.2.1⟩
          case measure => simp [intOf]; omega
      | false =>
        have hMb : ∀ x, x ∈ M → x < G.length := fun x hx => by
          rw [HR.out.1] at hx
          have := mineL_lt F k x hx
          omega
        have R9 := Lib.hid (And.intro (R6.out.below HR.out.2.2.1 (Nat.le_refl _)) (And.intro (iat_N.2 HR.out.2.2.2.1) hMb))
        clear hMb
        have hkm := HLAW.out.2.2.2.1 M
        have hke := HKE.out V9 D e M HW6.out R9.out.2.1
        have hl5 := fun m => (HLAW.out.2.2.2.2.2.1 m).2.2.2.2 M
        generalize hcmv : keptV L h w M = cm at *
        have HK9 := Lib.hid (And.intro hke hl5)
        have hcmn : ¬ cm < lv := by omega
        clear hke hl5 hcmv c0 c1 o0 o1 o2 o3
        go_upto_region 17 with (go_at_call 32; refine HK9.out.1.mono ?_; rintro e w10 ⟨rfl, hb10⟩)
        replace x0 := cell_keep2 hb10 x0
        replace x1 := cell_keep2 hb10 x1
        replace y2 := cell_keep2 hb10 y2
        have H10 := Lib.hid (HW6.out.trans (hb10.mono HW6.out.size))
        have R10 := Lib.hid (And.intro (R9.out.1.below hb10 (Nat.le_refl _)) (R9.out.2.1.below hb10 (Nat.le_refl _)))
        clear hb10 y0 y1 y3
        go_upto_region 20 with (fail)
        by_cases hlo : pm < 0
        · go_wp2_with (go_at_call 12; refine (awake_ok _).mono ?_; rintro e w11 ⟨rfl, hb⟩; have HZ := Lib.hid (H10.out.trans (hb.mono H10.out.size)); clear hb)
          go_ret
          exact ⟨rfl, HZ.out⟩
        by_cases hhi : pm > 1024
        · go_wp2_with (go_at_call 12; refine (awake_ok _).mono ?_; rintro e w11 ⟨rfl, hb⟩; have HZ := Lib.hid (H10.out.trans (hb.mono H10.out.size)); clear hb)
          go_ret
          exact ⟨rfl, HZ.out⟩
        obtain ⟨mm, rfl⟩ : ∃ mm : Nat, pm = (mm : Int) := ⟨pm.toNat, by omega⟩
        have hli := HLI.out (mm : Int) w10 H10.out
        rw [show ((mm : Int)).toNat = mm from rfl] at hli
        have hle2 : limE L h w (mm : Int) 0 = 0 ∨ limE L h w (mm : Int) 0 = 3 := by
          unfold limE
          rw [if_neg (by omega), if_neg (by omega)]
          split
          · exact .inr rfl
          · exact .inl rfl
        have hcm4 : costX L h w 4 0 (mm : Int) 0 = (mostV L (stepsV L) h w mm, 0) := by
          unfold costX
          rw [if_neg (by omega), if_pos (by unfold polB; simp; omega)]
          rfl
        have hco := fun V hV => HCO.out 4 0 (mm : Int) V hV
        rw [hcm4] at hco
        obtain ⟨l1, l2, l3, l4, -⟩ := HLAW.out.2.2.2.2.2.1 mm
        have l5 := HK9.out.2 mm
        obtain ⟨b1, b2, b3⟩ := HLAW.out.2.2.2.2.2.2 mm
        rw [← HN.out.1] at b3
        generalize (limV L h w mm).1 = lm at *
        generalize (limV L h w mm).2 = K2 at *
        generalize mostV L (stepsV L) h w mm = mv at *
        generalize limE L h w (mm : Int) 0 = le at *
        have HLI2 := Lib.hid hli
        have HCO2 := Lib.hid hco
        have HK2 := Lib.hid (And.intro l1 (And.intro l2 (And.intro l3 (And.intro l4 (And.intro l5 b3)))))
        have hmm2 : mm ≤ 1024 := by omega
        clear hli hco hcm4 l1 l2 l3 l4 l5 b3 hlo hhi
        rcases hle2 with rfl | rfl
        · go_upto_region 23 with (go_at_call 29; refine HLI2.out.mono ?_; rintro e w11 ⟨-, hg11, hb11⟩; obtain ⟨A11, d11, rfl, i11⟩ := hg11 rfl)
          replace x0 := cell_keep2 hb11 x0
          replace x1 := cell_keep2 hb11 x1
          have H11 := Lib.hid (H10.out.trans (hb11.mono H10.out.size))
          obtain ⟨q11, s11⟩ := iat_len i11
          have R11 := Lib.hid (And.intro (R10.out.1.below hb11 (Nat.le_refl _)) (And.intro (R10.out.2.below hb11 (Nat.le_refl _)) i11))
          clear hb11 i11 hg11 y2
          go_upto_region 26 with (go_at_call 13; refine (HCO2.out _ H11.out).mono ?_; rintro e w12 ⟨rfl, hb12⟩)
          replace x0 := cell_keep2 hb12 x0
          replace x1 := cell_keep2 hb12 x1
          have H12 := Lib.hid (H11.out.trans (hb12.mono H11.out.size))
          have R12 := Lib.hid (And.intro (R11.out.1.below hb12 (Nat.le_refl _)) (And.intro (R11.out.2.1.below hb12 (Nat.le_refl _)) (R11.out.2.2.below hb12 (Nat.le_refl _))))
          clear hb12
          have hK2l : K2.length ≤ 100000 := by
            have := nodup_len (l := K2) (l' := List.range G.length) (asc_nodup HK2.out.2.1) fun x hx => List.mem_range.2 (HK2.out.2.2.1 x hx)
            rw [List.length_range] at this
            omega
          have hri := right_any (w := w12) R12.out.2.2 HK2.out.2.1 HK2.out.2.2.1
          have HRI := Lib.hid hri
          clear hri
          have hlm1 : (lm != lm) = false := by simp
          have hlm2 : ¬ lm < lv := by omega
          have hlm3 : ¬ lm > mv := by omega
          go_upto_region 28 with (first | (go_at_call 31; refine HRI.out.mono ?_; rintro e w13 ⟨rfl, hb13⟩; replace x0 := cell_keep2 hb13 x0; replace x1 := cell_keep2 hb13 x1; have H13 := Lib.hid (H12.out.trans (hb13.mono H12.out.size)); have R13 := Lib.hid (And.intro (R12.out.1.below hb13 (Nat.le_refl _)) (And.intro (R12.out.2.1.below hb13 (Nat.le_refl _)) (R12.out.2.2.below hb13 (Nat.le_refl _)))); have hft := fitR_ok A2 d2 G A11 d11 K2 mm w13 R13.out.1 R13.out.2.2 HK2.out.2.2.1 (by omega) hK2l (by omega); rw [HK2.out.1] at hft; have HFT := Lib.hid hft; have hkk := HKE.out w13 A11 d11 K2 H13.out R13.out.2.2; rw [HK2.out.2.2.2.1] at hkk; have HKK := Lib.hid hkk; clear hb13 hft hkk) | (go_at_call 33; refine HFT.out.mono ?_; rintro e w14 ⟨rfl, hw14⟩; have hw14 := hw14.symm; subst hw14) | (go_at_call 32; refine HKK.out.mono ?_; rintro e w15 ⟨rfl, hb15⟩))
          have H15 := Lib.hid (H13.out.trans (hb15.mono H13.out.size))
          have hfit := fitR_ok A2 d2 G D e M mm w15 (R13.out.1.below hb15 (Nat.le_refl _)) (R13.out.2.1.below hb15 (Nat.le_refl _)) R9.out.2.2 (by omega) (by omega) (by omega)
          have hfl5 := HK2.out.2.2.2.2.1
          have hfin := HK2.out.2.2.2.2.2
          generalize fitV G M mm = fb at *
          have HFIT := Lib.hid hfit
          clear hb15 hfit x0 x1 hlm1 hlm2 hlm3
          have arm : True := trivial
          cases fb with
          | true =>
            have h7 : cm ≥ lm := hfl5 rfl
            clear hfl5
            by_cases hmn : (mm : Int) < (n : Int)
            · clear hfin
              go_wp2_with (first | (go_at_call 33; refine HFIT.out.mono ?_; rintro e w16 ⟨rfl, hw16⟩; have hw16 := hw16.symm; subst hw16) | (go_at_call 12; refine (awake_ok _).mono ?_; rintro e w17 ⟨rfl, hb⟩; have HZ := Lib.hid (H15.out.trans (hb.mono H15.out.size)); clear hb))
              go_ret
              exact ⟨rfl, HZ.out⟩
            · have hle9 : (lm == lv) = true := by simp; exact hfin (by omega)
              clear hfin
              go_wp2_with (first | (go_at_call 33; refine HFIT.out.mono ?_; rintro e w16 ⟨rfl, hw16⟩; have hw16 := hw16.symm; subst hw16) | (go_at_call 12; refine (awake_ok _).mono ?_; rintro e w17 ⟨rfl, hb⟩; have HZ := Lib.hid (H15.out.trans (hb.mono H15.out.size)); clear hb))
              go_ret
              exact ⟨rfl, HZ.out⟩
          | false =>
            clear hfl5
            by_cases hmn : (mm : Int) < (n : Int)
            · clear hfin
              go_wp2_with (first | (go_at_call 33; refine HFIT.out.mono ?_; rintro e w16 ⟨rfl, hw16⟩; have hw16 := hw16.symm; subst hw16) | (go_at_call 12; refine (awake_ok _).mono ?_; rintro e w17 ⟨rfl, hb⟩; have HZ := Lib.hid (H15.out.trans (hb.mono H15.out.size)); clear hb))
              go_ret
              exact ⟨rfl, HZ.out⟩
            · have hle9 : (lm == lv) = true := by simp; exact hfin (by omega)
              clear hfin
              go_wp2_with (first | (go_at_call 33; refine HFIT.out.mono ?_; rintro e w16 ⟨rfl, hw16⟩; have hw16 := hw16.symm; subst hw16) | (go_at_call 12; refine (awake_ok _).mono ?_; rintro e w17 ⟨rfl, hb⟩; have HZ := Lib.hid (H15.out.trans (hb.mono H15.out.size)); clear hb))
              go_ret
              exact ⟨rfl, HZ.out⟩
        · go_wp2_with (first | (go_at_call 29; refine HLI2.out.mono ?_; rintro e w11 ⟨hg11, -, hb11⟩; obtain rfl := hg11 (by omega); have H11 := Lib.hid (H10.out.trans (hb11.mono H10.out.size)); clear hb11 hg11) | (go_at_call 12; refine (awake_ok _).mono ?_; rintro e w12 ⟨rfl, hb⟩; have HZ := Lib.hid (H11.out.trans (hb.mono H11.out.size)); clear hb))
          go_ret
          exact ⟨rfl, HZ.out⟩
end Py
end Go.Proofs.Ytnkkhbmbbkmfhaa
