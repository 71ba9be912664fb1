/- The specification: gaps, Gaps. -/
import Derived.Test.YtnkkhbmbbkmfhaaJM2
import Derived.Test.YtnkkhbmbbkmfhaaJR2
import Derived.Deep.CutBlock
namespace Go.Proofs.Ytnkkhbmbbkmfhaa
open Go.RowKit
namespace Py

theorem next_le {L : List PU} {i : Nat} (hi : i < L.length) : refRaw (L.drop i) = (match nextOf (use L i).p (L.drop (i + 1)) with | some v => [⟨(use L i).p, (use L i).t, v.f⟩] | none => []) ++ refRaw (L.drop (i + 1)) := by
  rw [drop_next (use_get hi)]; rfl
theorem insG_len (out : List PU) (g : PU) : (insG out g).length = out.length + 1 := (insG_perm out g).length_eq
/-- What the loop over the uses has. -/
structure GS (w wr : World) (L : List PU) (k : Nat) (A : Option Addr) (c : Nat) (out : List PU) : Prop where
  row : OwnE eu 3 wr w.heap.size 66 A c out
  len : out.length ≤ k
  rest : (refRaw (L.drop k)).foldl insG out = gapsV L
  below : Below w.heap.size w wr
theorem GS.none {w wr : World} {L : List PU} {k : Nat} {A : Option Addr} {c : Nat} {out : List PU} (h : GS w wr L k A c out) (hk : k < L.length) (hn : nextOf (use L k).p (L.drop (k + 1)) = none) (q : Nat) : GS w (wr.drewN q) L (k + 1) A c out := by
  have hr := h.rest
  rw [next_le hk, hn] at hr
  have hl := h.len
  exact ⟨h.row, by omega, hr, below_drewN h.below q⟩
theorem use_bd {L : List PU} (h : OkL L) {i : Nat} (hi : i < L.length) : 0 ≤ (use L i).p ∧ (use L i).p < 1024 ∧ 0 ≤ (use L i).f ∧ (use L i).f < (use L i).t ∧ (use L i).t ≤ 1000000000 := by
  have := h.use hi
  exact ⟨this.p0, this.p1, this.f0, this.ft, this.t1⟩

attribute [local irreducible] wpQuiet
set_option maxRecDepth 100000 in
set_option maxHeartbeats 4000000 in
theorem gapsR_ok (A : Option Addr) (c : Nat) (L : List PU) (w : World) (h : UAt w A c L) (hL : L.length ≤ 200) :
    Calls Try.prog 49 #[.slice A L.length c] w fun e w' => ∃ A' c', e = .returned (.slice A' (gapsV L).length c') ∧ OwnE eu 3 w' w.heap.size 66 A' c' (gapsV L) ∧ Below w.heap.size w w' := by
  have hcap := h.2.1
  have hlc := h.1
  unfold maxLen at hcap
  have HX := Lib.hid h
  clear h
  have H0 := Lib.hid (⟨owne_nil w _ _, Nat.le_refl _, rfl, Below.refl _ _⟩ : GS w w L 0 none 0 [])
  go_enter Try.func49, Try.ntmps49
  go_wp2_with (fail)
  go_loopw [3, 4] (fun v i wr => ∃ (k : Nat) (A : Option Addr) (c : Nat) (out : List PU), k ≤ L.length ∧ i = .int .i64 k ∧ v = .slice A out.length c ∧ GS w wr L k A c out) (fun _ i _ => L.length - (intOf i).toNat)
  case atStart => exact ⟨0, none, 0, [], Nat.zero_le _, rfl, rfl, H0.out⟩
  case round =>
    obtain ⟨k, B, d, out, hk, rfl, rfl, hs⟩ := hrel
    by_cases hlt : k < L.length
    · have hX := HX.out.below hs.below (Nat.le_refl _)
      have hN := nextR_ok A c L k hlt wr hX
      rcases nextI_spec L k with ⟨n1, n2⟩ | ⟨m, n1, n2, n3, n4⟩
      · rw [n2] at hN
        have HN := Lib.hid hN
        have HS := Lib.hid (fun q => hs.none hlt n1 q)
        clear hN hX hs n1 n2
        go_wp2_with (go_at_call 63; refine HN.out.mono ?_; rintro e w1 ⟨rfl, q, rfl⟩)
        go_roundw
        case rel => exact ⟨k + 1, B, d, out, by omega, by go_num, rfl, HS.out q⟩
        case measure => simp [intOf]; omega
      · rw [n4] at hN
        have hol := hs.len
        have hlow := hs.row.1
        have HN := Lib.hid hN
        have HS := Lib.hid hs
        have HM := Lib.hid n1
        clear hN hs n1 n4 hlow
        obtain ⟨g, o, rfl, hg, c0, c1, c2⟩ := hX.at hlt
        obtain ⟨g', o', hgo, _, y0, y1, y2⟩ := hX.at n3
        injection hgo with hgo; injection hgo with hg1 hg2 _
        subst hg1; subst hg2
        clear hX c1 y0 y2
        generalize hgp : (use L k).p = gp at *
        generalize hgf : (use L k).t = gf at *
        generalize hgt : (use L m).f = gt at *
        have HG := Lib.hid (And.intro hgp (And.intro hgf hgt))
        clear hgp hgf hgt
        go_upto_region 7 with (go_at_call 63; refine HN.out.mono ?_; rintro e w1 ⟨rfl, q, rfl⟩)
        obtain ⟨V, hV⟩ : ∃ V, V = wr.drewN q := ⟨_, rfl⟩
        rw [← hV]
        have hVs : V.heap.size = wr.heap.size := by rw [hV]; rfl
        have c0 : V.cell? ⟨g, o + k * 3, none⟩ = some (.int .i64 gp) := by rw [hV]; exact c0
        have c2 : V.cell? ⟨g, o + k * 3 + 2, none⟩ = some (.int .i64 gf) := by rw [hV]; exact c2
        have y1 : V.cell? ⟨g, o + m * 3 + 1, none⟩ = some (.int .i64 gt) := by rw [hV]; exact y1
        have hg : g < V.heap.size := by rw [hVs]; exact hg
        have hsV : GS w V L k B d out := ⟨by rw [hV]; exact HS.out.row, HS.out.len, HS.out.rest, by rw [hV]; exact below_drewN HS.out.below q⟩
        have HS := Lib.hid hsV
        clear hV hVs hsV
        go_cut [6] from 20 to 35 (fun v wx => ∃ b, v = .pointer (some ⟨b, 0, none⟩) ∧ wx.heap[b]? = some (.cells #[.int .i64 gp, .int .i64 gf, .int .i64 gt] 66 (0, 0)) ∧ V.heap.size ≤ b ∧ Below V.heap.size V wx)
        case first =>
          go_region
          all_goals
            go_wp2_with (fail)
            go_meet
            exact ⟨_, rfl, by show (V.alloc _).heap[V.heap.size]? = _; rw [heapAlloc, if_pos rfl], Nat.le_refl _, below_drew (below_box _ _)⟩
        case rest =>
          obtain ⟨b, rfl, hb0, hbs, hbV⟩ := hcut
          obtain ⟨V1, hV1⟩ : ∃ V1, V1 = wc := ⟨_, rfl⟩
          subst hV1
          obtain ⟨g, hgg⟩ : ∃ g : PU, g = ⟨gp, gf, gt⟩ := ⟨_, rfl⟩
          obtain ⟨z0, z1, z2⟩ := three_at hb0
          have hlb := lt_of_heap hb0
          have hrow := row_below HS.out.row hbV
          have hea := (OwnE.at EU hrow).1
          have hua := uat_e.2 hea
          have hca := hea.1
          have hcm := hea.2.1
          unfold maxLen at hcm
          have HH := Lib.hid (And.intro hrow (And.intro hbV (And.intro hua hgg)))
          have hhd : 0 < out.length → ∃ g o, B = some ⟨g, o, none⟩ ∧ g < V1.heap.size := hua.head
          clear c0 c2 y1 hb0 hbs hbV hrow hea hua hg
          go_upto_block 2 with (fail)
          go_cut [7] from 38 to 74 (fun v wx => v = .int .i64 ((atG g out out.length : Nat) : Int) ∧ ∃ q, wx = V1.drewN q)
          case first =>
            go_wp2_with (fail)
            go_loopw [7] (fun i wr => ∃ a : Nat, a ≤ out.length ∧ i = .int .i64 a ∧ atG g out out.length = atG g out a ∧ ∃ q, wr = V1.drewN q) (fun i _ => (intOf i).toNat)
            case atStart => exact ⟨out.length, Nat.le_refl _, rfl, rfl, 0, rfl⟩
            case round =>
              obtain ⟨a, ha, rfl, hat, q, hq⟩ := hrel
              have x0 : wr.cell? ⟨b, 0, none⟩ = some (.int .i64 gp) := by rw [hq]; exact z0
              have x1 : wr.cell? ⟨b, 1, none⟩ = some (.int .i64 gf) := by rw [hq]; exact z1
              have hua := HH.out.2.2.1.drew q
              rw [← hq] at hua
              have HQ := Lib.hid hq
              clear hq z0 z1 z2
              cases a with
              | zero =>
                have HA := Lib.hid hat
                clear hat hua
                go_upto_region 9 with (fail)
                go_quiet (fail)
                go_wp2_with (fail)
                go_meet
                exact ⟨by rw [HA.out]; rfl, _, by rw [HQ.out, drew_drewN]⟩
              | succ a =>
                obtain ⟨g', o', rfl, hgl, e0, e1, e2⟩ := hua.at (j := a) (by omega)
                have hgv : glt g (use out a) = true ↔ gf < (use out a).f ∨ (gf = (use out a).f ∧ gp < (use out a).p) := by rw [glt_iff, HH.out.2.2.2]
                have hst : atG g out (a + 1) = if glt g (use out a) then atG g out a else a + 1 := rfl
                generalize use out a = ub at *
                obtain ⟨bp, bf, bt⟩ := ub
                dsimp only at e0 e1 hgv
                clear e2 hua
                by_cases h1 : gf < bf
                · rw [if_pos (hgv.2 (.inl h1))] at hst
                  have HA := Lib.hid (hat.trans hst)
                  clear hat hst hgv
                  go_upto_region 9 with (fail)
                  go_quiet (fail)
                  go_wp2_with (fail)
                  go_roundw
                  case rel => exact ⟨a, by omega, by go_num, HA.out, _, by rw [HQ.out, drew_drewN]⟩
                  case measure => simp [intOf]
                · by_cases h2 : gf = bf
                  · have hb2 : (gf == bf) = true := by simp [h2]
                    by_cases h3 : gp < bp
                    · rw [if_pos (hgv.2 (.inr ⟨h2, h3⟩))] at hst
                      have HA := Lib.hid (hat.trans hst)
                      clear hat hst hgv h2
                      go_upto_region 9 with (fail)
                      go_quiet (fail)
                      go_wp2_with (fail)
                      go_roundw
                      case rel => exact ⟨a, by omega, by go_num, HA.out, _, by rw [HQ.out, drew_drewN]⟩
                      case measure => simp [intOf]
                    · rw [if_neg (fun e => by rcases hgv.1 e with h | h <;> omega)] at hst
                      have HA := Lib.hid (hat.trans hst)
                      clear hat hst hgv h2
                      go_upto_region 9 with (fail)
                      go_quiet (fail)
                      go_wp2_with (fail)
                      go_meet
                      exact ⟨by rw [HA.out]; rfl, _, by rw [HQ.out, drew_drewN]⟩
                  · have hb2 : (gf == bf) = false := by simp [h2]
                    rw [if_neg (fun e => by rcases hgv.1 e with h | h <;> omega)] at hst
                    have HA := Lib.hid (hat.trans hst)
                    clear hat hst hgv h2
                    go_upto_region 9 with (fail)
                    go_quiet (fail)
                    go_wp2_with (fail)
                    go_meet
                    exact ⟨by rw [HA.out]; rfl, _, by rw [HQ.out, drew_drewN]⟩
          case rest =>
            obtain ⟨rfl, q2, hq2⟩ := hcut
            have hrow : OwnE eu 3 wc w.heap.size 66 B d out := by rw [hq2]; exact HH.out.1
            have hbw : Below w.heap.size w wc := by rw [hq2]; exact below_drewN (HS.out.below.trans (HH.out.2.1.mono HS.out.below.size)) q2
            have z0 : wc.cell? ⟨b, 0, none⟩ = some (.int .i64 gp) := by rw [hq2]; exact z0
            have z1 : wc.cell? ⟨b, 1, none⟩ = some (.int .i64 gf) := by rw [hq2]; exact z1
            have z2 : wc.cell? ⟨b, 2, none⟩ = some (.int .i64 gt) := by rw [hq2]; exact z2
            have hlb : b < wc.heap.size := by rw [hq2]; exact hlb
            have hhd : 0 < out.length → ∃ g o, B = some ⟨g, o, none⟩ ∧ g < wc.heap.size := by rw [hq2]; exact hhd
            have hale := atG_le g out out.length
            have hins : insG out g = out.take (atG g out out.length) ++ g :: out.drop (atG g out out.length) := rfl
            generalize atG g out out.length = a at *
            have hea := (OwnE.at EU hrow).1
            have hb1 : Below wc.heap.size wc (wc.alloc (.cells #[.int .i64 gp, .int .i64 gf, .int .i64 gt] 66)) := below_box _ _
            have own1 : OwnE eu 3 (wc.alloc (.cells #[.int .i64 gp, .int .i64 gf, .int .i64 gt] 66)) wc.heap.size 66 (some ⟨wc.heap.size, 0, none⟩) 1 [g] := owne_one EU wc _ g _ (by rw [HH.out.2.2.2])
            have HF := Lib.hid (And.intro hrow (And.intro hbw (And.intro hins hea)))
            have HB1 := Lib.hid hb1
            have HO1 := Lib.hid own1
            clear hq2 hrow hbw hins hea hb1 own1
            rcases (show B = none ∨ ∃ g o, B = some ⟨g, o, none⟩ from by
              cases B with
              | none => exact .inl rfl
              | some x =>
                rcases HF.out.1.2 with ⟨hv, _⟩ | ⟨g', _, _, hv, _⟩
                · injection hv with hv; cases hv
                · injection hv with hv _ _; exact .inr ⟨g', 0, hv⟩) with rfl | ⟨g', o', rfl⟩
            · have hnl := OwnE.nil HF.out.1 rfl
              have ha0 : a = 0 := by rw [hnl.2] at hale; simpa using hale
              have HNL := Lib.hid hnl
              have hd0 := hnl.1
              have ho0 : out.length = 0 := by rw [hnl.2]; rfl
              subst hd0; subst ha0
              clear hnl
              go_upto_region 11 with (fail)
              go_region_law (first
                | (refine step_e EU Try.underlying42 gap_info (by decide) ?_ (.tmp 76) (.tmp 79) ?_ wc.heap.size (some ⟨wc.heap.size, 0, none⟩) 1 [g] ?_ HO1.out none 0 [] ?_ (eat_nil _) (fun _ => rfl) ?_ ?_ ?_
                   (exact rfl)
                   (exact rfl)
                   (exact rfl)
                   (first | (rw [ho0]; exact rfl) | exact rfl)
                   (first | exact Nat.le_of_ble_eq_true rfl | (simp; omega))
                   (simp)
                   intro A5 c5 w5 h5 b5
                   obtain ⟨R, hR⟩ : ∃ R, R = [g] ++ [] := ⟨_, rfl⟩
                   rw [← hR] at h5 ⊢
                   have H5 := Lib.hid (And.intro h5 (And.intro b5 hR))
                   clear h5 b5 hR))
              all_goals
                have e5 := OwnE.at EU H5.out.1
                have hb5 : Below wc.heap.size wc w5 := (below_drew HB1.out).trans H5.out.2.1
                have htk : EAt eu 3 w5 none 0 (out.take 0) := by rw [List.take_zero]; exact eat_nil _
                have hne5 : A5 = none → c5 = 0 := fun e => (OwnE.nil H5.out.1 e).1
                have htl : (out.take 0).length = 0 := by simp
                have hrl : R.length ≤ 201 := by rw [H5.out.2.2]; simp <;> omega
                have hsz5 := hb5.size
                have HTK := Lib.hid (And.intro htk (And.intro htl (And.intro e5 hrl)))
                have HB5 := Lib.hid hb5
                have HN5 := Lib.hid hne5
                clear htk e5 hb5 hne5 htl hrl
                go_wp2_with (first
                  | (at_builtin; refine wpList_e EU Try.underlying42 gap_info (by decide) ?_ (.tmp 85) (.tmp 86) ?_ w5.heap.size A7 c7 T ?_ H7.out.1 A5 c5 R ?_ H7.out.2.2.1 HN5.out ?_ ?_ ?_
                     (exact rfl)
                     (exact rfl)
                     (exact rfl)
                     (exact rfl)
                     (rw [H7.out.2.2.2, HTK.out.2.1]; have := HTK.out.2.2.2; omega)
                     (exact Nat.le_trans (by simp) H7.out.2.1.size)
                     intro A8 c8 w8 h8 b8 _ _
                     obtain ⟨U, hU⟩ : ∃ U, U = T ++ R := ⟨_, rfl⟩
                     rw [← hU] at h8 ⊢
                     have H8 := Lib.hid (And.intro h8 (And.intro b8 hU))
                     clear h8 b8 hU)
                  | (at_builtin; refine wpList_e EU Try.underlying42 gap_info (by decide) ?_ (.tmp 81) (.tmp 84) ?_ w5.heap.size (some ⟨w5.heap.size, 0, none⟩) 0 [] ?_ (owne_new w5 _) none 0 (out.take 0) ?_ (HTK.out.1.below (below_box _ _) (Nat.le_refl _)) (fun _ => rfl) ?_ ?_ ?_
                     (exact rfl)
                     (exact rfl)
                     (exact rfl)
                     (first | exact rfl | (rw [ho0]; exact rfl))
                     (first | exact Nat.le_of_ble_eq_true rfl | (simp; done))
                     (simp)
                     intro A7 c7 w7 h7 b7 _ _
                     rw [List.nil_append] at h7 ⊢
                     obtain ⟨T, hT⟩ : ∃ T, T = out.take 0 := ⟨_, rfl⟩
                     rw [← hT] at h7 ⊢
                     have H7 := Lib.hid (And.intro h7 (And.intro b7 (And.intro (HTK.out.2.2.1.1.below ((below_box _ _).trans b7) (Nat.le_refl _)) hT)))
                     clear h7 b7 hT))
                have hU : U = insG out g := by rw [H8.out.2.2, H7.out.2.2.2, H5.out.2.2, HF.out.2.2.1, HNL.out.2]; rfl
                have hrs : (refRaw (L.drop (k + 1))).foldl insG U = gapsV L := by
                  have hr := HS.out.rest
                  rw [next_le hlt, HG.out.1, HG.out.2.1, HM.out] at hr
                  rw [hU, HH.out.2.2.2, ← HG.out.2.2]
                  exact hr
                have hbf : Below w.heap.size w w8 := (HF.out.2.1.trans (HB5.out.mono HF.out.2.1.size)).trans (((below_box _ _).trans (H7.out.2.1.trans H8.out.2.1)).mono (Nat.le_trans HF.out.2.1.size HB5.out.size))
                have HFIN := Lib.hid (⟨row_low H8.out.1 (Nat.le_trans HF.out.2.1.size HB5.out.size), by rw [hU, insG_len]; have := HS.out.len; omega, hrs, hbf⟩ : GS w w8 L (k + 1) A8 c8 U)
                clear hU hrs hbf
                go_roundw
                case rel => exact ⟨k + 1, A8, c8, U, by omega, by go_num, rfl, HFIN.out⟩
                case measure => simp [intOf]; omega
            · by_cases had : a < d
              · have hne : ¬ d = a := by omega
                have her := Lib.hid ((HF.out.2.2.2.drop hale).below HB1.out (Nat.le_refl _))
                have hdl : (out.drop a).length = out.length - a := List.length_drop ..
                have HDL := Lib.hid hdl
                go_upto_region 11 with (fail)
                go_region_law (first
                  | (refine step_e EU Try.underlying42 gap_info (by decide) ?_ (.tmp 76) (.tmp 79) ?_ wc.heap.size (some ⟨wc.heap.size, 0, none⟩) 1 [g] ?_ HO1.out (some ⟨g', o' + a * 3, none⟩) (d - a) (out.drop a) ?_ her.out (fun h => by cases h) ?_ ?_ ?_
                     (exact rfl)
                     (exact rfl)
                     (exact rfl)
                     (go_simp <;> (exact fun e => absurd e hne))
                     (first | exact Nat.le_of_ble_eq_true rfl | (simp; omega))
                     (simp)
                     intro A5 c5 w5 h5 b5
                     obtain ⟨R, hR⟩ : ∃ R, R = [g] ++ out.drop a := ⟨_, rfl⟩
                     rw [← hR] at h5 ⊢
                     have H5 := Lib.hid (And.intro h5 (And.intro b5 hR))
                     clear h5 b5 hR))
                all_goals
                  have e5 := OwnE.at EU H5.out.1
                  have hb5 : Below wc.heap.size wc w5 := (below_drew HB1.out).trans H5.out.2.1
                  have htk : EAt eu 3 w5 (some ⟨g', o', none⟩) d (out.take a) := (HF.out.2.2.2.take a d (by omega) (by unfold maxLen; omega)).below hb5 (Nat.le_refl _)
                  have hne5 : A5 = none → c5 = 0 := fun e => (OwnE.nil H5.out.1 e).1
                  have htl : (out.take a).length = a := by rw [List.length_take]; omega
                  have hrl : R.length ≤ 201 := by rw [H5.out.2.2]; simp <;> omega
                  have hsz5 := hb5.size
                  have HTK := Lib.hid (And.intro htk (And.intro htl (And.intro e5 hrl)))
                  have HB5 := Lib.hid hb5
                  have HN5 := Lib.hid hne5
                  clear htk e5 hb5 hne5 htl hrl
                  go_wp2_with (first
                    | (at_builtin; refine wpList_e EU Try.underlying42 gap_info (by decide) ?_ (.tmp 85) (.tmp 86) ?_ w5.heap.size A7 c7 T ?_ H7.out.1 A5 c5 R ?_ H7.out.2.2.1 HN5.out ?_ ?_ ?_
                       (exact rfl)
                       (exact rfl)
                       (exact rfl)
                       (exact rfl)
                       (rw [H7.out.2.2.2, HTK.out.2.1]; have := HTK.out.2.2.2; omega)
                       (exact Nat.le_trans (by simp) H7.out.2.1.size)
                       intro A8 c8 w8 h8 b8 _ _
                       obtain ⟨U, hU⟩ : ∃ U, U = T ++ R := ⟨_, rfl⟩
                       rw [← hU] at h8 ⊢
                       have H8 := Lib.hid (And.intro h8 (And.intro b8 hU))
                       clear h8 b8 hU)
                    | (at_builtin; refine wpList_e EU Try.underlying42 gap_info (by decide) ?_ (.tmp 81) (.tmp 84) ?_ w5.heap.size (some ⟨w5.heap.size, 0, none⟩) 0 [] ?_ (owne_new w5 _) (some ⟨g', o', none⟩) d (out.take a) ?_ (HTK.out.1.below (below_box _ _) (Nat.le_refl _)) (fun h => by cases h) ?_ ?_ ?_
                       (exact rfl)
                       (exact rfl)
                       (exact rfl)
                       (rw [HTK.out.2.1]; exact rfl)
                       (rw [HTK.out.2.1]; first | (simp; done) | (simp; omega))
                       (simp)
                       intro A7 c7 w7 h7 b7 _ _
                       rw [List.nil_append] at h7 ⊢
                       obtain ⟨T, hT⟩ : ∃ T, T = out.take a := ⟨_, rfl⟩
                       rw [← hT] at h7 ⊢
                       have H7 := Lib.hid (And.intro h7 (And.intro b7 (And.intro (HTK.out.2.2.1.1.below ((below_box _ _).trans b7) (Nat.le_refl _)) hT)))
                       clear h7 b7 hT))
                  have hU : U = insG out g := by rw [H8.out.2.2, H7.out.2.2.2, H5.out.2.2, HF.out.2.2.1]; rfl
                  have hrs : (refRaw (L.drop (k + 1))).foldl insG U = gapsV L := by
                    have hr := HS.out.rest
                    rw [next_le hlt, HG.out.1, HG.out.2.1, HM.out] at hr
                    rw [hU, HH.out.2.2.2, ← HG.out.2.2]
                    exact hr
                  have hbf : Below w.heap.size w w8 := (HF.out.2.1.trans (HB5.out.mono HF.out.2.1.size)).trans (((below_box _ _).trans (H7.out.2.1.trans H8.out.2.1)).mono (Nat.le_trans HF.out.2.1.size HB5.out.size))
                  have HFIN := Lib.hid (⟨row_low H8.out.1 (Nat.le_trans HF.out.2.1.size HB5.out.size), by rw [hU, insG_len]; have := HS.out.len; omega, hrs, hbf⟩ : GS w w8 L (k + 1) A8 c8 U)
                  clear hU hrs hbf
                  go_roundw
                  case rel => exact ⟨k + 1, A8, c8, U, by omega, by go_num, rfl, HFIN.out⟩
                  case measure => simp [intOf]; omega
              · have hda : a = d := by omega
                have hol2 : out.length = d := by omega
                subst hda
                have hen := Lib.hid (show EAt eu 3 (wc.alloc (.cells #[.int .i64 gp, .int .i64 gf, .int .i64 gt] 66)) (some ⟨g', o', none⟩) 0 [] from ⟨Nat.le_refl _, Nat.zero_le _, fun j x hx => by simp at hx⟩)
                go_upto_region 11 with (fail)
                go_region_law (first
                  | (refine step_e EU Try.underlying42 gap_info (by decide) ?_ (.tmp 76) (.tmp 79) ?_ wc.heap.size (some ⟨wc.heap.size, 0, none⟩) 1 [g] ?_ HO1.out (some ⟨g', o', none⟩) 0 [] ?_ hen.out (fun h => by cases h) ?_ ?_ ?_
                     (exact rfl)
                     (exact rfl)
                     (exact rfl)
                     (go_simp)
                     (first | exact Nat.le_of_ble_eq_true rfl | (simp; omega))
                     (simp)
                     intro A5 c5 w5 h5 b5
                     obtain ⟨R, hR⟩ : ∃ R, R = [g] ++ [] := ⟨_, rfl⟩
                     rw [← hR] at h5 ⊢
                     have H5 := Lib.hid (And.intro h5 (And.intro b5 hR))
                     clear h5 b5 hR))
                all_goals
                  have e5 := OwnE.at EU H5.out.1
                  have hb5 : Below wc.heap.size wc w5 := (below_drew HB1.out).trans H5.out.2.1
                  have htk : EAt eu 3 w5 (some ⟨g', o', none⟩) a (out.take a) := (HF.out.2.2.2.take a a (by omega) (by unfold maxLen; omega)).below hb5 (Nat.le_refl _)
                  have hne5 : A5 = none → c5 = 0 := fun e => (OwnE.nil H5.out.1 e).1
                  have htl : (out.take a).length = a := by rw [List.length_take]; omega
                  have hrl : R.length ≤ 201 := by rw [H5.out.2.2]; simp <;> omega
                  have hsz5 := hb5.size
                  have HTK := Lib.hid (And.intro htk (And.intro htl (And.intro e5 hrl)))
                  have HB5 := Lib.hid hb5
                  have HN5 := Lib.hid hne5
                  clear htk e5 hb5 hne5 htl hrl
                  go_wp2_with (first
                    | (at_builtin; refine wpList_e EU Try.underlying42 gap_info (by decide) ?_ (.tmp 85) (.tmp 86) ?_ w5.heap.size A7 c7 T ?_ H7.out.1 A5 c5 R ?_ H7.out.2.2.1 HN5.out ?_ ?_ ?_
                       (exact rfl)
                       (exact rfl)
                       (exact rfl)
                       (exact rfl)
                       (rw [H7.out.2.2.2, HTK.out.2.1]; have := HTK.out.2.2.2; omega)
                       (exact Nat.le_trans (by simp) H7.out.2.1.size)
                       intro A8 c8 w8 h8 b8 _ _
                       obtain ⟨U, hU⟩ : ∃ U, U = T ++ R := ⟨_, rfl⟩
                       rw [← hU] at h8 ⊢
                       have H8 := Lib.hid (And.intro h8 (And.intro b8 hU))
                       clear h8 b8 hU)
                    | (at_builtin; refine wpList_e EU Try.underlying42 gap_info (by decide) ?_ (.tmp 81) (.tmp 84) ?_ w5.heap.size (some ⟨w5.heap.size, 0, none⟩) 0 [] ?_ (owne_new w5 _) (some ⟨g', o', none⟩) a (out.take a) ?_ (HTK.out.1.below (below_box _ _) (Nat.le_refl _)) (fun h => by cases h) ?_ ?_ ?_
                       (exact rfl)
                       (exact rfl)
                       (exact rfl)
                       (rw [HTK.out.2.1]; exact rfl)
                       (rw [HTK.out.2.1]; first | (simp; done) | (simp; omega))
                       (simp)
                       intro A7 c7 w7 h7 b7 _ _
                       rw [List.nil_append] at h7 ⊢
                       obtain ⟨T, hT⟩ : ∃ T, T = out.take a := ⟨_, rfl⟩
                       rw [← hT] at h7 ⊢
                       have H7 := Lib.hid (And.intro h7 (And.intro b7 (And.intro (HTK.out.2.2.1.1.below ((below_box _ _).trans b7) (Nat.le_refl _)) hT)))
                       clear h7 b7 hT))
                  have hU : U = insG out g := by rw [H8.out.2.2, H7.out.2.2.2, H5.out.2.2, HF.out.2.2.1, List.drop_eq_nil_of_le (by omega)]; rfl
                  have hrs : (refRaw (L.drop (k + 1))).foldl insG U = gapsV L := by
                    have hr := HS.out.rest
                    rw [next_le hlt, HG.out.1, HG.out.2.1, HM.out] at hr
                    rw [hU, HH.out.2.2.2, ← HG.out.2.2]
                    exact hr
                  have hbf : Below w.heap.size w w8 := (HF.out.2.1.trans (HB5.out.mono HF.out.2.1.size)).trans (((below_box _ _).trans (H7.out.2.1.trans H8.out.2.1)).mono (Nat.le_trans HF.out.2.1.size HB5.out.size))
                  have HFIN := Lib.hid (⟨row_low H8.out.1 (Nat.le_trans HF.out.2.1.size HB5.out.size), by rw [hU, insG_len]; have := HS.out.len; omega, hrs, hbf⟩ : GS w w8 L (k + 1) A8 c8 U)
                  clear hU hrs hbf
                  go_roundw
                  case rel => exact ⟨k + 1, A8, c8, U, by omega, by go_num, rfl, HFIN.out⟩
                  case measure => simp [intOf]; omega
    · obtain rfl : k = L.length := by omega
      have hr := hs.rest
      rw [List.drop_length] at hr
      have hr : out = gapsV L := hr
      subst hr
      have HS := Lib.hid hs
      clear hs
      go_wp2
      go_ret
      exact ⟨B, d, rfl, HS.out.row, HS.out.below⟩
end Py
end Go.Proofs.Ytnkkhbmbbkmfhaa
