/- The specification: Limited. -/
import Derived.Test.YtnkkhbmbbkmfhaaJR7
namespace Go.Proofs.Ytnkkhbmbbkmfhaa
open Go.RowKit
namespace Py

theorem w64 (a : Int) : IntKind.i64.wrap a = wrap64 a := by unfold wrap64; exact IntKind.wrap_i64 a
theorem bit_int (s k : Nat) : ((((s : Nat) : Int) / 2 ^ k).tmod 2 == 1) = bitS s k := by
  have e : ((2 : Int) ^ k) = ((2 ^ k : Nat) : Int) := by norm_cast
  rw [e, ← Int.natCast_ediv]
  unfold bitS
  generalize s / 2 ^ k = v
  have e2 : ((v : Int)).tmod 2 = ((v % 2 : Nat) : Int) := by rw [Int.tmod_eq_emod_of_nonneg (by omega)]; omega
  rw [e2, Bool.eq_iff_iff, beq_iff_eq, decide_eq_true_eq]; omega
attribute [local irreducible] wpQuiet
set_option maxRecDepth 100000 in
set_option maxHeartbeats 8000000 in
theorem limitedR_ok (A : Option Addr) (c : Nat) (L : List PU) (h w n : Int) (W : World) (hU : UAt W A c L) :
    Calls Try.prog 30 #[.slice A L.length c, cbx h w, .int .i64 n] W (KeepOut W (limE L h w n (askV L h w)) (limV L h w n.toNat).2 (limV L h w n.toNat).1) := by
  have hb := below_box W (.cells #[.int .i64 h, .int .i64 w] 24)
  have hnb : (W.alloc (.cells #[.int .i64 h, .int .i64 w] 24)).heap[W.heap.size]? = some (.cells #[.int .i64 h, .int .i64 w] 24 (0, 0)) := by rw [heapAlloc, if_pos rfl]
  have hA := askedR_ok A c L h w _ (hU.below hb (Nat.le_refl _))
  by_cases hask : askV L h w = 0
  · obtain ⟨hL, hc⟩ := ask_ok.1 hask
    rw [hask] at hA ⊢
    by_cases hn0 : n < 0
    · have hE : limE L h w n 0 = 2 := by unfold limE; rw [if_neg (by omega), if_pos (.inl hn0)]
      rw [hE]
      have HA := Lib.hid hA
      have HX := Lib.hid hb
      clear hA hb hnb hask hE
      unfold KeepOut
      go_enter Try.func30, Try.ntmps30
      go_wp2_with (go_at_call 40; refine HA.out.mono ?_; rintro e w1 ⟨rfl, hb1⟩; have HB1 := Lib.hid hb1; clear hb1)
      go_ret3
      exact ⟨fun _ => rfl, fun e => (by omega), HX.out.trans (HB1.out.mono HX.out.size)⟩
    by_cases hn1 : 1024 < n
    · have hE : limE L h w n 0 = 2 := by unfold limE; rw [if_neg (by omega), if_pos (.inr hn1)]
      rw [hE]
      have HA := Lib.hid hA
      have HX := Lib.hid hb
      clear hA hb hnb hask hE
      unfold KeepOut
      go_enter Try.func30, Try.ntmps30
      go_wp2_with (go_at_call 40; refine HA.out.mono ?_; rintro e w1 ⟨rfl, hb1⟩; have HB1 := Lib.hid hb1; clear hb1)
      go_ret3
      exact ⟨fun _ => rfl, fun e => (by omega), HX.out.trans (HB1.out.mono HX.out.size)⟩
    obtain ⟨nn, rfl⟩ := Int.eq_ofNat_of_zero_le (show 0 ≤ n by omega)
    have hE : limE L h w (nn : Int) 0 = if 12 < (limWorth L h w).length then 3 else 0 := by unfold limE; rw [if_neg (by omega), if_neg (by omega)]
    rw [hE, Int.toNat_natCast]
    generalize hev : (if 12 < (limWorth L h w).length then (3 : Int) else 0) = ev
    have HEV := Lib.hid hev
    clear hev
    have hnn : nn ≤ 1024 := by omega
    unfold limV
    have hlen := hL.len
    have h0 := hc.h0; have h1 := hc.h1; have w0 := hc.w0; have w1 := hc.w1
    have hcap := hU.2.1
    have hlc := hU.1
    unfold maxLen at hcap
    have HC := Lib.hid (And.intro hL (And.intro hc (And.intro hask hU)))
    have HA := Lib.hid hA
    have HX := Lib.hid (And.intro hb hnb)
    clear hL hc hask hU hb hnb hA hE
    go_enter Try.func30, Try.ntmps30
    go_upto_region 2 with (go_at_call 40; refine HA.out.mono ?_; rintro e w1 ⟨rfl, hb1⟩)
    have hw1 : Below W.heap.size W w1 := HX.out.1.trans (hb1.mono HX.out.1.size)
    have hz := hb1.block W.heap.size (by simp)
    rw [HX.out.2] at hz
    have HW1 := Lib.hid (And.intro hw1 hz)
    have hg := gapsR_ok A c L w1 (HC.out.2.2.2.below hw1 (Nat.le_refl _)) hlen
    have HG := Lib.hid hg
    clear hw1 hz hg hb1
    obtain ⟨b, hbe⟩ : ∃ b, b = W.heap.size := ⟨_, rfl⟩
    rw [← hbe] at HW1 ⊢
    have HBE := Lib.hid hbe
    clear hbe
    go_upto_region 7 with (go_at_call 49; refine HG.out.mono ?_; rintro e w2 ⟨A2, c2, rfl, hr2, hb2⟩)
    have hea := (OwnE.at EU hr2).1
    have hcm := hea.2.1
    have hcl := hea.1
    have hgl := gapsV_len L
    unfold maxLen at hcm
    have hz2 : w2.heap[b]? = some (.cells #[.int .i64 h, .int .i64 w] 24 (0, 0)) := by rw [hb2.block b (lt_of_heap HW1.out.2)]; exact HW1.out.2
    have hW2 : Below b W w2 := by have := HW1.out.1; exact this.trans (hb2.mono (by rw [HBE.out]; exact this.size))
    have HE := Lib.hid (And.intro (uat_e.2 hea) (And.intro hz2 hW2))
    clear hr2 hb2 hea hz2 hW2
    have hsv : ∀ i, i < (gapsV L).length → OkG (use (gapsV L) i) ∧ 0 ≤ ((use (gapsV L) i).t - (use (gapsV L) i).f) * h ∧ ((use (gapsV L) i).t - (use (gapsV L) i).f) * h ≤ 1000000000000 ∧ (0 < saved h w (use (gapsV L) i) ↔ ((use (gapsV L) i).t - (use (gapsV L) i).f) * h < w) := fun i hi => by
      have hok := use_okG HC.out.1 hi
      have := saved_bd HC.out.2.1 hok
      exact ⟨hok, this.2.2.1, this.2.2.2, by unfold saved; omega⟩
    have hls := worthL_succ h w (gapsV L)
    have hlw : limWorth L h w = worthL h w (gapsV L) (gapsV L).length := rfl
    have HS := Lib.hid (And.intro hsv (And.intro hls hlw))
    clear hsv hls hlw
    generalize hGe : gapsV L = G at *
    have HGE := Lib.hid hGe
    clear hGe
    have H0 := Lib.hid (owne_nil (enc := enN) (k := 1) w2 w2.heap.size 3)
    go_wp2_with (fail)
    go_loopw [11, 12] (fun v i wr => ∃ (k : Nat) (B : Option Addr) (d : Nat) (M : List Nat), k ≤ G.length ∧ i = .int .i64 k ∧ v = .slice B M.length d ∧ M = worthL h w G k ∧ M.length ≤ k ∧ OwnE enN 1 wr w2.heap.size 3 B d M ∧ Below w2.heap.size w2 wr) (fun _ i _ => G.length - (intOf i).toNat)
    case atStart => exact ⟨0, none, 0, [], Nat.zero_le _, rfl, rfl, rfl, Nat.le_refl _, H0.out, Below.refl _ _⟩
    case round =>
      obtain ⟨k, B, d, M, hk, rfl, rfl, hM, hMl, hrow, hbw⟩ := hrel
      have hX := HE.out.1.below hbw (Nat.le_refl _)
      have hzr : wr.heap[b]? = some (.cells #[.int .i64 h, .int .i64 w] 24 (0, 0)) := by rw [hbw.block b (lt_of_heap HE.out.2.1)]; exact HE.out.2.1
      have z0 : wr.cell? ⟨b, 0, none⟩ = some (.int .i64 h) := by rw [cell_of_row _ _ _ _ _ _ hzr]; rfl
      have z1 : wr.cell? ⟨b, 1, none⟩ = some (.int .i64 w) := by rw [cell_of_row _ _ _ _ _ _ hzr]; rfl
      by_cases hlt : k < G.length
      · obtain ⟨hok, hp0, hp1, hiff⟩ := HS.out.1 k hlt
        have hnx := HS.out.2.1 k
        have hft := hok.ft
        have hf0 := hok.f0
        have ht1 := hok.t1
        obtain ⟨g, o, rfl, hg, c0, c1, c2⟩ := hX.at hlt
        generalize saved h w (use G k) = sv at *
        generalize use G k = u at *
        obtain ⟨gp, gf, gt⟩ := u
        dsimp only at hp0 hp1 hiff hft hf0 ht1 c1 c2
        obtain ⟨x, hx⟩ : ∃ x, x = (gt - gf) * h := ⟨_, rfl⟩
        rw [← hx] at hp0 hp1 hiff
        have q3 : (gt - gf) * h = x := hx.symm
        have HR := Lib.hid (And.intro hM (And.intro hrow hbw))
        have hsz := hbw.size
        clear hX hx hok c0 hM hrow hbw hzr
        by_cases hm : x < w
        · rw [if_pos (hiff.2 hm)] at hnx
          have HN := Lib.hid hnx
          clear hnx hiff
          go_upto_region 11 with (fail)
          go_quiet (fail)
          go_wp2_with (at_builtin; refine wpList_e EN Try.underlying33 int_info (by decide) ?_ (.tmp 60) (.tmp 62) ?_ w2.heap.size B d M ?_ (HR.out.2.1.alloc _) (some ⟨wr.heap.size, 0, none⟩) 1 [k] ?_ (oneN _ _ k) (fun h => by cases h) ?_ ?_ ?_; (exact rfl); (exact rfl); (exact rfl); (exact rfl); (simp; omega); (simp; omega); intro A8 c8 w8 h8 b8 _ _; obtain ⟨U, hU⟩ : ∃ U, U = M ++ [k] := ⟨_, rfl⟩; rw [← hU] at h8 ⊢; have H8 := Lib.hid (And.intro h8 (And.intro b8 hU)); clear h8 b8 hU)
          go_roundw
          case rel => exact ⟨k + 1, A8, c8, U, by omega, by go_num, rfl, by rw [HN.out, H8.out.2.2, HR.out.1], by rw [H8.out.2.2]; simp; omega, H8.out.1, ((below_drewN HR.out.2.2 nq).alloc hsz _).trans H8.out.2.1⟩
          case measure => simp [intOf]; omega
        · rw [if_neg (fun e => hm (hiff.1 e))] at hnx
          have HN := Lib.hid hnx
          clear hnx hiff
          go_upto_region 11 with (fail)
          go_quiet (fail)
          go_wp2_with (fail)
          go_roundw
          case rel => exact ⟨k + 1, B, d, M, by omega, by go_num, rfl, by rw [HN.out, HR.out.1], by omega, HR.out.2.1, below_drewN HR.out.2.2 _⟩
          case measure => simp [intOf]; omega
      · obtain rfl : k = G.length := by omega
        subst hM
        obtain ⟨V0, hV0⟩ : ∃ V0, V0 = wr := ⟨_, rfl⟩
        subst hV0
        have hwm : ∀ i, i ∈ worthL h w G G.length → i < G.length := fun i hi => (mem_worthL.1 hi).1
        have hasc := worthL_asc h w G G.length
        have hML : limWorth L h w = worthL h w G G.length := HS.out.2.2
        rw [hML] at HEV
        have HML := Lib.hid hML
        generalize worthL h w G G.length = M at *
        have hsz := hbw.size
        have hbW : Below b W V0 := HE.out.2.2.trans (hbw.mono (by rw [HBE.out]; exact HE.out.2.2.size))
        have hrI := iat_N.2 (OwnE.at EN hrow).1
        have HR := Lib.hid (And.intro hbW (And.intro hrI (And.intro hwm hasc)))
        have HXX := Lib.hid (And.intro hX hzr)
        have hdc := hrI.1
        have hdm := hrI.2.1
        rw [List.length_map] at hdc
        unfold maxLen at hdm
        clear hbw hrow hX hzr hbW hrI hwm hasc hML
        by_cases hM12 : 12 < M.length
        · have hev : ev = 3 := by rw [← HEV.out, if_pos hM12]
          have HV := Lib.hid hev
          clear hev
          go_wp2
          go_ret3
          rw [HV.out]
          exact ⟨fun _ => rfl, fun e => (by omega), by rw [← HBE.out]; exact HR.out.1⟩
        · have hev : ev = 0 := by rw [← HEV.out, if_neg hM12]
          have HV := Lib.hid hev
          clear hev
          have hMb : M.length ≤ 100000 := by omega
          have hGb : G.length ≤ 100000 := by omega
          have hnb : nn ≤ 100000 := by omega
          obtain ⟨NN, hNN⟩ : ∃ NN, NN = 2 ^ M.length := ⟨_, rfl⟩
          have hNb : NN ≤ 4096 := by rw [hNN]; exact Nat.pow_le_pow_right (n := 2) (by omega) (show M.length ≤ 12 by omega)
          have hw2 : wrap64 ((2 : Int) ^ M.length) = (NN : Int) := by
            have e : ((2 : Int) ^ M.length) = ((2 ^ M.length : Nat) : Int) := by norm_cast
            rw [e, ← hNN]; rw [← w64, IntWalk.i64_in _ (by omega)]
          have HNN := Lib.hid hNN
          clear hNN
          go_wp2_with (fail)
          go_loopw [13, 14, 15] (fun v x i wr2 => ∃ (s : Nat) (D : Option Addr) (e : Nat), s ≤ NN ∧ i = .int .i64 s ∧ v = .slice D (limR L h w M nn s).2.length e ∧ x = .int .i64 (limR L h w M nn s).1 ∧ IAt wr2 D e (zs (limR L h w M nn s).2) ∧ Below V0.heap.size V0 wr2) (fun _ _ i _ => NN - (intOf i).toNat)
          case atStart => exact ⟨0, none, 0, Nat.zero_le _, rfl, rfl, rfl, iat_nil _, Below.refl _ _⟩
          case round =>
            obtain ⟨s, D, e, hs, rfl, rfl, rfl, hbest, hb2⟩ := hrel
            obtain ⟨wr2, hwr2⟩ : ∃ wr2, wr2 = wr := ⟨_, rfl⟩
            subst hwr2
            by_cases hsN : s < NN
            · have hbd := limR_bd HC.out.1 HC.out.2.1 M nn s
              have hnx := limR_succ L h w M nn s
              generalize limR L h w M nn s = st at *
              obtain ⟨cost, best⟩ := st
              dsimp only at hbest hbd hnx ⊢
              have HB := Lib.hid (And.intro hbest hb2)
              have hbsz := hb2.size
              have hec := hbest.1
              have hem := hbest.2.1
              rw [List.length_map] at hec
              unfold maxLen at hem
              have HN := Lib.hid hnx
              have H0 := Lib.hid (owne_nil (enc := enN) (k := 1) wr2 wr2.heap.size 3)
              clear hbest hb2 hnx
              go_upto_region 21 with (fail)
              clear hw2
              go_wp2_with (fail)
              go_loopw [16, 17] (fun v i wr3 => ∃ (k : Nat) (E : Option Addr) (f : Nat) (K : List Nat), k ≤ M.length ∧ i = .int .i64 k ∧ v = .slice E K.length f ∧ K = selW M s k ∧ OwnE enN 1 wr3 wr2.heap.size 3 E f K ∧ Below wr2.heap.size wr2 wr3) (fun _ i _ => M.length - (intOf i).toNat)
              case atStart => exact ⟨0, none, 0, [], Nat.zero_le _, rfl, rfl, rfl, H0.out, Below.refl _ _⟩
              case round =>
                obtain ⟨k, E, f, K, hk, rfl, rfl, hK, hrow, hb3⟩ := hrel
                by_cases hkM : k < M.length
                · have hbit := bit_int s k
                  obtain ⟨x, hx⟩ : ∃ x, M[k]? = some x := ⟨_, List.getElem?_eq_getElem hkM⟩
                  have hst : selW M s (k + 1) = selW M s k ++ if bitS s k then [x] else [] := by
                    show _ ++ (if bitS s k then [M.getD k 0] else []) = _
                    rw [kd_int M k hx]
                  have hMI := (HR.out.2.1.below HB.out.2 (Nat.le_refl _)).below hb3 (Nat.le_refl _)
                  obtain ⟨gm, om, rfl, hgm, k0⟩ := iat_nat hMI hx
                  have hKl : K.length ≤ k := by rw [hK]; exact selW_len M s k
                  have hsz3 := hb3.size
                  have HK := Lib.hid (And.intro hK (And.intro hrow hb3))
                  clear hK hrow hb3 hMI hx
                  generalize bitS s k = bt at *
                  cases bt with
                  | true =>
                    have HST := Lib.hid hst
                    clear hst
                    go_wp2_with (at_builtin; refine wpList_e EN Try.underlying33 int_info (by decide) ?_ (.tmp 85) (.tmp 90) ?_ wr2.heap.size E f K ?_ (HK.out.2.1.alloc _) (some ⟨wr.heap.size, 0, none⟩) 1 [x] ?_ (oneN _ _ x) (fun h => by cases h) ?_ ?_ ?_; (exact rfl); (exact rfl); (exact rfl); (exact rfl); (simp; omega); (simp; omega); intro A8 c8 w8 h8 b8 _ _; obtain ⟨U, hU⟩ : ∃ U, U = K ++ [x] := ⟨_, rfl⟩; rw [← hU] at h8 ⊢; have H8 := Lib.hid (And.intro h8 (And.intro b8 hU)); clear h8 b8 hU)
                    go_roundw
                    case rel => exact ⟨k + 1, A8, c8, U, by omega, by go_num, rfl, by rw [HST.out, H8.out.2.2, HK.out.1]; rfl, H8.out.1, (HK.out.2.2.alloc hsz3 _).trans H8.out.2.1⟩
                    case measure => simp [intOf]; omega
                  | false =>
                    have HST := Lib.hid hst
                    clear hst
                    go_wp2
                    go_roundw
                    case rel => exact ⟨k + 1, E, f, K, by omega, by go_num, rfl, by rw [HST.out, HK.out.1]; simp, HK.out.2.1, HK.out.2.2⟩
                    case measure => simp [intOf]; omega
                · obtain rfl : k = M.length := by omega
                  rw [← hK] at HN
                  have hasc : K.Pairwise (· < ·) := by rw [hK]; exact selW_asc HR.out.2.2.2 s _ (Nat.le_refl _)
                  have hKm : ∀ x, x ∈ K → x < G.length := fun x hx => by
                    rw [hK] at hx
                    obtain ⟨j, _, _, hj⟩ := selW_mem (Nat.le_refl _) hx
                    exact HR.out.2.2.1 x (List.mem_of_getElem? hj)
                  have hKl : K.length ≤ M.length := by rw [hK]; exact selW_len M s _
                  have hbV : Below V0.heap.size V0 wr := HB.out.2.trans (hb3.mono hbsz)
                  have hbW : Below b W wr := HR.out.1.trans (hbV.mono (by rw [HBE.out]; exact HR.out.1.size))
                  have hbWW : Below W.heap.size W wr := by rw [← HBE.out]; exact hbW
                  have hKI := iat_N.2 (OwnE.at EN hrow).1
                  have hZr : wr.heap[b]? = some (.cells #[.int .i64 h, .int .i64 w] 24 (0, 0)) := by rw [hbV.block b (lt_of_heap HXX.out.2)]; exact HXX.out.2
                  have z0 : wr.cell? ⟨b, 0, none⟩ = some (.int .i64 h) := by rw [cell_of_row _ _ _ _ _ _ hZr]; rfl
                  have z1 : wr.cell? ⟨b, 1, none⟩ = some (.int .i64 w) := by rw [cell_of_row _ _ _ _ _ _ hZr]; rfl
                  have hkk := keptR_ok A c L h w E f K wr (HC.out.2.2.2.below hbWW (Nat.le_refl _)) hKI HC.out.1 HC.out.2.1
                  have hkb := keptV_bd HC.out.1 HC.out.2.1 K
                  have hGv := HGE.out
                  rw [hGv] at HN
                  have hGr := HXX.out.1.below hbV (Nat.le_refl _)
                  have hbeI := HB.out.1.below hb3 (Nat.le_refl _)
                  have hbW2 : Below wr2.heap.size wr2 wr := hb3
                  have HK := Lib.hid hkk
                  have HY := Lib.hid (And.intro hGr (And.intro hKI (And.intro hbeI (And.intro hbV (And.intro hbW2 (And.intro hasc hKm))))))
                  clear hrow hb3 hK hbV hbW hbWW hKI hZr hkk hGv hGr hbeI hbW2 hasc hKm
                  generalize keptV L h w K = x at *
                  have hfit := fun v => fun (hv : Below wr.heap.size wr v) => fitR_ok A2 c2 G E f K nn v (HY.out.1.below hv (Nat.le_refl _)) (HY.out.2.1.below hv (Nat.le_refl _)) HY.out.2.2.2.2.2.2 hnb (Nat.le_trans hKl hMb) hGb
                  have hless := fun v => fun (hv : Below wr.heap.size wr v) => lessR_ok E f K D e best v (HY.out.2.1.below hv (Nat.le_refl _)) (HY.out.2.2.1.below hv (Nat.le_refl _))
                  have hlbt : ∀ fb, better fb x K (cost, best) = (fb && (decide (cost < 0) || decide (x < cost) || (decide (x = cost) && lessV K best))) := fun _ => rfl
                  generalize fitV G K nn = fb at *
                  generalize lessV K best = lb at *
                  have HLB := Lib.hid (hlbt fb)
                  clear hlbt
                  have HF := Lib.hid (And.intro hfit hless)
                  clear hfit hless
                  have HVs := Lib.hid (show V0.heap.size ≤ wr.heap.size from HY.out.2.2.2.1.size)
                  go_upto_region 27 with (go_at_call 32; refine HK.out.mono ?_; rintro e w4 ⟨rfl, hb4⟩; have HB4 := Lib.hid hb4; clear hb4)
                  have hbt : better fb x K (cost, best) = (fb && (decide (cost < 0) || decide (x < cost) || (decide (x = cost) && lb))) := HLB.out
                  cases fb with
                  | false =>
                    have HBT := Lib.hid (HN.out.trans (if_neg (by rw [hbt]; simp)))
                    clear hbt
                    go_wp2_with (first
                      | (go_at_call 33; refine (HF.out.1 _ HB4.out).mono ?_; rintro e w5 ⟨rfl, rfl⟩))
                    go_roundw
                    case rel => exact ⟨s + 1, D, e, by omega, by go_num, by rw [HBT.out], by rw [HBT.out], by rw [HBT.out]; exact HY.out.2.2.1.below HB4.out (Nat.le_refl _), (HY.out.2.2.2.1.trans (HB4.out.mono HVs.out))⟩
                    case measure => simp [intOf]; omega
                  | true =>
                    by_cases c1 : cost < 0
                    · have HBT := Lib.hid (HN.out.trans (if_pos (by rw [hbt]; simp [c1])))
                      clear hbt
                      go_wp2_with (first
                        | (go_at_call 33; refine (HF.out.1 _ HB4.out).mono ?_; rintro e w5 ⟨rfl, rfl⟩))
                      go_roundw
                      case rel => exact ⟨s + 1, E, f, by omega, by go_num, by rw [HBT.out], by rw [HBT.out], by rw [HBT.out]; exact HY.out.2.1.below HB4.out (Nat.le_refl _), (HY.out.2.2.2.1.trans (HB4.out.mono HVs.out))⟩
                      case measure => simp [intOf]; omega
                    by_cases c2 : x < cost
                    · have HBT := Lib.hid (HN.out.trans (if_pos (by rw [hbt]; simp [c2])))
                      clear hbt
                      go_wp2_with (first
                        | (go_at_call 33; refine (HF.out.1 _ HB4.out).mono ?_; rintro e w5 ⟨rfl, rfl⟩))
                      go_roundw
                      case rel => exact ⟨s + 1, E, f, by omega, by go_num, by rw [HBT.out], by rw [HBT.out], by rw [HBT.out]; exact HY.out.2.1.below HB4.out (Nat.le_refl _), (HY.out.2.2.2.1.trans (HB4.out.mono HVs.out))⟩
                      case measure => simp [intOf]; omega
                    by_cases c3 : x = cost
                    · have hbq : (x == cost) = true := by simp [c3]
                      cases lb with
                      | true =>
                        have HBT := Lib.hid (HN.out.trans (if_pos (by rw [hbt]; simp [c3])))
                        clear hbt c3
                        go_wp2_with (first
                          | (go_at_call 33; refine (HF.out.1 _ HB4.out).mono ?_; rintro e w5 ⟨rfl, rfl⟩)
                          | (go_at_call 52; refine (HF.out.2 _ HB4.out).mono ?_; rintro e w5 ⟨rfl, q5, rfl⟩))
                        go_roundw
                        case rel => exact ⟨s + 1, E, f, by omega, by go_num, by rw [HBT.out], by rw [HBT.out], by rw [HBT.out]; exact HY.out.2.1.below (below_drewN HB4.out _) (Nat.le_refl _), (HY.out.2.2.2.1.trans ((below_drewN HB4.out _).mono HVs.out))⟩
                        case measure => simp [intOf]; omega
                      | false =>
                        have HBT := Lib.hid (HN.out.trans (if_neg (by rw [hbt]; simp [c1, c2])))
                        clear hbt c3
                        go_wp2_with (first
                          | (go_at_call 33; refine (HF.out.1 _ HB4.out).mono ?_; rintro e w5 ⟨rfl, rfl⟩)
                          | (go_at_call 52; refine (HF.out.2 _ HB4.out).mono ?_; rintro e w5 ⟨rfl, q5, rfl⟩))
                        go_roundw
                        case rel => exact ⟨s + 1, D, e, by omega, by go_num, by rw [HBT.out], by rw [HBT.out], by rw [HBT.out]; exact HY.out.2.2.1.below (below_drewN HB4.out _) (Nat.le_refl _), (HY.out.2.2.2.1.trans ((below_drewN HB4.out _).mono HVs.out))⟩
                        case measure => simp [intOf]; omega
                    · have hbq : (x == cost) = false := by simp [c3]
                      have HBT := Lib.hid (HN.out.trans (if_neg (by rw [hbt]; simp [c1, c2, c3])))
                      clear hbt c3
                      go_wp2_with (first
                        | (go_at_call 33; refine (HF.out.1 _ HB4.out).mono ?_; rintro e w5 ⟨rfl, rfl⟩))
                      go_roundw
                      case rel => exact ⟨s + 1, D, e, by omega, by go_num, by rw [HBT.out], by rw [HBT.out], by rw [HBT.out]; exact HY.out.2.2.1.below HB4.out (Nat.le_refl _), (HY.out.2.2.2.1.trans (HB4.out.mono HVs.out))⟩
                      case measure => simp [intOf]; omega
            · obtain rfl : s = NN := Nat.le_antisymm hs (Nat.not_lt.1 hsN)
              have HB := Lib.hid (And.intro hbest hb2)
              clear hbest hb2
              go_wp2
              go_ret3
              rw [HV.out, HML.out, ← HNN.out]
              refine ⟨fun e => absurd rfl e, fun _ => ⟨D, e, rfl, HB.out.1⟩, ?_⟩
              have e1 := HR.out.1
              rw [HBE.out] at e1
              exact e1.trans (HB.out.2.mono e1.size)
  · have hne : (askV L h w == 0) = false := by simp [hask]
    have hne2 : (askV L h w != 0) = true := by simp [hask]
    have hE : limE L h w n (askV L h w) = askV L h w := by unfold limE; rw [if_pos hask]
    rw [hE]
    have HA := Lib.hid hA
    have HX := Lib.hid (And.intro hb hask)
    clear hA hb hnb hask hE
    unfold KeepOut
    generalize askV L h w = cv at *
    go_enter Try.func30, Try.ntmps30
    go_wp2_with (go_at_call 40; refine HA.out.mono ?_; rintro e w1 ⟨rfl, hb1⟩; have HB1 := Lib.hid hb1; clear hb1)
    go_ret3
    exact ⟨fun _ => rfl, fun e => absurd e HX.out.2, HX.out.1.trans (HB1.out.mono HX.out.1.size)⟩
end Py
end Go.Proofs.Ytnkkhbmbbkmfhaa
