/- The program: Limited. -/
import Derived.Test.YtnkkhbmbbkmfhaaJA12
import Derived.Test.YtnkkhbmbbkmfhaaK3
import Derived.Test.YtnkkhbmbbkmfhaaJR8
namespace Go.Proofs.Ytnkkhbmbbkmfhaa
open Go.RowKit Go.Sort Go.Lib
namespace Py

theorem toInt_small (n : Nat) (h : n < 9223372036854775808) : (BitVec.ofInt 64 (n : Int)).toNat = n := by
  simp; omega
theorem wrap_small (n : Nat) (h : n < 9223372036854775808) : IntKind.i64.wrap (n : Int) = n := by
  rw [IntWalk.i64_in]; omega
theorem and_nat (m n : Nat) (hm : m < 9223372036854775808) (hn : n < 9223372036854775808) : bits .and .i64 (m : Int) (n : Int) = ((m &&& n : Nat) : Int) := by
  have h1 := toInt_small m hm
  have h2 := toInt_small n hn
  have h3 : m &&& n ≤ m := Nat.and_le_left
  simp only [bits]
  show IntKind.i64.wrap ((BitVec.ofInt 64 (m : Int) &&& BitVec.ofInt 64 (n : Int)).toNat : Int) = _
  rw [BitVec.toNat_and, h1, h2, wrap_small _ (by omega)]

def pows : List Nat := [1, 2, 4, 8, 16, 32, 64, 128, 256, 512, 1024, 2048, 4096]

theorem pow_all : (List.range 4097).all (fun a => a == 0 || (a &&& (a - 1) == 0) == pows.contains a) = true := by decide +kernel

theorem pow_iff (a : Nat) (h1 : 1 ≤ a) (h2 : a ≤ 4096) : (a &&& (a - 1) = 0) ↔ a ∈ pows := by
  have h := List.all_eq_true.1 pow_all a (by simp; omega)
  simp at h
  rcases h with h | h
  · omega
  · by_cases hp : a ∈ pows
    · simp [hp] at h ⊢; exact h
    · simp [hp] at h ⊢; exact h
theorem bitP_int (s k : Nat) (hs : s < 9223372036854775808) : (bits .and .i64 (((s : Nat) : Int) / 2 ^ k) 1 == 1) = bitS s k := by
  have e : ((2 : Int) ^ k) = ((2 ^ k : Nat) : Int) := by norm_cast
  rw [e, ← Int.natCast_ediv]
  have hle : s / 2 ^ k ≤ s := Nat.div_le_self _ _
  unfold bitS
  generalize s / 2 ^ k = v at *
  have h1 := and_nat v 1 (by omega) (by omega)
  rw [show ((1 : Nat) : Int) = 1 from rfl] at h1
  rw [h1, Nat.and_one_is_mod, Bool.eq_iff_iff, beq_iff_eq, decide_eq_true_eq]; omega

set_option maxRecDepth 100000 in
set_option maxHeartbeats 8000000 in
theorem Limited_ok (A : Option Addr) (c : Nat) (L : List PU) (h w n : Int) (W : World) (hU : UAt W A c L) :
    Calls Try.prog 29 #[.slice A L.length c, cbx h w, .int .i64 n] W (KeepOut W (limE L h w n (askV L h w)) (limV L h w n.toNat).2 (limV L h w n.toNat).1) := by
  have hb := below_box W (.cells #[.int .i64 h, .int .i64 w] 24)
  have hnb : (W.alloc (.cells #[.int .i64 h, .int .i64 w] 24)).heap[W.heap.size]? = some (.cells #[.int .i64 h, .int .i64 w] 24 (0, 0)) := by rw [heapAlloc, if_pos rfl]
  by_cases hask : askV L h w = 0
  · obtain ⟨hL, hc⟩ := ask_ok.1 hask
    have hA := both_good A c L h w _ (hU.below hb (Nat.le_refl _)) hask
    rw [hask]
    by_cases hn0 : n < 0
    · have hE : limE L h w n 0 = 2 := by unfold limE; rw [if_neg (by omega), if_pos (.inl hn0)]
      rw [hE]
      have HA := Lib.hid hA
      have HX := Lib.hid hb
      clear hA hb hnb hask hE
      unfold KeepOut
      go_enter Try.func29, Try.ntmps29
      go_wp2_with (go_at_call 35; refine HA.out.mono ?_; rintro e v1 ⟨t, rfl, _, hb1⟩; have HB1 := Lib.hid hb1; clear hb1)
      go_ret3
      exact ⟨fun _ => rfl, fun e => absurd e (by decide), HX.out.trans (HB1.out.mono HX.out.size)⟩
    by_cases hn1 : 1024 < n
    · have hn2 : n > 1024 := hn1
      have hE : limE L h w n 0 = 2 := by unfold limE; rw [if_neg (by omega), if_pos (.inr hn1)]
      rw [hE]
      have HA := Lib.hid hA
      have HX := Lib.hid hb
      clear hA hb hnb hask hE
      unfold KeepOut
      go_enter Try.func29, Try.ntmps29
      go_wp2_with (go_at_call 35; refine HA.out.mono ?_; rintro e v1 ⟨t, rfl, _, hb1⟩; have HB1 := Lib.hid hb1; clear hb1)
      go_ret3
      exact ⟨fun _ => rfl, fun e => absurd e (by decide), HX.out.trans (HB1.out.mono HX.out.size)⟩
    obtain ⟨nn, rfl⟩ := Int.eq_ofNat_of_zero_le (show 0 ≤ n by omega)
    have hE : limE L h w (nn : Int) 0 = if 12 < (limWorth L h w).length then 3 else 0 := by unfold limE; rw [if_neg (by omega), if_neg (by omega)]
    rw [hE, Int.toNat_natCast]
    generalize hev : (if 12 < (limWorth L h w).length then (3 : Int) else 0) = ev
    have HEV := Lib.hid hev
    clear hev
    have hnn : nn ≤ 1024 := by omega
    have hlen := hL.len
    have h0 := hc.h0; have h1 := hc.h1; have w0 := hc.w0; have w1 := hc.w1
    have HC := Lib.hid (And.intro hL (And.intro hc (And.intro hask hU)))
    have HA := Lib.hid hA
    have HX := Lib.hid (And.intro hb hnb)
    clear hL hc hask hU hb hnb hA hE
    go_enter Try.func29, Try.ntmps29
    go_upto_region 1 with (fail)
    generalize W.alloc (.cells #[.int .i64 h, .int .i64 w] 24) = V at *
    obtain ⟨b, hbe⟩ : ∃ b, b = W.heap.size := ⟨_, rfl⟩
    rw [← hbe] at HX ⊢
    have HBE := Lib.hid hbe
    clear hbe
    have x0 : V.cell? ⟨b, 0, none⟩ = some (.int .i64 h) := by rw [cell_of_row _ _ _ _ _ _ HX.out.2]; rfl
    have x1 : V.cell? ⟨b, 1, none⟩ = some (.int .i64 w) := by rw [cell_of_row _ _ _ _ _ _ HX.out.2]; rfl
    go_upto_region 2 with (go_at_call 35; refine HA.out.mono ?_; rintro e v1 ⟨t, rfl, htr, hb1⟩)
    have hz : v1.heap[b]? = some (.cells #[.int .i64 h, .int .i64 w] 24 (0, 0)) := by rw [hb1.block b (lt_of_heap HX.out.2)]; exact HX.out.2
    have hW1 : Below b W v1 := HX.out.1.trans (hb1.mono (by rw [HBE.out]; have := HX.out.1.size; exact this))
    obtain ⟨B0, d0, mb, n0, D0, e1, e2, _⟩ := htr.ex
    have t1 : v1.cell? ⟨t, 1, none⟩ = some (.slice B0 (gapsV L).length d0) := by rw [cell_of_row _ _ _ _ _ _ e1]; rfl
    have hcm := e2.2.1
    have hcl := e2.1
    have hgl := gapsV_len L
    unfold maxLen at hcm
    have hbs := lt_of_heap hz
    have hdr := fun V (hV : Below v1.heap.size v1 V) => dropped_ok t A c L h w HC.out.2.1 hlen V (htr.below hV)
    have HE := Lib.hid (And.intro (uat_e.2 e2) (And.intro hz (And.intro hW1 (And.intro t1 hdr))))
    clear hb1 htr hz hW1 e1 e2 x0 x1 hdr
    have hsv : ∀ i, i < (gapsV L).length → OkG (use (gapsV L) i) := fun i hi => use_okG HC.out.1 hi
    have hls := worthL_succ h w (gapsV L)
    have hlw : limWorth L h w = worthL h w (gapsV L) (gapsV L).length := rfl
    have hlim := fun (W : List Nat) (hW : Asc W) hWG => lim_same HC.out.1 HC.out.2.1 (W := W) hW hWG nn
    have hsb := fun (g : PU) (hg : OkG g) => saved_bd HC.out.2.1 hg
    have hso := fun (g : PU) (hg : OkG g) (V : World) => saved_ok h w g HC.out.2.1 hg V
    have HS := Lib.hid (And.intro hsv (And.intro hls (And.intro hlw hlim)))
    have HSV := Lib.hid (And.intro hsb hso)
    clear hsv hls hlw hlim hsb hso
    have hlps := fun W s => limP_succ L h w W nn s
    have HLP := Lib.hid hlps
    clear hlps
    generalize hGe : gapsV L = G at *
    have HGE := Lib.hid hGe
    clear hGe
    have H0 := Lib.hid (owne_nil (enc := enN) (k := 1) v1 v1.heap.size 3)
    go_wp2_with (fail)
    go_loopw [10, 41] (fun v i wr => ∃ (k : Nat) (B : Option Addr) (d : Nat) (M : List Nat), k ≤ G.length ∧ i = .int .i64 k ∧ v = .slice B M.length d ∧ M = worthL h w G k ∧ M.length ≤ k ∧ OwnE enN 1 wr v1.heap.size 3 B d M ∧ Below v1.heap.size v1 wr) (fun _ i _ => G.length - (intOf i).toNat)
    case atStart => exact ⟨0, none, 0, [], Nat.zero_le _, rfl, rfl, rfl, Nat.le_refl _, H0.out, Below.refl _ _⟩
    case round =>
      obtain ⟨k, B, d, M, hk, rfl, rfl, hM, hMl, hrow, hbw⟩ := hrel
      by_cases hlt : k < G.length
      · have hX := HE.out.1.below hbw (Nat.le_refl _)
        have hzr : wr.heap[b]? = some (.cells #[.int .i64 h, .int .i64 w] 24 (0, 0)) := by rw [hbw.block b (lt_of_heap HE.out.2.1)]; exact HE.out.2.1
        have hok := HS.out.1 k hlt
        have hnx := HS.out.2.1 k
        have hsb := HSV.out.1 _ hok
        have hsc := HSV.out.2 _ hok
        obtain ⟨g, o, rfl, hg, c0, c1, c2⟩ := hX.at hlt
        have hsz := hbw.size
        generalize saved h w (use G k) = sv at *
        generalize use G k = u at *
        have HR := Lib.hid (And.intro hM (And.intro hrow (And.intro hbw (And.intro hnx (And.intro hzr hsc)))))
        obtain ⟨sv0, sv1, _⟩ := hsb
        clear hX hok hM hrow hbw hnx hzr hsc
        obtain ⟨gp, gf, gt⟩ := u
        dsimp only at c0 c1 c2 HR
        go_upto_region 10 with (fail)
        obtain ⟨V1, hV1⟩ : ∃ V1, V1 = wr.alloc (.cells #[.int .i64 gp, .int .i64 gf, .int .i64 gt] 66) := ⟨_, rfl⟩
        rw [← hV1]
        obtain ⟨ub, hub⟩ : ∃ ub, ub = wr.heap.size := ⟨_, rfl⟩
        rw [← hub]
        have hbx : V1.heap[ub]? = some (.cells #[.int .i64 gp, .int .i64 gf, .int .i64 gt] 66 (0, 0)) := by rw [hV1, hub, heapAlloc, if_pos rfl]
        have hbV : Below wr.heap.size wr V1 := by rw [hV1]; exact below_box _ _
        have hzV : V1.heap[b]? = some (.cells #[.int .i64 h, .int .i64 w] 24 (0, 0)) := by rw [hbV.block b (lt_of_heap HR.out.2.2.2.2.1)]; exact HR.out.2.2.2.2.1
        obtain ⟨u0, u1, u2⟩ := three_at hbx
        have z0 : V1.cell? ⟨b, 0, none⟩ = some (.int .i64 h) := by rw [cell_of_row _ _ _ _ _ _ hzV]; rfl
        have z1 : V1.cell? ⟨b, 1, none⟩ = some (.int .i64 w) := by rw [cell_of_row _ _ _ _ _ _ hzV]; rfl
        have HV1 := Lib.hid (row_below HR.out.2.1 hbV)
        have HV2 := Lib.hid (HR.out.2.2.1.trans (hbV.mono hsz))
        have hsz1 : v1.heap.size ≤ V1.heap.size := Nat.le_trans hsz hbV.size
        clear hV1 hub hbx hbV hzV c0 c1 c2
        go_upto_if 49 with (go_at_call 45; refine (HR.out.2.2.2.2.2 _).mono ?_; rintro e w5 ⟨rfl, hb5⟩)
        have HV5 := Lib.hid (row_below HV1.out hb5)
        have HV6 := Lib.hid (HV2.out.trans (hb5.mono hsz1))
        have hsz5 : v1.heap.size ≤ w5.heap.size := Nat.le_trans hsz1 hb5.size
        clear hb5 u0 u1 u2 z0 z1
        by_cases hm : 0 < sv
        · have hm' : sv > 0 := hm
          have HN := Lib.hid (HR.out.2.2.2.1.trans (if_pos hm))
          go_wp2_with (at_builtin; refine wpList_e EN Try.underlying33 int_info (by decide) ?_ (.tmp 50) (.tmp 52) ?_ v1.heap.size B d M ?_ (HV5.out.alloc _) (some ⟨w5.heap.size, 0, none⟩) 1 [k] ?_ (oneN _ _ k) (fun h => by cases h) ?_ ?_ ?_; (exact rfl); (exact rfl); (exact rfl); (exact rfl); (simp; omega); (simp; omega); intro A8 c8 w8 h8 b8 _ _; obtain ⟨U, hU⟩ : ∃ U, U = M ++ [k] := ⟨_, rfl⟩; rw [← hU] at h8 ⊢; have H8 := Lib.hid (And.intro h8 (And.intro b8 hU)); clear h8 b8 hU)
          go_roundw
          case rel => exact ⟨k + 1, A8, c8, U, by omega, by go_num, rfl, by rw [HN.out, H8.out.2.2, HR.out.1], by rw [H8.out.2.2]; simp; omega, H8.out.1, (HV6.out.alloc hsz5 _).trans H8.out.2.1⟩
          case measure => simp [intOf]; omega
        · have hm' : ¬ sv > 0 := hm
          have HN := Lib.hid (HR.out.2.2.2.1.trans (if_neg hm))
          go_wp2_with (fail)
          go_roundw
          case rel => exact ⟨k + 1, B, d, M, by omega, by go_num, rfl, by rw [HN.out, HR.out.1], by omega, HV5.out, HV6.out⟩
          case measure => simp [intOf]; omega
      · obtain rfl : k = G.length := by omega
        subst hM
        obtain ⟨V0, hV0⟩ : ∃ V0, V0 = wr := ⟨_, rfl⟩
        subst hV0
        have hwm : ∀ i, i ∈ worthL h w G G.length → i < G.length ∧ 0 < saved h w (use G i) := fun i hi => mem_worthL.1 hi
        have hasc := worthL_asc h w G G.length
        have hML : limWorth L h w = worthL h w G G.length := HS.out.2.2.1
        rw [hML] at HEV
        have HML := Lib.hid hML
        have hls := HS.out.2.2.2 (worthL h w G G.length) hasc hwm
        have hlpo := lim_pos L h w (worthL h w G G.length) nn
        have hlpn := HLP.out (worthL h w G G.length)
        have hlv : limV L h w nn = limR L h w (worthL h w G G.length) nn (2 ^ (worthL h w G G.length).length) := by unfold limV; rw [hML]
        have HLS := Lib.hid (And.intro hls (And.intro hlpo (And.intro hlpn hlv)))
        clear hls hlpo hlpn hlv
        generalize worthL h w G G.length = M at *
        have hsz := hbw.size
        have hbW : Below b W V0 := HE.out.2.2.1.trans (hbw.mono (Nat.le_of_lt hbs))
        have hrI := iat_N.2 (OwnE.at EN hrow).1
        have hzr : V0.heap[b]? = some (.cells #[.int .i64 h, .int .i64 w] 24 (0, 0)) := by rw [hbw.block b (lt_of_heap HE.out.2.1)]; exact HE.out.2.1
        have t2 := cell_keep2 hbw HE.out.2.2.2.1
        have hX := HE.out.1.below hbw (Nat.le_refl _)
        have HR := Lib.hid (And.intro hbW (And.intro hrI (And.intro hwm (And.intro hasc (And.intro hX (And.intro hzr (And.intro t2 hbw)))))))
        have hdc := hrI.1
        have hdm := hrI.2.1
        rw [List.length_map] at hdc
        unfold maxLen at hdm
        have hbs0 : b < V0.heap.size := lt_of_heap hzr
        clear hbw hrow hX hzr hbW hrI hwm hasc hML t2
        by_cases hM12 : 12 < M.length
        · have hM12' : (M.length : Int) > 12 := by omega
          have hev : ev = 3 := by rw [← HEV.out, if_pos hM12]
          have HV := Lib.hid hev
          clear hev
          go_wp2
          go_ret3
          rw [HV.out]
          exact ⟨fun _ => rfl, fun e => absurd e (by decide), by rw [← HBE.out]; exact HR.out.1⟩
        · have hM12' : ¬ (M.length : Int) > 12 := by omega
          have hev : ev = 0 := by rw [← HEV.out, if_neg hM12]
          have HV := Lib.hid hev
          clear hev
          have hMb : M.length ≤ 100000 := by omega
          have hGb : G.length ≤ 100000 := by omega
          have hnb : nn ≤ 100000 := by omega
          obtain ⟨NN, hNN⟩ : ∃ NN, NN = 2 ^ M.length := ⟨_, rfl⟩
          have hNb : NN ≤ 4096 := by rw [hNN]; exact Nat.pow_le_pow_right (n := 2) (by omega) (show M.length ≤ 12 by omega)
          have hN1 : 1 ≤ NN := by rw [hNN]; exact Nat.one_le_two_pow
          have hw2 : wrap64 ((2 : Int) ^ M.length) = (NN : Int) := by
            have e : ((2 : Int) ^ M.length) = ((2 ^ M.length : Nat) : Int) := by norm_cast
            rw [e, ← hNN]; rw [← w64, IntWalk.i64_in _ (by omega)]
          have HNN := Lib.hid hNN
          clear hNN
          go_wp2_with (fail)
          go_loopw [6, 13, 61] (fun v x i wr2 => ∃ (s : Nat) (D : Option Addr) (e : Nat), s ≤ NN ∧ i = .int .i64 s ∧ v = .slice D (limP L h w M nn s).2.length e ∧ x = .int .i64 (limP L h w M nn s).1 ∧ IAt wr2 D e (zs (limP L h w M nn s).2) ∧ Below V0.heap.size V0 wr2) (fun _ _ i _ => NN - (intOf i).toNat)
          case atStart => exact ⟨0, none, 0, Nat.zero_le _, rfl, rfl, rfl, iat_nil _, Below.refl _ _⟩
          case round =>
            obtain ⟨s, D, e, hs, rfl, rfl, rfl, hbest, hb2⟩ := hrel
            obtain ⟨wr2, hwr2⟩ : ∃ wr2, wr2 = wr := ⟨_, rfl⟩
            subst hwr2
            have hlsb : -1 ≤ (limP L h w M nn s).1 ∧ (limP L h w M nn s).1 ≤ 200000000000 := by
              have hq := (HLS.out.1 s).2
              have := mul_bd (a := (L.length : Int)) (b := w) (A := 200) (B := 1000000000) (by omega) w0 (by omega) w1
              omega
            have hzr := hb2.block b hbs0
            rw [HR.out.2.2.2.2.2.1] at hzr
            have y0 : wr2.cell? ⟨b, 0, none⟩ = some (.int .i64 h) := by rw [cell_of_row _ _ _ _ _ _ hzr]; rfl
            have y1 : wr2.cell? ⟨b, 1, none⟩ = some (.int .i64 w) := by rw [cell_of_row _ _ _ _ _ _ hzr]; rfl
            by_cases hsN : s < NN
            · have hnx := HLS.out.2.2.1 s
              generalize limP L h w M nn s = st at *
              obtain ⟨best, keep⟩ := st
              dsimp only at hbest hlsb hnx ⊢
              have hec := hbest.1
              have hem := hbest.2.1
              rw [List.length_map] at hec
              unfold maxLen at hem
              have hbsz := hb2.size
              have HB := Lib.hid (And.intro hbest (And.intro hb2 (And.intro y0 y1)))
              have HN := Lib.hid hnx
              have H0 := Lib.hid (owne_nil (enc := enN) (k := 1) wr2 wr2.heap.size 3)
              clear hbest hb2 hnx hzr y0 y1
              go_upto_region 21 with (fail)
              clear hw2
              go_wp2_with (fail)
              go_loopw [15, 16, 66] (fun v x i wr3 => ∃ (k : Nat) (E : Option Addr) (f : Nat) (K : List Nat), k ≤ M.length ∧ i = .int .i64 k ∧ v = .slice E K.length f ∧ K = selW M s k ∧ x = .int .i64 (sumK h w G K) ∧ (-(k : Int) * 1000000000000 ≤ sumK h w G K ∧ sumK h w G K ≤ (k : Int) * 1000000000) ∧ OwnE enN 1 wr3 wr2.heap.size 3 E f K ∧ Below wr2.heap.size wr2 wr3) (fun _ _ i _ => M.length - (intOf i).toNat)
              case atStart => exact ⟨0, none, 0, [], Nat.zero_le _, rfl, rfl, rfl, rfl, by unfold sumK; simp, H0.out, Below.refl _ _⟩
              case round =>
                obtain ⟨k, E, f, K, hk, rfl, rfl, hK, rfl, hsb, hrow, hb3⟩ := hrel
                have hb4 : Below V0.heap.size V0 wr := HB.out.2.1.trans (hb3.mono hbsz)
                by_cases hkM : k < M.length
                · obtain ⟨x, hx⟩ : ∃ x, M[k]? = some x := ⟨_, List.getElem?_eq_getElem hkM⟩
                  have hst : selW M s (k + 1) = selW M s k ++ if bitS s k then [x] else [] := by
                    show _ ++ (if bitS s k then [M.getD k 0] else []) = _
                    rw [kd_int M k hx]
                  have hMI := HR.out.2.1.below hb4 (Nat.le_refl _)
                  obtain ⟨gm, om, rfl, hgm, k0⟩ := iat_nat hMI hx
                  have hxl := (HR.out.2.2.1 x (List.mem_of_getElem? hx)).1
                  have hKl : K.length ≤ k := by rw [hK]; exact selW_len M s k
                  have hsz3 := hb3.size
                  have hsu : sumK h w G (K ++ [x]) = sumK h w G K + saved h w (use G x) := by unfold sumK; rw [sum_add1]
                  have hok := HS.out.1 x hxl
                  obtain ⟨sv0, sv1, _⟩ := HSV.out.1 _ hok
                  have hsc := HSV.out.2 _ hok
                  generalize hsme : sumK h w G K = sm at *
                  generalize saved h w (use G x) = sv at *
                  have HK := Lib.hid (And.intro hK (And.intro hrow (And.intro hb3 (And.intro hsu (And.intro hsc (And.intro hsme hxl))))))
                  clear hK hrow hb3 hMI hx hsu hsc hok hb4 hsme hxl
                  have hbit := bitP_int s k (by omega)
                  generalize bitS s k = bt at *
                  have hst2 := hst
                  cases bt with
                  | false =>
                    have HST := Lib.hid hst
                    clear hst hst2
                    go_wp2_with (fail)
                    go_roundw
                    case rel => exact ⟨k + 1, E, f, K, by omega, by go_num, rfl, by rw [HST.out, HK.out.1]; simp, by rw [HK.out.2.2.2.2.2.1], by rw [HK.out.2.2.2.2.2.1]; omega, HK.out.2.1, HK.out.2.2.1⟩
                    case measure => simp [intOf]; omega
                  | true =>
                    have HST := Lib.hid hst
                    clear hst hst2
                    go_upto_region 26 with (at_builtin; refine wpList_e EN Try.underlying33 int_info (by decide) ?_ (.tmp 76) (.tmp 78) ?_ wr2.heap.size E f K ?_ (HK.out.2.1.alloc _) (some ⟨wr.heap.size, 0, none⟩) 1 [x] ?_ (oneN _ _ x) (fun h => by cases h) ?_ ?_ ?_; (exact rfl); (exact rfl); (exact rfl); (exact rfl); (simp; omega); (simp; omega); intro A8 c8 w8 h8 b8 _ _; obtain ⟨U, hU⟩ : ∃ U, U = K ++ [x] := ⟨_, rfl⟩; rw [← hU] at h8 ⊢; have H8 := Lib.hid (And.intro h8 (And.intro b8 hU)); clear h8 b8 hU)
                    have hb38 : Below wr2.heap.size wr2 w8 := (HK.out.2.2.1.alloc hsz3 _).trans H8.out.2.1
                    have hb48 : Below V0.heap.size V0 w8 := HB.out.2.1.trans (hb38.mono hbsz)
                    have hGI := HR.out.2.2.2.2.1.below hb48 (Nat.le_refl _)
                    obtain ⟨gg, og, hB, hgg, c0, c1, c2⟩ := hGI.at HK.out.2.2.2.2.2.2
                    have t1 := cell_keep2 hb48 HR.out.2.2.2.2.2.2.1
                    rw [hB] at t1
                    have z0 := cell_keep2 hb38 HB.out.2.2.1
                    have z1 := cell_keep2 hb38 HB.out.2.2.2
                    have hxl := HK.out.2.2.2.2.2.2
                    have hsc := HK.out.2.2.2.2.1
                    generalize use G x = u at *
                    obtain ⟨gp, gf, gt⟩ := u
                    dsimp only at c0 c1 c2 hsc
                    have H9 := Lib.hid (And.intro hb38 hsc)
                    have hsz8 := hb38.size
                    clear hb38 hb48 hGI hsc hB
                    go_region_with (go_at_call 45; refine (H9.out.2 _).mono ?_; rintro e u1 ⟨rfl, hbq⟩)
                    all_goals
                      have hbc : Below w8.heap.size w8 u1 := ⟨hbq.os, hbq.tape, hbq.output, hbq.size, hbq.block⟩
                      have HBC := Lib.hid (And.intro (row_below H8.out.1 hbc) (H9.out.1.trans (hbc.mono hsz8)))
                      clear hbc c0 c1 c2 t1 z0 z1 hbq
                      go_wp2_with (fail)
                      go_roundw
                      case rel => exact ⟨k + 1, A8, c8, U, by omega, by go_num, rfl, by rw [HST.out, H8.out.2.2, HK.out.1]; rfl, by rw [H8.out.2.2, HK.out.2.2.2.1], by rw [H8.out.2.2, HK.out.2.2.2.1]; omega, HBC.out.1, HBC.out.2⟩
                      case measure => simp [intOf]; omega
                · obtain rfl : k = M.length := by omega
                  rw [← hK] at HN
                  have hasc : K.Pairwise (· < ·) := by rw [hK]; exact selW_asc HR.out.2.2.2.1 s _ (Nat.le_refl _)
                  have hKm : ∀ x, x ∈ K → x < G.length := fun x hx => by
                    rw [hK] at hx
                    obtain ⟨j, _, _, hj⟩ := selW_mem (Nat.le_refl _) hx
                    exact (HR.out.2.2.1 x (List.mem_of_getElem? hj)).1
                  have hKl : K.length ≤ M.length := by rw [hK]; exact selW_len M s _
                  have hKI := iat_N.2 (OwnE.at EN hrow).1
                  have hGr := HR.out.2.2.2.2.1.below hb4 (Nat.le_refl _)
                  have ht := cell_keep2 hb4 HR.out.2.2.2.2.2.2.1
                  have hbeI := HB.out.1.below hb3 (Nat.le_refl _)
                  have hfit := fun v => fun (hv : Below wr.heap.size wr v) => fit_ok t B0 d0 G E f K nn v (cell_keep2 hv ht) (hGr.below hv (Nat.le_refl _)) (hKI.below hv (Nat.le_refl _)) hKm hnb (Nat.le_trans hKl hMb) hGb
                  have hcmp := fun q => compare_ok E f K D e keep (wr.drewN q) (hKI.drew q) (hbeI.drew q)
                  have hlc := lcmp_lt K keep
                  have HF := Lib.hid (And.intro hfit (And.intro hcmp (And.intro hKI (And.intro hbeI hlc))))
                  have HVB := Lib.hid hb4
                  clear hrow hb3 hb4 hK hasc hKm hKI hGr ht hbeI hfit hcmp hlc
                  generalize sumK h w G K = x at *
                  have hbt : betterP (fitP G K nn) x K (best, keep) = (fitP G K nn && (decide (best < x) || (decide (x = best) && lessV K keep))) := rfl
                  generalize fitP G K nn = fb at *
                  generalize lessV K keep = lb at *
                  generalize lcmp K keep = lc at *
                  cases fb with
                  | false =>
                    have HBT := Lib.hid (HN.out.trans (if_neg (by rw [hbt]; simp)))
                    clear hbt
                    go_wp2_with (go_at_call 50; refine (HF.out.1 _ (Below.refl _ _)).mono ?_; rintro e w5 ⟨rfl, q5, rfl⟩)
                    have HV5 := Lib.hid (below_drewN HVB.out q5)
                    go_roundw
                    case rel => exact ⟨s + 1, D, e, by omega, by go_num, by rw [HBT.out], by rw [HBT.out], by rw [HBT.out]; exact HF.out.2.2.2.1.drew q5, HV5.out⟩
                    case measure => simp [intOf]; omega
                  | true =>
                    by_cases c1 : best < x
                    · have c1' : x > best := c1
                      have HBT := Lib.hid (HN.out.trans (if_pos (by rw [hbt]; simp [c1])))
                      clear hbt
                      go_wp2_with (go_at_call 50; refine (HF.out.1 _ (Below.refl _ _)).mono ?_; rintro e w5 ⟨rfl, q5, rfl⟩)
                      have HV5 := Lib.hid (below_drewN HVB.out q5)
                      go_roundw
                      case rel => exact ⟨s + 1, E, f, by omega, by go_num, by rw [HBT.out], by rw [HBT.out], by rw [HBT.out]; exact HF.out.2.2.1.drew q5, HV5.out⟩
                      case measure => simp [intOf]; omega
                    have c1' : ¬ x > best := c1
                    by_cases c3 : x = best
                    · have hbq : (x == best) = true := by simp [c3]
                      cases lb with
                      | true =>
                        have HBT := Lib.hid (HN.out.trans (if_pos (by rw [hbt]; simp [c3])))
                        have hlc0 : lc < 0 := HF.out.2.2.2.2.2 rfl
                        clear hbt c3
                        go_wp2_with (first | (go_at_call 50; refine (HF.out.1 _ (Below.refl _ _)).mono ?_; rintro e w5 ⟨rfl, q5, rfl⟩) | (go_at_call 51; refine (HF.out.2.1 _).mono ?_; rintro e w6 ⟨rfl, rfl⟩))
                        have HV5 := Lib.hid (below_drewN HVB.out q5)
                        go_roundw
                        case rel => exact ⟨s + 1, E, f, by omega, by go_num, by rw [HBT.out], by rw [HBT.out], by rw [HBT.out]; exact HF.out.2.2.1.drew q5, HV5.out⟩
                        case measure => simp [intOf]; omega
                      | false =>
                        have HBT := Lib.hid (HN.out.trans (if_neg (by rw [hbt]; simp [c1])))
                        have hlc0 : ¬ lc < 0 := fun e => by have := HF.out.2.2.2.2.1 e; cases this
                        clear hbt c3
                        go_wp2_with (first | (go_at_call 50; refine (HF.out.1 _ (Below.refl _ _)).mono ?_; rintro e w5 ⟨rfl, q5, rfl⟩) | (go_at_call 51; refine (HF.out.2.1 _).mono ?_; rintro e w6 ⟨rfl, rfl⟩))
                        have HV5 := Lib.hid (below_drewN HVB.out q5)
                        go_roundw
                        case rel => exact ⟨s + 1, D, e, by omega, by go_num, by rw [HBT.out], by rw [HBT.out], by rw [HBT.out]; exact HF.out.2.2.2.1.drew q5, HV5.out⟩
                        case measure => simp [intOf]; omega
                    · have hbq : (x == best) = false := by simp [c3]
                      have HBT := Lib.hid (HN.out.trans (if_neg (by rw [hbt]; simp [c1, c3])))
                      clear hbt c3
                      go_wp2_with (go_at_call 50; refine (HF.out.1 _ (Below.refl _ _)).mono ?_; rintro e w5 ⟨rfl, q5, rfl⟩)
                      have HV5 := Lib.hid (below_drewN HVB.out q5)
                      go_roundw
                      case rel => exact ⟨s + 1, D, e, by omega, by go_num, by rw [HBT.out], by rw [HBT.out], by rw [HBT.out]; exact HF.out.2.2.2.1.drew q5, HV5.out⟩
                      case measure => simp [intOf]; omega
            · obtain rfl : s = NN := Nat.le_antisymm hs (Nat.not_lt.1 hsN)
              clear hw2
              obtain ⟨N1, hN1e⟩ : ∃ N1, s = N1 + 1 := ⟨s - 1, by omega⟩
              have hpos : 0 ≤ (limP L h w M nn s).1 := by rw [hN1e]; exact HLS.out.2.1 N1
              have hlast := HLS.out.1 s
              have hlv := HLS.out.2.2.2
              rw [← HNN.out] at hlv
              have hb4 := hb2
              have hbv : Below v1.heap.size v1 wr2 := HR.out.2.2.2.2.2.2.2.trans (hb2.mono hsz)
              have hbW2 : Below W.heap.size W wr2 := by rw [← HBE.out]; exact HR.out.1.trans (hb2.mono (Nat.le_of_lt hbs0))
              have hdr := HE.out.2.2.2.2 wr2 hbv
              have hlw := mul_bd (a := (L.length : Int)) (b := w) (A := 200) (B := 1000000000) (by omega) w0 (by omega) w1
              obtain ⟨lw, hlwe⟩ : ∃ lw, lw = (L.length : Int) * w := ⟨_, rfl⟩
              rw [← hlwe] at hdr hlw hlast
              have hres : (limV L h w nn).2 = (limP L h w M nn s).2 ∧ (limV L h w nn).1 = lw - (limP L h w M nn s).1 := by
                rw [hlv]
                exact ⟨hlast.1.symm, by rcases hlast.2 with h9 | h9 <;> omega⟩
              generalize limP L h w M nn s = st at *
              obtain ⟨best, keep⟩ := st
              dsimp only at hbest hlsb hres ⊢
              have HY := Lib.hid (And.intro hbest (And.intro hdr (And.intro hres hbW2)))
              clear hbest hdr hres hbW2 hbv hb2 hb4 hlv hlast hlwe hN1e hzr
              go_wp2_with (go_at_call 44; refine HY.out.2.1.mono ?_; rintro e w7 ⟨rfl, hb7⟩; have HB7 := Lib.hid hb7; clear hb7)
              go_ret3
              rw [HV.out, HY.out.2.2.1.1, HY.out.2.2.1.2]
              exact ⟨fun e => absurd rfl e, fun _ => ⟨D, e, rfl, HY.out.1.below HB7.out (Nat.le_refl _)⟩, HY.out.2.2.2.trans (HB7.out.mono HY.out.2.2.2.size)⟩
  · have hne : (askV L h w != 0) = true := by simp [hask]
    have hE : limE L h w n (askV L h w) = askV L h w := by unfold limE; rw [if_pos hask]
    rw [hE]
    have HA := Lib.hid (both_bad A c L h w _ (hU.below hb (Nat.le_refl _)) hask)
    have HX := Lib.hid (And.intro hb hask)
    clear hb hnb hask hE hU
    unfold KeepOut
    generalize askV L h w = cv at *
    go_enter Try.func29, Try.ntmps29
    go_wp2_with (go_at_call 35; refine HA.out.mono ?_; rintro e w1 ⟨p, rfl, hb1⟩; have HB1 := Lib.hid hb1; clear hb1)
    go_ret3
    exact ⟨fun _ => rfl, fun e => absurd e HX.out.2, HX.out.1.trans (HB1.out.mono HX.out.1.size)⟩
end Py
end Go.Proofs.Ytnkkhbmbbkmfhaa
