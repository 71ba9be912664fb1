/- The program: Least. -/
import Derived.Test.YtnkkhbmbbkmfhaaJA5
namespace Go.Proofs.Ytnkkhbmbbkmfhaa
open Go.RowKit Go.Sort Go.Lib
namespace Py

set_option maxRecDepth 100000 in
set_option maxHeartbeats 4000000 in
theorem Least_ok (A : Option Addr) (c : Nat) (L : List PU) (h w : Int) (W : World) (hU : UAt W A c L) :
    Calls Try.prog 15 #[.slice A L.length c, cbx h w] W (KeepOut W (askV L h w) (leastL h w (gapsV L) (gapsV L).length) (leastV L h w)) := by
  have hb := below_box W (.cells #[.int .i64 h, .int .i64 w] 24)
  have hnb : (W.alloc (.cells #[.int .i64 h, .int .i64 w] 24)).heap[W.heap.size]? = some (.cells #[.int .i64 h, .int .i64 w] 24 (0, 0)) := by rw [heapAlloc, if_pos rfl]
  by_cases hask : askV L h w = 0
  · obtain ⟨hL, hc⟩ := ask_ok.1 hask
    have hlen := hL.len
    have h0 := hc.h0; have h1 := hc.h1; have w0 := hc.w0; have w1 := hc.w1
    have HA := Lib.hid (both_good A c L h w _ (hU.below hb (Nat.le_refl _)) hask)
    have HC := Lib.hid (And.intro hL (And.intro hc (And.intro hask hU)))
    have HX := Lib.hid (And.intro hb hnb)
    clear hL hc hask hU hb hnb
    unfold leastV
    go_enter Try.func15, Try.ntmps15
    go_upto_region 1 with (fail)
    generalize W.alloc (.cells #[.int .i64 h, .int .i64 w] 24) = V at *
    obtain ⟨b, hbe⟩ : ∃ b, b = W.heap.size := ⟨_, rfl⟩
    rw [← hbe] at HX ⊢
    have HBE := Lib.hid hbe
    clear hbe
    have x0 : V.cell? ⟨b, 0, none⟩ = some (.int .i64 h) := by rw [cell_of_row _ _ _ _ _ _ HX.out.2]; rfl
    have x1 : V.cell? ⟨b, 1, none⟩ = some (.int .i64 w) := by rw [cell_of_row _ _ _ _ _ _ HX.out.2]; rfl
    go_upto_region 2 with (go_at_call 35; refine HA.out.mono ?_; rintro e v1 ⟨t, rfl, htr, hb1⟩)
    have hz : v1.heap[b]? = some (.cells #[.int .i64 h, .int .i64 w] 24 (0, 0)) := by rw [hb1.block b (lt_of_heap HX.out.2)]; exact HX.out.2
    have y0 := cell_keep2 hb1 x0
    have y1 := cell_keep2 hb1 x1
    have hW1 : Below b W v1 := HX.out.1.trans (hb1.mono (by rw [HBE.out]; have := HX.out.1.size; exact this))
    have HD := Lib.hid (dropped_ok t A c L h w HC.out.2.1 hlen v1 htr)
    have HB1 := Lib.hid (And.intro htr (And.intro hz hW1))
    have hbs : b < v1.heap.size := lt_of_heap hz
    clear htr hb1 hz hW1 x0 x1
    go_upto_region 5 with (go_at_call 44; refine HD.out.mono ?_; rintro e w2 ⟨rfl, hb2⟩)
    have htr2 := HB1.out.1.below hb2
    have hz2 : w2.heap[b]? = some (.cells #[.int .i64 h, .int .i64 w] 24 (0, 0)) := by rw [hb2.block b hbs]; exact HB1.out.2.1
    have hW2 : Below b W w2 := HB1.out.2.2.trans (hb2.mono (Nat.le_of_lt hbs))
    obtain ⟨B0, d0, mb, n0, D0, e1, e2, _⟩ := htr2.ex
    have t1 : w2.cell? ⟨t, 1, none⟩ = some (.slice B0 (gapsV L).length d0) := by rw [cell_of_row _ _ _ _ _ _ e1]; rfl
    have hcm := e2.2.1
    have hcl := e2.1
    have hgl := gapsV_len L
    unfold maxLen at hcm
    have HE := Lib.hid (And.intro (uat_e.2 e2) (And.intro hz2 hW2))
    clear hb2 htr2 hz2 hW2 e1 e2 y0 y1
    have hsv : ∀ i, i < (gapsV L).length → OkG (use (gapsV L) i) := fun i hi => use_okG HC.out.1 hi
    have hls := leastL_succ h w (gapsV L)
    have hlc : ∀ k, leastS h w (gapsV L) (k + 1) = leastS h w (gapsV L) k + if 0 ≤ saved h w (use (gapsV L) k) then saved h w (use (gapsV L) k) else 0 := fun k => rfl
    have hlb := leastS_bd HC.out.2.1 (G := gapsV L) (fun g hg => ok_gaps HC.out.1 hg)
    have HS := Lib.hid (And.intro hsv (And.intro hls (And.intro hlc hlb)))
    clear hsv hls hlc hlb
    generalize gapsV L = G at *
    obtain ⟨lw, hlw⟩ : ∃ lw, lw = (L.length : Int) * w := ⟨_, rfl⟩
    have HLW := Lib.hid hlw
    have hlwb : 0 ≤ lw ∧ lw ≤ 200000000000 := by rw [hlw]; have := mul_bd (a := (L.length : Int)) (b := w) (A := 200) (B := 1000000000) (by omega) w0 (by omega) w1; omega
    rw [← hlw]
    clear hlw
    have H0 := Lib.hid (owne_nil (enc := enN) (k := 1) w2 w2.heap.size 3)
    have hz0 : leastS h w G 0 = 0 := rfl
    have HZ0 := Lib.hid hz0
    clear hz0
    go_wp2_with (fail)
    go_loopw [4, 5, 28] (fun v x i wr => ∃ (k : Nat) (B : Option Addr) (d : Nat) (M : List Nat), k ≤ G.length ∧ i = .int .i64 k ∧ v = .slice B M.length d ∧ x = .int .i64 (lw - leastS h w G k) ∧ M = leastL h w G k ∧ M.length ≤ k ∧ OwnE enN 1 wr w2.heap.size 3 B d M ∧ Below w2.heap.size w2 wr) (fun _ _ i _ => G.length - (intOf i).toNat)
    case atStart => exact ⟨0, none, 0, [], Nat.zero_le _, rfl, rfl, by rw [HZ0.out, Int.sub_zero], rfl, Nat.le_refl _, H0.out, Below.refl _ _⟩
    case round =>
      obtain ⟨k, B, d, M, hk, rfl, rfl, rfl, hM, hMl, hrow, hbw⟩ := hrel
      by_cases hlt : k < G.length
      · have hX := HE.out.1.below hbw (Nat.le_refl _)
        have hzr : wr.heap[b]? = some (.cells #[.int .i64 h, .int .i64 w] 24 (0, 0)) := by rw [hbw.block b (lt_of_heap HE.out.2.1)]; exact HE.out.2.1
        have hok := HS.out.1 k hlt
        have hnx := HS.out.2.1 k
        have hnc := HS.out.2.2.1 k
        have hlb := HS.out.2.2.2 k hk
        have hsb := saved_bd HC.out.2.1 hok
        have hsc := fun V => saved_ok h w (use G k) HC.out.2.1 hok V
        obtain ⟨g, o, rfl, hg, c0, c1, c2⟩ := hX.at hlt
        have hsz := hbw.size
        generalize saved h w (use G k) = sv at *
        generalize leastS h w G k = ls at *
        generalize use G k = u at *
        have hkw : (k : Int) * w ≤ 200000000000 := by have := (mul_bd (a := (k : Int)) (b := w) (A := 200) (B := 1000000000) (by omega) w0 (by omega) w1).2; omega
        have HR := Lib.hid (And.intro hM (And.intro hrow (And.intro hbw (And.intro hnx (And.intro hnc (And.intro hzr hsc))))))
        obtain ⟨ls0, ls1⟩ := hlb
        have ls2 : ls ≤ 200000000000 := by omega
        obtain ⟨sv0, sv1, _⟩ := hsb
        clear hX hok hM hrow hbw hnx hnc hzr hsc hkw ls1
        obtain ⟨gp, gf, gt⟩ := u
        dsimp only at c0 c1 c2 HR
        go_upto_region 8 with (fail)
        obtain ⟨V1, hV1⟩ : ∃ V1, V1 = wr.alloc (.cells #[.int .i64 gp, .int .i64 gf, .int .i64 gt] 66) := ⟨_, rfl⟩
        rw [← hV1]
        obtain ⟨ub, hub⟩ : ∃ ub, ub = wr.heap.size := ⟨_, rfl⟩
        rw [← hub]
        have hbx : V1.heap[ub]? = some (.cells #[.int .i64 gp, .int .i64 gf, .int .i64 gt] 66 (0, 0)) := by rw [hV1, hub, heapAlloc, if_pos rfl]
        have hbV : Below wr.heap.size wr V1 := by rw [hV1]; exact below_box _ _
        have hzV : V1.heap[b]? = some (.cells #[.int .i64 h, .int .i64 w] 24 (0, 0)) := by rw [hbV.block b (lt_of_heap HR.out.2.2.2.2.2.1)]; exact HR.out.2.2.2.2.2.1
        obtain ⟨u0, u1, u2⟩ := three_at hbx
        have z0 : V1.cell? ⟨b, 0, none⟩ = some (.int .i64 h) := by rw [cell_of_row _ _ _ _ _ _ hzV]; rfl
        have z1 : V1.cell? ⟨b, 1, none⟩ = some (.int .i64 w) := by rw [cell_of_row _ _ _ _ _ _ hzV]; rfl
        have HV1 := Lib.hid (row_below HR.out.2.1 hbV)
        have HV2 := Lib.hid (HR.out.2.2.1.trans (hbV.mono hsz))
        have hsz1 : w2.heap.size ≤ V1.heap.size := Nat.le_trans hsz hbV.size
        clear hV1 hub hbx hbV hzV c0 c1 c2
        go_upto_region 9 with (go_at_call 45; refine (HR.out.2.2.2.2.2.2 _).mono ?_; rintro e w5 ⟨rfl, hb5⟩)
        have HV5 := Lib.hid (row_below HV1.out hb5)
        have HV6 := Lib.hid (HV2.out.trans (hb5.mono hsz1))
        have hsz5 : w2.heap.size ≤ w5.heap.size := Nat.le_trans hsz1 hb5.size
        clear hb5 u0 u1 u2 z0 z1
        by_cases hm : 0 ≤ sv
        · have hm' : sv ≥ 0 := hm
          have HN := Lib.hid (And.intro (HR.out.2.2.2.1.trans (if_pos hm)) (HR.out.2.2.2.2.1.trans (by rw [if_pos hm])))
          go_wp2_with (at_builtin; refine wpList_e EN Try.underlying33 int_info (by decide) ?_ (.tmp 38) (.tmp 40) ?_ w2.heap.size B d M ?_ (HV5.out.alloc _) (some ⟨w5.heap.size, 0, none⟩) 1 [k] ?_ (oneN _ _ k) (fun h => by cases h) ?_ ?_ ?_; (exact rfl); (exact rfl); (exact rfl); (exact rfl); (simp; omega); (simp; omega); intro A8 c8 w8 h8 b8 _ _; obtain ⟨U, hU⟩ : ∃ U, U = M ++ [k] := ⟨_, rfl⟩; rw [← hU] at h8 ⊢; have H8 := Lib.hid (And.intro h8 (And.intro b8 hU)); clear h8 b8 hU)
          go_roundw
          case rel => exact ⟨k + 1, A8, c8, U, by omega, by go_num, rfl, by rw [HN.out.2]; congr 1; omega, by rw [HN.out.1, H8.out.2.2, HR.out.1], by rw [H8.out.2.2]; simp; omega, H8.out.1, (HV6.out.alloc hsz5 _).trans H8.out.2.1⟩
          case measure => simp [intOf]; omega
        · have hm' : ¬ sv ≥ 0 := hm
          have HN := Lib.hid (And.intro (HR.out.2.2.2.1.trans (if_neg hm)) (HR.out.2.2.2.2.1.trans (by rw [if_neg hm, Int.add_zero])))
          go_wp2_with (fail)
          go_roundw
          case rel => exact ⟨k + 1, B, d, M, by omega, by go_num, rfl, by rw [HN.out.2], by rw [HN.out.1, HR.out.1], by omega, HV5.out, HV6.out⟩
          case measure => simp [intOf]; omega
      · obtain rfl : k = G.length := by omega
        subst hM
        have hbW : Below W.heap.size W wr := by rw [← HBE.out]; exact HE.out.2.2.trans (hbw.mono (Nat.le_of_lt (lt_of_heap HE.out.2.1)))
        have HR := Lib.hid (And.intro hbW (iat_N.2 (OwnE.at EN hrow).1))
        clear hrow hbw hbW
        go_wp2
        go_ret3
        rw [← HLW.out]
        exact ⟨fun e => absurd HC.out.2.2.1 e, fun _ => ⟨B, d, rfl, HR.out.2⟩, HR.out.1⟩
  · have HA := Lib.hid (both_bad A c L h w _ (hU.below hb (Nat.le_refl _)) hask)
    have hne : (askV L h w != 0) = true := by simp [hask]
    have HX := Lib.hid (And.intro hb hask)
    clear hb hnb hask hU
    unfold KeepOut
    generalize askV L h w = cv at *
    go_enter Try.func15, Try.ntmps15
    go_wp2_with (go_at_call 35; refine HA.out.mono ?_; rintro e w1 ⟨p, rfl, hb1⟩; have HB1 := Lib.hid hb1; clear hb1)
    go_ret3
    exact ⟨fun _ => rfl, fun e => absurd e HX.out.2, HX.out.1.trans (HB1.out.mono HX.out.1.size)⟩
end Py
end Go.Proofs.Ytnkkhbmbbkmfhaa
