/- The specification: Least, Fit, less. -/
import Derived.Test.YtnkkhbmbbkmfhaaJR5
import Derived.Test.YtnkkhbmbbkmfhaaJM3
namespace Go.Proofs.Ytnkkhbmbbkmfhaa
open Go.RowKit
namespace Py

/-- What a call that returns gaps to keep, and a cost, says. -/
def KeepOut (w : World) (x : Int) (K : List Nat) (cost : Int) (e : Ending) (w' : World) : Prop :=
  (x ≠ 0 → e = .returned (.tuple #[.slice none 0 0, .int .i64 0, .int .i64 x])) ∧ (x = 0 → ∃ A' c', e = .returned (.tuple #[.slice A' K.length c', .int .i64 cost, .int .i64 0]) ∧ IAt w' A' c' (zs K)) ∧ Below w.heap.size w w'
theorem ask_ok {L : List PU} {h w : Int} : askV L h w = 0 ↔ OkL L ∧ OkC h w := by
  unfold askV
  split
  · next e => rw [costV_ok]; exact ⟨fun h => ⟨(checkV_ok L).1 e, h⟩, fun h => h.2⟩
  · next e => exact ⟨fun h => absurd h e, fun h => absurd ((checkV_ok L).2 h.1) e⟩
attribute [local irreducible] wpQuiet
set_option maxRecDepth 100000 in
set_option maxHeartbeats 4000000 in
theorem leastR_ok (A : Option Addr) (c : Nat) (L : List PU) (h w : Int) (W : World) (hU : UAt W A c L) :
    Calls Try.prog 23 #[.slice A L.length c, cbx h w] W (KeepOut W (askV L h w) (leastL h w (gapsV L) (gapsV L).length) (leastV L h w)) := by
  have hb := below_box W (.cells #[.int .i64 h, .int .i64 w] 24)
  have hnb : (W.alloc (.cells #[.int .i64 h, .int .i64 w] 24)).heap[W.heap.size]? = some (.cells #[.int .i64 h, .int .i64 w] 24 (0, 0)) := by rw [heapAlloc, if_pos rfl]
  have hA := askedR_ok A c L h w _ (hU.below hb (Nat.le_refl _))
  by_cases hask : askV L h w = 0
  · obtain ⟨hL, hc⟩ := ask_ok.1 hask
    have hlen := hL.len
    have h0 := hc.h0; have h1 := hc.h1; have w0 := hc.w0; have w1 := hc.w1
    have hcap := hU.2.1
    have hlc := hU.1
    unfold maxLen at hcap
    rw [hask] at hA
    have HC := Lib.hid (And.intro hL (And.intro hc (And.intro hask hU)))
    have HA := Lib.hid hA
    have HX := Lib.hid (And.intro hb hnb)
    clear hL hc hask hU hb hnb hA
    go_enter Try.func23, Try.ntmps23
    go_upto_region 2 with (go_at_call 40; refine HA.out.mono ?_; rintro e w1 ⟨rfl, hb1⟩)
    have hw1 : Below W.heap.size W w1 := HX.out.1.trans (hb1.mono HX.out.1.size)
    have hz := hb1.block W.heap.size (by simp)
    rw [HX.out.2] at hz
    have HW1 := Lib.hid (And.intro hw1 hz)
    have hg := gapsR_ok A c L w1 (HC.out.2.2.2.below hw1 (Nat.le_refl _)) hlen
    have HG := Lib.hid hg
    clear hw1 hz hg hb1
    obtain ⟨b, hbe⟩ : ∃ b, b = W.heap.size := ⟨_, rfl⟩
    rw [← hbe] at HW1 ⊢
    have HBE := Lib.hid hbe
    clear hbe
    go_upto_region 5 with (go_at_call 49; refine HG.out.mono ?_; rintro e w2 ⟨A2, c2, rfl, hr2, hb2⟩)
    have hea := (OwnE.at EU hr2).1
    have hcm := hea.2.1
    have hcl := hea.1
    have hgl := gapsV_len L
    unfold maxLen at hcm
    have hz2 : w2.heap[b]? = some (.cells #[.int .i64 h, .int .i64 w] 24 (0, 0)) := by rw [hb2.block b (lt_of_heap HW1.out.2)]; exact HW1.out.2
    have hW2 : Below b W w2 := by have := HW1.out.1; exact this.trans (hb2.mono (by rw [HBE.out]; exact this.size))
    have HE := Lib.hid (And.intro (uat_e.2 hea) (And.intro hz2 hW2))
    clear hr2 hb2 hea hz2 hW2
    have hsv : ∀ i, i < (gapsV L).length → OkG (use (gapsV L) i) ∧ 0 ≤ ((use (gapsV L) i).t - (use (gapsV L) i).f) * h ∧ ((use (gapsV L) i).t - (use (gapsV L) i).f) * h ≤ 1000000000000 ∧ (0 ≤ saved h w (use (gapsV L) i) ↔ ((use (gapsV L) i).t - (use (gapsV L) i).f) * h ≤ w) := fun i hi => by
      have hok := use_okG HC.out.1 hi
      have := saved_bd HC.out.2.1 hok
      exact ⟨hok, this.2.2.1, this.2.2.2, by unfold saved; omega⟩
    have hls := leastL_succ h w (gapsV L)
    have hfin := least_kept L h w
    have HS := Lib.hid (And.intro hsv (And.intro hls hfin))
    clear hsv hls hfin
    generalize gapsV L = G at *
    have H0 := Lib.hid (owne_nil (enc := enN) (k := 1) w2 w2.heap.size 3)
    go_wp2_with (fail)
    go_loopw [9, 10] (fun v i wr => ∃ (k : Nat) (B : Option Addr) (d : Nat) (M : List Nat), k ≤ G.length ∧ i = .int .i64 k ∧ v = .slice B M.length d ∧ M = leastL h w G k ∧ M.length ≤ k ∧ OwnE enN 1 wr w2.heap.size 3 B d M ∧ Below w2.heap.size w2 wr) (fun _ i _ => G.length - (intOf i).toNat)
    case atStart => exact ⟨0, none, 0, [], Nat.zero_le _, rfl, rfl, rfl, Nat.le_refl _, H0.out, Below.refl _ _⟩
    case round =>
      obtain ⟨k, B, d, M, hk, rfl, rfl, hM, hMl, hrow, hbw⟩ := hrel
      have hX := HE.out.1.below hbw (Nat.le_refl _)
      have hzr : wr.heap[b]? = some (.cells #[.int .i64 h, .int .i64 w] 24 (0, 0)) := by rw [hbw.block b (lt_of_heap HE.out.2.1)]; exact HE.out.2.1
      have z0 : wr.cell? ⟨b, 0, none⟩ = some (.int .i64 h) := by rw [cell_of_row _ _ _ _ _ _ hzr]; rfl
      have z1 : wr.cell? ⟨b, 1, none⟩ = some (.int .i64 w) := by rw [cell_of_row _ _ _ _ _ _ hzr]; rfl
      by_cases hlt : k < G.length
      · obtain ⟨hok, hp0, hp1, hiff⟩ := HS.out.1 k hlt
        have hnx := HS.out.2.1 k
        have hft := hok.ft
        have hf0 := hok.f0
        have ht1 := hok.t1
        obtain ⟨g, o, rfl, hg, c0, c1, c2⟩ := hX.at hlt
        generalize saved h w (use G k) = sv at *
        generalize use G k = u at *
        obtain ⟨gp, gf, gt⟩ := u
        dsimp only at hp0 hp1 hiff hft hf0 ht1 c1 c2
        obtain ⟨x, hx⟩ : ∃ x, x = (gt - gf) * h := ⟨_, rfl⟩
        rw [← hx] at hp0 hp1 hiff
        have q3 : (gt - gf) * h = x := hx.symm
        have HR := Lib.hid (And.intro hM (And.intro hrow hbw))
        have hsz := hbw.size
        clear hX hx hok c0 hM hrow hbw hzr
        by_cases hm : x ≤ w
        · rw [if_pos (hiff.2 hm)] at hnx
          have HN := Lib.hid hnx
          clear hnx hiff
          go_upto_region 9 with (fail)
          go_quiet (fail)
          go_wp2_with (at_builtin; refine wpList_e EN Try.underlying33 int_info (by decide) ?_ (.tmp 42) (.tmp 44) ?_ w2.heap.size B d M ?_ (HR.out.2.1.alloc _) (some ⟨wr.heap.size, 0, none⟩) 1 [k] ?_ (oneN _ _ k) (fun h => by cases h) ?_ ?_ ?_; (exact rfl); (exact rfl); (exact rfl); (exact rfl); (simp; omega); (simp; omega); intro A8 c8 w8 h8 b8 _ _; obtain ⟨U, hU⟩ : ∃ U, U = M ++ [k] := ⟨_, rfl⟩; rw [← hU] at h8 ⊢; have H8 := Lib.hid (And.intro h8 (And.intro b8 hU)); clear h8 b8 hU)
          go_roundw
          case rel => exact ⟨k + 1, A8, c8, U, by omega, by go_num, rfl, by rw [HN.out, H8.out.2.2, HR.out.1], by rw [H8.out.2.2]; simp; omega, H8.out.1, ((below_drewN HR.out.2.2 nq).alloc hsz _).trans H8.out.2.1⟩
          case measure => simp [intOf]; omega
        · rw [if_neg (fun e => hm (hiff.1 e))] at hnx
          have HN := Lib.hid hnx
          clear hnx hiff
          go_upto_region 9 with (fail)
          go_quiet (fail)
          go_wp2_with (fail)
          go_roundw
          case rel => exact ⟨k + 1, B, d, M, by omega, by go_num, rfl, by rw [HN.out, HR.out.1], by omega, HR.out.2.1, below_drewN HR.out.2.2 _⟩
          case measure => simp [intOf]; omega
      · obtain rfl : k = G.length := by omega
        subst hM
        have hbW : Below W.heap.size W wr := by rw [← HBE.out]; exact HE.out.2.2.trans (hbw.mono (by rw [HBE.out]; exact HE.out.2.2.size))
        have hrI := iat_N.2 (OwnE.at EN hrow).1
        have hkk := keptR_ok A c L h w B d _ wr (HC.out.2.2.2.below hbW (Nat.le_refl _)) hrI HC.out.1 HC.out.2.1
        rw [HS.out.2.2] at hkk
        have HK := Lib.hid hkk
        have HR := Lib.hid (And.intro hbW hrI)
        clear hX hzr hrow hbw hbW hrI hkk
        generalize leastL h w G G.length = M at *
        generalize leastV L h w = lv at *
        go_wp2_with (go_at_call 32; refine HK.out.mono ?_; rintro e w4 ⟨rfl, hb4⟩; have HB4 := Lib.hid hb4; clear hb4)
        go_ret3
        exact ⟨fun e => absurd HC.out.2.2.1 e, fun _ => ⟨B, d, rfl, HR.out.2.below HB4.out (Nat.le_refl _)⟩, HR.out.1.trans (HB4.out.mono HR.out.1.size)⟩
  · have hne : (askV L h w != 0) = true := by simp [hask]
    have HA := Lib.hid hA
    have HX := Lib.hid (And.intro hb hask)
    clear hA hb hnb hask
    unfold KeepOut
    generalize askV L h w = cv at *
    go_enter Try.func23, Try.ntmps23
    go_wp2_with (go_at_call 40; refine HA.out.mono ?_; rintro e w1 ⟨rfl, hb1⟩; have HB1 := Lib.hid hb1; clear hb1)
    go_ret3
    exact ⟨fun _ => rfl, fun e => absurd e HX.out.2, HX.out.1.trans (HB1.out.mono HX.out.1.size)⟩
end Py
end Go.Proofs.Ytnkkhbmbbkmfhaa
