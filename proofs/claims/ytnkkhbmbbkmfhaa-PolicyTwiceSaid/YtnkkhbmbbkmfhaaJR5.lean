/- The specification: Kept. -/
import Derived.Test.YtnkkhbmbbkmfhaaJR4
namespace Go.Proofs.Ytnkkhbmbbkmfhaa
open Go.RowKit
namespace Py

theorem EAt.drew {α : Type} {enc : α → List Value} {k : Nat} {w : World} {A : Option Addr} {c : Nat} {L : List α} (h : EAt enc k w A c L) (q : Nat) : EAt enc k (w.drewN q) A c L := h
theorem IAt.drew {w : World} {A : Option Addr} {c : Nat} {M : List Int} (h : IAt w A c M) (q : Nat) : IAt (w.drewN q) A c M := h
attribute [local irreducible] wpQuiet
set_option maxRecDepth 100000 in
set_option maxHeartbeats 4000000 in
theorem keptR_ok (A : Option Addr) (c : Nat) (L : List PU) (h w : Int) (B : Option Addr) (d : Nat) (K : List Nat) (W : World) (hU : UAt W A c L) (hK : IAt W B d (zs K)) (hL : OkL L) (hc : OkC h w) :
    Calls Try.prog 32 #[.slice A L.length c, cbx h w, .slice B K.length d] W fun e w' => e = .returned (.int .i64 (keptV L h w K)) ∧ Below W.heap.size W w' := by
  have hcap := hU.2.1
  have hlc := hU.1
  have hlen := hL.len
  unfold maxLen at hcap
  have hb := below_box W (.cells #[.int .i64 h, .int .i64 w] 24)
  have hnb : (W.alloc (.cells #[.int .i64 h, .int .i64 w] 24)).heap[W.heap.size]? = some (.cells #[.int .i64 h, .int .i64 w] 24 (0, 0)) := by rw [heapAlloc, if_pos rfl]
  have hX := hU.below hb (Nat.le_refl _)
  have hY := hK.below hb (Nat.le_refl _)
  have hwb : W.heap.size < (W.alloc (.cells #[.int .i64 h, .int .i64 w] 24)).heap.size := by simp
  have HX := Lib.hid (And.intro hX (And.intro hY (And.intro hb (And.intro hnb hwb))))
  have h0 := hc.h0; have h1 := hc.h1; have w0 := hc.w0; have w1 := hc.w1
  have HC := Lib.hid (And.intro hL hc)
  have hz : firK L w 0 = 0 := by unfold firK; rw [List.take_zero]; show ((0 : Nat) : Int) * w = 0; simp
  have hK1 := kept_K L h w K
  have HK := Lib.hid (And.intro hz hK1)
  clear hU hb hnb hX hY hL hc hK hK1 hz hwb
  go_enter Try.func32, Try.ntmps32
  go_upto_region 1 with (fail)
  generalize hV : W.alloc (.cells #[.int .i64 h, .int .i64 w] 24) = V at *
  obtain ⟨b, hbe⟩ : ∃ b, b = W.heap.size := ⟨_, rfl⟩
  rw [← hbe] at HX ⊢
  have HW := Lib.hid (And.intro hV hbe)
  clear hV hbe
  have z0 : V.cell? ⟨b, 0, none⟩ = some (.int .i64 h) := by rw [cell_of_row _ _ _ _ _ _ HX.out.2.2.2.1]; rfl
  have z1 : V.cell? ⟨b, 1, none⟩ = some (.int .i64 w) := by rw [cell_of_row _ _ _ _ _ _ HX.out.2.2.2.1]; rfl
  go_wp2_with (fail)
  go_loopw [7, 8] (fun n i wr => ∃ k : Nat, k ≤ L.length ∧ i = .int .i64 k ∧ n = .int .i64 (firK L w k) ∧ ∃ q, wr = V.drewN q) (fun _ i _ => L.length - (intOf i).toNat)
  case atStart => exact ⟨0, Nat.zero_le _, rfl, by rw [HK.out.1], 0, rfl⟩
  case round =>
    obtain ⟨k, hk, rfl, rfl, q, hq⟩ := hrel
    have x1 : wr.cell? ⟨b, 1, none⟩ = some (.int .i64 w) := by rw [hq]; exact z1
    have hX := HX.out.1.drew q
    rw [← hq] at hX
    have HQ := Lib.hid hq
    have hnb := firK_bd (L := L) w0 w1 k hk
    by_cases hlt : k < L.length
    · clear hq z0 z1
      have hF := firstR_ok A c L k hlt wr hX
      have hnx := firK_next hlt w
      generalize hfb : firstB L k = fb at *
      generalize firK L w k = n at *
      have HF := Lib.hid hF
      have hfirst : ∀ P : Prop, ((fb = true ∧ n + w = firK L w (k + 1)) → P) → ((fb = false ∧ n = firK L w (k + 1)) → P) → P := fun P a b => by
        cases fb with
        | true => exact a ⟨rfl, by rw [hnx]; simp⟩
        | false => exact b ⟨rfl, by rw [hnx]; simp⟩
      clear hnx hF hX
      generalize hn1e : firK L w (k + 1) = n1 at *
      have HN1 := Lib.hid hn1e
      clear hn1e
      refine hfirst _ ?_ ?_
      all_goals
        rintro ⟨rfl, e1⟩
        go_wp2_with (first
          | (go_at_call 53; refine HF.out.mono ?_; rintro e w1 ⟨rfl, q1, rfl⟩))
        go_roundw
        case rel => exact ⟨k + 1, by omega, by go_num, by rw [HN1.out], _, by rw [HQ.out, drew_drewN]⟩
        case measure => simp [intOf]; omega
    · obtain rfl : k = L.length := by omega
      have hg := gapsR_ok A c L wr hX hlen
      have HG := Lib.hid hg
      have hVs : wr.heap.size = V.heap.size := by rw [hq]; rfl
      have hbb : b < V.heap.size := by
        have := HX.out.2.2.2.2
        exact this
      have HVS := Lib.hid hVs
      have hBW : Below W.heap.size W wr := by
        have e1 : Below W.heap.size W V := by rw [← HW.out.2]; exact HX.out.2.2.1
        rw [hq]; exact below_drewN e1 _
      have HBW := Lib.hid hBW
      clear hBW
      have hY := HX.out.2.1.drew q
      rw [← hq] at hY
      have HY := Lib.hid hY
      have x0 : wr.cell? ⟨b, 0, none⟩ = some (.int .i64 h) := by rw [hq]; exact z0
      have HXX := Lib.hid (And.intro x0 x1)
      clear hg hX hY hq z0 z1 x0 x1 hVs
      generalize firK L w L.length = n0 at *
      go_upto_region 8 with (go_at_call 49; refine HG.out.mono ?_; rintro e w2 ⟨A2, c2, rfl, hr2, hb2⟩)
      have hea := (OwnE.at EU hr2).1
      have hcm := hea.2.1
      have hcl := hea.1
      have hgl := gapsV_len L
      unfold maxLen at hcm
      have z0 := cell_keep2 hb2 HXX.out.1
      have z1 := cell_keep2 hb2 HXX.out.2
      have hki := HY.out.below hb2 (Nat.le_refl _)
      have HE := Lib.hid (And.intro (uat_e.2 hea) (And.intro hki hb2))
      clear hr2 hb2 hea hki
      have hgo : ∀ i, i < (gapsV L).length → OkG (use (gapsV L) i) := fun i hi => use_okG HC.out.1 hi
      have hkb : ∀ i, i ≤ (gapsV L).length → 0 ≤ keptS h w (gapsV L) K i ∧ keptS h w (gapsV L) K i ≤ (i : Int) * 1001000000000 := fun i hi => keptS_bd HC.out.2 (fun g hg => ok_gaps HC.out.1 hg) K i hi
      have hks : ∀ i, keptS h w (gapsV L) K (i + 1) = keptS h w (gapsV L) K i + if i ∈ K then ((use (gapsV L) i).t - (use (gapsV L) i).f) * h else w := fun i => rfl
      have hks0 : keptS h w (gapsV L) K 0 = 0 := rfl
      have hsv : ∀ g, OkG g → 0 ≤ (g.t - g.f) * h ∧ (g.t - g.f) * h ≤ 1000000000000 := fun g hg => ⟨(saved_bd HC.out.2 hg).2.2.1, (saved_bd HC.out.2 hg).2.2.2⟩
      have HKB := Lib.hid (And.intro hgo (And.intro hkb (And.intro hks (And.intro hsv hks0))))
      clear hgo hkb hks hsv hks0
      generalize gapsV L = G at *
      go_wp2_with (fail)
      go_loopw [7, 10] (fun n i wr => ∃ k : Nat, k ≤ G.length ∧ i = .int .i64 k ∧ n = .int .i64 (n0 + keptS h w G K k) ∧ ∃ q, wr = w2.drewN q) (fun _ i _ => G.length - (intOf i).toNat)
      case atStart => exact ⟨0, Nat.zero_le _, rfl, by rw [HKB.out.2.2.2.2, Int.add_zero], 0, rfl⟩
      case round =>
        obtain ⟨k, hk, rfl, rfl, q2, hq2⟩ := hrel
        have y0 : wr.cell? ⟨b, 0, none⟩ = some (.int .i64 h) := by rw [hq2]; exact z0
        have y1 : wr.cell? ⟨b, 1, none⟩ = some (.int .i64 w) := by rw [hq2]; exact z1
        have hX := HE.out.1.drew q2
        have hY := HE.out.2.1.drew q2
        rw [← hq2] at hX hY
        have HQ2 := Lib.hid hq2
        clear hq2 z0 z1
        by_cases hlt : k < G.length
        · have hI := inL_ok B d K k wr hY
          have hok := HKB.out.1 k hlt
          have hpb := HKB.out.2.2.2.1 _ hok
          have hkb := HKB.out.2.1 k hk
          have hns := HKB.out.2.2.1 k
          have hft := hok.ft
          have hf0 := hok.f0
          have ht1 := hok.t1
          obtain ⟨g, o, rfl, hg, c0, c1, c2⟩ := hX.at hlt
          generalize use G k = u at *
          obtain ⟨gp, gf, gt⟩ := u
          dsimp only at hpb hns hft hf0 ht1 c1 c2
          generalize keptS h w G K k = n at *
          obtain ⟨x, hx⟩ : ∃ x, x = (gt - gf) * h := ⟨_, rfl⟩
          rw [← hx] at hpb hns
          have q3 : (gt - gf) * h = x := hx.symm
          have HI := Lib.hid hI
          clear hI hX hY hx hok c0
          by_cases hm : k ∈ K
          · rw [if_pos hm] at hns
            rw [decide_eq_true hm] at HI
            have HN := Lib.hid hns
            clear hns hm
            go_upto_region 12 with (go_at_call 54; refine HI.out.mono ?_; rintro e w3 ⟨rfl, rfl⟩)
            go_quiet (fail)
            go_wp2_with (fail)
            go_roundw
            case rel => exact ⟨k + 1, by omega, by go_num, by rw [HN.out]; congr 1; omega, _, by rw [HQ2.out, drew_drewN]⟩
            case measure => simp [intOf]; omega
          · rw [if_neg hm] at hns
            rw [decide_eq_false hm] at HI
            have HN := Lib.hid hns
            clear hns hm
            go_wp2_with (go_at_call 54; refine HI.out.mono ?_; rintro e w3 ⟨rfl, rfl⟩)
            go_roundw
            case rel => exact ⟨k + 1, by omega, by go_num, by rw [HN.out]; congr 1; omega, _, HQ2.out⟩
            case measure => simp [intOf]; omega
        · obtain rfl : k = G.length := by omega
          have HVX := Lib.hid hX
          clear hX hY
          go_wp2
          go_ret
          refine ⟨by rw [HK.out.2]; rfl, ?_⟩
          rw [HQ2.out]
          exact below_drewN (HBW.out.trans (HE.out.2.2.mono HBW.out.size)) _
end Py
end Go.Proofs.Ytnkkhbmbbkmfhaa
