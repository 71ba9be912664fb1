/- PolicyLimits: the walk. -/
import Derived.Test.YtnkkhbmbbkmfhaaJS3
namespace Go.Proofs.Ytnkkhbmbbkmfhaa
open Go.RowKit Go.Sort Go.Lib
namespace Py

set_option maxRecDepth 100000 in
set_option maxHeartbeats 8000000 in
theorem limits_walk (W : World) (A : Option Addr) (c : Nat) (L : List PU) (hL : UAt W A c L) (h w nn : Int) (_bn : -9223372036854775808 ≤ nn ∧ nn ≤ 9223372036854775807) : Calls Try.prog 9 #[.slice A L.length c, cbx h w, .int .i64 nn] W fun e w' => e = .returned (.bool true) ∧ Below W.heap.size W w' := by
  have hb2 := below_box W (.cells #[.int .i64 h, .int .i64 w] 24)
  have k1 : (W.alloc (.cells #[.int .i64 h, .int .i64 w] 24)).heap[W.heap.size]? = some (.cells #[.int .i64 h, .int .i64 w] 24 (0, 0)) := by rw [heapAlloc, if_pos rfl]
  have hA := fun V (hV : Below W.heap.size W V) => (Limited_ok A c L h w nn V (hL.below hV (Nat.le_refl _))).mono fun e w' h => keep_any h
  have hB := fun V (hV : Below W.heap.size W V) => (limitedR_ok A c L h w nn V (hL.below hV (Nat.le_refl _))).mono fun e w' h => keep_any h
  have hD := fun V (hV : Below W.heap.size W V) => (checkR_ok A c L V (hL.below hV (Nat.le_refl _))).mono fun e w' h => checkR_any h
  generalize numX (limE L h w nn (askV L h w)) (limV L h w nn.toNat).1 = n1 at *
  generalize keepX (limE L h w nn (askV L h w)) (limV L h w nn.toNat).2 = K at *
  generalize limE L h w nn (askV L h w) = y at *
  generalize checkV L = z at *
  have hyy : (y == y) = true := by simp
  have hn1 : (n1 == n1) = true := by simp
  have hcm := hL.2.1
  unfold maxLen at hcm
  have hlc := hL.1
  have HX := Lib.hid (And.intro hb2 k1)
  have HA := Lib.hid hA
  have HB := Lib.hid hB
  have HD := Lib.hid hD
  have HFA := Lib.hid (fun V => far_ok V A c L.length 14)
  clear hb2 k1 hA hB hD hL _bn
  generalize L.length = n at *
  go_enter Try.func9, Try.ntmps9
  go_upto_region 1 with (fail)
  generalize hV : W.alloc (.cells #[.int .i64 h, .int .i64 w] 24) = V at *
  have c0 : V.cell? ⟨W.heap.size, 0, none⟩ = some (.int .i64 h) := by rw [cell_of_row _ _ _ _ _ _ HX.out.2]; rfl
  have c1 : V.cell? ⟨W.heap.size, 1, none⟩ = some (.int .i64 w) := by rw [cell_of_row _ _ _ _ _ _ HX.out.2]; rfl
  clear hV
  have H1 := Lib.hid HX.out.1
  by_cases hfc : farB n 14 = true ∧ z = 0
  · rw [hfc.1] at HFA
    rw [hfc.2] at HD
    clear hfc
    go_wp2_with (first | (go_at_call 11; refine (HFA.out _).mono ?_; rintro e w1 ⟨rfl, hw⟩; have hw := hw.symm; subst hw) | (go_at_call 16; refine (HD.out _ H1.out).mono ?_; rintro e w2 ⟨rfl, hb⟩; have H2 := Lib.hid (H1.out.trans (hb.mono H1.out.size)); clear hb) | (go_at_call 12; refine (awake_ok _).mono ?_; rintro e w3 ⟨rfl, hb⟩; have HZ := Lib.hid hb; clear hb))
    go_ret
    exact ⟨rfl, H2.out.trans (HZ.out.mono H2.out.size)⟩
  · have hlast : (farB n 14 = false) ∨ (farB n 14 = true ∧ (z == 0) = false) := by
      cases hf : farB n 14 with
      | false => exact .inl rfl
      | true => exact .inr ⟨rfl, by simp; exact fun e => hfc ⟨hf, e⟩⟩
    clear hfc
    go_cut [19] from 13 to 18 (fun b wx => b = .bool false ∧ Below V.heap.size V wx)
    case first =>
      rcases hlast with hf | ⟨hf, hz⟩
      · rw [hf] at HFA
        go_wp2_with (first | (go_at_call 11; refine (HFA.out _).mono ?_; rintro e w1 ⟨rfl, hw⟩; have hw := hw.symm; subst hw))
        go_meet
        exact ⟨rfl, Below.refl _ _⟩
      · rw [hf] at HFA
        go_wp2_with (first | (go_at_call 11; refine (HFA.out _).mono ?_; rintro e w1 ⟨rfl, hw⟩; have hw := hw.symm; subst hw) | (go_at_call 16; refine (HD.out _ H1.out).mono ?_; rintro e w2 ⟨rfl, hb⟩; have H2 := Lib.hid hb; clear hb))
        go_meet
        exact ⟨rfl, H2.out⟩
    case rest =>
    obtain ⟨rfl, hbc⟩ := hcut
    obtain ⟨V2, hV2⟩ : ∃ V2, V2 = wc := ⟨_, rfl⟩
    subst hV2
    replace c0 := cell_keep2 hbc c0
    replace c1 := cell_keep2 hbc c1
    replace H1 := Lib.hid (H1.out.trans (hbc.mono H1.out.size))
    clear hbc hlast
    by_cases h210 : (n : Int) > 210
    · go_wp2_with (go_at_call 12; refine (awake_ok _).mono ?_; rintro e w3 ⟨rfl, hb⟩; have HZ := Lib.hid hb; clear hb)
      go_ret
      exact ⟨rfl, H1.out.trans (HZ.out.mono H1.out.size)⟩
    · go_upto_region 6 with (go_at_call 29; refine (HA.out _ H1.out).mono ?_; rintro e w2 ⟨A2, d2, rfl, r2, hb2⟩)
      replace c0 := cell_keep2 hb2 c0
      replace c1 := cell_keep2 hb2 c1
      have H2 := Lib.hid (H1.out.trans (hb2.mono H1.out.size))
      obtain ⟨q2, s2⟩ := iat_len r2
      have R2 := Lib.hid r2
      clear r2 hb2
      go_upto_region 7 with (go_at_call 30; refine (HB.out _ H2.out).mono ?_; rintro e w3 ⟨A3, d3, rfl, r3, hb3⟩)
      have H3 := Lib.hid (H2.out.trans (hb3.mono H2.out.size))
      obtain ⟨q3, s3⟩ := iat_len r3
      have R3 := Lib.hid (ints_zs (R2.out.below hb3 (Nat.le_refl _)) r3)
      clear r3 hb3 c0 c1
      go_wp2_with (go_at_call 27; refine R3.out.mono ?_; rintro e w8 ⟨rfl, hb8⟩; have H8 := Lib.hid (H3.out.trans (hb8.mono H3.out.size)); clear hb8)
      go_wp2_with (go_at_call 12; refine (awake_ok _).mono ?_; rintro e w10 ⟨rfl, hb⟩; have HZ := Lib.hid (H8.out.trans (hb.mono H8.out.size)); clear hb)
      go_ret
      exact ⟨rfl, HZ.out⟩
end Py
end Go.Proofs.Ytnkkhbmbbkmfhaa
