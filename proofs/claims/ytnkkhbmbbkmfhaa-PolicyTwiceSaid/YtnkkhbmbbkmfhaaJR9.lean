/- The specification: Tune, Worst. -/
import Derived.Test.YtnkkhbmbbkmfhaaJR6
import Derived.Test.YtnkkhbmbbkmfhaaK1
namespace Go.Proofs.Ytnkkhbmbbkmfhaa
open Go.RowKit
namespace Py

/-- What a call that returns two numbers and an error says. -/
def TwoOut (w : World) (x : Int) (st : Int × Int) (e : Ending) (w' : World) : Prop :=
  (x ≠ 0 → e = .returned (.tuple #[.int .i64 0, .int .i64 0, .int .i64 x])) ∧ (x = 0 → e = .returned (.tuple #[.int .i64 st.1, .int .i64 st.2, .int .i64 0])) ∧ Below w.heap.size w w'
attribute [local irreducible] wpQuiet
set_option maxRecDepth 100000 in
set_option maxHeartbeats 4000000 in
theorem tuneR_ok (A : Option Addr) (c : Nat) (L : List PU) (h w : Int) (W : World) (hU : UAt W A c L) :
    Calls Try.prog 24 #[.slice A L.length c, cbx h w] W (TwoOut W (askV L h w) (tuneV L h w)) := by
  have hb := below_box W (.cells #[.int .i64 h, .int .i64 w] 24)
  have hnb : (W.alloc (.cells #[.int .i64 h, .int .i64 w] 24)).heap[W.heap.size]? = some (.cells #[.int .i64 h, .int .i64 w] 24 (0, 0)) := by rw [heapAlloc, if_pos rfl]
  have hA := askedR_ok A c L h w _ (hU.below hb (Nat.le_refl _))
  by_cases hask : askV L h w = 0
  · obtain ⟨hL, hc⟩ := ask_ok.1 hask
    have hlen := hL.len
    have h0 := hc.h0; have h1 := hc.h1; have w0 := hc.w0; have w1 := hc.w1
    have hcap := hU.2.1
    have hlc := hU.1
    unfold maxLen at hcap
    rw [hask] at hA
    have HC := Lib.hid (And.intro hL (And.intro hc (And.intro hask hU)))
    have HA := Lib.hid hA
    have HX := Lib.hid (And.intro hb hnb)
    clear hL hc hask hU hb hnb hA
    unfold tuneV
    go_enter Try.func24, Try.ntmps24
    go_upto_region 2 with (go_at_call 40; refine HA.out.mono ?_; rintro e w1 ⟨rfl, hb1⟩)
    have hw1 : Below W.heap.size W w1 := HX.out.1.trans (hb1.mono HX.out.1.size)
    have hz := hb1.block W.heap.size (by simp)
    rw [HX.out.2] at hz
    have HW1 := Lib.hid (And.intro hw1 hz)
    have hg := gapsR_ok A c L w1 (HC.out.2.2.2.below hw1 (Nat.le_refl _)) hlen
    have HG := Lib.hid hg
    clear hw1 hz hg hb1
    obtain ⟨b, hbe⟩ : ∃ b, b = W.heap.size := ⟨_, rfl⟩
    rw [← hbe] at HW1 ⊢
    have HBE := Lib.hid hbe
    clear hbe
    go_upto_region 5 with (go_at_call 49; refine HG.out.mono ?_; rintro e w2 ⟨A2, c2, rfl, hr2, hb2⟩)
    have hea := (OwnE.at EU hr2).1
    have hcm := hea.2.1
    have hcl := hea.1
    have hgl := gapsV_len L
    unfold maxLen at hcm
    have hz2 : w2.heap[b]? = some (.cells #[.int .i64 h, .int .i64 w] 24 (0, 0)) := by rw [hb2.block b (lt_of_heap HW1.out.2)]; exact HW1.out.2
    have hW2 : Below b W w2 := by have := HW1.out.1; exact this.trans (hb2.mono (by rw [HBE.out]; exact this.size))
    have y0 : w2.cell? ⟨b, 0, none⟩ = some (.int .i64 h) := by rw [cell_of_row _ _ _ _ _ _ hz2]; rfl
    have y1 : w2.cell? ⟨b, 1, none⟩ = some (.int .i64 w) := by rw [cell_of_row _ _ _ _ _ _ hz2]; rfl
    have HE := Lib.hid (And.intro (uat_e.2 hea) (And.intro hz2 hW2))
    have hbs : b ≤ w2.heap.size := by have := lt_of_heap hz2; omega
    clear hr2 hb2 hea hz2 hW2
    have hsv : ∀ i, i < (gapsV L).length → OkG (use (gapsV L) i) := fun i hi => use_okG HC.out.1 hi
    have hlx : ∀ i, i < (gapsV L).length → lens ((gapsV L).take (i + 1)) = lens ((gapsV L).take i) ++ [(use (gapsV L) i).t - (use (gapsV L) i).f] := fun i hi => lens_next hi
    have hsn := tune_snoc (agedV L h w)
    have hag := fun (age : Int) (V : World) (hV : Below b W V) (a0 : 0 ≤ age) (a1 : age ≤ 1000000000) => agedR_ok A c L h w age V (HC.out.2.2.2.below hV (by rw [HBE.out]; exact Nat.le_refl _)) HC.out.1 HC.out.2.1 a0 a1
    have hnn := fun (age : Int) (a0 : 0 ≤ age) => aged_nn HC.out.1 HC.out.2.1 a0
    have hlast : (gapsV L).take (gapsV L).length = gapsV L := List.take_length
    generalize agedV L h w = F at *
    have HS := Lib.hid (And.intro hsv (And.intro hlx (And.intro hsn (And.intro hag (And.intro hnn hlast)))))
    clear hsv hlx hsn hag hnn hlast
    have ha0 := HS.out.2.2.2.1 0 w2 HE.out.2.2 (by omega) (by omega)
    have HA0 := Lib.hid ha0
    clear ha0
    generalize gapsV L = G at *
    go_upto_region 6 with (go_at_call 42; refine HA0.out.mono ?_; rintro e w3 ⟨rfl, hb3⟩)
    have hW3 : Below b W w3 := HE.out.2.2.trans (hb3.mono hbs)
    have hz3 : w3.heap[b]? = some (.cells #[.int .i64 h, .int .i64 w] 24 (0, 0)) := by rw [hb3.block b (lt_of_heap HE.out.2.1)]; exact HE.out.2.1
    have hX3 := HE.out.1.below hb3 (Nat.le_refl _)
    have HE3 := Lib.hid (And.intro hX3 (And.intro hz3 hW3))
    clear hW3 hz3 hX3 hb3 y0 y1
    go_wp2_with (fail)
    go_loopw [9, 10, 11] (fun v x i wr => ∃ (k : Nat), k ≤ G.length ∧ i = .int .i64 k ∧ v = .int .i64 (tuneR F (lens (G.take k)) (0, F 0)).1 ∧ x = .int .i64 (tuneR F (lens (G.take k)) (0, F 0)).2 ∧ Below w3.heap.size w3 wr) (fun _ _ i _ => G.length - (intOf i).toNat)
    case atStart => exact ⟨0, Nat.zero_le _, rfl, rfl, rfl, Below.refl _ _⟩
    case round =>
      obtain ⟨k, hk, rfl, rfl, rfl, hbw⟩ := hrel
      have hX := HE3.out.1.below hbw (Nat.le_refl _)
      have hzr : wr.heap[b]? = some (.cells #[.int .i64 h, .int .i64 w] 24 (0, 0)) := by rw [hbw.block b (lt_of_heap HE3.out.2.1)]; exact HE3.out.2.1
      have z0 : wr.cell? ⟨b, 0, none⟩ = some (.int .i64 h) := by rw [cell_of_row _ _ _ _ _ _ hzr]; rfl
      have z1 : wr.cell? ⟨b, 1, none⟩ = some (.int .i64 w) := by rw [cell_of_row _ _ _ _ _ _ hzr]; rfl
      by_cases hlt : k < G.length
      · have hok := HS.out.1 k hlt
        have hnx := HS.out.2.1 k hlt
        have hft := hok.ft
        have hf0 := hok.f0
        have ht1 := hok.t1
        have hst := HS.out.2.2.1 (lens (G.take k)) ((use G k).t - (use G k).f) (0, F 0)
        rw [← hnx] at hst
        obtain ⟨g, o, rfl, hg, c0, c1, c2⟩ := hX.at hlt
        generalize use G k = u at *
        obtain ⟨gp, gf, gt⟩ := u
        dsimp only at hft hf0 ht1 c1 c2 hst
        have hbd := HS.out.2.2.2.2.1 (gt - gf) (by omega)
        obtain ⟨a, hae⟩ : ∃ a, a = gt - gf := ⟨_, rfl⟩
        have qa : gt - gf = a := hae.symm
        rw [qa] at hst hbd
        have hW : Below b W wr := HE3.out.2.2.trans (hbw.mono (by have := lt_of_heap HE3.out.2.1; omega))
        have hag := fun q => HS.out.2.2.2.1 a (wr.drewN q) (below_drewN hW q) (by omega) (by omega)
        have hab : 0 ≤ a ∧ a ≤ 1000000000 := by omega
        generalize hfa : F a = fa at *
        generalize tuneR F (lens (G.take k)) (0, F 0) = st at *
        obtain ⟨sa, sc⟩ := st
        dsimp only at hst ⊢
        have HR := Lib.hid (And.intro hst (And.intro hag hbw))
        have hsz := hbw.size
        clear hX hae hok c0 hst hag hbw hzr hnx hW hfa
        go_upto_region 9 with (fail)
        go_quiet (fail)
        go_upto_region 11 with (go_at_call 42; refine (HR.out.2.1 _).mono ?_; rintro e w5 ⟨rfl, hb5⟩)
        have hb6 : Below w3.heap.size w3 w5 := (below_drewN HR.out.2.2 nq).trans (hb5.mono hsz)
        have HB6 := Lib.hid hb6
        clear hb5 hb6 z0 z1
        by_cases h1 : fa < sc
        · have HN := Lib.hid (HR.out.1.trans (if_pos (.inl h1)))
          go_wp2_with (fail)
          go_roundw
          case rel => exact ⟨k + 1, by omega, by go_num, by rw [HN.out], by rw [HN.out], HB6.out⟩
          case measure => simp [intOf]; omega
        · by_cases h2 : fa = sc
          · have hb2 : (fa == sc) = true := by simp [h2]
            by_cases h3 : a < sa
            · have HN := Lib.hid (HR.out.1.trans (if_pos (.inr ⟨h2, h3⟩)))
              clear h2
              go_wp2_with (fail)
              go_roundw
              case rel => exact ⟨k + 1, by omega, by go_num, by rw [HN.out], by rw [HN.out], HB6.out⟩
              case measure => simp [intOf]; omega
            · have HN := Lib.hid (HR.out.1.trans (if_neg (fun e => by rcases e with e | e <;> omega)))
              clear h2
              go_wp2_with (fail)
              go_roundw
              case rel => exact ⟨k + 1, by omega, by go_num, by rw [HN.out], by rw [HN.out], HB6.out⟩
              case measure => simp [intOf]; omega
          · have hb2 : (fa == sc) = false := by simp [h2]
            have HN := Lib.hid (HR.out.1.trans (if_neg (fun e => by rcases e with e | e <;> omega)))
            clear h2
            go_wp2_with (fail)
            go_roundw
            case rel => exact ⟨k + 1, by omega, by go_num, by rw [HN.out], by rw [HN.out], HB6.out⟩
            case measure => simp [intOf]; omega
      · obtain rfl : k = G.length := by omega
        have HB := Lib.hid hbw
        clear hbw hX hzr
        go_wp2
        go_ret3
        rw [HS.out.2.2.2.2.2]
        refine ⟨fun e => absurd HC.out.2.2.1 e, fun _ => rfl, ?_⟩
        have e1 := HE3.out.2.2
        rw [HBE.out] at e1
        exact e1.trans (HB.out.mono e1.size)
  · have hne : (askV L h w != 0) = true := by simp [hask]
    have HA := Lib.hid hA
    have HX := Lib.hid (And.intro hb hask)
    clear hA hb hnb hask
    unfold TwoOut
    generalize askV L h w = cv at *
    go_enter Try.func24, Try.ntmps24
    go_wp2_with (go_at_call 40; refine HA.out.mono ?_; rintro e w1 ⟨rfl, hb1⟩; have HB1 := Lib.hid hb1; clear hb1)
    go_ret3
    exact ⟨fun _ => rfl, fun e => absurd e HX.out.2, HX.out.1.trans (HB1.out.mono HX.out.1.size)⟩
end Py
end Go.Proofs.Ytnkkhbmbbkmfhaa
