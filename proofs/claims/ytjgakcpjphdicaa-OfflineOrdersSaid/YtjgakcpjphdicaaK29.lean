/- The program: Lay. The program: Lay, whole. -/
import Derived.Test.YtjgakcpjphdicaaK28
import Derived.Test.YtjgakcpjphdicaaK12
import Derived.Test.YtjgakcpjphdicaaK14
namespace Go.Proofs.Ytjgakcpjphdicaa
open Go.RowKit Go.Shelf
namespace Of

theorem IAt.cells {w : World} {g o c : Nat} {M : List Int} (h : IAt w (some ⟨g, o, none⟩) c M) : ∀ j, j < M.length → w.cell? ⟨g, o + j, none⟩ = some (.int .i64 (M.getD j 0)) := fun j hj => by
  obtain ⟨g', o', e1, e2, e3⟩ := h.2.2 j (M[j]) (List.getElem?_eq_getElem hj)
  injection e1 with e1; injection e1 with e1 e4
  subst e1; subst e4
  rw [e3, List.getD_eq_getElem?_getD, List.getElem?_eq_getElem hj]; rfl
theorem equal_ok (W : World) (A : Option Addr) (c : Nat) (X : List Int) (B : Option Addr) (d : Nat) (Y : List Int) (hx : IAt W A c X) (hy : IAt W B d Y) :
    Calls Try.prog 55 #[.slice A X.length c, .slice B Y.length d] W fun e w' => e = .returned (.bool (X == Y)) ∧ ∃ q, w' = W.drewN q := by
  have h1 := hx.1
  have h2 := hx.2.1
  have h3 := hy.1
  have h4 := hy.2.1
  unfold maxLen at h2 h4
  by_cases hl : X.length = Y.length
  · by_cases h0 : X.length = 0
    · rw [h0]
      refine (Any.slices_Equal_int_empty { Try.equalI with } A B c Y.length d W (by omega)).mono ?_
      rintro e w' ⟨rfl, rfl⟩
      have e1 := List.length_eq_zero_iff.1 h0
      have e2 := List.length_eq_zero_iff.1 (hl.symm.trans h0)
      subst e1; subst e2
      exact ⟨by simp, 0, rfl⟩
    · obtain ⟨g, o, rfl, hg⟩ := hx.head (by omega)
      obtain ⟨g2, o2, rfl, hg2⟩ := hy.head (by omega)
      refine (Any.slices_Equal_int { Try.equalI with } g o X.length c g2 o2 Y.length d X Y W (Nat.le_refl _) (Nat.le_refl _) (by omega) (by omega) hx.cells hy.cells).mono ?_
      rintro e w' ⟨rfl, hq⟩
      exact ⟨by rw [List.take_length, List.take_length], hq⟩
  · refine (Any.slices_Equal_int_lens { Try.equalI with } A B X.length c Y.length d W hl).mono ?_
    rintro e w' ⟨rfl, rfl⟩
    refine ⟨?_, 0, rfl⟩
    have : (X == Y) = false := by
      rw [beq_eq_false_iff_ne]
      rintro rfl
      exact hl rfl
    rw [this]
end Of
end Go.Proofs.Ytjgakcpjphdicaa
namespace Go.Proofs.Ytjgakcpjphdicaa
open Go.RowKit Go.Shelf
namespace Of

/-- The test that Lay makes. -/
structure Tst (w : World) (L : List OB) (M : List Int) (v : Value) (w' : World) : Prop where
  is : v = .bool (isOrd L.length M)
  below : Below w.heap.size w w'

set_option maxRecDepth 100000 in
set_option maxHeartbeats 4000000 in
theorem Lay_ok (w : World) (lA : Option Addr) (lc : Nat) (L : List OB) (A : Option Addr) (c : Nat) (M : List Int) (hl : OBAt w lA lc L) (hm : IAt w A c M) (hlen : M.length ≤ 100000) :
    Calls Try.prog 28 #[.slice lA L.length lc, .slice A M.length c] w (LayOut w L M) := by
  have hck := check_ok lA lc L w hl
  have hcap := hl.2.1
  have hlc := hl.1
  unfold maxLen at hcap
  rcases checkV_cases L with hv | hv | hv
  · have hL := (checkV_ok L).1 hv
    have hlen2 := hL.1
    rw [hv] at hck
    have HC := Lib.hid hck
    have HV := Lib.hid hv
    have HM := Lib.hid (And.intro hl hm)
    have HS := Lib.hid (fun (w1 : World) (hb : Below w.heap.size w w1) => sorted_ok (w1.alloc (.cells #[.slice A M.length c] 25)) w1.heap.size A c M (by simp) (by simp) (hm.below (hb.trans ((below_box w1 _).mono hb.size)) (Nat.le_refl _)) (fun h0 g hg => by
      obtain ⟨x, hx⟩ : ∃ x, M[0]? = some x := ⟨_, List.getElem?_eq_getElem (by have := List.length_pos_iff.2 h0; omega)⟩
      obtain ⟨g', oo, rfl, h2, _⟩ := hm.2.2 0 x hx
      injection hg with hg
      have : g' = g := hg
      have := hb.size
      omega) hlen)
    have hnl : (zs (List.range L.length)).length = L.length := by simp
    have HN := Lib.hid (fun (w2 : World) => (numbers_ok L.length (by omega) w2).mono (R' := fun e w' => ∃ g, e = .returned (.slice (some ⟨g, 0, none⟩) L.length L.length) ∧ IAt w' (some ⟨g, 0, none⟩) L.length (zsP (List.range L.length)) ∧ Below w2.heap.size w2 w') (by
      rintro e w' ⟨g, h1, h2, h3, h4⟩
      have h5 := h2.at (by show (zs (List.range L.length)).length ≤ _; rw [hnl]; exact Nat.le_trans hlen2 (by decide))
      rw [hnl] at h5
      exact ⟨g, h1, h5, h4⟩))
    clear hnl
    have HE := Lib.hid (fun (W : World) (A1 : Option Addr) (c1 : Nat) (B : Option Addr) (d : Nat) (hx : IAt W A1 c1 (srt M)) (hy : IAt W B d (zsP (List.range L.length))) => equal_ok W A1 c1 (srt M) B d _ hx hy)
    have hsr : (srt M).length = M.length := List.length_mergeSort _
    have hzr : (zsP (List.range L.length)).length = L.length := by unfold zsP; simp
    rw [hsr, hzr] at HE
    rw [srt_is] at HE
    clear hck hl hm hv hsr hzr
    cases ho : isOrd L.length M with
    | false =>
      rw [ho] at HE
      have fin : ∀ (e : Ending) (w' : World), LaidNo w 2 e w' → LayOut w L M e w' := fun e w' h => ⟨fun h2 => absurd HV.out h2, fun _ _ => h, fun _ o e1 e2 e3 => by
        have : isOrd L.length M = true := isOrd_iff.2 ⟨o, e1, e2, e3⟩
        rw [ho] at this; cases this⟩
      have HFIN := Lib.hid fin
      clear fin ho hL
      go_enter Try.func28, Try.ntmps28
      go_wp2_with (first
        | (go_at_call 27; refine HC.out.mono ?_; rintro e w1 ⟨rfl, hb1⟩; have HB1 := Lib.hid hb1; clear hb1)
        | (go_at_call 57; refine (values_ok w1 A M.length c).mono ?_; rintro e w2 ⟨rfl, hw2⟩; have HB2 := Lib.hid (show Below w.heap.size w w2 from by rw [hw2]; exact HB1.out.trans ((below_box w1 _).mono HB1.out.size)); have HS2 := HS.out w1 HB1.out; rw [← hw2] at HS2; have HS3 := Lib.hid HS2; clear HS2 hw2)
        | (go_at_call 56; refine HS3.out.mono ?_; rintro e w3 ⟨⟨A1, c1, rfl, h3⟩, hb3⟩; have HB3 := Lib.hid (And.intro (OwnI.at h3).1 (HB2.out.trans (hb3.mono HB2.out.size))); clear h3 hb3)
        | (go_at_call 40; refine (HN.out w3).mono ?_; rintro e w4 ⟨g, rfl, h4, hb4⟩; have HB4 := Lib.hid (And.intro (HB3.out.1.below hb4 (Nat.le_refl _)) (And.intro h4 (HB3.out.2.trans (hb4.mono HB3.out.2.size)))); clear h4 hb4)
        | (go_at_call 55; refine (HE.out w4 A1 c1 _ L.length HB4.out.1 HB4.out.2.1).mono ?_; rintro e w5 ⟨rfl, q, hw5⟩; have HB5 := Lib.hid (show Below w.heap.size w w5 from by rw [hw5]; exact below_drewN HB4.out.2.2 q); clear hw5))
      go_ret3
      exact HFIN.out _ _ ⟨rfl, HB5.out⟩
    | true =>
      rw [ho] at HE
      obtain ⟨o, rfl, hO, hol⟩ := isOrd_iff.1 ho
      have hly := fun W (hb : Below w.heap.size w W) => lay_ok W lA lc L A c o (HM.out.1.below hb (Nat.le_refl _)) (HM.out.2.below hb (Nat.le_refl _)) hL hO
      have hlo : (zsP o).length = o.length := by unfold zsP; rw [List.length_map]
      have fin : ∀ (e : Ending) (w' : World), Laid w L o e w' → LayOut w L (zsP o) e w' := fun e w' h => ⟨fun h2 => absurd HV.out h2, fun _ h2 => (by rw [ho] at h2; cases h2), fun _ o' e1 _ _ => by
        obtain rfl : o = o' := (List.map_inj_right (fun a b e => by have e : (a : Int) = (b : Int) := e; omega)).1 e1
        exact h⟩
      have HFIN := Lib.hid fin
      rw [← hlo] at hly
      have HLY := Lib.hid hly
      clear fin ho hL hO hol hly hlo
      generalize zsP o = M at *
      go_enter Try.func28, Try.ntmps28
      go_wp2_with (first
        | (go_at_call 27; refine HC.out.mono ?_; rintro e w1 ⟨rfl, hb1⟩; have HB1 := Lib.hid hb1; clear hb1)
        | (go_at_call 57; refine (values_ok w1 A M.length c).mono ?_; rintro e w2 ⟨rfl, hw2⟩; have HB2 := Lib.hid (show Below w.heap.size w w2 from by rw [hw2]; exact HB1.out.trans ((below_box w1 _).mono HB1.out.size)); have HS2 := HS.out w1 HB1.out; rw [← hw2] at HS2; have HS3 := Lib.hid HS2; clear HS2 hw2)
        | (go_at_call 56; refine HS3.out.mono ?_; rintro e w3 ⟨⟨A1, c1, rfl, h3⟩, hb3⟩; have HB3 := Lib.hid (And.intro (OwnI.at h3).1 (HB2.out.trans (hb3.mono HB2.out.size))); clear h3 hb3)
        | (go_at_call 40; refine (HN.out w3).mono ?_; rintro e w4 ⟨g, rfl, h4, hb4⟩; have HB4 := Lib.hid (And.intro (HB3.out.1.below hb4 (Nat.le_refl _)) (And.intro h4 (HB3.out.2.trans (hb4.mono HB3.out.2.size)))); clear h4 hb4)
        | (go_at_call 55; refine (HE.out w4 A1 c1 _ L.length HB4.out.1 HB4.out.2.1).mono ?_; rintro e w5 ⟨rfl, q, hw5⟩; have HB5 := Lib.hid (show Below w.heap.size w w5 from by rw [hw5]; exact below_drewN HB4.out.2.2 q); clear hw5)
        | (go_at_call 35; refine (HLY.out _ HB5.out).mono ?_; rintro e w6 ⟨ga, rfl, hr, hg, hb6⟩; have HB6 := Lib.hid (And.intro hr (And.intro (Nat.le_trans HB5.out.size hg) (HB5.out.trans (hb6.mono HB5.out.size)))); clear hr hg hb6))
      go_ret3
      exact HFIN.out _ _ ⟨ga, rfl, HB6.out.1, HB6.out.2.1, HB6.out.2.2⟩
  all_goals
    rw [hv] at hck
    have HC := Lib.hid hck
    have fin : ∀ (e : Ending) (w' : World), LaidNo w (checkV L) e w' → LayOut w L M e w' := fun e w' h => ⟨fun _ => h, fun h2 => by omega, fun h2 => by omega⟩
    rw [hv] at fin
    have HFIN := Lib.hid fin
    clear hck hv hl hm fin
    go_enter Try.func28, Try.ntmps28
    go_wp2_with (go_at_call 27; refine HC.out.mono ?_; rintro e w1 ⟨rfl, hb1⟩; have HB1 := Lib.hid hb1; clear hb1)
    go_ret3
    exact HFIN.out _ _ ⟨rfl, HB1.out⟩
end Of
end Go.Proofs.Ytjgakcpjphdicaa
