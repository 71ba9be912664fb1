/- OfflineLays: the walk. -/
import Derived.Test.YtjgakcpjphdicaaJO4
import Derived.Test.YtjgakcpjphdicaaJA33
namespace Go.Proofs.Ytjgakcpjphdicaa
open Go.RowKit
namespace Of

/-- Addresses, a top, an error. -/
def LQ (w : World) (r : List Int × Int × Int) (e : Ending) (w' : World) : Prop := ∃ (A : Option Addr) (c : Nat), e = .returned (.tuple #[.slice A r.1.length c, .int .i64 r.2.1, .int .i64 r.2.2]) ∧ IAt w' A c r.1 ∧ Below w.heap.size w w'
theorem LaidNo.lq {w w' : World} {x : Int} {e : Ending} (h : LaidNo w x e w') : LQ w ([], 0, x) e w' := ⟨none, 0, h.1, iat_nil w', h.2⟩
theorem Laid.lq {w w' : World} {L : List OB} {o : List Nat} {e : Ending} (hL : L.length ≤ 500) (h : Laid w L o e w') : LQ w ((lays L o).A, (lays L o).T, 0) e w' := by
  obtain ⟨ga, rfl, h1, h2, h3⟩ := h
  have hl := lays_len L o
  refine ⟨some ⟨ga, 0, none⟩, L.length, by rw [hl], ?_, h3⟩
  have := h1.at (by rw [hl]; unfold maxLen; omega)
  rw [hl] at this
  exact this
def layRes (L : List OB) (M : List Int) : List Int × Int × Int := if checkV L ≠ 0 then ([], 0, checkV L) else if isOrd L.length M = false then ([], 0, 2) else ((lays L (M.map Int.toNat)).A, (lays L (M.map Int.toNat)).T, 0)
theorem LayOut.lq {w w' : World} {L : List OB} {M : List Int} {e : Ending} (h : LayOut w L M e w') : LQ w (layRes L M) e w' := by
  unfold layRes
  by_cases hv : checkV L = 0
  · rw [if_neg (by rw [hv]; simp)]
    cases ho : isOrd L.length M with
    | false => rw [if_pos rfl]; exact (h.no hv ho).lq
    | true =>
      rw [if_neg (by simp)]
      obtain ⟨o, rfl, hO, hl⟩ := isOrd_iff.1 ho
      have e1 : (zsP o).map Int.toNat = o := by
        unfold zsP
        rw [List.map_map]
        exact (List.map_congr_left fun x _ => by simp).trans (List.map_id _)
      rw [e1]
      exact (h.yes hv o rfl hO hl).lq ((checkV_ok L).1 hv).1
  · rw [if_pos hv]; exact (h.bad hv).lq
def quickRes (L : List OB) : List Int × Int × Int := if checkV L ≠ 0 then ([], 0, checkV L) else ((lays L (qord L L.length)).A, (lays L (qord L L.length)).T, 0)
theorem quick_lq {w w' : World} {L : List OB} {e : Ending} (h : (checkV L ≠ 0 → LaidNo w (checkV L) e w') ∧ (checkV L = 0 → Laid w L (qord L L.length) e w')) : LQ w (quickRes L) e w' := by
  unfold quickRes
  by_cases hv : checkV L = 0
  · rw [if_neg (by rw [hv]; simp)]; exact (h.2 hv).lq ((checkV_ok L).1 hv).1
  · rw [if_pos hv]; exact (h.1 hv).lq

set_option maxRecDepth 100000 in
set_option maxHeartbeats 8000000 in
theorem lays_walk (W : World) (A : Option Addr) (c : Nat) (L : List OB) (hL : OBAt W A c L) (B : Option Addr) (d : Nat) (M : List Int) (hM : IAt W B d M) : Calls Try.prog 9 #[.slice A L.length c, .slice B M.length d] W fun e w' => e = .returned (.bool true) ∧ Below W.heap.size W w' := by
  have hcap := hL.2.1
  have hlc := hL.1
  have hcap2 := hM.2.1
  have hlc2 := hM.1
  unfold maxLen at hcap hcap2
  have HL := Lib.hid (And.intro hL hM)
  clear hL hM
  by_cases h1 : (60 < L.length ∧ L.length ≤ 500) ∨ 600 < L.length ∨ 600 < M.length
  · by_cases a1 : 60 < L.length
    · by_cases a2 : L.length ≤ 500
      · go_enter Try.func9, Try.ntmps9
        go_wp2_with (go_at_call 11; refine (shown_ok _).mono ?_; rintro e w1 ⟨rfl, b1⟩; have B1 := Lib.hid b1; clear b1)
        go_ret
        exact ⟨rfl, B1.out⟩
      · by_cases a3 : 600 < L.length
        · go_enter Try.func9, Try.ntmps9
          go_wp2_with (go_at_call 11; refine (shown_ok _).mono ?_; rintro e w1 ⟨rfl, b1⟩; have B1 := Lib.hid b1; clear b1)
          go_ret
          exact ⟨rfl, B1.out⟩
        · have a4 : 600 < M.length := by omega
          go_enter Try.func9, Try.ntmps9
          go_wp2_with (go_at_call 11; refine (shown_ok _).mono ?_; rintro e w1 ⟨rfl, b1⟩; have B1 := Lib.hid b1; clear b1)
          go_ret
          exact ⟨rfl, B1.out⟩
    · have a3 : ¬ 600 < L.length := by omega
      have a4 : 600 < M.length := by omega
      go_enter Try.func9, Try.ntmps9
      go_wp2_with (go_at_call 11; refine (shown_ok _).mono ?_; rintro e w1 ⟨rfl, b1⟩; have B1 := Lib.hid b1; clear b1)
      go_ret
      exact ⟨rfl, B1.out⟩
  · have a3 : ¬ 600 < L.length := by omega
    have a4 : ¬ 600 < M.length := by omega
    have hA := fun W1 (hb : Below W.heap.size W W1) => (Lay_ok W1 A c L B d M (HL.out.1.below hb (Nat.le_refl _)) (HL.out.2.below hb (Nat.le_refl _)) (by omega)).mono fun e w' h => h.lq
    have hB := fun W1 (hb : Below W.heap.size W W1) => (LayR_ok W1 A c L B d M (HL.out.1.below hb (Nat.le_refl _)) (HL.out.2.below hb (Nat.le_refl _))).mono fun e w' h => h.lq
    have hC := fun W1 (hb : Below W.heap.size W W1) => (Quick_ok W1 A c L (HL.out.1.below hb (Nat.le_refl _)) (fun _ => stabS_all (by omega))).mono fun e w' h => quick_lq h
    have hD := fun W1 (hb : Below W.heap.size W W1) => (QuickR_ok W1 A c L (HL.out.1.below hb (Nat.le_refl _))).mono fun e w' h => quick_lq h
    have HH := Lib.hid (And.intro hA (And.intro hB (And.intro hC hD)))
    clear hA hB hC hD
    generalize layRes L M = r at *
    generalize quickRes L = q at *
    obtain ⟨M1, t1, x1⟩ := r
    obtain ⟨M2, t2, x2⟩ := q
    unfold LQ at HH
    dsimp only at HH
    by_cases a1 : 60 < L.length
    · have a2 : ¬ L.length ≤ 500 := by omega
      go_enter Try.func9, Try.ntmps9
      go_wp2_with (go_at_call 28; refine (HH.out.1 _ (Below.refl _ _)).mono ?_; rintro e w1 ⟨A1, c1, rfl, i1, b1⟩; have B1 := Lib.hid (And.intro i1 b1); clear i1 b1)
      go_wp2_with (go_at_call 29; refine (HH.out.2.1 _ B1.out.2).mono ?_; rintro e w2 ⟨A2, c2, rfl, i2, b2⟩; have B2 := Lib.hid (And.intro (B1.out.1.below b2 (Nat.le_refl _)) (And.intro i2 (B1.out.2.trans (b2.mono B1.out.2.size)))); clear i2 b2)
      go_wp2_with (go_at_call 23; refine (HH.out.2.2.1 _ B2.out.2.2).mono ?_; rintro e w3 ⟨A3, c3, rfl, i3, b3⟩; have B3 := Lib.hid (And.intro (B2.out.1.below b3 (Nat.le_refl _)) (And.intro (B2.out.2.1.below b3 (Nat.le_refl _)) (And.intro i3 (B2.out.2.2.trans (b3.mono B2.out.2.2.size))))); clear i3 b3)
      go_wp2_with (go_at_call 30; refine (HH.out.2.2.2 _ B3.out.2.2.2).mono ?_; rintro e w4 ⟨A4, c4, rfl, i4, b4⟩; have B4 := Lib.hid (And.intro (B3.out.1.below b4 (Nat.le_refl _)) (And.intro (B3.out.2.1.below b4 (Nat.le_refl _)) (And.intro (B3.out.2.2.1.below b4 (Nat.le_refl _)) (And.intro i4 (B3.out.2.2.2.trans (b4.mono B3.out.2.2.2.size)))))); clear i4 b4)
      go_wp2_with (go_at_call 14; fail)
      refine (same_self w4 A1 A2 c1 c2 M1.length M1 rfl B4.out.1 B4.out.2.1).mono ?_
      rintro e w5 ⟨rfl, b5⟩
      have B5 := Lib.hid (And.intro (B4.out.2.2.1.below b5 (Nat.le_refl _)) (And.intro (B4.out.2.2.2.1.below b5 (Nat.le_refl _)) (B4.out.2.2.2.2.trans (b5.mono B4.out.2.2.2.2.size))))
      clear b5
      go_wp2_with (go_at_call 14; fail)
      refine (same_self w5 A3 A4 c3 c4 M2.length M2 rfl B5.out.1 B5.out.2.1).mono ?_
      rintro e w6 ⟨rfl, b6⟩
      have B6 := Lib.hid (B5.out.2.2.trans (b6.mono B5.out.2.2.size))
      clear b6
      go_wp2_with (go_at_call 11; refine (shown_ok _).mono ?_; rintro e w7 ⟨rfl, b7⟩; have B7 := Lib.hid (B6.out.trans (b7.mono B6.out.size)); clear b7)
      go_ret
      exact ⟨rfl, B7.out⟩
    · go_enter Try.func9, Try.ntmps9
      go_wp2_with (go_at_call 28; refine (HH.out.1 _ (Below.refl _ _)).mono ?_; rintro e w1 ⟨A1, c1, rfl, i1, b1⟩; have B1 := Lib.hid (And.intro i1 b1); clear i1 b1)
      go_wp2_with (go_at_call 29; refine (HH.out.2.1 _ B1.out.2).mono ?_; rintro e w2 ⟨A2, c2, rfl, i2, b2⟩; have B2 := Lib.hid (And.intro (B1.out.1.below b2 (Nat.le_refl _)) (And.intro i2 (B1.out.2.trans (b2.mono B1.out.2.size)))); clear i2 b2)
      go_wp2_with (go_at_call 23; refine (HH.out.2.2.1 _ B2.out.2.2).mono ?_; rintro e w3 ⟨A3, c3, rfl, i3, b3⟩; have B3 := Lib.hid (And.intro (B2.out.1.below b3 (Nat.le_refl _)) (And.intro (B2.out.2.1.below b3 (Nat.le_refl _)) (And.intro i3 (B2.out.2.2.trans (b3.mono B2.out.2.2.size))))); clear i3 b3)
      go_wp2_with (go_at_call 30; refine (HH.out.2.2.2 _ B3.out.2.2.2).mono ?_; rintro e w4 ⟨A4, c4, rfl, i4, b4⟩; have B4 := Lib.hid (And.intro (B3.out.1.below b4 (Nat.le_refl _)) (And.intro (B3.out.2.1.below b4 (Nat.le_refl _)) (And.intro (B3.out.2.2.1.below b4 (Nat.le_refl _)) (And.intro i4 (B3.out.2.2.2.trans (b4.mono B3.out.2.2.2.size)))))); clear i4 b4)
      go_wp2_with (go_at_call 14; fail)
      refine (same_self w4 A1 A2 c1 c2 M1.length M1 rfl B4.out.1 B4.out.2.1).mono ?_
      rintro e w5 ⟨rfl, b5⟩
      have B5 := Lib.hid (And.intro (B4.out.2.2.1.below b5 (Nat.le_refl _)) (And.intro (B4.out.2.2.2.1.below b5 (Nat.le_refl _)) (B4.out.2.2.2.2.trans (b5.mono B4.out.2.2.2.2.size))))
      clear b5
      go_wp2_with (go_at_call 14; fail)
      refine (same_self w5 A3 A4 c3 c4 M2.length M2 rfl B5.out.1 B5.out.2.1).mono ?_
      rintro e w6 ⟨rfl, b6⟩
      have B6 := Lib.hid (B5.out.2.2.trans (b6.mono B5.out.2.2.size))
      clear b6
      go_wp2_with (go_at_call 11; refine (shown_ok _).mono ?_; rintro e w7 ⟨rfl, b7⟩; have B7 := Lib.hid (B6.out.trans (b7.mono B6.out.size)); clear b7)
      go_ret
      exact ⟨rfl, B7.out⟩
end Of
end Go.Proofs.Ytjgakcpjphdicaa
