/- The example of the document: awake. -/
import Derived.Test.YtnkkhbmbbkmfhaaJL1
namespace Go.Proofs.Ytnkkhbmbbkmfhaa
open Go.RowKit Go.Sort Go.Lib
namespace Py

def exL : List PU := [⟨1, 0, 2⟩, ⟨2, 1, 4⟩, ⟨1, 5, 6⟩, ⟨2, 20, 21⟩]
def exG : List PU := [⟨1, 2, 5⟩, ⟨2, 4, 20⟩]
theorem ex_check : checkV exL = 0 := by decide
theorem ex_gaps : gapsV exL = exG := by rfl
theorem ex_ok : OkL exL := (checkV_ok exL).1 ex_check
theorem ex_c : OkC 2 10 := ⟨by omega, by omega, by omega, by omega⟩
theorem ex_ask : askV exL 2 10 = 0 := by unfold askV; rw [if_pos ex_check]; rfl
def exS : List St := [⟨0, true, 1⟩, ⟨1, true, 2⟩, ⟨2, false, 1⟩, ⟨4, false, 2⟩, ⟨5, true, 1⟩, ⟨6, false, 1⟩, ⟨20, true, 2⟩, ⟨21, false, 2⟩]
instance : DecidableEq St := fun a b => decidable_of_iff (a.a = b.a ∧ a.b = b.b ∧ a.p = b.p) ⟨fun h => by cases a; cases b; simp_all, fun h => by subst h; exact ⟨rfl, rfl, rfl⟩⟩
instance (x y : St) : Decidable (slt x y) := by unfold slt; infer_instance
theorem ex_isS : IsS exL exS := ⟨by decide, by decide⟩
theorem ex_steps : stepsV exL = exS := (stepsV_only ex_ok ex_isS).symm
theorem ex_5 : costX exL 2 10 3 5 0 0 = (56, 0) := by rfl
theorem ex_m : costX exL 2 10 4 0 1 0 = (78, 0) := by
  have : costX exL 2 10 4 0 1 0 = (mostV exL (stepsV exL) 2 10 1, 0) := rfl
  rw [this, ex_steps]
  rfl
theorem ex_least : leastL 2 10 (gapsV exL) (gapsV exL).length = [0] ∧ leastV exL 2 10 = 36 := ⟨by rfl, by rfl⟩
theorem ex_tune : tuneV exL 2 10 = (0, 40) := by rfl
theorem Example_ok (w : World) : Calls Try.prog 34 #[] w fun e w' => ∃ b, e = .returned (.slice (some ⟨b, 0, none⟩) 4 4) ∧ UAt w' (some ⟨b, 0, none⟩) 4 exL ∧ Below w.heap.size w w' := by
  have hb := below_box w (.cells #[.int .i64 1, .int .i64 0, .int .i64 2, .int .i64 2, .int .i64 1, .int .i64 4, .int .i64 1, .int .i64 5, .int .i64 6, .int .i64 2, .int .i64 20, .int .i64 21] 86)
  have hn : (w.alloc (.cells #[.int .i64 1, .int .i64 0, .int .i64 2, .int .i64 2, .int .i64 1, .int .i64 4, .int .i64 1, .int .i64 5, .int .i64 6, .int .i64 2, .int .i64 20, .int .i64 21] 86)).heap[w.heap.size]? = some (.cells #[.int .i64 1, .int .i64 0, .int .i64 2, .int .i64 2, .int .i64 1, .int .i64 4, .int .i64 1, .int .i64 5, .int .i64 6, .int .i64 2, .int .i64 20, .int .i64 21] 86 (0, 0)) := by rw [heapAlloc, if_pos rfl]
  have HX := Lib.hid (And.intro hb hn)
  clear hb hn
  go_enter Try.func34, Try.ntmps34
  go_wp2
  go_ret
  refine ⟨_, rfl, ⟨Nat.le_refl _, by unfold maxLen; omega, fun j x hx => ⟨_, 0, rfl, lt_of_heap HX.out.2, ?_⟩⟩, HX.out.1⟩
  rw [cell_of_row _ _ _ _ _ _ HX.out.2, cell_of_row _ _ _ _ _ _ HX.out.2, cell_of_row _ _ _ _ _ _ HX.out.2]
  match j, hx with
  | 0, hx => cases hx; exact ⟨rfl, rfl, rfl⟩
  | 1, hx => cases hx; exact ⟨rfl, rfl, rfl⟩
  | 2, hx => cases hx; exact ⟨rfl, rfl, rfl⟩
  | 3, hx => cases hx; exact ⟨rfl, rfl, rfl⟩
  | n + 4, hx => simp [exL] at hx
theorem exCost5 (A : Option Addr) (W : World) (hU : UAt W A 4 exL) : Calls Try.prog 13 #[.slice A 4 4, cbx 2 10, pb 3 5 0] W fun e w' => e = .returned (.tuple #[.int .i64 56, .int .i64 0]) ∧ Below W.heap.size W w' := by
  have := Cost_ok A 4 exL 2 10 3 5 0 W hU
  rw [ex_ask, ex_5] at this; exact this
theorem exCostM (A : Option Addr) (W : World) (hU : UAt W A 4 exL) : Calls Try.prog 13 #[.slice A 4 4, cbx 2 10, pb 4 0 1] W fun e w' => e = .returned (.tuple #[.int .i64 78, .int .i64 0]) ∧ Below W.heap.size W w' := by
  have := Cost_ok A 4 exL 2 10 4 0 1 W hU
  rw [ex_ask, ex_m] at this; exact this
theorem exLeast (A : Option Addr) (W : World) (hU : UAt W A 4 exL) : Calls Try.prog 15 #[.slice A 4 4, cbx 2 10] W fun e w' => (∃ A' c', e = .returned (.tuple #[.slice A' 1 c', .int .i64 36, .int .i64 0]) ∧ IAt w' A' c' [0]) ∧ Below W.heap.size W w' := by
  have := Least_ok A 4 exL 2 10 W hU
  rw [ex_ask, ex_least.1, ex_least.2] at this
  exact this.mono fun e w' h => ⟨h.2.1 rfl, h.2.2⟩
theorem exTune (A : Option Addr) (W : World) (hU : UAt W A 4 exL) : Calls Try.prog 18 #[.slice A 4 4, cbx 2 10] W fun e w' => e = .returned (.tuple #[.int .i64 0, .int .i64 40, .int .i64 0]) ∧ Below W.heap.size W w' := by
  have := Tune_ok A 4 exL 2 10 W hU
  rw [ex_ask, ex_tune] at this
  exact this.mono fun e w' h => ⟨h.2.1 rfl, h.2.2⟩
theorem exGaps (A : Option Addr) (W : World) (hU : UAt W A 4 exL) : Calls Try.prog 19 #[.slice A 4 4] W fun e w' => (∃ A' c', e = .returned (.tuple #[.slice A' 2 c', .int .i64 0]) ∧ UAt w' A' c' exG) ∧ Below W.heap.size W w' := by
  have := Gaps_ok A 4 exL W hU
  exact this.mono fun e w' h => ⟨by have h1 := h.2.1 ex_check; rw [ex_gaps] at h1; obtain ⟨A', c', e1, e2⟩ := h1; exact ⟨A', c', e1, uat_e.2 e2⟩, h.2.2⟩
theorem SX.below {v w1 w2 : World} {b : Nat} (h : Below v.heap.size v w1 ∧ w1.cell? ⟨b, 0, none⟩ = some (.int .i64 2) ∧ w1.cell? ⟨b, 1, none⟩ = some (.int .i64 10)) (hb : Below w1.heap.size w1 w2) : Below v.heap.size v w2 ∧ w2.cell? ⟨b, 0, none⟩ = some (.int .i64 2) ∧ w2.cell? ⟨b, 1, none⟩ = some (.int .i64 10) :=
  ⟨h.1.trans (hb.mono h.1.size), cell_keep2 hb h.2.1, cell_keep2 hb h.2.2⟩
set_option maxRecDepth 100000 in
set_option maxHeartbeats 8000000 in
theorem awake_ok (w : World) : Calls Try.prog 12 #[] w fun e w' => e = .returned (.bool true) ∧ Below w.heap.size w w' := by
  have hb := below_box w (.cells #[.int .i64 2, .int .i64 10] 24)
  have hn : (w.alloc (.cells #[.int .i64 2, .int .i64 10] 24)).heap[w.heap.size]? = some (.cells #[.int .i64 2, .int .i64 10] 24 (0, 0)) := by rw [heapAlloc, if_pos rfl]
  have HX := Lib.hid (And.intro hb hn)
  clear hb hn
  go_enter Try.func12, Try.ntmps12
  go_upto_region 2 with (fail)
  generalize hV : w.alloc (.cells #[.int .i64 2, .int .i64 10] 24) = V at *
  obtain ⟨b, hbe⟩ : ∃ b, b = w.heap.size := ⟨_, rfl⟩
  rw [← hbe] at HX ⊢
  have HBE := Lib.hid hbe
  have x0 : V.cell? ⟨b, 0, none⟩ = some (.int .i64 2) := by rw [cell_of_row _ _ _ _ _ _ HX.out.2]; rfl
  have x1 : V.cell? ⟨b, 1, none⟩ = some (.int .i64 10) := by rw [cell_of_row _ _ _ _ _ _ HX.out.2]; rfl
  clear hV hbe
  go_upto_region 3 with (first | (go_at_call 34; refine (Example_ok _).mono ?_; rintro e v1 ⟨e1, rfl, hu1, hb1⟩) | (go_at_call 19; refine (exGaps _ _ hu1).mono ?_; rintro e v2 ⟨⟨A2, c2, rfl, hg2⟩, hb2⟩))
  have y0 := cell_keep2 hb2 (cell_keep2 hb1 x0)
  have y1 := cell_keep2 hb2 (cell_keep2 hb1 x1)
  have h2 : Below b w v2 := HX.out.1.trans ((hb1.trans (hb2.mono hb1.size)).mono (by rw [HBE.out]; exact HX.out.1.size))
  have hsz2 : w.heap.size ≤ v2.heap.size := by have := h2.size; exact this
  have H2 := Lib.hid (And.intro h2 hg2)
  clear hu1 hb1 hb2 h2 hg2 x0 x1
  go_cut [4, 5] from 20 to 26 (fun x y wx => x = .int .i64 56 ∧ y = .int .i64 0 ∧ Below v2.heap.size v2 wx)
  case first =>
    have s0 : Below v2.heap.size v2 v2.drew ∧ v2.drew.cell? ⟨b, 0, none⟩ = some (.int .i64 2) ∧ v2.drew.cell? ⟨b, 1, none⟩ = some (.int .i64 10) := ⟨below_drew (Below.refl _ _), y0, y1⟩
    go_region_held3 (fun w' => Below v2.heap.size v2 w' ∧ w'.cell? ⟨b, 0, none⟩ = some (.int .i64 2) ∧ w'.cell? ⟨b, 1, none⟩ = some (.int .i64 10))
      (first | assumption | exact SX.below (by assumption) hbq | exact SX.below (by assumption) hb2)
      (first | (go_at_call 34; refine (Example_ok _).mono ?_; rintro e u1 ⟨eb, rfl, hu, hbq⟩) | (go_at_call 13; refine (exCost5 _ _ hu).mono ?_; rintro e u2 ⟨rfl, hb2⟩))
    all_goals
      go_wp2_with (fail)
      go_meet
      exact ⟨rfl, rfl, And.left (by assumption)⟩
  case rest =>
  obtain ⟨rfl, rfl, hb3⟩ := hcut
  obtain ⟨v3, hv3⟩ : ∃ v3, v3 = wc := ⟨_, rfl⟩
  subst hv3
  replace y0 := cell_keep2 hb3 y0
  replace y1 := cell_keep2 hb3 y1
  have H3 := Lib.hid hb3
  clear hb3
  go_upto_region 4 with (fail)
  go_cut [6, 7] from 27 to 33 (fun x y wx => x = .int .i64 78 ∧ y = .int .i64 0 ∧ Below v3.heap.size v3 wx)
  case first =>
    have s0 : Below v3.heap.size v3 v3.drew ∧ v3.drew.cell? ⟨b, 0, none⟩ = some (.int .i64 2) ∧ v3.drew.cell? ⟨b, 1, none⟩ = some (.int .i64 10) := ⟨below_drew (Below.refl _ _), y0, y1⟩
    go_region_held3 (fun w' => Below v3.heap.size v3 w' ∧ w'.cell? ⟨b, 0, none⟩ = some (.int .i64 2) ∧ w'.cell? ⟨b, 1, none⟩ = some (.int .i64 10))
      (first | assumption | exact SX.below (by assumption) hbq | exact SX.below (by assumption) hb2)
      (first | (go_at_call 34; refine (Example_ok _).mono ?_; rintro e u1 ⟨eb, rfl, hu, hbq⟩) | (go_at_call 13; refine (exCostM _ _ hu).mono ?_; rintro e u2 ⟨rfl, hb2⟩))
    all_goals
      go_wp2_with (fail)
      go_meet
      exact ⟨rfl, rfl, And.left (by assumption)⟩
  case rest =>
  obtain ⟨rfl, rfl, hb4⟩ := hcut
  obtain ⟨v4, hv4⟩ : ∃ v4, v4 = wc := ⟨_, rfl⟩
  subst hv4
  replace y0 := cell_keep2 hb4 y0
  replace y1 := cell_keep2 hb4 y1
  have H4 := Lib.hid hb4
  clear hb4
  go_upto_region 5 with (fail)
  go_cut [8, 9, 10] from 34 to 40 (fun x y z wx => (∃ A c, x = .slice A 1 c ∧ IAt wx A c [0]) ∧ y = .int .i64 36 ∧ z = .int .i64 0 ∧ Below v4.heap.size v4 wx)
  case first =>
    have s0 : Below v4.heap.size v4 v4.drew ∧ v4.drew.cell? ⟨b, 0, none⟩ = some (.int .i64 2) ∧ v4.drew.cell? ⟨b, 1, none⟩ = some (.int .i64 10) := ⟨below_drew (Below.refl _ _), y0, y1⟩
    go_region_held3 (fun w' => Below v4.heap.size v4 w' ∧ w'.cell? ⟨b, 0, none⟩ = some (.int .i64 2) ∧ w'.cell? ⟨b, 1, none⟩ = some (.int .i64 10))
      (first | assumption | exact SX.below (by assumption) hbq | exact SX.below (by assumption) hb2)
      (first | (go_at_call 34; refine (Example_ok _).mono ?_; rintro e u1 ⟨eb, rfl, hu, hbq⟩) | (go_at_call 15; refine (exLeast _ _ hu).mono ?_; rintro e u2 ⟨⟨A5, c5, rfl, hi5⟩, hb2⟩))
    all_goals
      go_wp2_with (fail)
      go_meet
      exact ⟨⟨_, _, rfl, hi5⟩, rfl, rfl, And.left (by assumption)⟩
  case rest =>
  obtain ⟨⟨A5, c5, rfl, hi5⟩, rfl, rfl, hb5⟩ := hcut
  obtain ⟨v5, hv5⟩ : ∃ v5, v5 = wc := ⟨_, rfl⟩
  subst hv5
  replace y0 := cell_keep2 hb5 y0
  replace y1 := cell_keep2 hb5 y1
  have H5 := Lib.hid (And.intro hb5 hi5)
  clear hb5 hi5
  go_upto_region 6 with (fail)
  go_cut [11, 12, 13] from 41 to 47 (fun x y z wx => x = .int .i64 0 ∧ y = .int .i64 40 ∧ z = .int .i64 0 ∧ Below v5.heap.size v5 wx)
  case first =>
    have s0 : Below v5.heap.size v5 v5.drew ∧ v5.drew.cell? ⟨b, 0, none⟩ = some (.int .i64 2) ∧ v5.drew.cell? ⟨b, 1, none⟩ = some (.int .i64 10) := ⟨below_drew (Below.refl _ _), y0, y1⟩
    go_region_held3 (fun w' => Below v5.heap.size v5 w' ∧ w'.cell? ⟨b, 0, none⟩ = some (.int .i64 2) ∧ w'.cell? ⟨b, 1, none⟩ = some (.int .i64 10))
      (first | assumption | exact SX.below (by assumption) hbq | exact SX.below (by assumption) hb2)
      (first | (go_at_call 34; refine (Example_ok _).mono ?_; rintro e u1 ⟨eb, rfl, hu, hbq⟩) | (go_at_call 18; refine (exTune _ _ hu).mono ?_; rintro e u2 ⟨rfl, hb2⟩))
    all_goals
      go_wp2_with (fail)
      go_meet
      exact ⟨rfl, rfl, rfl, And.left (by assumption)⟩
  case rest =>
  obtain ⟨rfl, rfl, rfl, hb6⟩ := hcut
  obtain ⟨v6, hv6⟩ : ∃ v6, v6 = wc := ⟨_, rfl⟩
  subst hv6
  replace y0 := cell_keep2 hb6 y0
  replace y1 := cell_keep2 hb6 y1
  have H6 := Lib.hid hb6
  clear hb6
  have h25 : Below v2.heap.size v2 v6 := by
    have a3 := H3.out.trans (H4.out.mono H3.out.size)
    have a4 := a3.trans (H5.out.1.mono a3.size)
    exact a4.trans (H6.out.mono a4.size)
  have hg6 : UAt v6 A2 c2 exG := H2.out.2.below h25 (Nat.le_refl _)
  have hi6 : IAt v6 A5 c5 [0] := H5.out.2.below H6.out (Nat.le_refl _)
  have hbw6 : Below b w v6 := H2.out.1.trans (h25.mono (by rw [HBE.out]; exact hsz2))
  have hba := below_box v6 (.cells #[.int .i64 1, .int .i64 2, .int .i64 5, .int .i64 2, .int .i64 4, .int .i64 20] 66)
  have hga : UAt (v6.alloc (.cells #[.int .i64 1, .int .i64 2, .int .i64 5, .int .i64 2, .int .i64 4, .int .i64 20] 66)) (some ⟨v6.heap.size, 0, none⟩) 2 exG := by
    have hn : (v6.alloc (.cells #[.int .i64 1, .int .i64 2, .int .i64 5, .int .i64 2, .int .i64 4, .int .i64 20] 66)).heap[v6.heap.size]? = some (.cells #[.int .i64 1, .int .i64 2, .int .i64 5, .int .i64 2, .int .i64 4, .int .i64 20] 66 (0, 0)) := by rw [heapAlloc, if_pos rfl]
    refine ⟨Nat.le_refl _, by unfold maxLen; omega, fun j x hx => ⟨_, 0, rfl, lt_of_heap hn, ?_⟩⟩
    rw [cell_of_row _ _ _ _ _ _ hn, cell_of_row _ _ _ _ _ _ hn, cell_of_row _ _ _ _ _ _ hn]
    match j, hx with
    | 0, hx => cases hx; exact ⟨rfl, rfl, rfl⟩
    | 1, hx => cases hx; exact ⟨rfl, rfl, rfl⟩
    | n + 2, hx => simp [exG] at hx
  have hgs := gaps_self (v6.alloc (.cells #[.int .i64 1, .int .i64 2, .int .i64 5, .int .i64 2, .int .i64 4, .int .i64 20] 66)) A2 (some ⟨v6.heap.size, 0, none⟩) c2 2 exG (hg6.below hba (Nat.le_refl _)) hga
  rw [show exG.length = 2 from rfl] at hgs
  have his : ∀ (U : World), Below v6.heap.size v6 U → Calls Try.prog 27 #[.slice A5 1 c5, .slice (some ⟨U.heap.size, 0, none⟩) 1 1] (U.alloc (.cells #[.int .i64 0] 3)) fun e w' => e = .returned (.bool true) ∧ ∃ q, w' = (U.alloc (.cells #[.int .i64 0] 3)).drewN q := fun U hU => by
    exact ints_self (U.alloc (.cells #[.int .i64 0] 3)) A5 (some ⟨U.heap.size, 0, none⟩) c5 1 [0] ((hi6.below hU (Nat.le_refl _)).below (below_box U _) (Nat.le_refl _)) (iat_N.2 (oneN U 3 0))
  have HF := Lib.hid (And.intro hgs (And.intro his (And.intro hbw6 hba)))
  clear h25 hg6 hi6 hbw6 hba hga hgs his y0 y1
  go_upto_region 9 with (fail)
  go_wp2_with (go_at_call 22; refine HF.out.1.mono ?_; rintro e v7 ⟨rfl, q7, hv7⟩; have H7 := Lib.hid (show Below v6.heap.size v6 v7 by rw [hv7]; exact below_drewN HF.out.2.2.2 q7); clear hv7)
  go_wp2_with (go_at_call 27; refine (HF.out.2.1 _ H7.out).mono ?_; rintro e v8 ⟨rfl, q8, hv8⟩; have H8 := Lib.hid (show Below v6.heap.size v6 v8 by rw [hv8]; exact below_drewN (H7.out.alloc H7.out.size _) q8); clear hv8)
  go_ret
  refine ⟨rfl, ?_⟩
  rw [← HBE.out]
  exact HF.out.2.2.1.trans (H8.out.mono (by rw [HBE.out]; exact Nat.le_trans hsz2 (by
    have a3 := H3.out.trans (H4.out.mono H3.out.size)
    have a4 := a3.trans (H5.out.1.mono a3.size)
    exact (a4.trans (H6.out.mono a4.size)).size)))
end Py
end Go.Proofs.Ytnkkhbmbbkmfhaa
