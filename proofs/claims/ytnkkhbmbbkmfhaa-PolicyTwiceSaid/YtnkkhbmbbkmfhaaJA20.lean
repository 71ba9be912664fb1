/- The program: Cost. -/
import Derived.Test.YtnkkhbmbbkmfhaaJA19
import Derived.Test.YtnkkhbmbbkmfhaaJR14
namespace Go.Proofs.Ytnkkhbmbbkmfhaa
open Go.Shelf Go.RowKit Go.Sort Go.Lib
namespace Py

theorem polB_cases (k a m : Int) : (polB k a m = true ∧ ((k = 1 ∧ a = 0 ∧ m = 0) ∨ (k = 2 ∧ a = 0 ∧ m = 0) ∨ (k = 3 ∧ m = 0 ∧ outV a 1000000000 = false ∧ 0 ≤ a ∧ a ≤ 1000000000) ∨ (k = 4 ∧ a = 0 ∧ outV m 1024 = false ∧ 0 ≤ m ∧ m ≤ 1024))) ∨
    (polB k a m = false ∧ ((k = 1 ∧ ((a == 0) = false ∨ (a = 0 ∧ (m == 0) = false))) ∨ (k = 2 ∧ ((a == 0) = false ∨ (a = 0 ∧ (m == 0) = false))) ∨ (k = 3 ∧ (outV a 1000000000 = true ∨ (outV a 1000000000 = false ∧ (m == 0) = false))) ∨ (k = 4 ∧ ((a == 0) = false ∨ (a = 0 ∧ outV m 1024 = true))) ∨ ((k == 1) = false ∧ (k == 2) = false ∧ (k == 3) = false ∧ (k == 4) = false))) := by
  have ho : ∀ x y : Int, 0 ≤ y → (outV x y = true ↔ ¬ (0 ≤ x ∧ x ≤ y)) := fun x y _ => by unfold outV; simp; omega
  have h1 := ho a 1000000000 (by omega)
  have h2 := ho m 1024 (by omega)
  have hp : polB k a m = true ↔ ((k = 1 ∨ k = 2) ∧ a = 0 ∧ m = 0) ∨ (k = 3 ∧ 0 ≤ a ∧ a ≤ 1000000000 ∧ m = 0) ∨ (k = 4 ∧ a = 0 ∧ 0 ≤ m ∧ m ≤ 1024) := by
    unfold polB
    split
    · simp; omega
    · split
      · simp; omega
      · split
        · simp; omega
        · simp; omega
  cases e1 : outV a 1000000000 <;> cases e2 : outV m 1024 <;> cases e3 : polB k a m <;> simp only [e1, e2, e3, true_iff, false_iff, Bool.false_eq_true, not_and, not_or, beq_eq_false_iff_ne, ne_eq, reduceCtorEq, true_and, false_and, and_true, and_false, or_false, false_or, false_iff] at * <;> omega
attribute [local irreducible] wpQuiet
set_option maxRecDepth 100000 in
set_option maxHeartbeats 8000000 in
theorem Cost_ok (A : Option Addr) (c : Nat) (L : List PU) (h w k a m : Int) (W : World) (hU : UAt W A c L) :
    Calls Try.prog 13 #[.slice A L.length c, cbx h w, pb k a m] W fun e w' => e = .returned (.tuple #[.int .i64 (costX L h w k a m (askV L h w)).1, .int .i64 (costX L h w k a m (askV L h w)).2]) ∧ Below W.heap.size W w' := by
  have hb1 : Below W.heap.size W (W.alloc (.cells #[.int .i64 h, .int .i64 w] 24)) := below_box _ _
  have hb2 : Below W.heap.size W ((W.alloc (.cells #[.int .i64 h, .int .i64 w] 24)).alloc (.cells #[.int .i64 k, .int .i64 a, .int .i64 m] 26)) := hb1.alloc (by simp) _
  have hn1 : ((W.alloc (.cells #[.int .i64 h, .int .i64 w] 24)).alloc (.cells #[.int .i64 k, .int .i64 a, .int .i64 m] 26)).heap[W.heap.size]? = some (.cells #[.int .i64 h, .int .i64 w] 24 (0, 0)) := by rw [alloc_old _ _ _ (by simp), heapAlloc, if_pos rfl]
  have hn2 : ((W.alloc (.cells #[.int .i64 h, .int .i64 w] 24)).alloc (.cells #[.int .i64 k, .int .i64 a, .int .i64 m] 26)).heap[W.heap.size + 1]? = some (.cells #[.int .i64 k, .int .i64 a, .int .i64 m] 26 (0, 0)) := by rw [heapAlloc, if_pos (by simp)]
  by_cases hask : askV L h w = 0
  · obtain ⟨hL, hc⟩ := ask_ok.1 hask
    have HA := Lib.hid (both_good A c L h w _ (hU.below hb2 (Nat.le_refl _)) hask)
    have HX := Lib.hid (And.intro hb2 (And.intro hn1 hn2))
    have hcs : costX L h w k a m 0 = if polB k a m = true then (costN L h w k a m, 0) else (0, 2) := by unfold costX; rw [if_neg (by omega)]
    have HC := Lib.hid (And.intro hL (And.intro hc hcs))
    have hpc := polB_cases k a m
    rw [hask]
    clear hb1 hb2 hn1 hn2 hask hU hL hc hcs
    have HOA := Lib.hid (fun V => outside_ok a 1000000000 V)
    have HOM := Lib.hid (fun V => outside_ok m 1024 V)
    go_enter Try.func13, Try.ntmps13
    go_upto_region 1 with (fail)
    generalize hV : (W.alloc (.cells #[.int .i64 h, .int .i64 w] 24)).alloc (.cells #[.int .i64 k, .int .i64 a, .int .i64 m] 26) = V at *
    have x0 : V.cell? ⟨W.heap.size, 0, none⟩ = some (.int .i64 h) := by rw [cell_of_row _ _ _ _ _ _ HX.out.2.1]; rfl
    have x1 : V.cell? ⟨W.heap.size, 1, none⟩ = some (.int .i64 w) := by rw [cell_of_row _ _ _ _ _ _ HX.out.2.1]; rfl
    obtain ⟨p0, p1, p2⟩ := three_at HX.out.2.2
    go_upto_region 2 with (go_at_call 35; refine HA.out.mono ?_; rintro e w1 ⟨t, rfl, htr, hb1⟩)
    have y0 := cell_keep2 hb1 x0
    have y1 := cell_keep2 hb1 x1
    have q0 := cell_keep2 hb1 p0
    have q1 := cell_keep2 hb1 p1
    have q2 := cell_keep2 hb1 p2
    have HB := Lib.hid (And.intro htr (HX.out.1.trans (hb1.mono HX.out.1.size)))
    clear htr hb1 x0 x1 p0 p1 p2 hV
    go_upto_region 4 with (fail)
    go_quiet (fail)
    obtain ⟨U, hU⟩ : ∃ U, U = w1.drewN nq := ⟨_, rfl⟩
    rw [← hU]
    have hUb : Below W.heap.size W U := by rw [hU]; exact below_drewN HB.out.2 nq
    have hUt : TrAt U t A c L := by rw [hU]; exact HB.out.1.below (below_drewN (Below.refl _ _) nq)
    have z0 : U.cell? ⟨W.heap.size, 0, none⟩ = some (.int .i64 h) := by rw [hU]; exact y0
    have z1 : U.cell? ⟨W.heap.size, 1, none⟩ = some (.int .i64 w) := by rw [hU]; exact y1
    have v0 : U.cell? ⟨W.heap.size + 1, 0, none⟩ = some (.int .i64 k) := by rw [hU]; exact q0
    have HU := Lib.hid (And.intro hUt hUb)
    have hag := fun (age : Int) (a0 : 0 ≤ age) (a1 : age ≤ 1000000000) (ab : Nat) (V : World) (hV : Below U.heap.size U V) (hca : V.cell? ⟨ab, 0, none⟩ = some (.int .i64 age)) => cost_ok t ab A c L h w age HC.out.1 HC.out.2.1 a0 a1 V (hUt.below hV) hca
    have hms := fun (lim : Nat) (hl : lim ≤ 1024) (V : World) (hV : Below U.heap.size U V) => most_ok t A c L h w lim HC.out.1 HC.out.2.1 hl V (hUt.below hV)
    have HG := Lib.hid (And.intro hag hms)
    clear hU hUb hUt y0 y1 q0 q1 q2 HB hag hms
    rcases hpc with ⟨hp, ⟨rfl, rfl, rfl⟩ | ⟨rfl, rfl, rfl⟩ | ⟨rfl, rfl, ho, a0, a1⟩ | ⟨rfl, rfl, ho, m0, m1⟩⟩ | ⟨hp, ⟨rfl, ha | ⟨rfl, hm⟩⟩ | ⟨rfl, ha | ⟨rfl, hm⟩⟩ | ⟨rfl, ho | ⟨ho, hm⟩⟩ | ⟨rfl, ha | ⟨rfl, ho⟩⟩ | ⟨b1, b2, b3, b4⟩⟩
    · have hr : costX L h w 1 0 0 0 = (agedV L h w 1000000000, 0) := by rw [HC.out.2.2, if_pos hp]; rfl
      have HR := Lib.hid hr
      clear hr hp
      go_upto_region 6 with (fail)
      go_region_with (first
        | (go_at_call 37; refine (aged_ok _ _).mono ?_; rintro e u1 ⟨ab, rfl, hca, _, hbq⟩; have hbu : Below U.heap.size U u1 := ⟨hbq.os, hbq.tape, hbq.output, hbq.size, hbq.block⟩; have z0' := cell_keep2 hbu z0; have z1' := cell_keep2 hbu z1)
        | (go_at_call 36; refine (HG.out.1 1000000000 (by omega) (by omega) ab u1 hbu hca).mono ?_; rintro e u2 ⟨rfl, hb2⟩))
      all_goals
        have HB2 := Lib.hid (hbu.trans (hb2.mono hbu.size))
        clear hbu hb2
        go_wp2_with (fail)
        go_ret2
        exact ⟨by rw [HR.out]; rfl, HU.out.2.trans (HB2.out.mono HU.out.2.size)⟩
    · have hr : costX L h w 2 0 0 0 = (agedV L h w 0, 0) := by rw [HC.out.2.2, if_pos hp]; rfl
      have HR := Lib.hid hr
      clear hr hp
      go_upto_region 8 with (fail)
      go_region_with (first
        | (go_at_call 37; refine (aged_ok _ _).mono ?_; rintro e u1 ⟨ab, rfl, hca, _, hbq⟩; have hbu : Below U.heap.size U u1 := ⟨hbq.os, hbq.tape, hbq.output, hbq.size, hbq.block⟩; have z0' := cell_keep2 hbu z0; have z1' := cell_keep2 hbu z1)
        | (go_at_call 36; refine (HG.out.1 0 (by omega) (by omega) ab u1 hbu hca).mono ?_; rintro e u2 ⟨rfl, hb2⟩))
      all_goals
        have HB2 := Lib.hid (hbu.trans (hb2.mono hbu.size))
        clear hbu hb2
        go_wp2_with (fail)
        go_ret2
        exact ⟨by rw [HR.out]; rfl, HU.out.2.trans (HB2.out.mono HU.out.2.size)⟩
    · rw [ho] at HOA
      have hr : costX L h w 3 a 0 0 = (agedV L h w a, 0) := by rw [HC.out.2.2, if_pos hp]; rfl
      have HR := Lib.hid hr
      clear hr hp
      go_upto_region 10 with (first | (go_at_call 38; with_reducible refine (HOA.out _).mono ?_; rintro e w' ⟨rfl, hw⟩; have hw := hw.symm; subst hw) | (go_at_call 38; with_reducible refine (HOM.out _).mono ?_; rintro e w' ⟨rfl, hw⟩; have hw := hw.symm; subst hw))
      go_region_with (first
        | (go_at_call 37; refine (aged_ok _ _).mono ?_; rintro e u1 ⟨ab, rfl, hca, _, hbq⟩; have hbu : Below U.heap.size U u1 := ⟨hbq.os, hbq.tape, hbq.output, hbq.size, hbq.block⟩; have z0' := cell_keep2 hbu z0; have z1' := cell_keep2 hbu z1)
        | (go_at_call 36; refine (HG.out.1 a (by omega) (by omega) ab u1 hbu hca).mono ?_; rintro e u2 ⟨rfl, hb2⟩))
      all_goals
        have HB2 := Lib.hid (hbu.trans (hb2.mono hbu.size))
        clear hbu hb2
        go_wp2_with (fail)
        go_ret2
        exact ⟨by rw [HR.out]; rfl, HU.out.2.trans (HB2.out.mono HU.out.2.size)⟩
    · rw [ho] at HOM
      have hr : costX L h w 4 0 m 0 = (mostV L (stepsV L) h w m.toNat, 0) := by rw [HC.out.2.2, if_pos hp]; rfl
      have HR := Lib.hid hr
      clear hr hp
      obtain ⟨lim, rfl⟩ : ∃ lim : Nat, m = (lim : Int) := ⟨m.toNat, by omega⟩
      have hl : lim ≤ 1024 := by omega
      have HM := Lib.hid (HG.out.2 lim hl U (Below.refl _ _))
      go_wp2_with (first | (go_at_call 38; with_reducible refine (HOM.out _).mono ?_; rintro e w' ⟨rfl, hw⟩; have hw := hw.symm; subst hw) | (go_at_call 39; refine HM.out.mono ?_; rintro e w4 ⟨rfl, hb4⟩; have HB4 := Lib.hid hb4; clear hb4))
      go_ret2
      exact ⟨by rw [HR.out]; rfl, HU.out.2.trans (HB4.out.mono HU.out.2.size)⟩
    · have hr : costX L h w 1 a m 0 = (0, 2) := by rw [HC.out.2.2, if_neg (by rw [hp]; simp)]
      have HR := Lib.hid hr
      clear hr hp
      go_wp2_with (first | (go_at_call 38; with_reducible refine (HOA.out _).mono ?_; rintro e w' ⟨rfl, hw⟩; have hw := hw.symm; subst hw) | (go_at_call 38; with_reducible refine (HOM.out _).mono ?_; rintro e w' ⟨rfl, hw⟩; have hw := hw.symm; subst hw))
      go_ret2
      exact ⟨by rw [HR.out]; rfl, HU.out.2⟩
    · have hr : costX L h w 1 0 m 0 = (0, 2) := by rw [HC.out.2.2, if_neg (by rw [hp]; simp)]
      have HR := Lib.hid hr
      clear hr hp
      go_wp2_with (first | (go_at_call 38; with_reducible refine (HOA.out _).mono ?_; rintro e w' ⟨rfl, hw⟩; have hw := hw.symm; subst hw) | (go_at_call 38; with_reducible refine (HOM.out _).mono ?_; rintro e w' ⟨rfl, hw⟩; have hw := hw.symm; subst hw))
      go_ret2
      exact ⟨by rw [HR.out]; rfl, HU.out.2⟩
    · have hr : costX L h w 2 a m 0 = (0, 2) := by rw [HC.out.2.2, if_neg (by rw [hp]; simp)]
      have HR := Lib.hid hr
      clear hr hp
      go_wp2_with (first | (go_at_call 38; with_reducible refine (HOA.out _).mono ?_; rintro e w' ⟨rfl, hw⟩; have hw := hw.symm; subst hw) | (go_at_call 38; with_reducible refine (HOM.out _).mono ?_; rintro e w' ⟨rfl, hw⟩; have hw := hw.symm; subst hw))
      go_ret2
      exact ⟨by rw [HR.out]; rfl, HU.out.2⟩
    · have hr : costX L h w 2 0 m 0 = (0, 2) := by rw [HC.out.2.2, if_neg (by rw [hp]; simp)]
      have HR := Lib.hid hr
      clear hr hp
      go_wp2_with (first | (go_at_call 38; with_reducible refine (HOA.out _).mono ?_; rintro e w' ⟨rfl, hw⟩; have hw := hw.symm; subst hw) | (go_at_call 38; with_reducible refine (HOM.out _).mono ?_; rintro e w' ⟨rfl, hw⟩; have hw := hw.symm; subst hw))
      go_ret2
      exact ⟨by rw [HR.out]; rfl, HU.out.2⟩
    · rw [ho] at HOA
      have hr : costX L h w 3 a m 0 = (0, 2) := by rw [HC.out.2.2, if_neg (by rw [hp]; simp)]
      have HR := Lib.hid hr
      clear hr hp
      go_wp2_with (first | (go_at_call 38; with_reducible refine (HOA.out _).mono ?_; rintro e w' ⟨rfl, hw⟩; have hw := hw.symm; subst hw) | (go_at_call 38; with_reducible refine (HOM.out _).mono ?_; rintro e w' ⟨rfl, hw⟩; have hw := hw.symm; subst hw))
      go_ret2
      exact ⟨by rw [HR.out]; rfl, HU.out.2⟩
    · rw [ho] at HOA
      have hr : costX L h w 3 a m 0 = (0, 2) := by rw [HC.out.2.2, if_neg (by rw [hp]; simp)]
      have HR := Lib.hid hr
      clear hr hp
      go_wp2_with (first | (go_at_call 38; with_reducible refine (HOA.out _).mono ?_; rintro e w' ⟨rfl, hw⟩; have hw := hw.symm; subst hw) | (go_at_call 38; with_reducible refine (HOM.out _).mono ?_; rintro e w' ⟨rfl, hw⟩; have hw := hw.symm; subst hw))
      go_ret2
      exact ⟨by rw [HR.out]; rfl, HU.out.2⟩
    · have hr : costX L h w 4 a m 0 = (0, 2) := by rw [HC.out.2.2, if_neg (by rw [hp]; simp)]
      have HR := Lib.hid hr
      clear hr hp
      go_wp2_with (first | (go_at_call 38; with_reducible refine (HOA.out _).mono ?_; rintro e w' ⟨rfl, hw⟩; have hw := hw.symm; subst hw) | (go_at_call 38; with_reducible refine (HOM.out _).mono ?_; rintro e w' ⟨rfl, hw⟩; have hw := hw.symm; subst hw))
      go_ret2
      exact ⟨by rw [HR.out]; rfl, HU.out.2⟩
    · rw [ho] at HOM
      have hr : costX L h w 4 0 m 0 = (0, 2) := by rw [HC.out.2.2, if_neg (by rw [hp]; simp)]
      have HR := Lib.hid hr
      clear hr hp
      go_wp2_with (first | (go_at_call 38; with_reducible refine (HOA.out _).mono ?_; rintro e w' ⟨rfl, hw⟩; have hw := hw.symm; subst hw) | (go_at_call 38; with_reducible refine (HOM.out _).mono ?_; rintro e w' ⟨rfl, hw⟩; have hw := hw.symm; subst hw))
      go_ret2
      exact ⟨by rw [HR.out]; rfl, HU.out.2⟩
    · have hr : costX L h w k a m 0 = (0, 2) := by rw [HC.out.2.2, if_neg (by rw [hp]; simp)]
      have HR := Lib.hid hr
      clear hr hp
      go_wp2_with (first | (go_at_call 38; with_reducible refine (HOA.out _).mono ?_; rintro e w' ⟨rfl, hw⟩; have hw := hw.symm; subst hw) | (go_at_call 38; with_reducible refine (HOM.out _).mono ?_; rintro e w' ⟨rfl, hw⟩; have hw := hw.symm; subst hw))
      go_ret2
      exact ⟨by rw [HR.out]; rfl, HU.out.2⟩
  · have hne : (askV L h w != 0) = true := by simp [hask]
    have HA := Lib.hid (both_bad A c L h w _ (hU.below hb2 (Nat.le_refl _)) hask)
    have hx : costX L h w k a m (askV L h w) = (0, askV L h w) := by unfold costX; rw [if_pos hask]
    rw [hx]
    have HX := Lib.hid hb2
    clear hb1 hb2 hn1 hn2 hask hx hU
    generalize askV L h w = cv at *
    go_enter Try.func13, Try.ntmps13
    go_wp2_with (go_at_call 35; refine HA.out.mono ?_; rintro e w1 ⟨p, rfl, hb1⟩; have HB1 := Lib.hid hb1; clear hb1)
    go_ret2
    exact ⟨rfl, HX.out.trans (HB1.out.mono HX.out.size)⟩
end Py
end Go.Proofs.Ytnkkhbmbbkmfhaa
