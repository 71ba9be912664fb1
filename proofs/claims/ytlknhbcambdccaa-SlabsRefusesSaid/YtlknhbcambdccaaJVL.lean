/- SlabsRefuses: the walk. -/
import Derived.Test.YtlknhbcambdccaaJVN
import Derived.Deep.RegionHeld3
import Derived.Deep.CutRange
namespace Go.Proofs.Ytlknhbcambdccaa
open Go.RowKit
namespace Sl
open Bu

def opA10 : Op := .alloc 69
def opA11 : Op := .alloc 46

/-- What the line that saves both reads. -/
abbrev RfS (w : World) (x b c : Nat) (w' : World) : Prop :=
  Below w.heap.size w w' ∧ w'.cell? ⟨x, 0, none⟩ = some (.pointer (some ⟨b, 0, none⟩)) ∧ w'.cell? ⟨x, 1, none⟩ = some (.pointer (some ⟨c, 0, none⟩))
theorem RfS.of {w : World} {x b c : Nat} {V : World} (h : RfS w x b c w) (hx : x < w.heap.size) (hb : Below w.heap.size w V) : RfS w x b c V := by
  obtain ⟨_, a0, a1⟩ := h
  exact ⟨hb, (hb.cell (p := ⟨x, 0, none⟩) hx).trans a0, (hb.cell (p := ⟨x, 1, none⟩) hx).trans a1⟩
/-- What that line leaves. -/
def RfR (w : World) (C : Ca) (N : Nat) (L : List Blk) (v10 v11 : Value) (W : World) : Prop :=
  ∃ (p10 p11 : Nat) (A3 : Option Addr) (c3 : Nat) (A4 : Option Addr) (c4 : Nat), v10 = .pointer (some ⟨p10, 0, none⟩) ∧ v11 = .pointer (some ⟨p11, 0, none⟩) ∧ W.heap[p10]? = some (.cells #[.int .i64 (C.size : Int), .int .i64 (C.order : Int), .int .i64 (C.keep : Int), .slice A3 C.sl.length c3] 69 (0, 0)) ∧ W.heap[p11]? = some (.cells #[.int .i64 (N : Int), .slice A4 L.length c4] 46 (0, 0)) ∧
    w.heap.size ≤ p10 ∧ w.heap.size ≤ p11 ∧ SbAt w.heap.size W A3 c3 (saveS C.sl) ∧ Bu.Own W w.heap.size A4 c4 L ∧ p10 ≠ p11

theorem ready_skip {P : Program} {md : Region.Mode} {ops : Array Oper} {Q : Exit → Act → World → Prop} {S : World → Prop} {fuel : Nat} {listed : Array Bool} {a : Act} {w : World} {i : Nat} {o : Oper} (hr : Region.ready md ops listed = [i]) (ho : ops[i]? = some o) (hw : Region.wanted o (yielded ops a.tmps) = false) (hS : S w)
    (h : wpAnyH P md ops Q S fuel (listed.setIfInBounds i true) (a.put o.dst undef) w) : wpAnyH P md ops Q S (fuel + 1) listed a w := by
  refine wpAnyH_ready hr (by simp) ?_
  refine AllReadyH.cons ho (fun K hK => ?_) AllReadyH.nil
  rw [if_neg (by rw [hw]; exact Bool.false_ne_true)]
  exact hK.out _ _ hS (fun _ => h)
theorem boxes_ne {V : World} {p q : Nat} {u1 u2 u3 u4 u5 u6 : Value} (h : V.heap[p]? = some (.cells #[u1, u2, u3, u4] 69 (0, 0))) (k : V.heap[q]? = some (.cells #[u5, u6] 46 (0, 0))) : ¬ p = q := fun e => by
  rw [e, k] at h
  injection h with h; injection h with _ h; cases h
theorem rf_close {w V V1 V2 V3 V4 W : World} {C : Ca} {N : Nat} {L : List Blk} {p10 p11 : Nat} {A3 A4 : Option Addr} {c3 c4 sn ln : Nat} {u1 u2 u3 u4 u5 u6 : Value} (h10 : V.heap[p10]? = some (.cells #[u1, u2, u3, u4] 69 (0, 0))) (h11 : V.heap[p11]? = some (.cells #[u5, u6] 46 (0, 0)))
    (g10 : w.heap.size ≤ p10) (g11 : w.heap.size ≤ p11) (hs : SbAt V1.heap.size V2 A3 c3 (saveS C.sl)) (hw1 : w.heap.size ≤ V1.heap.size) (hb : Bu.Own V4 V3.heap.size A4 c4 L) (hw3 : w.heap.size ≤ V3.heap.size) (hk2 : Below V2.heap.size V2 V) (hk4 : Below V4.heap.size V4 V)
    (d1 : p10 < V1.heap.size ∨ V2.heap.size ≤ p10) (d2 : p11 < V1.heap.size ∨ V2.heap.size ≤ p11) (d3 : p10 < V3.heap.size ∨ V4.heap.size ≤ p10) (d4 : p11 < V3.heap.size ∨ V4.heap.size ≤ p11) (hsn : sn = C.sl.length) (hln : ln = L.length)
    (hW : W = (((((V.setCell ⟨p10, 0, none⟩ (.int .i64 (C.size : Int))).setCell ⟨p10, 1, none⟩ (.int .i64 (C.order : Int))).setCell ⟨p10, 2, none⟩ (.int .i64 (C.keep : Int))).setCell ⟨p10, 3, none⟩ (.slice A3 sn c3)).setCell ⟨p11, 0, none⟩ (.int .i64 (N : Int))).setCell ⟨p11, 1, none⟩ (.slice A4 ln c4)) : RfR w C N L (.pointer (some ⟨p10, 0, none⟩)) (.pointer (some ⟨p11, 0, none⟩)) W := by
  have hne := boxes_ne h10 h11
  have hf : ∀ z, z ≠ p10 → z ≠ p11 → W.heap[z]? = V.heap[z]? := fun z h1 h2 => by
    rw [hW]
    exact (setCell_far _ _ _ _ h2).trans ((setCell_far _ _ _ _ h2).trans ((setCell_far _ _ _ _ h1).trans ((setCell_far _ _ _ _ h1).trans ((setCell_far _ _ _ _ h1).trans (setCell_far _ _ _ _ h1)))))
  have hsz : W.heap.size = V.heap.size := by rw [hW]; simp only [setCell_size]
  refine ⟨p10, p11, A3, c3, A4, c4, rfl, rfl, ?_, ?_, g10, g11, ?_, ?_, hne⟩
  · rw [hW, ← hsn]
    exact (setCell_far _ _ _ _ hne).trans ((setCell_far _ _ _ _ hne).trans (setCell_at _ _ 3 _ _ _ (setCell_at _ _ 2 _ _ _ (setCell_at _ _ 1 _ _ _ (setCell_at _ _ 0 _ _ _ h10)))))
  · rw [hW, ← hln]
    have h := fun (a b c d : Value) => (setCell_far ((((V.setCell ⟨p10, 0, none⟩ a).setCell ⟨p10, 1, none⟩ b).setCell ⟨p10, 2, none⟩ c)) ⟨p10, 3, none⟩ d p11 (Ne.symm hne)).trans ((setCell_far _ ⟨p10, 2, none⟩ c _ (Ne.symm hne)).trans ((setCell_far _ ⟨p10, 1, none⟩ b _ (Ne.symm hne)).trans ((setCell_far _ ⟨p10, 0, none⟩ a _ (Ne.symm hne)).trans h11)))
    exact setCell_at _ _ 1 _ _ _ (setCell_at _ _ 0 _ _ _ (h _ _ _ _))
  · refine SbAt.mono (B := V1.heap.size) ?_ hw1
    refine hs.keep (by rw [hsz]; exact hk2.size) fun z h1 h2 => ?_
    exact (hf z (fun e => by rcases d1 with d | d <;> omega) (fun e => by rcases d2 with d | d <;> omega)).trans (hk2.block z h2)
  · refine row_sameB (row_low hb hw3) fun g hg => ?_
    obtain ⟨h1, hl⟩ := hb.lt g hg
    exact (hf g (fun e => by rcases d3 with d | d <;> omega) (fun e => by rcases d4 with d | d <;> omega)).trans (hk4.block g hl)

set_option maxRecDepth 100000 in
set_option maxHeartbeats 8000000 in
theorem refuses_walk (w : World) (P : Nat) (hP : P < 256) (s o kp : Int) (A : Option Addr) (cT : Nat) (T : List (Nat × Int)) (hT : ActAt w A cT T) (a : Int) (ha1 : -9223372036854775808 ≤ a) (ha2 : a < 9223372036854775808) :
    Calls Try.prog 6 #[.agg #[.int .u8 (P : Int), .int .i64 s, .int .i64 o, .int .i64 kp], .slice A T.length cT, .int .i64 a] w fun e w' => e = .returned (.bool true) ∧ Below w.heap.size w w' := by
  obtain ⟨n, hn⟩ : ∃ n, n = T.length := ⟨_, rfl⟩
  obtain ⟨W1, hW1⟩ : ∃ W1, W1 = w.alloc (.cells #[.int .u8 (P : Int), .int .i64 s, .int .i64 o, .int .i64 kp] 42) := ⟨_, rfl⟩
  have hb1 : Below w.heap.size w W1 := by rw [hW1]; exact below_box w _
  have hg1 : W1.heap[w.heap.size]? = some (.cells #[.int .u8 (P : Int), .int .i64 s, .int .i64 o, .int .i64 kp] 42 (0, 0)) := by rw [hW1, heapAlloc, if_pos rfl]
  obtain ⟨g0, g1, g2, g3⟩ := four_at hg1
  have hnc := hT.1
  have hcm := hT.2.1
  unfold maxLen at hcm
  rw [← hn] at hnc ⊢
  have HB := Lib.hid (begin_ok W1 P hP s o kp)
  have HX := Lib.hid (And.intro hb1 (And.intro hn hT))
  have HW := Lib.hid hW1
  have HSh := Lib.hid (fun W => shown_ok W)
  clear hb1 hn hT hg1 hW1 hP
  by_cases h60 : 60 < n
  · have d60 : decide (60 < n) = true := decide_eq_true h60
    go_enter Try.func6, Try.ntmps6
    go_upto_region 1 with (fail)
    rw [← HW.out]
    go_wp2_with (go_at_call 17; refine (HSh.out _).mono ?_; rintro _ W9 ⟨rfl, hb9⟩; have H9 := Lib.hid hb9; clear hb9)
    go_ret
    exact ⟨rfl, below_step HX.out.1 H9.out (Nat.le_refl _)⟩
  have d60 : decide (60 < n) = false := decide_eq_false h60
  have hnil := run_nil_world
  go_enter Try.func6, Try.ntmps6
  go_upto_region 1 with (fail)
  rw [← HW.out]
  go_wp2_with (go_at_call 25; fail)
  refine HB.out.mono ?_
  intro e W2 hbg
  rcases hbg with ⟨x, b, r, N, rfl, hw2⟩ | ⟨rfl, hb2⟩
  · have H2 := Lib.hid hw2
    clear hw2 g0 g1 g2 g3
    go_wp2_with (fail)
    go_loopw [9] (fun iv wr => ∃ k : Nat, k ≤ n ∧ iv = .int .i64 (k : Int) ∧ Wld W1 x b r N wr) (fun iv _ => n - (intOf iv).toNat)
    case atStart => exact ⟨0, Nat.zero_le _, rfl, H2.out⟩
    case round =>
      obtain ⟨k, hk, rfl, hw⟩ := hrel
      have e0 : (0 : Int) ≤ (k : Int) := by omega
      by_cases hlt : k < n
      · have e1 : (k : Int) < (n : Int) := by omega
        have hkk : IntKind.i64.wrap ((k : Int) + 1) = ((k + 1 : Nat) : Int) := by rw [IntWalk.i64_in _ (by omega)]; rfl
        obtain ⟨⟨a1, a2⟩, hx⟩ : ∃ x, T[k]? = some x := ⟨_, List.getElem?_eq_getElem (by have := HX.out.2.1; omega)⟩
        obtain ⟨g, oo, rfl, t0, t1, h256, hl1, hl2⟩ := act_any HX.out.2.2 (HX.out.1.trans (hw.grow.mono HX.out.1.size)) hx
        dsimp only at t0 t1 h256 hl1 hl2
        have HD := Lib.hid (does_ok W1 x b r N a1 h256 a2 hl1 hl2 wr hw)
        clear hx hw h256 hl1 hl2
        go_wp2_with (go_at_call 26; fail)
        refine HD.out.mono ?_
        rintro _ W4 ⟨rfl, hw4⟩
        have H4 := Lib.hid hw4
        clear hw4 t0 t1
        go_wp2_with (fail)
        go_roundw
        case rel => exact ⟨k + 1, by omega, by go_num, H4.out⟩
        case measure => simp [intOf]; omega
      · obtain rfl : k = n := by omega
        have e1 : ¬ ((k : Nat) : Int) < (k : Int) := by omega
        obtain ⟨c, own, own2, C, L, q, A5, cG, O, Ao, co, hd⟩ := hw
        obtain ⟨x0, x1, _⟩ := six_cells hd.wrld
        have hxl := lt_of_heap hd.wrld
        have H5 := Lib.hid hd
        clear hd
        obtain ⟨W5, rfl⟩ : ∃ W5 : World, W5 = wr := ⟨_, rfl⟩
        obtain ⟨sn, hsn⟩ : ∃ sn, sn = C.sl.length := ⟨_, rfl⟩
        obtain ⟨ln, hln⟩ : ∃ ln, ln = L.length := ⟨_, rfl⟩
        have hSv : ∀ V, Below W5.heap.size W5 V → Calls Try.prog 27 #[.pointer (some ⟨c, 0, none⟩)] V fun e w' => (∃ A cp, e = .returned (stv (C.size : Int) (C.order : Int) (C.keep : Int) A sn cp) ∧ SbAt V.heap.size w' A cp (saveS C.sl)) ∧ Below V.heap.size V w' ∧ Below W5.heap.size W5 w' := fun V hV => by
          rw [hsn]
          exact (saveS_ok V own c b C N L (H5.out.below hV).prog.held).mono fun e w' ⟨h1, h2⟩ => ⟨h1, h2, below_step hV h2 (Nat.le_refl _)⟩
        have hBv : ∀ V, Below W5.heap.size W5 V → Calls Try.prog 18 #[.pointer (some ⟨b, 0, none⟩)] V fun e w' => (∃ A cp, e = .returned (sv N A ln cp) ∧ Bu.Own w' V.heap.size A cp L) ∧ Below V.heap.size V w' ∧ Below W5.heap.size W5 w' := fun V hV => by
          rw [hln]
          exact (save_ok V b N L (H5.out.below hV).prog.held.bu).mono fun e w' ⟨h1, h2⟩ => ⟨h1, h2, below_step hV h2 (Nat.le_refl _)⟩
        have hS0 : RfS W5 x b c W5 := ⟨Below.refl _ _, x0, x1⟩
        have hSV := fun V (hV : Below W5.heap.size W5 V) => RfS.of hS0 hxl hV
        have HSV := Lib.hid hSV
        clear hSV hS0
        have HSv := Lib.hid hSv
        have HBv := Lib.hid hBv
        have HL := Lib.hid (And.intro hsn hln)
        clear hSv hBv hsn hln
        go_upto_region 13 with (fail)
        rw [show Op.alloc 69 = opA10 from rfl, show Op.alloc 46 = opA11 from rfl]
        go_cut [10, 11] from 41 to 50 (fun v10 v11 wx => RfR W5 C N L v10 v11 wx ∧ Below W5.heap.size W5 wx)
        case first =>
          go_region_held3 (fun w' => Below W5.heap.size W5 w' ∧ w'.cell? ⟨x, 0, none⟩ = some (.pointer (some ⟨b, 0, none⟩)) ∧ w'.cell? ⟨x, 1, none⟩ = some (.pointer (some ⟨c, 0, none⟩))) (first | (with_reducible exact HSV.out _ hbw) | (with_reducible exact HSV.out _ ((((hbw.setCell (p := ⟨p10, 0, none⟩) hg10 _).setCell (p := ⟨p10, 1, none⟩) hg10 _).setCell (p := ⟨p10, 2, none⟩) hg10 _).setCell (p := ⟨p10, 3, none⟩) hg10 _)) | (with_reducible exact HSV.out _ ((((((hbw.setCell (p := ⟨p10, 0, none⟩) hg10 _).setCell (p := ⟨p10, 1, none⟩) hg10 _).setCell (p := ⟨p10, 2, none⟩) hg10 _).setCell (p := ⟨p10, 3, none⟩) hg10 _).setCell (p := ⟨p11, 0, none⟩) hg11 _).setCell (p := ⟨p11, 1, none⟩) hg11 _)) | exact HSV.out _ (below_drew W5 1) | (trace_state; fail))
            (first | (go_at_call 27; have hle1 := Below.size (show Below W5.heap.size W5 _ from And.left (by assumption)); (try have l101 := lt_of_heap hz10); (try have l111 := lt_of_heap hz11); refine (HSv.out _ (And.left (by assumption))).mono ?_; rintro _ V2 ⟨⟨A3, c3, rfl, hsb⟩, hbs, hbw⟩; (try replace hz10 := (hbs.block p10 (lt_of_heap hz10)).trans hz10); (try replace hz11 := (hbs.block p11 (lt_of_heap hz11)).trans hz11); (try replace hk2 := below_step hk2 hbs (Nat.le_refl _)); (try replace hk4 := below_step hk4 hbs (Nat.le_refl _)); have hk2 := Below.refl V2.heap.size V2; (try (have _a := hz10; have _b := hz11; have _c := hk4; clear _a _b _c; have nn1 := boxes_ne hz10 hz11; have nn2 := fun e => nn1 (Eq.symm e); obtain ⟨q0, q1, q2, q3⟩ := four_at hz10; have qf0 := frozen_of_plain hz10 0; have qf1 := frozen_of_plain hz10 1; have qf2 := frozen_of_plain hz10 2; have qf3 := frozen_of_plain hz10 3; obtain ⟨r0, r1, rf0, rf1⟩ := Bu.two_cells hz11))) | (go_at_call 18; have hle3 := Below.size (show Below W5.heap.size W5 _ from And.left (by assumption)); (try have l102 := lt_of_heap hz10); (try have l112 := lt_of_heap hz11); refine (HBv.out _ (And.left (by assumption))).mono ?_; rintro _ V4 ⟨⟨A4, c4, rfl, ho4⟩, hbs, hbw⟩; (try replace hz10 := (hbs.block p10 (lt_of_heap hz10)).trans hz10); (try replace hz11 := (hbs.block p11 (lt_of_heap hz11)).trans hz11); (try replace hk2 := below_step hk2 hbs (Nat.le_refl _)); (try replace hk4 := below_step hk4 hbs (Nat.le_refl _)); have hk4 := Below.refl V4.heap.size V4; (try (have _a := hz10; have _b := hz11; have _c := hk4; clear _a _b _c; have nn1 := boxes_ne hz10 hz11; have nn2 := fun e => nn1 (Eq.symm e); obtain ⟨q0, q1, q2, q3⟩ := four_at hz10; have qf0 := frozen_of_plain hz10 0; have qf1 := frozen_of_plain hz10 1; have qf2 := frozen_of_plain hz10 2; have qf3 := frozen_of_plain hz10 3; obtain ⟨r0, r1, rf0, rf1⟩ := Bu.two_cells hz11))) | (refine wp_alloc_S ?_ ?_; (exact rfl); intro p10 V6 hz10n hp10 hbs; have hbw := below_step (show Below W5.heap.size W5 _ from And.left (by assumption)) hbs (Nat.le_refl _); have hg10 := Nat.le_trans (Below.size (show Below W5.heap.size W5 _ from And.left (by assumption))) hp10; (try have e101 := Nat.le_trans hk2.size hp10); (try have e102 := Nat.le_trans hk4.size hp10); (try replace hz10 := (hbs.block p10 (lt_of_heap hz10)).trans hz10); (try replace hz11 := (hbs.block p11 (lt_of_heap hz11)).trans hz11); (try replace hk2 := below_step hk2 hbs (Nat.le_refl _)); (try replace hk4 := below_step hk4 hbs (Nat.le_refl _)); have hz10 := hz10n; clear hz10n; (try (have _a := hz10; have _b := hz11; have _c := hk4; clear _a _b _c; have nn1 := boxes_ne hz10 hz11; have nn2 := fun e => nn1 (Eq.symm e); obtain ⟨q0, q1, q2, q3⟩ := four_at hz10; have qf0 := frozen_of_plain hz10 0; have qf1 := frozen_of_plain hz10 1; have qf2 := frozen_of_plain hz10 2; have qf3 := frozen_of_plain hz10 3; obtain ⟨r0, r1, rf0, rf1⟩ := Bu.two_cells hz11))) | (refine wp_alloc_B ?_ ?_; (exact rfl); intro p11 V7 hz11n hp11 hbs; have hbw := below_step (show Below W5.heap.size W5 _ from And.left (by assumption)) hbs (Nat.le_refl _); have hg11 := Nat.le_trans (Below.size (show Below W5.heap.size W5 _ from And.left (by assumption))) hp11; (try have e111 := Nat.le_trans hk2.size hp11); (try have e112 := Nat.le_trans hk4.size hp11); (try replace hz10 := (hbs.block p10 (lt_of_heap hz10)).trans hz10); (try replace hz11 := (hbs.block p11 (lt_of_heap hz11)).trans hz11); (try replace hk2 := below_step hk2 hbs (Nat.le_refl _)); (try replace hk4 := below_step hk4 hbs (Nat.le_refl _)); have hz11 := hz11n; clear hz11n; (try (have _a := hz10; have _b := hz11; have _c := hk4; clear _a _b _c; have nn1 := boxes_ne hz10 hz11; have nn2 := fun e => nn1 (Eq.symm e); obtain ⟨q0, q1, q2, q3⟩ := four_at hz10; have qf0 := frozen_of_plain hz10 0; have qf1 := frozen_of_plain hz10 1; have qf2 := frozen_of_plain hz10 2; have qf3 := frozen_of_plain hz10 3; obtain ⟨r0, r1, rf0, rf1⟩ := Bu.two_cells hz11))))
          all_goals (try go_wp2_with (fail))
          all_goals go_meet
          all_goals exact ⟨rf_close hz10 hz11 hg10 hg11 hsb hle1 ho4 hle3 hk2 hk4 (by first | exact Or.inl l101 | exact Or.inr e101) (by first | exact Or.inl l111 | exact Or.inr e111) (by first | exact Or.inl l102 | exact Or.inr e102) (by first | exact Or.inl l112 | exact Or.inr e112) HL.out.1 HL.out.2 rfl, (((((hbw.setCell (p := ⟨p10, 0, none⟩) hg10 _).setCell (p := ⟨p10, 1, none⟩) hg10 _).setCell (p := ⟨p10, 2, none⟩) hg10 _).setCell (p := ⟨p10, 3, none⟩) hg10 _).setCell (p := ⟨p11, 0, none⟩) hg11 _).setCell (p := ⟨p11, 1, none⟩) hg11 _⟩
        case rest =>
          obtain ⟨⟨p10, p11, A3a, c3a, A4a, c4a, rfl, rfl, h10, h11, g10, g11, hsb, hbl, hne⟩, hbw⟩ := hcut
          obtain ⟨V, rfl⟩ : ∃ V : World, V = wc := ⟨_, rfl⟩
          have HW0 := Lib.hid H5.out.prog.below.size
          have hdV := H5.out.below hbw
          obtain ⟨y0, y1, _⟩ := six_cells hdV.wrld
          have hm : MinS W1 W5 own c b x p10 p11 C N L V := ⟨hdV.prog, hbw.size, fun z hz => H5.out.prog.held.fresh z hz, H5.out.xnew.2.1, lt_of_heap hdV.wrld, y0, y1, ⟨_, _, _, _, h10⟩, ⟨_, _, h11⟩, g10, g11, hne⟩
          have hv : SavS W5 p10 p11 C N L A3a c3a A4a c4a V := ⟨h10, h11, g10, g11, hsb, hbl⟩
          have hmD := hm.below (below_drew V 1)
          have hvD := hv.below (below_drew V 1)
          have HMD := Lib.hid (And.intro hmD hvD)
          have RD0 := Lib.hid (show RdS x b c p10 p11 C.size C.order C.keep N sn ln A3a c3a A4a c4a (World.drew V) from rd_of hvD hmD HL.out.1 HL.out.2)
          obtain ⟨fr, hfr⟩ : ∃ fr, fr = freeC C L a := ⟨_, rfl⟩
          obtain ⟨fn, sl, L'⟩ := fr
          have HA := Lib.hid (hmD.mine.free ha1 ha2 hfr.symm)
          have HFR := Lib.hid hfr.symm
          clear hdV h10 h11 hsb hbl hbw hm hv hmD hvD hfr y0 y1 x0 x1
          go_upto_region 14 with (fail)
          go_cut [77] from 51 to 77 (fun v wx => v = .bool false ∧ ∃ C' L', MinS W1 W5 own c b x p10 p11 C' N L' wx)
          case first =>
            by_cases hfn : fn = 0
            · have t1 : ((fn : Int) != 0) = false := by rw [hfn]; rfl
              have HFN := Lib.hid hfn
              clear hfn
              refine wp_region_held_drew (S := fun w' => w'.cell? ⟨x, 1, none⟩ = some (.pointer (some ⟨c, 0, none⟩))) (by kernel_rfl) ?_ (fun hHeld => ?_)
              · exact RD0.out.2.1
              refine wpAnyH_take (i := 0) (v := ?_) rfl (by kernel_rfl) (by kernel_rfl) (by kernel_rfl) (fun _ _ _ h => h) (Or.inl ⟨rfl, ?_⟩) (by assumption) ?_
              rotate_left 1
              · intro w hSw; (try dsimp only at hSw); go_simp; (try with_reducible rfl)
              (try simp only [Act.put])
              refine wpAnyH_take (i := 1) (v := ?_) rfl (by kernel_rfl) (by kernel_rfl) (by kernel_rfl) (fun _ _ _ h => h) (Or.inl ⟨rfl, ?_⟩) (by assumption) ?_
              rotate_left 1
              · intro w hSw; (try dsimp only at hSw); go_simp; (try with_reducible rfl)
              (try simp only [Act.put])
              refine wpAnyH_take (i := 2) (v := ?_) rfl (by kernel_rfl) (by kernel_rfl) (by kernel_rfl) (fun _ _ _ h => h) (Or.inl ⟨rfl, ?_⟩) (by assumption) ?_
              rotate_left 1
              · intro w hSw; (try dsimp only at hSw); go_simp; (try with_reducible rfl)
              (try simp only [Act.put])
              refine wpAnyH_take (i := 3) (v := ?_) rfl (by kernel_rfl) (by kernel_rfl) (by kernel_rfl) (fun _ _ _ h => h) (Or.inl ⟨rfl, ?_⟩) (by assumption) ?_
              rotate_left 1
              · intro w hSw; (try dsimp only at hSw); go_simp; (try with_reducible rfl)
              (try simp only [Act.put])
              refine wpAnyH_take (i := 4) (v := ?_) rfl (by kernel_rfl) (by kernel_rfl) (by kernel_rfl) (fun _ _ _ h => h) (Or.inl ⟨rfl, ?_⟩) (by assumption) ?_
              rotate_left 1
              · intro w hSw; (try dsimp only at hSw); go_simp; (try with_reducible rfl)
              (try simp only [Act.put])
              refine wpAnyH_ready (rs := [5]) (by kernel_rfl) (by simp) ?_
              refine AllReadyH.cons rfl (fun K hK => ?_) AllReadyH.nil
              go_simp
              (go_at_call 11; refine HA.out.mono ?_; rintro _ X0 ⟨rfl, hM6, hK6⟩; have hm6 := HMD.out.1.keep hM6 hK6; have hv6 := HMD.out.2.keeps HMD.out.1 hK6; have hm6b := HMD.out.1.keep hM6 hK6; have RD1 := Lib.hid (rd_of hv6 hm6 HL.out.1 HL.out.2); have H7 := Lib.hid hm6; clear hM6 hK6 hm6 hv6 hm6b)
              refine hK.out _ _ ?_ (fun hHeld => ?_)
              · exact RD1.out.2.1
              clear hK K
              (try simp only [Act.put])
              refine wpAnyH_take (i := 6) (v := ?_) rfl (by kernel_rfl) (by kernel_rfl) (by kernel_rfl) (fun _ _ _ h => h) (Or.inl ⟨rfl, ?_⟩) (by assumption) ?_
              rotate_left 1
              · intro w hSw; (try dsimp only at hSw); go_simp; (try with_reducible rfl)
              (try simp only [Act.put])
              refine wpAnyH_take (i := 7) (v := ?_) rfl (by kernel_rfl) (by kernel_rfl) (by kernel_rfl) (fun _ _ _ h => h) (Or.inl ⟨rfl, ?_⟩) (by assumption) ?_
              rotate_left 1
              · intro w hSw; (try dsimp only at hSw); go_simp; (try with_reducible rfl)
              (try simp only [Act.put])
              refine wpAnyH_take (i := 8) (v := undef) rfl (by kernel_rfl) (by kernel_rfl) (by kernel_rfl) (fun _ _ _ h => h) (Or.inr ⟨by kernel_rfl, rfl⟩) (by assumption) ?_
              (try simp only [Act.put])
              refine wpAnyH_take (i := 9) (v := undef) rfl (by kernel_rfl) (by kernel_rfl) (by kernel_rfl) (fun _ _ _ h => h) (Or.inr ⟨by kernel_rfl, rfl⟩) (by assumption) ?_
              (try simp only [Act.put])
              refine wpAnyH_take (i := 10) (v := undef) rfl (by kernel_rfl) (by kernel_rfl) (by kernel_rfl) (fun _ _ _ h => h) (Or.inr ⟨by kernel_rfl, rfl⟩) (by assumption) ?_
              (try simp only [Act.put])
              refine wpAnyH_take (i := 11) (v := undef) rfl (by kernel_rfl) (by kernel_rfl) (by kernel_rfl) (fun _ _ _ h => h) (Or.inr ⟨by kernel_rfl, rfl⟩) (by assumption) ?_
              (try simp only [Act.put])
              refine wpAnyH_take (i := 12) (v := undef) rfl (by kernel_rfl) (by kernel_rfl) (by kernel_rfl) (fun _ _ _ h => h) (Or.inr ⟨by kernel_rfl, rfl⟩) (by assumption) ?_
              (try simp only [Act.put])
              refine ready_skip (i := 13) (by kernel_rfl) rfl (by kernel_rfl) (RD1.out.2.1) ?_
              (try simp only [Act.put])
              refine ready_skip (i := 14) (by kernel_rfl) rfl (by kernel_rfl) (RD1.out.2.1) ?_
              (try simp only [Act.put])
              refine wpAnyH_take (i := 15) (v := undef) rfl (by kernel_rfl) (by kernel_rfl) (by kernel_rfl) (fun _ _ _ h => h) (Or.inr ⟨by kernel_rfl, rfl⟩) (by assumption) ?_
              (try simp only [Act.put])
              refine wpAnyH_take (i := 16) (v := undef) rfl (by kernel_rfl) (by kernel_rfl) (by kernel_rfl) (fun _ _ _ h => h) (Or.inr ⟨by kernel_rfl, rfl⟩) (by assumption) ?_
              (try simp only [Act.put])
              refine wpAnyH_take (i := 17) (v := undef) rfl (by kernel_rfl) (by kernel_rfl) (by kernel_rfl) (fun _ _ _ h => h) (Or.inr ⟨by kernel_rfl, rfl⟩) (by assumption) ?_
              (try simp only [Act.put])
              refine wpAnyH_take (i := 18) (v := undef) rfl (by kernel_rfl) (by kernel_rfl) (by kernel_rfl) (fun _ _ _ h => h) (Or.inr ⟨by kernel_rfl, rfl⟩) (by assumption) ?_
              (try simp only [Act.put])
              refine wpAnyH_take (i := 19) (v := undef) rfl (by kernel_rfl) (by kernel_rfl) (by kernel_rfl) (fun _ _ _ h => h) (Or.inr ⟨by kernel_rfl, rfl⟩) (by assumption) ?_
              (try simp only [Act.put])
              refine wpAnyH_take (i := 20) (v := undef) rfl (by kernel_rfl) (by kernel_rfl) (by kernel_rfl) (fun _ _ _ h => h) (Or.inr ⟨by kernel_rfl, rfl⟩) (by assumption) ?_
              (try simp only [Act.put])
              refine wpAnyH_take (i := 21) (v := undef) rfl (by kernel_rfl) (by kernel_rfl) (by kernel_rfl) (fun _ _ _ h => h) (Or.inr ⟨by kernel_rfl, rfl⟩) (by assumption) ?_
              (try simp only [Act.put])
              refine ready_skip (i := 22) (by kernel_rfl) rfl (by kernel_rfl) (RD1.out.2.1) ?_
              (try simp only [Act.put])
              refine ready_skip (i := 23) (by kernel_rfl) rfl (by kernel_rfl) (RD1.out.2.1) ?_
              (try simp only [Act.put])
              refine wpAnyH_take (i := 24) (v := undef) rfl (by kernel_rfl) (by kernel_rfl) (by kernel_rfl) (fun _ _ _ h => h) (Or.inr ⟨by kernel_rfl, rfl⟩) (by assumption) ?_
              (try simp only [Act.put])
              refine wpAnyH_take (i := 25) (v := undef) rfl (by kernel_rfl) (by kernel_rfl) (by kernel_rfl) (fun _ _ _ h => h) (Or.inr ⟨by kernel_rfl, rfl⟩) (by assumption) ?_
              (try simp only [Act.put])
              refine wpAnyH_take (i := 26) (v := ?_) rfl (by kernel_rfl) (by kernel_rfl) (by kernel_rfl) (fun _ _ _ h => h) (Or.inl ⟨rfl, ?_⟩) (by assumption) ?_
              rotate_left 1
              · intro w hSw; (try dsimp only at hSw); go_simp; (try with_reducible rfl)
              (try simp only [Act.put])
              refine wpAnyH_done (by kernel_rfl) ?_ _
              go_wp2_with (fail)
              go_meet
              exact ⟨rfl, _, _, H7.out⟩
            · have t1 : ((fn : Int) != 0) = true := by rw [bne_iff_ne]; omega
              have HFN := Lib.hid (free_refused HFR.out hfn)
              clear hfn
              go_region_held3 (fun w' => w'.cell? ⟨x, 0, none⟩ = some (.pointer (some ⟨b, 0, none⟩)) ∧ w'.cell? ⟨x, 1, none⟩ = some (.pointer (some ⟨c, 0, none⟩)) ∧ w'.cell? ⟨p10, 0, none⟩ = some (.int .i64 (C.size : Int)) ∧ w'.cell? ⟨p10, 1, none⟩ = some (.int .i64 (C.order : Int)) ∧ w'.cell? ⟨p10, 2, none⟩ = some (.int .i64 (C.keep : Int)) ∧ w'.cell? ⟨p10, 3, none⟩ = some (.slice A3a sn c3a) ∧ w'.cell? ⟨p11, 0, none⟩ = some (.int .i64 (N : Int)) ∧ w'.cell? ⟨p11, 1, none⟩ = some (.slice A4a ln c4a)) (first | (with_reducible exact RD0.out) | (with_reducible exact RD5.out) | (with_reducible exact RD4.out) | (with_reducible exact RD3.out) | (with_reducible exact RD2.out) | (with_reducible exact RD1.out) | (trace_state; fail)) (first | (go_at_call 11; refine HA.out.mono ?_; rintro _ X0 ⟨rfl, hM6, hK6⟩; rw [HFN.out.1, HFN.out.2] at hM6; have hm6 := HMD.out.1.keep (C' := C) hM6 hK6; have hv6 := HMD.out.2.keeps HMD.out.1 hK6; have RD5 := Lib.hid (rd_of hv6 hm6 HL.out.1 HL.out.2); have hsm := saveS_ok X0 own c b C N L hm6.mine.held; rw [← HL.out.1] at hsm; have HSa := Lib.hid hsm; have HM0 := Lib.hid (And.intro hm6 hv6); clear hM6 hK6 hm6 hv6 hsm) | (go_at_call 27; refine HSa.out.mono ?_; rintro _ Xa1 ⟨⟨B5, d5, rfl, hs5⟩, hbx⟩; have hm := HM0.out.1.below hbx; have hv := HM0.out.2.below hbx; have RD1 := Lib.hid (rd_of hv hm HL.out.1 HL.out.2); have hsm := sameS_ok Xa1 (C.size : Int) (C.order : Int) (C.keep : Int) A3a B5 c3a d5 (saveS C.sl) (hv.sb.mono (Nat.zero_le _)) (hs5.mono (Nat.zero_le _)); rw [saveS_len, ← HL.out.1] at hsm; have HSM := Lib.hid hsm; have HM1 := Lib.hid (And.intro hm hv); clear hm hv hs5 hbx hsm) | (go_at_call 28; refine HSM.out.mono ?_; rintro _ Xa2 ⟨rfl, hbx⟩; have hm := HM1.out.1.below hbx; have hv := HM1.out.2.below hbx; have RD2 := Lib.hid (rd_of hv hm HL.out.1 HL.out.2); have hsm := save_ok Xa2 b N L hm.mine.held.bu; rw [← HL.out.2] at hsm; have HBS := Lib.hid hsm; have HM2 := Lib.hid (And.intro hm hv); clear hm hv hbx hsm) | (go_at_call 18; refine HBS.out.mono ?_; rintro _ Xa3 ⟨⟨B6, d6, rfl, ho6⟩, hbx⟩; have hm := HM2.out.1.below hbx; have hv := HM2.out.2.below hbx; have RD3 := Lib.hid (rd_of hv hm HL.out.1 HL.out.2); have hsm := same_self Xa3 N A4a B6 c4a d6 L hv.bl.at.1 ho6.at.1; rw [← HL.out.2] at hsm; have HSB := Lib.hid hsm; have HM3 := Lib.hid (And.intro hm hv); clear hm hv ho6 hbx hsm) | (go_at_call 21; refine HSB.out.mono ?_; rintro _ Xa4 ⟨rfl, hbx⟩; have hm := HM3.out.1.below hbx; have hv := HM3.out.2.below hbx; have RD4 := Lib.hid (rd_of hv hm HL.out.1 HL.out.2); have HM4 := Lib.hid (And.intro hm hv); clear hm hv hbx))
              go_wp2_with (fail)
              go_meet
              exact ⟨rfl, _, _, HM4.out.1⟩
          case rest =>
            obtain ⟨rfl, C', L', hmy⟩ := hcut
            obtain ⟨Y, rfl⟩ : ∃ Y : World, Y = wc := ⟨_, rfl⟩
            clear RD0 HMD HA HFR
            have hmD := hmy.below (below_drew Y 1)
            obtain ⟨sn', hsn'⟩ : ∃ sn', sn' = C'.sl.length := ⟨_, rfl⟩
            obtain ⟨ln', hln'⟩ : ∃ ln', ln' = L'.length := ⟨_, rfl⟩
            have hs1 := saveS_ok (World.drew Y) own c b C' N L' hmD.mine.held
            rw [← hsn'] at hs1
            have HS16 := Lib.hid hs1
            have HL2 := Lib.hid (And.intro hsn' hln')
            have HMD := Lib.hid hmD
            have HX0 := Lib.hid (show (World.drew Y).cell? ⟨x, 0, none⟩ = some (.pointer (some ⟨b, 0, none⟩)) ∧ (World.drew Y).cell? ⟨x, 1, none⟩ = some (.pointer (some ⟨c, 0, none⟩)) from ⟨hmD.x0, hmD.x1⟩)
            have HXL := Lib.hid (And.intro hxl HW0.out)
            clear hmy hmD hs1 hsn' hln'
            go_upto_region 16 with (fail)
            go_cut [] from 78 to 87 (fun wx => ∃ A7 c7 A8 c8, SavS W5 p10 p11 C' N L' A7 c7 A8 c8 wx ∧ MinS W1 W5 own c b x p10 p11 C' N L' wx)
            case first =>
              go_region_held3 (fun w' => w'.cell? ⟨x, 0, none⟩ = some (.pointer (some ⟨b, 0, none⟩)) ∧ w'.cell? ⟨x, 1, none⟩ = some (.pointer (some ⟨c, 0, none⟩))) (first | (with_reducible exact HX2.out) | (with_reducible exact HX1.out) | (with_reducible exact HX0.out) | (with_reducible exact MinS.far4 HMB.out.1 HXL.out.1 _ _ _ _) | (with_reducible exact MinS.far6 HMB.out.1 HXL.out.1 HXL.out.2 _ _ _ _ _ _) | (trace_state; fail)) (first | (go_at_call 27; refine HS16.out.mono ?_; rintro _ Y1 ⟨⟨A7, c7, rfl, hs7⟩, hbx⟩; have hm1 := HMD.out.below hbx; have HX1 := Lib.hid (And.intro hm1.x0 hm1.x1); have hsm := save_ok Y1 b N L' hm1.mine.held.bu; rw [← HL2.out.2] at hsm; have HBS := Lib.hid hsm; have HM1 := Lib.hid (And.intro hm1 (And.intro hs7 hbx)); clear hm1 hs7 hbx hsm) | (go_at_call 18; refine HBS.out.mono ?_; rintro _ Y2 ⟨⟨A8, c8, rfl, ho8⟩, hbx⟩; have hm2 := HM1.out.1.below hbx; have HX2 := Lib.hid (And.intro hm2.x0 hm2.x1); obtain ⟨u1, u2, u3, u4, hb10⟩ := hm2.b10; obtain ⟨u5, u6, hb11⟩ := hm2.b11; obtain ⟨q0, q1, q2, q3⟩ := four_at hb10; have qf0 := frozen_of_plain hb10 0; have qf1 := frozen_of_plain hb10 1; have qf2 := frozen_of_plain hb10 2; have qf3 := frozen_of_plain hb10 3; obtain ⟨r0, r1, rf0, rf1⟩ := Bu.two_cells hb11; have nn1 := hm2.ne; have nn2 : ¬ p11 = p10 := fun e => hm2.ne e.symm; have HB10 := Lib.hid hb10; have HB11 := Lib.hid hb11; have HD := Lib.hid (MinS.old (V1 := World.drew Y) HMD.out HM1.out.1); have HLE := Lib.hid (And.intro HMD.out.le5 HM1.out.1.le5); have HMB := Lib.hid (And.intro hm2 (And.intro HM1.out.2.1 (And.intro ho8 hbx))); clear hm2 hb10 hb11 ho8 hbx))
              (try go_wp2_with (fail))
              go_meet
              obtain ⟨hmz, hsb7, ho8, hb12⟩ := HMB.out
              obtain ⟨hle1, hle3⟩ := HLE.out
              obtain ⟨q10, q11, A, cA, B, cB, e1, e2, z10, z11, zg10, zg11, zsb, zbl, _⟩ := rf_close (w := W5) (C := C') (L := L') (N := N) (p10 := p10) (p11 := p11) HB10.out HB11.out hmz.g10 hmz.g11 hsb7 hle1 ho8 hle3 hb12 (Below.refl _ _) (Or.inl HD.out.1) (Or.inl HD.out.2.1) (Or.inl HD.out.2.2.1) (Or.inl HD.out.2.2.2) HL2.out.1 HL2.out.2 rfl
              injection e1 with e1; injection e1 with e1; injection e1 with e1
              injection e2 with e2; injection e2 with e2; injection e2 with e2
              subst e1; subst e2
              exact ⟨A, cA, B, cB, ⟨z10, z11, zg10, zg11, zsb, zbl⟩, hmz.sets HXL.out.1 HXL.out.2 _ _ _ _ _ _⟩
            case rest =>
              obtain ⟨A3b, c3b, A4b, c4b, hv, hm⟩ := hcut
              obtain ⟨Z, rfl⟩ : ∃ Z : World, Z = wc := ⟨_, rfl⟩
              have x1 := hm.x1
              have H17 := Lib.hid (And.intro hm hv)
              clear HS16 HMD HX0
              go_upto_region 17 with (fail)
              cases hal : allocC C' N L' with
              | some asl =>
                obtain ⟨ad, sl2, L2⟩ := asl
                have HA := Lib.hid (hm.mine.alloc hal)
                have HZ := Lib.hid hal
                clear hal hm hv
                go_wp2_with (go_at_call 12; fail)
                refine HA.out.mono ?_
                rintro _ Z1 ⟨rfl, own1, hM1, hK1⟩
                have H18 := Lib.hid hM1
                clear hM1 hK1
                go_upto_region 18 with (fail)
                refine wp_region_held_drew (S := fun _ => True) (by kernel_rfl) ?_ (fun hHeld => ?_)
                · trivial
                refine wpAnyH_take (i := 0) (v := ?_) rfl (by kernel_rfl) (by kernel_rfl) (by kernel_rfl) (fun _ _ _ h => h) (Or.inl ⟨rfl, ?_⟩) (by assumption) ?_
                rotate_left 1
                · intro w hSw; (try dsimp only at hSw); go_simp; (try with_reducible rfl)
                (try simp only [Act.put])
                refine wpAnyH_take (i := 1) (v := ?_) rfl (by kernel_rfl) (by kernel_rfl) (by kernel_rfl) (fun _ _ _ h => h) (Or.inl ⟨rfl, ?_⟩) (by assumption) ?_
                rotate_left 1
                · intro w hSw; (try dsimp only at hSw); go_simp; (try with_reducible rfl)
                (try simp only [Act.put])
                refine wpAnyH_take (i := 2) (v := ?_) rfl (by kernel_rfl) (by kernel_rfl) (by kernel_rfl) (fun _ _ _ h => h) (Or.inl ⟨rfl, ?_⟩) (by assumption) ?_
                rotate_left 1
                · intro w hSw; (try dsimp only at hSw); go_simp; (try with_reducible rfl)
                (try simp only [Act.put])
                refine wpAnyH_take (i := 3) (v := undef) rfl (by kernel_rfl) (by kernel_rfl) (by kernel_rfl) (fun _ _ _ h => h) (Or.inr ⟨by kernel_rfl, rfl⟩) (by assumption) ?_
                (try simp only [Act.put])
                refine wpAnyH_take (i := 4) (v := undef) rfl (by kernel_rfl) (by kernel_rfl) (by kernel_rfl) (fun _ _ _ h => h) (Or.inr ⟨by kernel_rfl, rfl⟩) (by assumption) ?_
                (try simp only [Act.put])
                refine wpAnyH_take (i := 5) (v := undef) rfl (by kernel_rfl) (by kernel_rfl) (by kernel_rfl) (fun _ _ _ h => h) (Or.inr ⟨by kernel_rfl, rfl⟩) (by assumption) ?_
                (try simp only [Act.put])
                refine wpAnyH_take (i := 6) (v := undef) rfl (by kernel_rfl) (by kernel_rfl) (by kernel_rfl) (fun _ _ _ h => h) (Or.inr ⟨by kernel_rfl, rfl⟩) (by assumption) ?_
                (try simp only [Act.put])
                refine wpAnyH_take (i := 7) (v := undef) rfl (by kernel_rfl) (by kernel_rfl) (by kernel_rfl) (fun _ _ _ h => h) (Or.inr ⟨by kernel_rfl, rfl⟩) (by assumption) ?_
                (try simp only [Act.put])
                refine ready_skip (i := 8) (by kernel_rfl) rfl (by kernel_rfl) (trivial) ?_
                (try simp only [Act.put])
                refine ready_skip (i := 9) (by kernel_rfl) rfl (by kernel_rfl) (trivial) ?_
                (try simp only [Act.put])
                refine wpAnyH_take (i := 10) (v := undef) rfl (by kernel_rfl) (by kernel_rfl) (by kernel_rfl) (fun _ _ _ h => h) (Or.inr ⟨by kernel_rfl, rfl⟩) (by assumption) ?_
                (try simp only [Act.put])
                refine wpAnyH_take (i := 11) (v := undef) rfl (by kernel_rfl) (by kernel_rfl) (by kernel_rfl) (fun _ _ _ h => h) (Or.inr ⟨by kernel_rfl, rfl⟩) (by assumption) ?_
                (try simp only [Act.put])
                refine wpAnyH_take (i := 12) (v := undef) rfl (by kernel_rfl) (by kernel_rfl) (by kernel_rfl) (fun _ _ _ h => h) (Or.inr ⟨by kernel_rfl, rfl⟩) (by assumption) ?_
                (try simp only [Act.put])
                refine wpAnyH_take (i := 13) (v := undef) rfl (by kernel_rfl) (by kernel_rfl) (by kernel_rfl) (fun _ _ _ h => h) (Or.inr ⟨by kernel_rfl, rfl⟩) (by assumption) ?_
                (try simp only [Act.put])
                refine wpAnyH_take (i := 14) (v := undef) rfl (by kernel_rfl) (by kernel_rfl) (by kernel_rfl) (fun _ _ _ h => h) (Or.inr ⟨by kernel_rfl, rfl⟩) (by assumption) ?_
                (try simp only [Act.put])
                refine wpAnyH_take (i := 15) (v := undef) rfl (by kernel_rfl) (by kernel_rfl) (by kernel_rfl) (fun _ _ _ h => h) (Or.inr ⟨by kernel_rfl, rfl⟩) (by assumption) ?_
                (try simp only [Act.put])
                refine ready_skip (i := 16) (by kernel_rfl) rfl (by kernel_rfl) (trivial) ?_
                (try simp only [Act.put])
                refine ready_skip (i := 17) (by kernel_rfl) rfl (by kernel_rfl) (trivial) ?_
                (try simp only [Act.put])
                refine wpAnyH_take (i := 18) (v := undef) rfl (by kernel_rfl) (by kernel_rfl) (by kernel_rfl) (fun _ _ _ h => h) (Or.inr ⟨by kernel_rfl, rfl⟩) (by assumption) ?_
                (try simp only [Act.put])
                refine wpAnyH_take (i := 19) (v := ?_) rfl (by kernel_rfl) (by kernel_rfl) (by kernel_rfl) (fun _ _ _ h => h) (Or.inl ⟨rfl, ?_⟩) (by assumption) ?_
                rotate_left 1
                · intro w hSw; (try dsimp only at hSw); go_simp; (try with_reducible rfl)
                (try simp only [Act.put])
                refine wpAnyH_take (i := 20) (v := ?_) rfl (by kernel_rfl) (by kernel_rfl) (by kernel_rfl) (fun _ _ _ h => h) (Or.inl ⟨rfl, ?_⟩) (by assumption) ?_
                rotate_left 1
                · intro w hSw; (try dsimp only at hSw); go_simp; (try with_reducible rfl)
                (try simp only [Act.put])
                refine wpAnyH_ready (rs := [21]) (by kernel_rfl) (by simp) ?_
                refine AllReadyH.cons rfl (fun K hK => ?_) AllReadyH.nil
                go_simp
                (go_at_call 17; refine (HSh.out _).mono ?_; rintro _ Z9 ⟨rfl, hb9⟩; have H9 := Lib.hid hb9; clear hb9)
                refine hK.out _ _ ?_ (fun hHeld => ?_)
                · trivial
                clear hK K
                (try simp only [Act.put])
                refine wpAnyH_take (i := 22) (oi := Oper.mk (some 118) _ _ _ _ _) (v := ?_) rfl (by kernel_rfl) (by kernel_rfl) (by kernel_rfl) (fun _ _ _ h => h) (Or.inl ⟨rfl, ?_⟩) (by assumption) ?_
                rotate_left 1
                · intro w hSw; (try dsimp only at hSw); go_simp; (try with_reducible rfl)
                (try simp only [Act.put])
                refine wpAnyH_take (i := 23) (oi := Oper.mk (some 6) _ _ _ _ _) (v := ?_) rfl (by kernel_rfl) (by kernel_rfl) (by kernel_rfl) (fun _ _ _ h => h) (Or.inl ⟨rfl, ?_⟩) (by assumption) ?_
                rotate_left 1
                · intro w hSw; (try dsimp only at hSw); go_simp; (try with_reducible rfl)
                (try simp only [Act.put])
                refine wpAnyH_done (by kernel_rfl) ?_ _
                (try go_wp2_with (fail))
                go_ret
                exact ⟨rfl, below_step' (HX.out.1.trans (H18.out.below.mono HX.out.1.size)) H9.out (Nat.le_refl _)⟩
              | none =>
                have HA := Lib.hid (hm.mine.full hal)
                have HZ := Lib.hid hal
                clear hal hm hv
                go_wp2_with (go_at_call 12; fail)
                refine HA.out.mono ?_
                rintro _ Z1 ⟨rfl, hM1, hK1⟩
                have hmD := (H17.out.1.keep hM1 hK1).below (below_drew Z1 1)
                have hvD := (H17.out.2.keeps H17.out.1 hK1).below (below_drew Z1 1)
                have hs1 := saveS_ok (World.drew Z1) own c b C' N L' hmD.mine.held
                rw [← HL2.out.1] at hs1
                have HSb := Lib.hid hs1
                have HMD := Lib.hid (And.intro hmD hvD)
                have RD0 := Lib.hid (show RdS x b c p10 p11 C'.size C'.order C'.keep N sn' ln' A3b c3b A4b c4b (World.drew Z1) from rd_of hvD hmD HL2.out.1 HL2.out.2)
                clear hM1 hK1 hmD hvD hs1 x1
                go_upto_region 18 with (fail)
                go_region_held3 (fun w' => w'.cell? ⟨x, 0, none⟩ = some (.pointer (some ⟨b, 0, none⟩)) ∧ w'.cell? ⟨x, 1, none⟩ = some (.pointer (some ⟨c, 0, none⟩)) ∧ w'.cell? ⟨p10, 0, none⟩ = some (.int .i64 (C'.size : Int)) ∧ w'.cell? ⟨p10, 1, none⟩ = some (.int .i64 (C'.order : Int)) ∧ w'.cell? ⟨p10, 2, none⟩ = some (.int .i64 (C'.keep : Int)) ∧ w'.cell? ⟨p10, 3, none⟩ = some (.slice A3b sn' c3b) ∧ w'.cell? ⟨p11, 0, none⟩ = some (.int .i64 (N : Int)) ∧ w'.cell? ⟨p11, 1, none⟩ = some (.slice A4b ln' c4b)) (first | (with_reducible exact RD0.out) | (with_reducible exact RD5.out) | (with_reducible exact RD4.out) | (with_reducible exact RD3.out) | (with_reducible exact RD2.out) | (with_reducible exact RD1.out) | (trace_state; fail)) (first | (go_at_call 27; refine HSb.out.mono ?_; rintro _ Xb1 ⟨⟨B5, d5, rfl, hs5⟩, hbx⟩; have hm := HMD.out.1.below hbx; have hv := HMD.out.2.below hbx; have RD1 := Lib.hid (rd_of hv hm HL2.out.1 HL2.out.2); have hsm := sameS_ok Xb1 (C'.size : Int) (C'.order : Int) (C'.keep : Int) A3b B5 c3b d5 (saveS C'.sl) (hv.sb.mono (Nat.zero_le _)) (hs5.mono (Nat.zero_le _)); rw [saveS_len, ← HL2.out.1] at hsm; have HSM := Lib.hid hsm; have HM1 := Lib.hid (And.intro hm hv); clear hm hv hs5 hbx hsm) | (go_at_call 28; refine HSM.out.mono ?_; rintro _ Xb2 ⟨rfl, hbx⟩; have hm := HM1.out.1.below hbx; have hv := HM1.out.2.below hbx; have RD2 := Lib.hid (rd_of hv hm HL2.out.1 HL2.out.2); have hsm := save_ok Xb2 b N L' hm.mine.held.bu; rw [← HL2.out.2] at hsm; have HBS := Lib.hid hsm; have HM2 := Lib.hid (And.intro hm hv); clear hm hv hbx hsm) | (go_at_call 18; refine HBS.out.mono ?_; rintro _ Xb3 ⟨⟨B6, d6, rfl, ho6⟩, hbx⟩; have hm := HM2.out.1.below hbx; have hv := HM2.out.2.below hbx; have RD3 := Lib.hid (rd_of hv hm HL2.out.1 HL2.out.2); have hsm := same_self Xb3 N A4b B6 c4b d6 L' hv.bl.at.1 ho6.at.1; rw [← HL2.out.2] at hsm; have HSB := Lib.hid hsm; have HM3 := Lib.hid (And.intro hm hv); clear hm hv ho6 hbx hsm) | (go_at_call 21; refine HSB.out.mono ?_; rintro _ Xb4 ⟨rfl, hbx⟩; have hm := HM3.out.1.below hbx; have hv := HM3.out.2.below hbx; have RD4 := Lib.hid (rd_of hv hm HL2.out.1 HL2.out.2); have HM4 := Lib.hid (And.intro hm hv); clear hm hv hbx) | (go_at_call 17; refine (HSh.out _).mono ?_; rintro _ X9 ⟨rfl, hbx⟩; have hm := HM4.out.1.below hbx; have hv := HM4.out.2.below hbx; have RD5 := Lib.hid (rd_of hv hm HL2.out.1 HL2.out.2); have HM5 := Lib.hid hm; clear hm hv hbx))
                (try go_wp2_with (fail))
                go_ret
                exact ⟨rfl, HX.out.1.trans (HM5.out.mine.below.mono HX.out.1.size)⟩
  · have H2 := Lib.hid hb2
    clear hb2 g0 g1 g2 g3
    go_wp2_with (go_at_call 17; refine (HSh.out _).mono ?_; rintro _ W9 ⟨rfl, hb9⟩; have H9 := Lib.hid hb9; clear hb9)
    go_ret
    exact ⟨rfl, below_step (below_step HX.out.1 H2.out (Nat.le_refl _)) H9.out (Nat.le_refl _)⟩
end Sl
end Go.Proofs.Ytlknhbcambdccaa
