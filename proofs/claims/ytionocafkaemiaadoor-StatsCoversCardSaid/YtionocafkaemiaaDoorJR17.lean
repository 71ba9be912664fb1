/- before of the reference: which envelope is preferred. -/
import Derived.Test.YtionocafkaemiaaDoorK1
import Derived.Test.YtionocafkaemiaaDoorJR8
import Derived.Test.YtionocafkaemiaaDoorJR12
import Derived.Test.YtionocafkaemiaaDoorJA22
import Derived.Test.YtionocafkaemiaaDoorJS5
import Derived.Test.YtionocafkaemiaaDoorJR4
import Derived.Test.YtionocafkaemiaaDoorJR5
import Derived.Test.YtionocafkaemiaaDoorJL1
import Derived.Test.YtionocafkaemiaaDoorJA26
namespace Go.Proofs.YtionocafkaemiaaDoor
open Go.RowKit Go.Lib
namespace Sx
theorem neq_area (a b c d : Int) (w : World) : (binOp .neq 31 (.agg #[.int .i64 a, .int .i64 b]) (.agg #[.int .i64 c, .int .i64 d])).run Tryd.prog w = .ok (.bool (!(a == c && b == d))) w := by
  have u3 := Tryd.underlying2
  have a3 := Tryd.isAgg2
  have z3 := Tryd.sizeOf2
  rw [run_neq_struct, show (10000 : Nat) = 9999 + 1 from rfl, run_equalIn_agg w 9999 _ _ _ area_fields area_held]
  simp only [Program.fieldsOf, Tryd.underlying31]
  go_simp
  by_cases h1 : a = c <;> by_cases h2 : b = d <;> simp [h1, h2]
theorem far2 {w : World} {p q : Nat} {o : Option Obj} {x y : Value} (hne : ¬ p = q) (h : w.heap[p]? = o) : ((w.setCell ⟨q, 0, none⟩ x).setCell ⟨q, 1, none⟩ y).heap[p]? = o := by
  rw [Below.heap_setCell _ _ _ _ (by simpa using hne), Below.heap_setCell _ _ _ _ (by simpa using hne), h]
/-- The two stores: under names of their own. -/
def opSt7 : Op := .store 31 (.tmp 7) (.tmp 17)
def opSt8 : Op := .store 31 (.tmp 8) (.tmp 25)
theorem wp_alloc_at {w : World} {o : Oper} {a : Act} {K : Act → World → Prop} {Q : Exit → Act → World → Prop} (s : Nat) (ho : o.op = opA20) (hs : o.dst = some s)
    (h : ∀ p W', W'.heap[p]? = some (.cells #[.int .i64 0, .int .i64 0] 31 (0, 0)) → w.heap.size ≤ p → Below w.heap.size w W' → K (a.put (some s) (.pointer (some ⟨p, 0, none⟩))) W') : Oper.wp Tryd.prog o a w K Q := by
  have h2 := wp_alloc_A (w := w) (a := a) (K := K) (Q := Q) (o := o) ho (by rw [hs]; exact h)
  exact h2
theorem wp_store_A {w : World} {o : Oper} {a : Act} {K : Act → World → Prop} {Q : Exit → Act → World → Prop} (d v : Operand) (ho : o.op = .store 31 d v) (p : Nat) (h l : Int) (x y : Value) (hd : a.eval d = .pointer (some ⟨p, 0, none⟩)) (hv : a.eval v = .agg #[.int .i64 h, .int .i64 l]) (hz : w.heap[p]? = some (.cells #[x, y] 31 (0, 0)))
    (k : ∀ W', W'.heap[p]? = some (.cells #[.int .i64 h, .int .i64 l] 31 (0, 0)) → (∀ q, ¬ q = p → W'.heap[q]? = w.heap[q]?) → (∀ n, n ≤ p → Below n w W') → K (a.put o.dst undef) W') : Oper.wp Tryd.prog o a w K Q := by
  obtain ⟨q0, q1⟩ := two_at hz
  have qf := fun j => frozen_plain hz j
  have hk := k _ (set2 hz) (fun q hq => far2 hq rfl) (fun n hn => below_set2 (Below.refl _ _) hn)
  unfold Oper.wp
  simp only [execOp, ho, hd, hv]
  go_simp
  exact hk
attribute [local irreducible] wpQuiet
set_option maxRecDepth 100000 in
set_option maxHeartbeats 8000000 in
theorem beforeR_ok (A : Option Addr) (c : Nat) (X : List Sm) (B : Option Addr) (d : Nat) (Y : List Sm) (u : Int) (W : World) (hA : SAt W A c X) (hB : SAt W B d Y) (cX : Cov X (sm X 0).a u) (cY : Cov Y (sm Y 0).a u) (hX0 : 0 < X.length) (hY0 : 0 < Y.length) :
    Calls Tryd.prog 82 #[sv A X.length c, sv B Y.length d, .int .i64 u] W fun e w' => e = .returned (.bool (beforeV u X Y)) ∧ Below W.heap.size W w' := by
  obtain ⟨k1, k2⟩ := two_boxes W #[.slice A X.length c] #[.slice B Y.length d] 24 24
  have hb : Below W.heap.size W ((W.alloc (.cells #[.slice A X.length c] 24)).alloc (.cells #[.slice B Y.length d] 24)) := (below_box W _).alloc (by simp) _
  have HA1 := Lib.hid (fun V (hV : Below W.heap.size W V) => areaR_ok A c X _ u cX V (hA.below hV (Nat.le_refl _)))
  have HA2 := Lib.hid (fun V (hV : Below W.heap.size W V) => areaR_ok B d Y _ u cY V (hB.below hV (Nat.le_refl _)))
  obtain ⟨z1, hz1⟩ : ∃ z, z = areaV (stepsV X (sm X 0).a u) := ⟨_, rfl⟩
  obtain ⟨z2, hz2⟩ : ∃ z, z = areaV (stepsV Y (sm Y 0).a u) := ⟨_, rfl⟩
  have hl1 := cX.ok.len
  have hl2 := cY.ok.len
  rw [← hz1] at HA1
  rw [← hz2] at HA2
  have HZ := Lib.hid (And.intro hz1 hz2)
  clear hz1 hz2 cX cY
  go_enter Tryd.func82, Tryd.ntmps82
  go_upto_region 1 with (fail)
  obtain ⟨U, hU⟩ : ∃ U, U = (W.alloc (.cells #[.slice A X.length c] 24)).alloc (.cells #[.slice B Y.length d] 24) := ⟨_, rfl⟩
  rw [← hU] at k1 k2 hb ⊢
  obtain ⟨r, hr⟩ : ∃ r, r = W.heap.size := ⟨_, rfl⟩
  have HU := Lib.hid (And.intro hb (And.intro hA hB))
  obtain ⟨g1, o1, rfl, hg1, a0, a1⟩ := (hA.below hb (Nat.le_refl _)).s2 hX0
  obtain ⟨g2, o2, rfl, hg2, b0, b1⟩ := (hB.below hb (Nat.le_refl _)).s2 hY0
  have s0 := one_at k1
  have t0 := one_at k2
  obtain ⟨xa, hxa⟩ : ∃ z, z = (sm X 0).a := ⟨_, rfl⟩
  obtain ⟨ya, hya⟩ : ∃ z, z = (sm Y 0).a := ⟨_, rfl⟩
  rw [← hxa] at HA1 a0
  rw [← hya] at HA2 b0
  rw [Nat.zero_mul, Nat.add_zero] at a0 b0
  rw [← hr] at s0 t0 HA1 HA2
  have hbr : Below r W U := by rw [hr]; exact hb
  have HY := Lib.hid (And.intro hxa (And.intro hya (And.intro hr (And.intro k1 k2))))
  have hS : ∀ V, Below U.heap.size U V → Below U.heap.size U V ∧ V.cell? ⟨r, 0, none⟩ = some (.slice (some ⟨g1, o1, none⟩) X.length c) ∧ V.cell? ⟨r + 1, 0, none⟩ = some (.slice (some ⟨g2, o2, none⟩) Y.length d) ∧ V.cell? ⟨g1, o1, none⟩ = some (.int .i64 xa) ∧ V.cell? ⟨g2, o2, none⟩ = some (.int .i64 ya) := fun V hV => ⟨hV, cell_keep2 hV s0, cell_keep2 hV t0, cell_keep2 hV a0, cell_keep2 hV b0⟩
  have HS := Lib.hid hS
  have HBR := Lib.hid (fun V (hV : Below U.heap.size U V) => hbr.trans (hV.mono (by rw [hr]; exact hb.size)))
  have s1 := HS.out U.drew (below_drew (Below.refl _ _))
  have hcnt : True := trivial
  have hrun : Below U.heap.size U U.drew := below_drew (Below.refl _ _)
  have hX0i : (0 : Int) < (X.length : Int) := by omega
  have hY0i : (0 : Int) < (Y.length : Int) := by omega
  rw [show W.heap.size = r from hr.symm]
  clear hS hA hB hb hbr hU k1 k2 hxa hya hr a1 b1 hg1 hg2
  rw [show Op.alloc 31 = opA20 from rfl, show Op.store 31 (.tmp 7) (.tmp 17) = opSt7 from rfl, show Op.store 31 (.tmp 8) (.tmp 25) = opSt8 from rfl]
  go_cut [7, 8] from 10 to 25 (fun p q wx => ∃ p7 p8, p = .pointer (some ⟨p7, 0, none⟩) ∧ q = .pointer (some ⟨p8, 0, none⟩) ∧ wx.heap[p7]? = some (.cells #[.int .i64 z1.h, .int .i64 z1.l] 31 (0, 0)) ∧ wx.heap[p8]? = some (.cells #[.int .i64 z2.h, .int .i64 z2.l] 31 (0, 0)) ∧ Below U.heap.size U wx)
  case first =>
    go_region_held3 (fun w' => Below U.heap.size U w' ∧ w'.cell? ⟨r, 0, none⟩ = some (.slice (some ⟨g1, o1, none⟩) X.length c) ∧ w'.cell? ⟨r + 1, 0, none⟩ = some (.slice (some ⟨g2, o2, none⟩) Y.length d) ∧ w'.cell? ⟨g1, o1, none⟩ = some (.int .i64 xa) ∧ w'.cell? ⟨g2, o2, none⟩ = some (.int .i64 ya))
      (first | assumption | exact HS.out _ hrun)
      (first
        | (go_at_call 43; (first | (with_reducible refine (HA1.out _ (HBR.out _ hrun)).mono ?_; rintro e w4 ⟨rfl, hb4⟩) | (with_reducible refine (HA2.out _ (HBR.out _ hrun)).mono ?_; rintro e w4 ⟨rfl, hb4⟩)); (try replace h7 := (hb4.block _ (lt_of_heap h7)).trans h7); (try replace h8 := (hb4.block _ (lt_of_heap h8)).trans h8); replace hrun := hrun.trans (hb4.mono hrun.size))
        | (refine wp_alloc_at 7 (by exact rfl) (by exact rfl) ?_; intro p7 V7 h7 hp7 hb4; have g7 := Nat.le_trans hrun.size hp7; (try have hn := Nat.ne_of_lt (Nat.lt_of_lt_of_le (lt_of_heap h8) hp7)); (try replace h8 := (hb4.block _ (lt_of_heap h8)).trans h8); replace hrun := hrun.trans (hb4.mono hrun.size))
        | (refine wp_alloc_at 8 (by exact rfl) (by exact rfl) ?_; intro p8 V8 h8 hp8 hb4; have g8 := Nat.le_trans hrun.size hp8; (try have hn := Nat.ne_of_gt (Nat.lt_of_lt_of_le (lt_of_heap h7) hp8)); (try replace h7 := (hb4.block _ (lt_of_heap h7)).trans h7); replace hrun := hrun.trans (hb4.mono hrun.size))
        | (refine wp_store_A (.tmp 7) (.tmp 17) (by exact rfl) _ _ _ _ _ (by exact rfl) (by exact rfl) h7 ?_; clear h7; intro V7 h7 ho7 hb4; (try replace h8 := (ho7 _ (by omega)).trans h8); replace hrun := hrun.trans (hb4 _ g7))
        | (refine wp_store_A (.tmp 8) (.tmp 25) (by exact rfl) _ _ _ _ _ (by exact rfl) (by exact rfl) h8 ?_; clear h8; intro V8 h8 ho8 hb4; (try replace h7 := (ho8 _ (by omega)).trans h7); replace hrun := hrun.trans (hb4 _ g8)))
    all_goals
      (try go_wp2_with (fail))
      go_meet
      exact ⟨p7, p8, rfl, rfl, h7, h8, hrun⟩
  case rest =>
  obtain ⟨p7, p8, rfl, rfl, h7, h8, hbw⟩ := hcut
  obtain ⟨V1, hV1⟩ : ∃ V1, V1 = wc := ⟨_, rfl⟩
  subst hV1
  replace s0 := cell_keep2 hbw s0
  replace t0 := cell_keep2 hbw t0
  replace a0 := cell_keep2 hbw a0
  replace b0 := cell_keep2 hbw b0
  obtain ⟨c0, c1⟩ := two_at h7
  obtain ⟨d0, d1⟩ := two_at h8
  have hne := neq_area z1.h z1.l z2.h z2.l
  have HLS := Lib.hid (fun V => lessR_ok z1 z2 V)
  have HW := Lib.hid (And.intro hbw (HBR.out _ hbw))
  obtain ⟨bz, hbz⟩ : ∃ b, b = (z1.h == z2.h && z1.l == z2.l) := ⟨_, rfl⟩
  rw [← hbz] at hne
  have HBZ := Lib.hid hbz
  clear hbz h7 h8 hbw s1 hrun
  cases bz
  · go_wp2_with (go_at_call 22; refine (HLS.out _).mono ?_; rintro e w3 ⟨rfl, hb3⟩; have H3 := Lib.hid hb3; clear hb3)
    go_ret
    have hzn : ¬ z1 = z2 := fun e => by have := HBZ.out; rw [e] at this; simp at this
    refine ⟨?_, ?_⟩
    · rw [show beforeV u X Y = lessV z1 z2 from by unfold beforeV; rw [show arE u X = z1 from HZ.out.1.symm, show arE u Y = z2 from HZ.out.2.symm, if_pos hzn]]; rfl
    · have h1 := HW.out.2
      rw [HY.out.2.2.1] at h1
      exact h1.trans (H3.out.mono h1.size)
  · have hzn : z1 = z2 := by
      have := HBZ.out.symm
      simp only [Bool.and_eq_true, beq_iff_eq] at this
      rw [ar_ext]; exact this
    have hbe : beforeV u X Y = if X.length ≠ Y.length then decide (X.length < Y.length) else lexA X Y := by
      unfold beforeV; rw [show arE u X = z1 from HZ.out.1.symm, show arE u Y = z2 from HZ.out.2.symm, if_neg (by rw [hzn]; simp)]
    have HBE := Lib.hid hbe
    clear hbe hzn HZ HBZ
    by_cases hl : X.length = Y.length
    · have hli : (Y.length : Int) = (X.length : Int) := by omega
      have hSX : SAt V1 (some ⟨g1, o1, none⟩) c X := HU.out.2.1.below (by have h1 := HW.out.2; rw [HY.out.2.2.1] at h1; exact h1) (Nat.le_refl _)
      have hSY : SAt V1 (some ⟨g2, o2, none⟩) d Y := HU.out.2.2.below (by have h1 := HW.out.2; rw [HY.out.2.2.1] at h1; exact h1) (Nat.le_refl _)
      have hlx : beforeV u X Y = lexA X Y := by rw [HBE.out, if_neg (by rw [hl]; simp)]
      have HG := Lib.hid (And.intro hSX (And.intro hSY (And.intro hlx hl)))
      have hYl : Y.length = X.length := hl.symm
      rw [hYl] at t0
      clear hSX hSY hlx hl HBE hYl HLS HA1 HA2 HS HBR
      go_wp2_with (fail)
      go_loopw [9] (fun i wr => ∃ k : Nat, k ≤ X.length ∧ i = .int .i64 (k : Int) ∧ lexA X Y = lexA (X.drop k) (Y.drop k) ∧ ∃ q, wr = V1.drewN q) (fun i _ => X.length - (intOf i).toNat)
      case atStart => exact ⟨0, Nat.zero_le _, rfl, rfl, 0, rfl⟩
      case round =>
        obtain ⟨k, hk, rfl, hlk, q, rfl⟩ := hrel
        by_cases hlt : k < X.length
        · have hki : (k : Int) < (X.length : Int) := by omega
          have hltY : k < Y.length := by omega
          obtain ⟨g', o', e, _, x0, _⟩ := HG.out.1.s2 hlt
          injection e with e; injection e with e1 e2 _
          subst e1; subst e2
          obtain ⟨g', o', e, _, y0, _⟩ := HG.out.2.1.s2 hltY
          injection e with e; injection e with e1 e2 _
          subst e1; subst e2
          have hst : lexA (X.drop k) (Y.drop k) = (decide ((sm X k).a < (sm Y k).a) || (decide ((sm X k).a = (sm Y k).a) && lexA (X.drop (k + 1)) (Y.drop (k + 1)))) := by
            rw [List.drop_eq_getElem_cons hlt, List.drop_eq_getElem_cons hltY, ← sm_el hlt, ← sm_el hltY]; rfl
          rw [hst] at hlk
          clear hst
          generalize (sm X k).a = xk at *
          generalize (sm Y k).a = yk at *
          have HLK := Lib.hid hlk
          clear hlk
          by_cases hxy : xk = yk
          · subst hxy
            go_upto_region 9 with (fail)
            go_quiet (fail)
            go_wp2_with (fail)
            refine ⟨⟨k + 1, by omega, by go_num, by rw [HLK.out]; simp, _, rfl⟩, by simp [intOf]; omega⟩
          · have hd : decide (xk < yk) = lexA X Y := by rw [HLK.out, decide_eq_false hxy]; simp
            have HD := Lib.hid hd
            clear hd
            go_upto_region 9 with (fail)
            go_quiet (fail)
            go_upto_region 10 with (fail)
            go_quiet (fail)
            go_wp2_with (fail)
            go_ret
            have h1 := HW.out.2
            rw [HY.out.2.2.1] at h1
            exact ⟨by rw [HG.out.2.2.1, ← HD.out]; rfl, by first | exact below_drewN h1 _ | exact below_drewN (below_drewN h1 _) _ | exact below_drewN (below_drewN (below_drewN h1 _) _) _⟩
        · obtain rfl : k = X.length := by omega
          have hle : beforeV u X Y = false := by rw [HG.out.2.2.1, hlk, List.drop_length, List.drop_eq_nil_of_le (by omega)]; rfl
          have HLE := Lib.hid hle
          clear hle hlk
          go_wp2_with (fail)
          go_ret
          have h1 := HW.out.2
          rw [HY.out.2.2.1] at h1
          exact ⟨by rw [HLE.out]; rfl, below_drewN h1 _⟩
    · have hli : ¬ (X.length : Int) = (Y.length : Int) := by omega
      have hld : decide ((X.length : Int) < (Y.length : Int)) = decide (X.length < Y.length) := by by_cases h4 : X.length < Y.length <;> simp [h4] <;> omega
      go_wp2_with (fail)
      go_ret
      refine ⟨?_, ?_⟩
      · rw [HBE.out, if_pos hl, ← hld]; rfl
      · have h1 := HW.out.2
        rw [HY.out.2.2.1] at h1
        exact h1
end Sx
end Go.Proofs.YtionocafkaemiaaDoor
