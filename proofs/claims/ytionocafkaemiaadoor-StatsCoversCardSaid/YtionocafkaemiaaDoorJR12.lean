/- area of the reference. -/
import Derived.Test.YtionocafkaemiaaDoorK1
import Derived.Test.YtionocafkaemiaaDoorJR10
namespace Go.Proofs.YtionocafkaemiaaDoor
open Go.RowKit Go.Lib
namespace Sx
attribute [local irreducible] wpQuiet

/-- The load of the sum that the statement stores into: under a name of its own, so that the region's walk does not try it first. -/
def opL20 : Op := .load 31 (.tmp 8)
attribute [local go_sem] opL20
theorem Q3.below {W w1 w2 : World} {n g o0 o1 o2 : Nat} {a b c : Value} (s : Below n W w1 ∧ w1.cell? ⟨g, o0, none⟩ = some a ∧ w1.cell? ⟨g, o1, none⟩ = some b ∧ w1.cell? ⟨g, o2, none⟩ = some c) (hb : Below w1.heap.size w1 w2) (hn : n ≤ W.heap.size := by exact Nat.le_refl _) :
    Below n W w2 ∧ w2.cell? ⟨g, o0, none⟩ = some a ∧ w2.cell? ⟨g, o1, none⟩ = some b ∧ w2.cell? ⟨g, o2, none⟩ = some c :=
  ⟨s.1.trans (hb.mono (Nat.le_trans hn s.1.size)), cell_keep2 hb s.2.1, cell_keep2 hb s.2.2.1, cell_keep2 hb s.2.2.2⟩
theorem Q3.set {W w1 : World} {n u g o0 o1 o2 : Nat} {a b c x y : Value} (s : Below n W w1 ∧ w1.cell? ⟨g, o0, none⟩ = some a ∧ w1.cell? ⟨g, o1, none⟩ = some b ∧ w1.cell? ⟨g, o2, none⟩ = some c) (hu : n ≤ u) (hg : g < n) :
    Below n W ((w1.setCell ⟨u, 0, none⟩ x).setCell ⟨u, 1, none⟩ y) ∧ ((w1.setCell ⟨u, 0, none⟩ x).setCell ⟨u, 1, none⟩ y).cell? ⟨g, o0, none⟩ = some a ∧ ((w1.setCell ⟨u, 0, none⟩ x).setCell ⟨u, 1, none⟩ y).cell? ⟨g, o1, none⟩ = some b ∧ ((w1.setCell ⟨u, 0, none⟩ x).setCell ⟨u, 1, none⟩ y).cell? ⟨g, o2, none⟩ = some c := by
  have hb : Below n w1 ((w1.setCell ⟨u, 0, none⟩ x).setCell ⟨u, 1, none⟩ y) := below_set2 (Below.refl _ _) hu
  exact ⟨below_set2 s.1 hu, (hb.cell (p := ⟨g, o0, none⟩) hg).trans s.2.1, (hb.cell (p := ⟨g, o1, none⟩) hg).trans s.2.2.1, (hb.cell (p := ⟨g, o2, none⟩) hg).trans s.2.2.2⟩
set_option maxRecDepth 100000 in
set_option maxHeartbeats 4000000 in
theorem areaR_ok (A : Option Addr) (c : Nat) (L : List Sm) (f t : Int) (hcov : Cov L f t) (W : World) (hL : SAt W A c L) :
    Calls Tryd.prog 43 #[sv A L.length c, .int .i64 f, .int .i64 t] W fun e w' => e = .returned (.agg #[.int .i64 (areaV (stepsV L f t)).h, .int .i64 (areaV (stepsV L f t)).l]) ∧ Below W.heap.size W w' := by
  obtain ⟨k1, k2⟩ := two_boxes W #[.slice A L.length c] #[.int .i64 0, .int .i64 0] 24 31
  have hb : Below W.heap.size W ((W.alloc (.cells #[.slice A L.length c] 24)).alloc (.cells #[.int .i64 0, .int .i64 0] 31)) := (below_box W _).alloc (by simp) _
  have hST := fun V (hV : Below W.heap.size W V) => stepsR_ok A c L f t V (hL.below hV (Nat.le_refl _)) hcov.ok
  have hlen := hcov.ok.len
  have hsl := steps_len L f t
  have hokp := steps_ok hcov.ok (f := f) (t := t)
  have hfit := area_fits hokp hcov.f0 hcov.t1 (by omega)
  have hbds : ∀ k, k < (stepsV L f t).length → OkP 0 1000000000000 (sp (stepsV L f t) k) := fun k h => by
    have hx := hokp _ (sp_mem h)
    have := hx.f0; have := hx.ft; have := hx.t1; have := hcov.f0; have := hcov.t1
    exact ⟨by omega, by omega, by omega, hx.v0, hx.v1⟩
  have HX := Lib.hid (And.intro hb (And.intro k1 (And.intro k2 (And.intro hST (And.intro hfit hbds)))))
  clear hb k1 k2 hST hL hfit hokp hbds
  go_enter Tryd.func43, Tryd.ntmps43
  go_upto_region 1 with (fail)
  generalize (W.alloc (.cells #[.slice A L.length c] 24)).alloc (.cells #[.int .i64 0, .int .i64 0] 31) = V at *
  have s0 : V.cell? ⟨W.heap.size, 0, none⟩ = some (.slice A L.length c) := one_at HX.out.2.1
  go_upto_region 2 with (go_at_call 48; refine (HX.out.2.2.2.1 _ HX.out.1).mono ?_; rintro e w2 ⟨⟨B, d, rfl, hM⟩, hb2⟩)
  have H2 := Lib.hid (And.intro (HX.out.1.trans (hb2.mono HX.out.1.size)) (show w2.heap[W.heap.size + 1]? = some (.cells #[.int .i64 0, .int .i64 0] 31 (0, 0)) by rw [hb2.block _ (lt_of_heap HX.out.2.2.1)]; exact HX.out.2.2.1))
  have hMc := hM.1
  have hMm := hM.2.1
  unfold maxLen at hMm
  have hfit := HX.out.2.2.2.2.1
  have hbds := HX.out.2.2.2.2.2
  generalize hMeq : stepsV L f t = M at *
  have HME := Lib.hid hMeq
  have HM := Lib.hid hM
  have HB := Lib.hid (And.intro hfit hbds)
  clear hM hb2 hMeq hfit hbds s0
  go_upto_region 3 with (fail)
  obtain ⟨u, hu⟩ : ∃ u, u = w2.heap.size := ⟨_, rfl⟩
  obtain ⟨V3, hV3⟩ : ∃ V3, V3 = w2.alloc (.cells #[.int .i64 0, .int .i64 0] 31) := ⟨_, rfl⟩
  rw [← hV3, ← hu]
  have hbx : V3.heap[u]? = some (.cells #[.int .i64 0, .int .i64 0] 31 (0, 0)) := by rw [hV3, hu]; exact new_at w2 _
  have hb3 : Below w2.heap.size w2 V3 := by rw [hV3]; exact below_box w2 _
  have HV := Lib.hid (And.intro hu (And.intro hbx hb3))
  clear hV3 hu hbx hb3
  go_wp2_with (fail)
  go_loopw [9] (fun i wr => ∃ (k : Nat) (z : Ar), k ≤ M.length ∧ i = .int .i64 (k : Int) ∧ z = areaV (M.take k) ∧ wr.heap[u]? = some (.cells #[.int .i64 z.h, .int .i64 z.l] 31 (0, 0)) ∧ Below w2.heap.size w2 wr) (fun i _ => M.length - (intOf i).toNat)
  case atStart => exact ⟨0, ⟨0, 0⟩, Nat.zero_le _, rfl, rfl, HV.out.2.1, HV.out.2.2⟩
  case round =>
    obtain ⟨k, z, hk, rfl, hz, hbl, hbw⟩ := hrel
    by_cases hlt : k < M.length
    · have hlti : (k : Int) < (M.length : Int) := by omega
      obtain ⟨g, o, rfl, hg2, d3⟩ := HM.out.2.2 k _ (sp_get hlt)
      have e0 := cell_keep2 hbw (d3 0 _ (by omega) rfl)
      have e1 := cell_keep2 hbw (d3 1 _ (by omega) rfl)
      have e2 := cell_keep2 hbw (d3 2 _ (by omega) rfl)
      have hg := Nat.lt_of_lt_of_le hg2 hbw.size
      rw [Nat.add_zero] at e0
      have hnx := area_take hlt
      have hzk := HB.out.1 k hk
      rw [← hz] at hnx hzk
      have hy := HB.out.2 k hlt
      generalize sp M k = y at *
      obtain ⟨yf, yt, yv⟩ := y
      have y0 := hy.f0
      have y1 := hy.ft
      have y2 := hy.t1
      have y3 := hy.v0
      have y4 := hy.v1
      dsimp only at e0 e1 e2 y0 y1 y2 y3 y4 hnx
      obtain ⟨u0, u1⟩ := two_at hbl
      have HTI := Lib.hid (fun V => timesR_ok yv (yt - yf) y3 y4 (by omega) (by omega) V)
      have HPL := Lib.hid (fun V => plusR_ok z (prodV yv (yt - yf)) V hzk (by
        have h := prod_okV y3 y4 (show 0 ≤ yt - yf by omega) (by omega)
        exact ⟨h.h0, by have := h.h1; omega, h.l0, h.l1⟩))
      generalize prodV yv (yt - yf) = p at *
      generalize plusV z p = r at *
      have HR := Lib.hid (And.intro hnx hbw)
      have hgs : g < w2.heap.size := hg2
      have s1 : Below w2.heap.size w2 wr.drew ∧ wr.drew.cell? ⟨g, o + k * 3, none⟩ = some (.int .i64 yf) ∧ wr.drew.cell? ⟨g, o + k * 3 + 1, none⟩ = some (.int .i64 yt) ∧ wr.drew.cell? ⟨g, o + k * 3 + 2, none⟩ = some (.int .i64 yv) := ⟨below_drew hbw, e0, e1, e2⟩
      clear hnx hbw d3 hg hy hz hzk
      go_upto_region 6 with (fail)
      have wq : IntKind.i64.wrap (yt - yf) = yt - yf := IntWalk.i64_in _ (by omega)
      have wq2 : wrap64 (yt - yf) = yt - yf := IntWalk.wrap64_in _ (by omega)
      rw [show Op.load 31 (.tmp 8) = opL20 from rfl]
      go_region_held3 (fun w' => Below w2.heap.size w2 w' ∧ w'.cell? ⟨g, o + k * 3, none⟩ = some (.int .i64 yf) ∧ w'.cell? ⟨g, o + k * 3 + 1, none⟩ = some (.int .i64 yt) ∧ w'.cell? ⟨g, o + k * 3 + 2, none⟩ = some (.int .i64 yv))
        (first | assumption | exact Q3.below (by assumption) hb4 | exact Q3.set hs5 (Nat.le_of_eq HV.out.1.symm) hgs)
        (first | (go_at_call 30; refine (HTI.out _).mono ?_; rintro e w4 ⟨rfl, hb4⟩; have hbl4 := (hb4.block _ (lt_of_heap hbl)).trans hbl; have u40 := cell_keep2 hb4 u0; have u41 := cell_keep2 hb4 u1) | (go_at_call 31; refine (HPL.out _).mono ?_; rintro e w5 ⟨rfl, hb5⟩; have hs5 := Q3.below (by assumption) hb5; have hbl5 := (hb5.block _ (lt_of_heap hbl4)).trans hbl4; obtain ⟨v0, v1⟩ := two_at hbl5; have vf : ∀ j, w5.frozen? ⟨u, j, none⟩ = false := (fun j => by simp [World.frozen?, hbl5])))
      all_goals
        go_wp2_with (fail)
        go_roundw
        case rel => exact ⟨k + 1, r, by omega, by go_num, HR.out.1.symm, set2 hbl5, below_set2 hs5.1 (Nat.le_of_eq HV.out.1.symm)⟩
        case measure => simp [intOf]; omega
    · obtain rfl : k = M.length := by omega
      rw [List.take_length] at hz
      have hrb : wr.heap[W.heap.size + 1]? = some (.cells #[.int .i64 0, .int .i64 0] 31 (0, 0)) := by rw [hbw.block _ (lt_of_heap H2.out.2)]; exact H2.out.2
      have hf : ∀ j, wr.frozen? ⟨W.heap.size + 1, j, none⟩ = false := fun j => by simp [World.frozen?, hrb]
      obtain ⟨r0, r1⟩ := two_at hrb
      obtain ⟨z0, z1⟩ := two_at hbl
      have HR := Lib.hid (And.intro hz (And.intro hrb (H2.out.1.trans (hbw.mono H2.out.1.size))))
      clear hz hbl hbw
      go_wp2_with (fail)
      refine bodyPost_ret (results_cell_row rfl _ _ (W.heap.size + 1) 31 #[.int .i64 z.h, .int .i64 z.l] (0, 0) _ rfl (set2 HR.out.2.1) Tryd.underlying31 rfl area_size) rfl ⟨?_, ?_⟩
      · rw [HME.out, HR.out.1]
      · exact below_set2 HR.out.2.2 (Nat.le_succ _)
end Sx
end Go.Proofs.YtionocafkaemiaaDoor
