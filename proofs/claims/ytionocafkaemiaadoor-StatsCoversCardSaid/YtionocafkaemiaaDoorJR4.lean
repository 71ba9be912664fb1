/- The specification: Steps. -/
import Derived.Test.YtionocafkaemiaaDoorJR3
import Derived.Test.YtionocafkaemiaaDoorK0
namespace Go.Proofs.YtionocafkaemiaaDoor
open Go.RowKit Go.Lib
namespace Sx

theorem oneP (w : World) (T : TypeId) (x : Sp) : EAt esp 3 (w.alloc (.cells #[.int .i64 x.f, .int .i64 x.t, .int .i64 x.v] T)) (some ⟨w.heap.size, 0, none⟩) 1 [x] := (OwnE.at ESP (owne_one ESP w T x _ rfl)).1
theorem S4.below {W w1 w2 : World} {n b b2 o o2 : Nat} {v x y : Value} (s : Below n W w1 ∧ w1.cell? ⟨b, 0, none⟩ = some v ∧ w1.cell? ⟨b2, o, none⟩ = some x ∧ w1.cell? ⟨b2, o2, none⟩ = some y) (hb : Below w1.heap.size w1 w2) (hn : n ≤ W.heap.size := by exact Nat.le_refl _) : Below n W w2 ∧ w2.cell? ⟨b, 0, none⟩ = some v ∧ w2.cell? ⟨b2, o, none⟩ = some x ∧ w2.cell? ⟨b2, o2, none⟩ = some y :=
  ⟨s.1.trans (hb.mono (Nat.le_trans hn s.1.size)), cell_keep2 hb s.2.1, cell_keep2 hb s.2.2.1, cell_keep2 hb s.2.2.2⟩
theorem S4.newd {W w1 : World} {ob : Obj} {b b2 o o2 : Nat} {v x y : Value} (s : Below W.heap.size W w1.drew ∧ w1.drew.cell? ⟨b, 0, none⟩ = some v ∧ w1.drew.cell? ⟨b2, o, none⟩ = some x ∧ w1.drew.cell? ⟨b2, o2, none⟩ = some y) : Below W.heap.size W (w1.alloc ob).drew ∧ (w1.alloc ob).drew.cell? ⟨b, 0, none⟩ = some v ∧ (w1.alloc ob).drew.cell? ⟨b2, o, none⟩ = some x ∧ (w1.alloc ob).drew.cell? ⟨b2, o2, none⟩ = some y := by
  have hb : Below w1.heap.size w1.drew (w1.alloc ob).drew := by
    have := below_box w1 ob
    exact ⟨this.os, rfl, this.output, this.size, this.block⟩
  exact S4.below s hb
attribute [local irreducible] wpQuiet
set_option maxRecDepth 100000 in
set_option maxHeartbeats 4000000 in
theorem stepsR_ok (A : Option Addr) (c : Nat) (L : List Sm) (f t : Int) (W : World) (hL : SAt W A c L) (hs : OkS L) :
    Calls Tryd.prog 48 #[sv A L.length c, .int .i64 f, .int .i64 t] W fun e w' => (∃ A' c', e = .returned (.slice A' (stepsV L f t).length c') ∧ EAt esp 3 w' A' c' (stepsV L f t)) ∧ Below W.heap.size W w' := by
  have hb := below_box W (.cells #[.slice A L.length c] 24)
  have hn := one_at (new_at W (.cells #[.slice A L.length c] 24))
  have hcm := hL.2.1
  have hlc := hL.1
  have hlen := hs.len
  unfold maxLen at hcm
  have hLV := hL.below hb (Nat.le_refl _)
  have HX := Lib.hid (And.intro hb (And.intro hLV (stK_all L f t)))
  clear hb hLV hL hs
  go_enter Tryd.func48, Tryd.ntmps48
  go_upto_region 1 with (fail)
  generalize W.alloc (.cells #[.slice A L.length c] 24) = V at *
  have HN := Lib.hid hn
  have H0 := Lib.hid (owne_nil (enc := esp) (k := 3) V V.heap.size 83)
  clear hn
  go_wp2_with (fail)
  go_loopw [7, 8] (fun v i wr => ∃ (k : Nat) (B : Option Addr) (d : Nat) (M : List Sp), k ≤ L.length ∧ i = .int .i64 (k : Int) ∧ v = .slice B M.length d ∧ M = stK L f t k ∧ M.length ≤ k ∧ OwnE esp 3 wr V.heap.size 83 B d M ∧ Below V.heap.size V wr) (fun _ i _ => L.length - (intOf i).toNat)
  case atStart => exact ⟨0, none, 0, [], Nat.zero_le _, rfl, rfl, rfl, Nat.le_refl _, H0.out, Below.refl _ _⟩
  case round =>
    obtain ⟨k, B, d, M, hk, rfl, rfl, hM, hMl, hrow, hbw⟩ := hrel
    have s0 := cell_keep2 hbw HN.out
    by_cases hlt : k < L.length
    · have hLw := HX.out.2.1.below hbw (Nat.le_refl _)
      obtain ⟨g, o, rfl, hg, d0, d1⟩ := hLw.s2 hlt
      have hnx : stK L f t (k + 1) = M ++ stepAt L f t k := by rw [hM]; rfl
      unfold stepAt at hnx
      have hsz := hbw.size
      have hnxt : k + 1 < L.length → wr.cell? ⟨g, o + (k + 1) * 2, none⟩ = some (.int .i64 (sm L (k + 1)).a) ∧ nxtI L t k = min t (sm L (k + 1)).a := fun h => by
        obtain ⟨g', o', e, _, e0, _⟩ := hLw.s2 h
        injection e with e; injection e with e1 e2 _
        subst e1; subst e2
        exact ⟨e0, by unfold nxtI; rw [if_pos h]⟩
      have hend : ¬ k + 1 < L.length → nxtI L t k = t := fun h => by unfold nxtI; rw [if_neg h]
      generalize nxtI L t k = nx at *
      generalize (sm L (k + 1)).a = na at *
      generalize sm L k = x at *
      obtain ⟨xa, xv⟩ := x
      dsimp only at d0 d1 hnx
      obtain ⟨mx, hmx⟩ : ∃ mx, mx = max f xa := ⟨_, rfl⟩
      rw [← hmx] at hnx
      have qmx : (if f < xa then xa else f) = mx := by rw [hmx]; split <;> omega
      have HR := Lib.hid (And.intro hM (And.intro hrow (And.intro hbw (And.intro hnx (And.intro hnxt hend)))))
      clear hM hrow hbw hnx hnxt hend hLw hmx
      go_upto_region 5 with (fail)
      go_cut [9] from 17 to 32 (fun p wx => p = .pointer (some ⟨wr.heap.size, 0, none⟩) ∧ wx = (wr.alloc (.cells #[.int .i64 mx, .int .i64 t, .int .i64 xv] 83)).drew)
      case first =>
        have s1 : Below wr.heap.size wr wr.drew ∧ wr.drew.cell? ⟨W.heap.size, 0, none⟩ = some (.slice (some ⟨g, o, none⟩) L.length c) ∧ wr.drew.cell? ⟨g, o + k * 2, none⟩ = some (.int .i64 xa) ∧ wr.drew.cell? ⟨g, o + k * 2 + 1, none⟩ = some (.int .i64 xv) := ⟨below_drew (Below.refl _ _), s0, d0, d1⟩
        go_region_held3 (fun w' => Below wr.heap.size wr w' ∧ w'.cell? ⟨W.heap.size, 0, none⟩ = some (.slice (some ⟨g, o, none⟩) L.length c) ∧ w'.cell? ⟨g, o + k * 2, none⟩ = some (.int .i64 xa) ∧ w'.cell? ⟨g, o + k * 2 + 1, none⟩ = some (.int .i64 xv))
          (first | assumption | exact S4.newd (by assumption))
          (first | (fail))
        all_goals
          (try go_wp2_with (fail))
          go_meet
          exact ⟨rfl, rfl⟩
      case rest =>
      obtain ⟨rfl, hwc⟩ := hcut
      obtain ⟨ub, hub⟩ : ∃ ub, ub = wr.heap.size := ⟨_, rfl⟩
      obtain ⟨V1, hV1⟩ : ∃ V1, V1 = wc := ⟨_, rfl⟩
      subst hV1
      have hbx : V1.heap[ub]? = some (.cells #[.int .i64 mx, .int .i64 t, .int .i64 xv] 83 (0, 0)) := by
        rw [hwc, hub]
        exact new_at wr _
      have hbV : Below wr.heap.size wr V1 := by rw [hwc]; exact below_drew (below_box wr _)
      rw [← hub]
      obtain ⟨u0, u1, u2⟩ := three_at hbx
      have f1 : V1.frozen? ⟨ub, 1, none⟩ = false := by simp [World.frozen?, hbx]
      replace s0 := cell_keep2 hbV s0
      have HV := Lib.hid (And.intro hbV (And.intro hbx (And.intro hub (row_below HR.out.2.1 hbV))))
      have hbVV : Below V.heap.size V V1 := HR.out.2.2.1.trans (hbV.mono hsz)
      have HB := Lib.hid hbVV
      clear hwc hbx hub hbV d0 d1 hbVV
      by_cases hend : k + 1 < L.length
      · obtain ⟨e0, hnx⟩ := HR.out.2.2.2.2.1 hend
        have e0' := cell_keep2 HV.out.1 e0
        have hq : (k : Int) + 1 < (L.length : Int) := by omega
        have qmn : (if na < t then na else t) = nx := by rw [hnx]; split <;> omega
        have qmn2 : min t na = nx := hnx.symm
        have qa : (0 : Int) ≤ (k : Int) + 1 := by omega
        have qb : ((k : Int) + 1).toNat = k + 1 := by omega
        have hb2 : Below wr.heap.size wr (V1.setCell ⟨ub, 1, none⟩ (.int .i64 nx)) := HV.out.1.setCell (by rw [HV.out.2.2.1]; exact Nat.le_refl _) _
        have hx2 : (V1.setCell ⟨ub, 1, none⟩ (.int .i64 nx)).heap[ub]? = some (.cells #[.int .i64 mx, .int .i64 nx, .int .i64 xv] 83 (0, 0)) := by rw [setCell_at _ _ _ _ _ _ HV.out.2.1]; rfl
        have H2 := Lib.hid (And.intro hb2 hx2)
        clear e0 hnx hb2 hx2
        go_upto_region 8 with (fail)
        obtain ⟨VV, hVV⟩ : ∃ VV, VV = V1.setCell ⟨ub, 1, none⟩ (.int .i64 nx) := ⟨_, rfl⟩
        rw [← hVV]
        rw [← hVV] at H2
        obtain ⟨z0, z1, z2⟩ := three_at H2.out.2
        clear s0
        have RROW := Lib.hid (row_below HR.out.2.1 H2.out.1)
        have RBEL := Lib.hid (HR.out.2.2.1.trans (H2.out.1.mono hsz))
        clear hVV u0 u1 u2 f1 e0'
        by_cases hlt2 : mx < nx
        · have HN2 := Lib.hid (HR.out.2.2.2.1.trans (by rw [if_pos hlt2]))
          go_wp2_with (at_builtin; refine wpList_e ESP Tryd.underlying80 step_info (by decide) ?_ (.tmp 54) (.tmp 56) ?_ V.heap.size B d M ?_ (RROW.out.alloc _) (some ⟨VV.heap.size, 0, none⟩) 1 [⟨mx, nx, xv⟩] ?_ (oneP _ _ ⟨mx, nx, xv⟩) (fun h => by cases h) ?_ ?_ ?_; (exact rfl); (exact rfl); (exact rfl); (exact rfl); (simp; omega); (simp; have := RBEL.out.size; omega); intro A8 c8 w8 h8 b8 _ _; obtain ⟨U, hU⟩ : ∃ U, U = M ++ [(⟨mx, nx, xv⟩ : Sp)] := ⟨_, rfl⟩; rw [← hU] at h8 ⊢; have H8 := Lib.hid (And.intro h8 (And.intro b8 hU)); clear h8 b8 hU)
          go_roundw
          case rel => exact ⟨k + 1, A8, c8, U, by omega, by go_num, rfl, by rw [HN2.out, H8.out.2.2], by rw [H8.out.2.2]; simp; omega, H8.out.1, (RBEL.out.alloc RBEL.out.size _).trans H8.out.2.1⟩
          case measure => simp [intOf]; omega
        · have HN2 := Lib.hid (HR.out.2.2.2.1.trans (by rw [if_neg hlt2, List.append_nil]))
          go_wp2_with (fail)
          go_roundw
          case rel => exact ⟨k + 1, B, d, M, by omega, by go_num, rfl, by rw [HN2.out], by omega, RROW.out, RBEL.out⟩
          case measure => simp [intOf]; omega
      · have hnx := HR.out.2.2.2.2.2 hend
        have hq : ¬ (k : Int) + 1 < (L.length : Int) := by omega
        subst hnx
        have VVx : True := trivial
        obtain ⟨VV, hVV⟩ : ∃ VV, VV = V1 := ⟨_, rfl⟩
        subst hVV
        have RROW := Lib.hid HV.out.2.2.2
        have RBEL := Lib.hid HB.out
        go_upto_region 8 with (fail)
        by_cases hlt2 : mx < nx
        · have HN2 := Lib.hid (HR.out.2.2.2.1.trans (by rw [if_pos hlt2]))
          go_wp2_with (at_builtin; refine wpList_e ESP Tryd.underlying80 step_info (by decide) ?_ (.tmp 54) (.tmp 56) ?_ V.heap.size B d M ?_ (RROW.out.alloc _) (some ⟨VV.heap.size, 0, none⟩) 1 [⟨mx, nx, xv⟩] ?_ (oneP _ _ ⟨mx, nx, xv⟩) (fun h => by cases h) ?_ ?_ ?_; (exact rfl); (exact rfl); (exact rfl); (exact rfl); (simp; omega); (simp; have := RBEL.out.size; omega); intro A8 c8 w8 h8 b8 _ _; obtain ⟨U, hU⟩ : ∃ U, U = M ++ [(⟨mx, nx, xv⟩ : Sp)] := ⟨_, rfl⟩; rw [← hU] at h8 ⊢; have H8 := Lib.hid (And.intro h8 (And.intro b8 hU)); clear h8 b8 hU)
          go_roundw
          case rel => exact ⟨k + 1, A8, c8, U, by omega, by go_num, rfl, by rw [HN2.out, H8.out.2.2], by rw [H8.out.2.2]; simp; omega, H8.out.1, (RBEL.out.alloc RBEL.out.size _).trans H8.out.2.1⟩
          case measure => simp [intOf]; omega
        · have HN2 := Lib.hid (HR.out.2.2.2.1.trans (by rw [if_neg hlt2, List.append_nil]))
          go_wp2_with (fail)
          go_roundw
          case rel => exact ⟨k + 1, B, d, M, by omega, by go_num, rfl, by rw [HN2.out], by omega, RROW.out, RBEL.out⟩
          case measure => simp [intOf]; omega
    · obtain rfl : k = L.length := by omega
      have hat := (OwnE.at ESP hrow).1
      rw [hM, HX.out.2.2] at hat
      have hMe := hM.trans HX.out.2.2
      have HR := Lib.hid (And.intro hat (And.intro hbw hMe))
      clear hM hrow hbw hat hMe
      go_wp2
      go_ret
      exact ⟨⟨B, d, by rw [← HR.out.2.2]; rfl, HR.out.1⟩, HX.out.1.trans (HR.out.2.1.mono HX.out.1.size)⟩
end Sx
end Go.Proofs.YtionocafkaemiaaDoor
