/- over of the reference: the least envelope with samples at chosen samples. choose of the reference: all choices of samples are tried. -/
import Derived.Test.YtionocafkaemiaaDoorK1
import Derived.Test.YtionocafkaemiaaDoorJR4
import Derived.Test.YtionocafkaemiaaDoorJR5
import Derived.Test.YtionocafkaemiaaDoorJL1
import Derived.Test.YtionocafkaemiaaDoorJA26
import Derived.Test.YtionocafkaemiaaDoorK3
import Derived.Test.YtionocafkaemiaaDoorJR17
namespace Go.Proofs.YtionocafkaemiaaDoor
open Go.RowKit Go.Lib
namespace Sx
theorem zs_at {w : World} {B : Option Addr} {d : Nat} {l : List Nat} (h : IAt w B d (zs l)) {j : Nat} (hj : j < l.length) : ∃ g o, B = some ⟨g, o, none⟩ ∧ g < w.heap.size ∧ w.cell? ⟨g, o + j, none⟩ = some (.int .i64 (l.getD j 0 : Int)) :=
  iat_nat h (by rw [List.getD_eq_getElem?_getD, List.getElem?_eq_getElem hj]; rfl)
theorem over_next (L : List Sm) (l : List Nat) {j : Nat} (hj : j < l.length) : (overS L l).take (j + 1) = (overS L l).take j ++ [⟨(sm L (l.getD j 0)).a, hiV L (l.getD j 0) (ovEnd L l j - l.getD j 0)⟩] := by
  rw [List.take_add_one, ← over_get L l j hj, sm_get (by rw [over_len]; exact hj)]
  rfl
theorem hiV_first {L : List Sm} {i d : Nat} (hd : 0 < d) : max (sm L i).v (hiV L i d) = hiV L i d := by
  have := hiV_ge L i d 0 hd
  rw [Nat.add_zero] at this
  omega
theorem hiV_zero {L : List Sm} (i : Nat) (h : 0 ≤ (sm L i).v) : max (sm L i).v (hiV L i 0) = (sm L i).v := by
  unfold hiV; omega
def opV47 : Op := .load 2 (.tmp 46)
attribute [local go_sem] opV47
theorem opV47_eq : Op.load 2 (.tmp 46) = opV47 := rfl
attribute [local irreducible] wpQuiet
set_option maxRecDepth 100000 in
set_option maxHeartbeats 8000000 in
theorem overR_ok (A : Option Addr) (c : Nat) (L : List Sm) (B : Option Addr) (d : Nat) (l : List Nat) (W : World) (hL : SAt W A c L) (hI : IAt W B d (zs l)) (hok : OkS L) (hs : Starts L l) :
    Calls Tryd.prog 81 #[sv A L.length c, .slice B l.length d] W fun e w' => ∃ A' c', e = .returned (sv A' (overS L l).length c') ∧ SAt w' A' c' (overS L l) ∧ Below W.heap.size W w' ∧ ∀ a, A' = some a → W.heap.size ≤ a.block := by
  have hlen := hok.len
  have hll := hs.len
  obtain ⟨U, hU⟩ : ∃ U, U = ((W.alloc (.cells #[.slice A L.length c] 24)).alloc (.cells #[.slice none 0 0] 24)).alloc (.cells #[.slice none 0 0] 24) := ⟨_, rfl⟩
  obtain ⟨k1, k2⟩ := two_boxes W #[.slice A L.length c] #[.slice none 0 0] 24 24
  have hb2 : Below W.heap.size W ((W.alloc (.cells #[.slice A L.length c] 24)).alloc (.cells #[.slice none 0 0] 24)) := (below_box W _).alloc (by simp) _
  have hsz2 : ((W.alloc (.cells #[.slice A L.length c] 24)).alloc (.cells #[.slice none 0 0] 24)).heap.size = W.heap.size + 2 := by simp
  have hb3 := below_box ((W.alloc (.cells #[.slice A L.length c] 24)).alloc (.cells #[.slice none 0 0] 24)) (.cells #[.slice none 0 0] 24)
  have k3 := new_at ((W.alloc (.cells #[.slice A L.length c] 24)).alloc (.cells #[.slice none 0 0] 24)) (.cells #[.slice none 0 0] 24)
  rw [hsz2] at k3
  have k1' := heap_keep k1 hb3
  have k2' := heap_keep k2 hb3
  have hbU := hb2.trans (hb3.mono hb2.size)
  rw [← hU] at k1' k2' k3 hbU
  have hUs : U.heap.size = W.heap.size + 3 := by rw [hU]; simp
  clear k1 k2 hb2 hb3 hsz2
  go_enter Tryd.func81, Tryd.ntmps81
  go_upto_region 2 with (fail)
  rw [← hU]
  obtain ⟨r, hr⟩ : ∃ r, r = W.heap.size := ⟨_, rfl⟩
  rw [← hr] at k1' k2' k3 hbU hUs ⊢
  have HU := Lib.hid (And.intro k1' (And.intro k2' (And.intro k3 (And.intro hbU (And.intro hL (And.intro hI (And.intro hr (And.intro hs hok))))))))
  clear hU k1' k2' k3 hbU hUs hL hI hr hs hok
  go_wp2_with (fail)
  go_loopw [6] (fun i wr => ∃ (j : Nat) (A' : Option Addr) (c' : Nat), j ≤ l.length ∧ i = .int .i64 (j : Int) ∧ wr.heap[r]? = some (.cells #[.slice A L.length c] 24 (0, 0)) ∧ wr.heap[r + 1]? = some (.cells #[.slice none 0 0] 24 (0, 0)) ∧ Boxed wr (r + 2) 24 (.slice A' ((overS L l).take j).length c') ∧ OwnE Sx.es 2 wr (r + 3) 49 A' c' ((overS L l).take j) ∧ Below r W wr) (fun i _ => l.length - (intOf i).toNat)
  case atStart => exact ⟨0, none, 0, by omega, rfl, HU.out.1, HU.out.2.1, HU.out.2.2.1, World.ownsRow_nil _ _ _ _, HU.out.2.2.2.1⟩
  case round =>
    obtain ⟨j, A', c', hj, rfl, hr0, hr1, hbx, hown, hbl⟩ := hrel
    have hLr := HU.out.2.2.2.2.1.below hbl (Nat.le_of_eq HU.out.2.2.2.2.2.2.1.symm)
    have hIr := HU.out.2.2.2.2.2.1.below hbl (Nat.le_of_eq HU.out.2.2.2.2.2.2.1.symm)
    obtain ⟨wo, hwo⟩ : ∃ x, x = wr := ⟨_, rfl⟩
    subst hwo
    have hlx : ((overS L l).take j).length = j := by rw [List.length_take, over_len]; omega
    obtain ⟨X, hX⟩ : ∃ X, X = (overS L l).take j := ⟨_, rfl⟩
    rw [← hX] at hbx hown hlx
    have s0 := one_at hr0
    by_cases hlt : j < l.length
    · have hlti : (j : Int) < (l.length : Int) := by omega
      have hnext := over_next L l hlt
      rw [← hX] at hnext
      obtain ⟨he1, he2⟩ := HU.out.2.2.2.2.2.2.2.1.at hlt
      obtain ⟨gl, ol, rfl, hgl, cl⟩ := zs_at hIr hlt
      have hnx : ∀ h : j + 1 < l.length, wo.cell? ⟨gl, ol + (j + 1), none⟩ = some (.int .i64 (ovEnd L l j : Int)) := fun h => by
        obtain ⟨g', o', e, _, e0⟩ := zs_at hIr h
        injection e with e; injection e with e1 e2 _
        subst e1; subst e2
        rw [e0]; unfold ovEnd; rw [if_pos h]
      have hnx2 : ¬ j + 1 < l.length → ovEnd L l j = L.length := fun h => by unfold ovEnd; rw [if_neg h]
      have hv0 := (HU.out.2.2.2.2.2.2.2.2.ok _ (sm_mem (show l.getD j 0 < L.length by omega))).v0
      obtain ⟨ga, oa, rfl, hga, a0, a1⟩ := hLr.s2 (show l.getD j 0 < L.length by omega)
      have hgo := fun k (hk : k < L.length) => hLr.s2 hk
      have hz0 := hiV_zero (L := L) (l.getD j 0) hv0
      have hzf := fun k (hk : 0 < k) => hiV_first (L := L) (i := l.getD j 0) hk
      generalize hlj : l.getD j 0 = lj at *
      generalize hee : ovEnd L l j = ee at *
      have hxx : ∃ xa xv, sm L lj = ⟨xa, xv⟩ := ⟨_, _, rfl⟩
      obtain ⟨xa, xv, hxx⟩ := hxx
      rw [hxx] at a0 a1 hnext hz0 hzf
      dsimp only at a0 a1 hnext hz0 hzf
      have HR := Lib.hid (And.intro hnext (And.intro hr0 (And.intro hr1 (And.intro hbx (And.intro hown (And.intro hbl (And.intro hLr (And.intro hIr (And.intro hgo (And.intro hz0 (And.intro hzf hX)))))))))))
      have HN1 := Lib.hid (And.intro hnx hnx2)
      clear hnext hr0 hr1 hbx hown hbl hLr hIr hgo hz0 hzf hX hnx hnx2 hxx hlj hee hv0
      go_upto_if 23 with (fail)
      go_cut [7] from 10 to 61 (fun p wx => p = .int .i64 (ee : Int) ∧ wx = wo)
      case first =>
        by_cases hn : j + 1 < l.length
        · have hni : (j : Int) + 1 < (l.length : Int) := by omega
          have cn := HN1.out.1 hn
          have qa : (0 : Int) ≤ (j : Int) + 1 := by omega
          have qb : ((j : Int) + 1).toNat = j + 1 := by omega
          go_wp2_with (fail)
          go_meet
          exact ⟨rfl, rfl⟩
        · have hni : ¬ (j : Int) + 1 < (l.length : Int) := by omega
          have cn := HN1.out.2 hn
          subst cn
          go_wp2_with (fail)
          go_meet
          exact ⟨rfl, rfl⟩
      case rest =>
      obtain ⟨rfl, hwc⟩ := hcut
      obtain ⟨V0, hV0⟩ : ∃ V0, V0 = wc := ⟨_, rfl⟩
      subst hV0
      have hwc := hwc.symm
      subst hwc
      have hlL : lj < L.length := by omega
      have hS2 : ∀ V, Below wo.heap.size wo V → Below wo.heap.size wo V ∧ V.cell? ⟨r, 0, none⟩ = some (.slice (some ⟨ga, oa, none⟩) L.length c) ∧ V.cell? ⟨gl, ol + j, none⟩ = some (.int .i64 (lj : Int)) ∧ V.cell? ⟨ga, oa + lj * 2, none⟩ = some (.int .i64 xa) ∧ V.cell? ⟨ga, oa + lj * 2 + 1, none⟩ = some (.int .i64 xv) := fun V hV => ⟨hV, cell_keep2 hV s0, cell_keep2 hV cl, cell_keep2 hV a0, cell_keep2 hV a1⟩
      have HS2 := Lib.hid hS2
      have s1 := HS2.out wo.drew (below_drew (Below.refl _ _))
      clear hS2
      go_upto_region 8 with (fail)
      go_cut [8] from 10 to 61 (fun p wx => p = .pointer (some ⟨wo.heap.size, 0, none⟩) ∧ wx = (wo.alloc (.cells #[.int .i64 xa, .int .i64 xv] 49)).drew)
      case first =>
        go_region_held3 (fun w' => Below wo.heap.size wo w' ∧ w'.cell? ⟨r, 0, none⟩ = some (.slice (some ⟨ga, oa, none⟩) L.length c) ∧ w'.cell? ⟨gl, ol + j, none⟩ = some (.int .i64 (lj : Int)) ∧ w'.cell? ⟨ga, oa + lj * 2, none⟩ = some (.int .i64 xa) ∧ w'.cell? ⟨ga, oa + lj * 2 + 1, none⟩ = some (.int .i64 xv))
          (first | assumption | exact HS2.out _ (below_drew (below_box wo _)))
          (first | (fail))
        all_goals
          (try go_wp2_with (fail))
          go_meet
          exact ⟨rfl, rfl⟩
      case rest =>
      obtain ⟨rfl, hwc⟩ := hcut
      obtain ⟨ub, hub⟩ : ∃ ub, ub = wo.heap.size := ⟨_, rfl⟩
      obtain ⟨V1, hV1⟩ : ∃ V1, V1 = wc := ⟨_, rfl⟩
      subst hV1
      have hbx : V1.heap[ub]? = some (.cells #[.int .i64 xa, .int .i64 xv] 49 (0, 0)) := by
        rw [hwc, hub]
        exact new_at wo _
      have hbV : Below ub wo V1 := by rw [hwc, hub]; exact below_drew (below_box wo _)
      have s9 := HS2.out V1 (by rw [← hub]; exact hbV)
      have hus : V1.heap.size = ub + 1 := by rw [hwc, hub]; simp
      rw [← hub]
      have cl1 := s9.2.2.1
      have HV := Lib.hid (And.intro hbx (And.intro hbV (And.intro hub hus)))
      clear hwc hub hbx hbV hus s1 s9
      go_wp2_with (fail)
      go_loopw [9] (fun i wr => ∃ (k : Nat) (hv : Int), lj ≤ k ∧ k ≤ ee ∧ i = .int .i64 (k : Int) ∧ hv = max xv (hiV L lj (k - lj)) ∧ wr.heap[ub]? = some (.cells #[.int .i64 xa, .int .i64 hv] 49 (0, 0)) ∧ Below ub wo wr) (fun i _ => ee - (intOf i).toNat)
      case atStart => exact ⟨lj, xv, Nat.le_refl _, by omega, rfl, by rw [Nat.sub_self, HR.out.2.2.2.2.2.2.2.2.2.1], HV.out.1, HV.out.2.1⟩
      case round =>
        obtain ⟨k, hv, hk1, hk2, rfl, hhv, hbl2, hb2⟩ := hrel
        have t0 := cell_keep2 (HV.out.2.2.1 ▸ hb2) s0
        obtain ⟨u0, u1⟩ := two_at hbl2
        by_cases hke : k < ee
        · have hkei : (k : Int) < (ee : Int) := by omega
          have hkL : k < L.length := by omega
          have hki : (k : Int) < (L.length : Int) := by omega
          obtain ⟨g', o', e, hg', d0, d1⟩ := HR.out.2.2.2.2.2.2.2.2.1 k hkL
          injection e with e; injection e with e1 e2 _
          subst e1; subst e2
          have hgu : ga < ub := by rw [HV.out.2.2.1]; exact hg'
          have hru : r < ub := by rw [HV.out.2.2.1]; exact lt_of_heap HR.out.2.1
          replace d1 := cell_keep2 (HV.out.2.2.1 ▸ hb2) d1
          have hnx : max xv (hiV L lj (k + 1 - lj)) = max hv (sm L k).v := by
            rw [hhv, show k + 1 - lj = (k - lj) + 1 by omega]
            show max xv (max (hiV L lj (k - lj)) (sm L (lj + (k - lj))).v) = _
            rw [show lj + (k - lj) = k by omega]; omega
          generalize (sm L k).v = y at *
          obtain ⟨nv, hnv⟩ : ∃ nv, nv = max hv y := ⟨_, rfl⟩
          have qmx : (if hv < y then y else hv) = nv := by rw [hnv]; split <;> omega
          have qmx2 : max hv y = nv := hnv.symm
          have hul : ∀ j, wr.frozen? ⟨ub, j, none⟩ = false := fun j => by simp [World.frozen?, hbl2]
          have H2 := Lib.hid (And.intro (hnx.trans hnv.symm) (And.intro hbl2 hb2))
          clear hhv hnx hnv d0 hbl2 hb2
          have hS3 : ∀ V, Below ub wr V → Below ub wr V ∧ V.cell? ⟨r, 0, none⟩ = some (.slice (some ⟨ga, oa, none⟩) L.length c) ∧ V.cell? ⟨ga, oa + k * 2 + 1, none⟩ = some (.int .i64 y) := fun V hV => ⟨hV, (hV.cell (p := ⟨r, _, none⟩) hru).trans t0, (hV.cell (p := ⟨ga, _, none⟩) hgu).trans d1⟩
          have HS3 := Lib.hid hS3
          have s3 := HS3.out wr.drew (below_drew (Below.refl _ _))
          clear hS3
          have hbS : Below ub wr (wr.setCell ⟨ub, 1, none⟩ (.int .i64 nv)) := (Below.refl ub wr).setCell (Nat.le_refl _) _
          go_upto_region 12 with (fail)
          rw [opV47_eq]
          go_region_held3 (fun w' => Below ub wr w' ∧ w'.cell? ⟨r, 0, none⟩ = some (.slice (some ⟨ga, oa, none⟩) L.length c) ∧ w'.cell? ⟨ga, oa + k * 2 + 1, none⟩ = some (.int .i64 y))
            (first | assumption | exact HS3.out _ hbS | exact HS3.out _ (below_drew hbS))
            (first | (fail))
          all_goals
            go_wp2_with (fail)
            go_roundw
            case rel =>
              refine ⟨k + 1, nv, by omega, by omega, by go_num, H2.out.1.symm, ?_, ?_⟩
              · show (wr.setCell _ _).heap[ub]? = _
                rw [setCell_at _ _ _ _ _ _ H2.out.2.1]; rfl
              · exact below_drew (H2.out.2.2.setCell (Nat.le_refl _) _)
            case measure => simp [intOf]; omega
        · obtain rfl : k = ee := by omega
          have hhx : hv = hiV L lj (k - lj) := hhv.trans (HR.out.2.2.2.2.2.2.2.2.2.2.1 _ (by omega))
          have hbw : Below wo.heap.size wo wr := HV.out.2.2.1 ▸ hb2
          have hwos := lt_of_heap HR.out.2.2.2.1
          have hbxW : Boxed wr (r + 2) 24 (.slice A' X.length c') := (hbw.block _ hwos).trans HR.out.2.2.2.1
          have hrW0 := heap_keep HR.out.2.1 hbw
          have hrW1 := heap_keep HR.out.2.2.1 hbw
          have hownW : OwnE Sx.es 2 wr (r + 3) 49 A' c' X := row_below HR.out.2.2.2.2.1 hbw
          have x1 := hbxW.cell
          obtain ⟨X2, hX2⟩ : ∃ X2, X2 = (overS L l).take (j + 1) := ⟨_, rfl⟩
          have hnext : X2 = X ++ [⟨xa, hv⟩] := by rw [hX2, hhx]; exact HR.out.1
          have HX2 := Lib.hid hX2
          have hrn : r + 3 ≤ wr.heap.size := Nat.le_trans hwos hbw.size
          have HN := Lib.hid (And.intro hnext (And.intro hbxW (And.intro hrW0 (And.intro hrW1 (And.intro hownW (And.intro (HR.out.2.2.2.2.2.1.trans (hbw.mono (Nat.le_of_lt (lt_of_heap HR.out.2.1)))) (And.intro hbw (And.intro hrn hlx))))))))
          clear hhv hhx hbl2 hb2 hbw hwos hbxW hrW0 hrW1 hownW hX2 hnext hrn hlx
          go_wp2_with (at_builtin; go_loud (refine wpList_e ES Tryd.underlying22 sample_info (by decide) ?_ (.tmp 57) (.tmp 59) ?_ (r + 3) A' c' X ?_ (HN.out.2.2.2.2.1.alloc _) (some ⟨wr.heap.size, 0, none⟩) 1 [⟨xa, hv⟩] ?_ (oneS wr _ ⟨xa, hv⟩) (fun h => by cases h) ?_ ?_ ?_; (exact rfl); (exact rfl); (exact rfl); (exact rfl); (rw [HN.out.2.2.2.2.2.2.2.2, List.length_cons, List.length_nil]; omega); (simp; have := HN.out.2.2.2.2.2.2.2.1; omega); intro A8 c8 w8 h8 b8 _ _; rw [← HN.out.1] at h8 ⊢; have hbN := below_box wr (.cells #[.int .i64 xa, .int .i64 hv] 49); have q0 := (b8.block r (by omega)).trans (heap_keep HN.out.2.2.1 hbN); have q1 := (b8.block (r + 1) (by omega)).trans (heap_keep HN.out.2.2.2.1 hbN); have q2 := (b8.block (r + 2) (by omega)).trans ((hbN.block (r + 2) (by have := HN.out.2.2.2.2.2.2.2.1; omega)).trans HN.out.2.1); have z0 := one_at q2; have zf := frozen_pl q2 0; have H8 := Lib.hid (And.intro h8 (And.intro (And.intro b8 hbN) (And.intro q0 (And.intro q1 q2)))); clear h8 b8 hbN q0 q1 q2))
          go_roundw
          case rel =>
            have hnr8 := not_row' H8.out.2.2.2.2 (by decide) H8.out.1
            refine ⟨j + 1, A8, c8, by omega, by go_num, (Below.heap_setCell _ _ _ _ (by first | (simp; done) | (simp; omega))).trans H8.out.2.2.1, (Below.heap_setCell _ _ _ _ (by first | (simp; done) | (simp; omega))).trans H8.out.2.2.2.1, by rw [← HX2.out]; exact Boxed.set _ H8.out.2.2.2.2, by rw [← HX2.out]; exact rowE_far H8.out.1 hnr8 _ _, ?_⟩
            exact ((HN.out.2.2.2.2.2.1.trans (H8.out.2.1.2.mono (by have := HN.out.2.2.2.2.2.2.2.1; omega))).trans (H8.out.2.1.1.mono (by omega))).setCell (by show r ≤ r + 2; omega) _
          case measure => simp [intOf]; omega
    · obtain rfl : j = l.length := by omega
      have hje : (overS L l).take l.length = overS L l := List.take_of_length_le (by rw [over_len]; omega)
      rw [hje] at hX
      subst hX
      have z0 : wo.cell? ⟨r + 1 + 1, 0, none⟩ = some (.slice A' (overS L l).length c') := one_at hbx
      have hfr := frozen_pl hr1 0
      have q1 := one_at hr1
      have hEE := (OwnE.at ES hown).1
      have hset : (wo.setCell ⟨r + 1, 0, none⟩ (.slice A' (overS L l).length c')).heap[r + 1]? = some (.cells #[.slice A' (overS L l).length c'] 24 (0, 0)) := Boxed.set _ hr1
      have hErr : SAt (wo.setCell ⟨r + 1, 0, none⟩ (.slice A' (overS L l).length c')) A' c' (overS L l) := (OwnE.at ES (rowE_far hown (p := r + 1) (fun e => by have := (OwnE.at ES hown).2 (r + 1) e; omega) (r + 1) 0)).1
      have hgn : ∀ g, A'.map (·.block) = some g → r ≤ g := fun g e => by have := (OwnE.at ES hown).2 g e; omega
      have HE := Lib.hid (And.intro hset (And.intro hErr (And.intro (hbl.setCell (p := ⟨r + 1, 0, none⟩) (by show r ≤ r + 1; omega) (.slice A' (overS L l).length c')) (And.intro HU.out.2.2.2.2.2.2.1 hgn))))
      have hri : ¬ ((l.length : Int) < (l.length : Int)) := by omega
      obtain ⟨nX, hnX⟩ : ∃ nX, nX = (overS L l).length := ⟨_, rfl⟩
      rw [← hnX] at z0 HE hbx
      have HNX := Lib.hid hnX
      clear hnX hset hErr hgn hbl hEE hown hje hlx HU hbx hr1 hr0 hLr hIr s0
      go_wp2_with (fail)
      refine bodyPost_ret (results_cell_row rfl _ _ (r + 1) 24 #[.slice A' nX c'] (0, 0) _ rfl HE.out.1 Tryd.underlying24 rfl series_size) rfl ⟨A', c', by rw [← HNX.out], HE.out.2.1, ?_, ?_⟩
      · rw [← HE.out.2.2.2.1]
        exact HE.out.2.2.1
      · rw [← HE.out.2.2.2.1]
        intro g hg
        exact HE.out.2.2.2.2 _ (by rw [hg]; rfl)
end Sx
end Go.Proofs.YtionocafkaemiaaDoor
namespace Go.Proofs.YtionocafkaemiaaDoor
open Go.RowKit Go.Lib
namespace Sx
/-- What choose leaves. -/
def ChR (L : List Sm) (C : Option Addr) (d : Nat) (b r : Option (List Nat)) (W : World) (e : Ending) (w' : World) : Prop := ∃ A' c', e = .returned (sv A' (boS L r).length c') ∧ SAt w' A' c' (boS L r) ∧ Below W.heap.size W w' ∧ ((A' = C ∧ c' = d ∧ r = b) ∨ ∀ a, A' = some a → W.heap.size ≤ a.block)
theorem boxes3 (w : World) (cs ds fs : Array Value) (T U V : TypeId) : ((((w.alloc (.cells cs T)).alloc (.cells ds U)).alloc (.cells fs V)).heap[w.heap.size]? = some (.cells cs T (0, 0))) ∧ ((((w.alloc (.cells cs T)).alloc (.cells ds U)).alloc (.cells fs V)).heap[w.heap.size + 1]? = some (.cells ds U (0, 0))) ∧ ((((w.alloc (.cells cs T)).alloc (.cells ds U)).alloc (.cells fs V)).heap[w.heap.size + 2]? = some (.cells fs V (0, 0))) ∧ Below w.heap.size w (((w.alloc (.cells cs T)).alloc (.cells ds U)).alloc (.cells fs V)) ∧ (((w.alloc (.cells cs T)).alloc (.cells ds U)).alloc (.cells fs V)).heap.size = w.heap.size + 3 := by
  obtain ⟨k1, k2⟩ := two_boxes w cs ds T U
  have hb := below_box ((w.alloc (.cells cs T)).alloc (.cells ds U)) (.cells fs V)
  have hs : ((w.alloc (.cells cs T)).alloc (.cells ds U)).heap.size = w.heap.size + 2 := by simp
  have k3 := new_at ((w.alloc (.cells cs T)).alloc (.cells ds U)) (.cells fs V)
  rw [hs] at k3
  exact ⟨heap_keep k1 hb, heap_keep k2 hb, k3, ((below_box w _).alloc (by simp) _).alloc (by simp; omega) _, by simp⟩
/-- What the recursion leaves alone: its own boxes but for the one of the best. -/
structure Chs (U V : World) (r : Nat) : Prop where
  below : Below r U V
  size : U.heap.size ≤ V.heap.size
  k0 : V.heap[r]? = U.heap[r]?
  k2 : V.heap[r + 2]? = U.heap[r + 2]?
theorem Chs.refl (U : World) (r : Nat) : Chs U U r := ⟨Below.refl _ _, Nat.le_refl _, rfl, rfl⟩
theorem Chs.step {U V V' : World} {r : Nat} (h : Chs U V r) (hr : r + 2 < U.heap.size) (hb : Below V.heap.size V V') : Chs U V' r := by
  have hs := h.size
  exact ⟨h.below.trans (hb.mono (by omega)), Nat.le_trans hs hb.size, (hb.block r (by omega)).trans h.k0, (hb.block (r + 2) (by omega)).trans h.k2⟩
theorem Chs.drew {U V : World} {r : Nat} (h : Chs U V r) : Chs U V.drew r := ⟨below_drew h.below, h.size, h.k0, h.k2⟩
theorem Chs.part {U V V' : World} {r n : Nat} (h : Chs U V r) (hr : r + 2 < n) (hn : n ≤ V.heap.size) (hb : Below n V V') : Chs U V' r := by
  have hs := h.size
  exact ⟨h.below.trans (hb.mono (by omega)), Nat.le_trans hs hb.size, (hb.block r (by omega)).trans h.k0, (hb.block (r + 2) (by omega)).trans h.k2⟩
theorem Chs.store {U V V' : World} {r : Nat} (h : Chs U V r) (ho : ∀ q, ¬ q = r + 1 → V'.heap[q]? = V.heap[q]?) (hb : ∀ n, n ≤ r + 1 → Below n V V') : Chs U V' r :=
  ⟨h.below.trans (hb r (by omega)), Nat.le_trans h.size (hb 0 (by omega)).size, (ho r (by omega)).trans h.k0, (ho (r + 2) (by omega)).trans h.k2⟩
def opLd11 : Op := .load 24 (.tmp 11)
def opSt11 : Op := .store 24 (.tmp 11) (.tmp 51)
theorem opLd_is : opLd11 = .load 24 (.tmp 11) := rfl
theorem opSt_is : opSt11 = .store 24 (.tmp 11) (.tmp 51) := rfl
theorem one_eat {W : World} {p : Nat} {f : Nat} (h : W.heap[p]? = some (.cells #[.int .i64 (f : Int)] 3 (0, 0))) : EAt enN 1 W (some ⟨p, 0, none⟩) 1 [f] := by
  refine ⟨Nat.le_refl _, by unfold maxLen; decide, fun j x hx => ⟨p, 0, rfl, lt_of_heap h, fun i v hi hv => ?_⟩⟩
  have hj : j = 0 := by have := (List.getElem?_eq_some_iff.1 hx).1; simp at this; omega
  subst hj
  have hi0 : i = 0 := by omega
  subst hi0
  simp at hx
  subst hx
  simp at hv
  subst hv
  exact one_at h
abbrev bE : Obj := .cells #[] 3
abbrev bO (f : Nat) : Obj := .cells #[.int .i64 (f : Int)] 3
/-- A row of one's own, and a block with one number beside it. -/
structure TwoN (n : Nat) (V : World) (A : Option Addr) (c : Nat) (X : List Nat) (p f : Nat) : Prop where
  row : OwnE enN 1 V n 3 A c X
  one : V.heap[p]? = some (.cells #[.int .i64 (f : Int)] 3 (0, 0))
  ne : A.map (·.block) ≠ some p
theorem TwoN.drew {n : Nat} {V : World} {A : Option Addr} {c : Nat} {X : List Nat} {p f : Nat} (h : TwoN n V A c X p f) : TwoN n V.drew A c X p f := ⟨h.row, h.one, h.ne⟩
theorem twoA (w : World) (f : Nat) : TwoN w.heap.size ((w.alloc bE).alloc (bO f)) (some ⟨w.heap.size, 0, none⟩) 0 [] (w.heap.size + 1) f := by
  have hs : (w.alloc bE).heap.size = w.heap.size + 1 := by simp
  have h1 := new_at (w.alloc bE) (bO f)
  rw [hs] at h1
  exact ⟨row_below (owne_new w _) (below_box _ _), h1, by simp⟩
theorem twoB (w : World) (f : Nat) : TwoN w.heap.size ((w.alloc (bO f)).alloc bE) (some ⟨w.heap.size + 1, 0, none⟩) 0 [] w.heap.size f := by
  have hs : (w.alloc (bO f)).heap.size = w.heap.size + 1 := by simp
  have h1 := owne_new (enc := enN) (k := 1) (w.alloc (bO f)) 3
  rw [hs] at h1
  exact ⟨row_low h1 (by omega), heap_keep (new_at w (bO f)) (below_box _ _), by simp⟩
theorem twoC {w4 : World} {n : Nat} {A : Option Addr} {c : Nat} {X : List Nat} (f : Nat) (h : OwnE enN 1 w4 n 3 A c X) : TwoN n (w4.alloc (bO f)) A c X w4.heap.size f :=
  ⟨row_below h (below_box _ _), new_at _ _, fun e => by have := (OwnE.at EN h).2 _ e; omega⟩
section
variable {w : World} {ops : Array Oper} {o : Oper} {a : Act} {K : Act → World → Prop} {Q : Exit → Act → World → Prop} {F : Prop}
set_option maxRecDepth 100000 in
theorem step_twoN (hgd : o.guard = none) (s x : Operand) (ho : o.op = .call { callee := .builtin .append, args := #[s, x], argTypes := #[91, 91] })
    (n : Nat) (A0 : Option Addr) (c0 : Nat) (X : List Nat) (p f : Nat) (hs : a.eval s = .slice A0 X.length c0) (ht : TwoN n w A0 c0 X p f)
    (A : Option Addr) (c : Nat) (M : List Nat) (hx : a.eval x = .slice A M.length c) (hM : EAt enN 1 w A c M) (hn : A = none → c = 0) (hlen : X.length + M.length ≤ 100000) (hb : n ≤ w.heap.size)
    (h : ∀ A' c' w', TwoN n w' A' c' (X ++ M) p f → Below n w w' → K (a.put o.dst (.slice A' (X ++ M).length c')) w') :
    if Region.wanted o (yielded ops a.tmps) = true then Oper.wp Tryd.prog o a w K Q else F := by
  obtain ⟨A', c', w', hrun, h1, h2, h3⟩ := run_append_e EN Tryd.underlying91 int_info (by decide) w o.type n A0 c0 X ht.row A c M hM hn hlen hb
  have hbel : Below n w w' := below_grown h2 hb fun g e => ((OwnE.at EN ht.row).2 g (own_blk e)).1
  have hpl := lt_of_heap ht.one
  have hpb : w'.heap[p]? = w.heap[p]? := h2.block p hpl fun e => ht.ne (own_blk e.symm)
  refine step_of hgd (wp_append_run s x ho _ _ _ hs hx w' hrun (h A' c' w' ⟨h1, hpb.trans ht.one, fun e => ?_⟩ hbel))
  rcases h3 with h3 | h3
  · exact ht.ne (h3.symm.trans e)
  · rw [h3] at e; injection e with e; omega
end
theorem sat_far {V : World} {A : Option Addr} {c : Nat} {X : List Sm} (h : SAt V A c X) {q : Nat} (hq : ∀ a, A = some a → a.block ≠ q) (x : Value) : SAt (V.setCell ⟨q, 0, none⟩ x) A c X := by
  refine h.keep (by simp) fun g hg _ => Below.heap_setCell _ _ _ _ ?_
  cases A with
  | none => cases hg
  | some a =>
    have e : a.block = g := by injection hg
    have := hq a rfl
    show ¬ g = q
    omega
attribute [local irreducible] wpQuiet
set_option maxRecDepth 100000 in
set_option maxHeartbeats 8000000 in
/-- Too many: the best one so far. -/
theorem choose_over (A : Option Addr) (c : Nat) (L : List Sm) (u : Int) (most k f : Nat) (l : List Nat) (b : Option (List Nat)) (hm : most < l.length) (B : Option Addr) (d : Nat) (C : Option Addr) (e : Nat) (W : World) (hI : IAt W B d (zs l)) (hC : SAt W C e (boS L b)) :
    Calls Tryd.prog 56 #[sv A L.length c, .int .i64 u, .int .i64 (most : Int), .int .i64 (f : Int), .slice B l.length d, sv C (boS L b).length e] W (ChR L C e b (chooseV (areaL L u) L.length most k l b) W) := by
  have hr : chooseV (areaL L u) L.length most k l b = b := by cases k <;> (unfold chooseV; rw [if_pos hm])
  rw [hr]
  obtain ⟨k1, k2, k3, hbU, hUs⟩ := boxes3 W #[.slice A L.length c] #[.slice C (boS L b).length e] #[.slice none 0 0] 24 24 24
  obtain ⟨U, hU⟩ : ∃ U, U = ((W.alloc (.cells #[.slice A L.length c] 24)).alloc (.cells #[.slice C (boS L b).length e] 24)).alloc (.cells #[.slice none 0 0] 24) := ⟨_, rfl⟩
  rw [← hU] at k1 k2 k3 hbU hUs
  have hmi : (most : Int) < (l.length : Int) := by omega
  have HC := Lib.hid (And.intro hC hbU)
  have hset : (U.setCell ⟨W.heap.size + 2, 0, none⟩ (.slice C (boS L b).length e)).heap[W.heap.size + 2]? = some (.cells #[.slice C (boS L b).length e] 24 (0, 0)) := Boxed.set _ k3
  have HS := Lib.hid hset
  obtain ⟨nb, hnb⟩ : ∃ nb, nb = (boS L b).length := ⟨_, rfl⟩
  rw [← hnb] at k2 HS hU ⊢
  have HN := Lib.hid hnb
  have s1 := one_at k2
  have f2 := frozen_at k3 0
  have s2 := one_at k3
  clear hC hbU hset k1 k2 k3 hnb hUs hr hm
  go_enter Tryd.func56, Tryd.ntmps56
  go_upto_region 1 with (fail)
  rw [← hU]
  clear hU
  go_wp2_with (fail)
  have hb2 : Below W.heap.size W (U.setCell ⟨W.heap.size + 2, 0, none⟩ (.slice C nb e)) := HC.out.2.setCell (p := ⟨W.heap.size + 2, 0, none⟩) (by show _ ≤ _ + 2; omega) _
  exact bodyPost_ret (results_cell_row rfl _ _ (W.heap.size + 2) 24 #[.slice C nb e] (0, 0) _ rfl HS.out Tryd.underlying24 rfl series_size) rfl ⟨C, e, by rw [← HN.out], HC.out.1.below hb2 (Nat.le_refl _), hb2, .inl ⟨rfl, rfl, rfl⟩⟩
set_option maxRecDepth 100000 in
set_option maxHeartbeats 8000000 in
/-- A choice that is whole: it is tried. -/
theorem choose_leafR (A : Option Addr) (c : Nat) (L : List Sm) (u : Int) (most : Nat) (h : OkE L u) (hn : 0 < L.length) (l : List Nat) (b : Option (List Nat)) (hl : Beg L 0 l) (hbo : BoOk L b) (hm : l.length ≤ most) (B : Option Addr) (d : Nat) (C : Option Addr) (e : Nat) (W : World) (hA : SAt W A c L) (hI : IAt W B d (zs l)) (hC : SAt W C e (boS L b)) :
    Calls Tryd.prog 56 #[sv A L.length c, .int .i64 u, .int .i64 (most : Int), .int .i64 (L.length : Int), .slice B l.length d, sv C (boS L b).length e] W (ChR L C e b (chooseV (areaL L u) L.length most 0 l b) W) := by
  have hx := hl.ext hn
  have hs := starts_of hn hx
  have hleaf := choose_leaf h hn (b := b) hl hbo hm
  obtain ⟨k1, k2, k3, hbU, hUs⟩ := boxes3 W #[.slice A L.length c] #[.slice C (boS L b).length e] #[.slice none 0 0] 24 24 24
  obtain ⟨U, hU⟩ : ∃ U, U = ((W.alloc (.cells #[.slice A L.length c] 24)).alloc (.cells #[.slice C (boS L b).length e] 24)).alloc (.cells #[.slice none 0 0] 24) := ⟨_, rfl⟩
  rw [← hU] at k1 k2 k3 hbU hUs
  have hmi : ¬ (most : Int) < (l.length : Int) := by omega
  have HOV := Lib.hid (overR_ok A c L B d l U (hA.below hbU (Nat.le_refl _)) (hI.below hbU (Nat.le_refl _)) h.ok hs)
  have hAX := arE_ok (over_ok h hs)
  have hpos : 0 < (overS L l).length := by rw [over_len]; exact (hl.len hn).1
  have hcov := cov_whole (over_ok h hs) hpos
  have hbb : ∀ x, b = some x → Cov (boS L b) (sm (boS L b) 0).a u ∧ 0 < (boS L b).length := fun x e => by
    have e2 := hbo x e
    subst e
    have h2 := over_ok h (starts_of hn e2)
    have h3 : 0 < (overS L x).length := by rw [over_len]; exact (ext_pos e2).1
    exact ⟨cov_whole h2 h3, h3⟩
  have HH := Lib.hid (And.intro hC (And.intro hbU (And.intro hleaf (And.intro hpos (And.intro hcov (And.intro hbb hUs))))))
  have h0 := (bo_len hbo hn).2
  obtain ⟨nb, hnb⟩ : ∃ nb, nb = (boS L b).length := ⟨_, rfl⟩
  rw [← hnb] at k2 hU h0 ⊢
  obtain ⟨no, hno⟩ : ∃ no, no = (overS L l).length := ⟨_, rfl⟩
  rw [← hno] at HOV
  have HN := Lib.hid (And.intro hnb hno)
  obtain ⟨r, hr⟩ : ∃ r, r = W.heap.size := ⟨_, rfl⟩
  rw [← hr] at k1 k2 k3 HH
  have HK := Lib.hid (And.intro k1 (And.intro k2 (And.intro k3 hr)))
  have s0 := one_at k1
  clear hC hbU hleaf hAX hpos hcov hbb hnb hno hUs hx hs hl hbo hm hA hI k1 k2 k3 h hn
  go_enter Tryd.func56, Tryd.ntmps56
  go_upto_region 1 with (fail)
  rw [← hU, ← hr]
  clear hU hr
  go_upto_region 5 with (go_at_call 81; refine HOV.out.mono ?_; rintro e w1 ⟨A1, c1, rfl, h1, hb1, hf1⟩; have H1 := Lib.hid (And.intro h1 (And.intro hb1 hf1)); clear h1 hb1 hf1)
  obtain ⟨p, hp⟩ : ∃ p, p = w1.heap.size := ⟨_, rfl⟩
  rw [← hp]
  have hrU : r + 3 ≤ p := by have := H1.out.2.1.size; have := HH.out.2.2.2.2.2.2; omega
  have hbp := below_box w1 (.cells #[.slice A1 no c1] 24)
  have kp : (w1.alloc (.cells #[.slice A1 no c1] 24)).heap[p]? = some (.cells #[.slice A1 no c1] 24 (0, 0)) := by rw [hp]; exact new_at w1 _
  have hbV : Below U.heap.size U (w1.alloc (.cells #[.slice A1 no c1] 24)) := H1.out.2.1.trans (hbp.mono H1.out.2.1.size)
  have hSV : SAt (w1.alloc (.cells #[.slice A1 no c1] 24)) A1 c1 (overS L l) := H1.out.1.below hbp (Nat.le_refl _)
  generalize (w1.alloc (.cells #[.slice A1 no c1] 24)) = V at *
  have k1 := heap_keep HK.out.1 hbV
  have k2 := heap_keep HK.out.2.1 hbV
  have k3 := heap_keep HK.out.2.2.1 hbV
  have hWV : Below r W V := HH.out.2.1.trans (hbV.mono (by rw [HH.out.2.2.2.2.2.2]; omega))
  have hCV : SAt V C e (boS L b) := HH.out.1.below hWV (Nat.le_of_eq HK.out.2.2.2.symm)
  have hfar : ∀ a, A1 = some a → a.block ≠ r + 2 := fun a e => by have := H1.out.2.2 a e; have := HH.out.2.2.2.2.2.2; omega
  have hnew : ∀ a, A1 = some a → r ≤ a.block := fun a e => by have := H1.out.2.2 a e; have := HH.out.2.2.2.2.2.2; omega
  have HV := Lib.hid (And.intro k3 (And.intro hWV (And.intro hCV (And.intro hSV (And.intro kp (And.intro hfar hnew))))))
  have s1 := one_at k2
  have s2 := one_at k3
  have sp := one_at kp
  have f2 := frozen_at k3 0
  clear kp hbV hSV k1 k2 k3 hWV hCV hbp hp s0 hfar hnew hrU
  cases b with
  | none =>
    have hz : nb = 0 := h0.2 rfl
    subst hz
    have hres : chooseV (areaL L u) L.length most 0 l none = some l := by rw [HH.out.2.2.1, if_pos (.inl rfl)]
    have HR := Lib.hid hres
    clear hres h0
    go_wp2_with (fail)
    have hb2 : Below W.heap.size W (V.setCell ⟨r + 2, 0, none⟩ (.slice A1 no c1)) := (HV.out.2.1.mono (Nat.le_of_eq HK.out.2.2.2.symm)).setCell (p := ⟨r + 2, 0, none⟩) (by rw [HK.out.2.2.2]; show _ ≤ _ + 2; omega) _
    have hbV2 : SAt (V.setCell ⟨r + 2, 0, none⟩ (.slice A1 no c1)) A1 c1 (overS L l) := sat_far HV.out.2.2.2.1 HV.out.2.2.2.2.2.1 _
    refine bodyPost_ret (results_cell_row rfl _ _ (r + 2) 24 #[.slice A1 no c1] (0, 0) _ rfl (Boxed.set _ HV.out.1) Tryd.underlying24 rfl series_size) rfl ?_
    exact ⟨A1, c1, by rw [HR.out, HN.out.2]; rfl, by rw [HR.out]; exact hbV2, hb2, .inr (by rw [← HK.out.2.2.2]; exact HV.out.2.2.2.2.2.2)⟩
  | some x =>
    have hnb : 0 < nb := by rcases Nat.eq_zero_or_pos nb with h | h
                            · have := h0.1 h; cases this
                            · exact h
    have hnz : ((nb : Int) == 0) = false := by simp; omega
    have hres : chooseV (areaL L u) L.length most 0 l (some x) = if beforeV u (overS L l) (boS L (some x)) = true then some l else some x := by
      rw [HH.out.2.2.1, HN.out.1.symm]
      by_cases hq : beforeV u (overS L l) (boS L (some x)) = true
      · rw [if_pos (.inr hq), if_pos hq]
      · rw [if_neg (by rintro (h1 | h1); (· omega); exact hq h1), if_neg hq]
    have HBF := Lib.hid (beforeR_ok A1 c1 (overS L l) C e (boS L (some x)) u V HV.out.2.2.2.1 HV.out.2.2.1 HH.out.2.2.2.2.1 (HH.out.2.2.2.2.2.1 x rfl).1 HH.out.2.2.2.1 (HH.out.2.2.2.2.2.1 x rfl).2)
    obtain ⟨bz, hbz⟩ : ∃ bz, bz = beforeV u (overS L l) (boS L (some x)) := ⟨_, rfl⟩
    rw [← hbz] at hres HBF
    rw [← HN.out.1, ← HN.out.2] at HBF
    have HR := Lib.hid hres
    clear hres h0 hbz hnb
    cases bz
    · go_wp2_with (go_at_call 82; refine HBF.out.mono ?_; rintro e w5 ⟨rfl, hb5⟩; replace s1 := cell_keep2 hb5 s1; replace sp := cell_keep2 hb5 sp; replace s2 := cell_keep2 hb5 s2; replace f2 := frozen_at (heap_keep HV.out.1 hb5) 0; have H5 := Lib.hid hb5; clear hb5)
      have hWV := (HV.out.2.1.mono (Nat.le_of_eq HK.out.2.2.2.symm)).trans (H5.out.mono HV.out.2.1.size)
      have hb2 : Below W.heap.size W (w5.setCell ⟨r + 2, 0, none⟩ (.slice C nb e)) := hWV.setCell (p := ⟨r + 2, 0, none⟩) (by rw [HK.out.2.2.2]; show _ ≤ _ + 2; omega) _
      refine bodyPost_ret (results_cell_row rfl _ _ (r + 2) 24 #[.slice C nb e] (0, 0) _ rfl (Boxed.set _ (heap_keep HV.out.1 H5.out)) Tryd.underlying24 rfl series_size) rfl ?_
      rw [HR.out, if_neg (by simp)]
      exact ⟨C, e, by rw [HN.out.1], HH.out.1.below hb2 (Nat.le_refl _), hb2, .inl ⟨rfl, rfl, rfl⟩⟩
    · go_wp2_with (go_at_call 82; refine HBF.out.mono ?_; rintro e w5 ⟨rfl, hb5⟩; replace s1 := cell_keep2 hb5 s1; replace sp := cell_keep2 hb5 sp; replace s2 := cell_keep2 hb5 s2; replace f2 := frozen_at (heap_keep HV.out.1 hb5) 0; have H5 := Lib.hid hb5; clear hb5)
      have hWV := (HV.out.2.1.mono (Nat.le_of_eq HK.out.2.2.2.symm)).trans (H5.out.mono HV.out.2.1.size)
      have hb2 : Below W.heap.size W (w5.setCell ⟨r + 2, 0, none⟩ (.slice A1 no c1)) := hWV.setCell (p := ⟨r + 2, 0, none⟩) (by rw [HK.out.2.2.2]; show _ ≤ _ + 2; omega) _
      have hbV2 : SAt (w5.setCell ⟨r + 2, 0, none⟩ (.slice A1 no c1)) A1 c1 (overS L l) := sat_far (HV.out.2.2.2.1.below H5.out (Nat.le_refl _)) HV.out.2.2.2.2.2.1 _
      refine bodyPost_ret (results_cell_row rfl _ _ (r + 2) 24 #[.slice A1 no c1] (0, 0) _ rfl (Boxed.set _ (heap_keep HV.out.1 H5.out)) Tryd.underlying24 rfl series_size) rfl ?_
      rw [HR.out, if_pos True.intro]
      exact ⟨A1, c1, by rw [HN.out.2]; rfl, hbV2, hb2, .inr (by rw [← HK.out.2.2.2]; exact HV.out.2.2.2.2.2.2)⟩
theorem ch_mid {L : List Sm} {W U w5 w9 : World} {r : Nat} {C A9 : Option Addr} {e c9 : Nat} {b r1 : Option (List Nat)} (hr : r = W.heap.size) (hU : U.heap.size = r + 3) (hC : SAt W C e (boS L b)) (x : Value) (hWV : Below r W (w9.setCell ⟨r + 1, 0, none⟩ x)) (h5 : U.heap.size ≤ w5.heap.size)
    (hf9 : (A9 = C ∧ c9 = e ∧ r1 = b) ∨ ∀ a, A9 = some a → w5.heap.size ≤ a.block) (h9 : SAt w9 A9 c9 (boS L r1)) :
    SAt (w9.setCell ⟨r + 1, 0, none⟩ x) A9 c9 (boS L r1) ∧ ((A9 = C ∧ c9 = e ∧ r1 = b) ∨ ∀ a, A9 = some a → U.heap.size ≤ a.block) := by
  rcases hf9 with ⟨h1, h2, h3⟩ | h1
  · refine ⟨?_, .inl ⟨h1, h2, h3⟩⟩
    rw [h1, h2, h3]; exact hC.below hWV (Nat.le_of_eq hr.symm)
  · exact ⟨sat_far h9 (fun a ha => by have := h1 a ha; omega) _, .inr fun a ha => Nat.le_trans h5 (h1 a ha)⟩
/-- The last store. -/
theorem ch_last {L : List Sm} {W U V w : World} {r : Nat} {C A9 A10 : Option Addr} {e c9 c10 : Nat} {b r1 r2 : Option (List Nat)} (hr : r = W.heap.size) (hU : U.heap.size = r + 3) (hC : SAt W C e (boS L b)) (hWV : Below r W V) (hUV : U.heap.size ≤ V.heap.size)
    (hf9 : (A9 = C ∧ c9 = e ∧ r1 = b) ∨ ∀ a, A9 = some a → U.heap.size ≤ a.block) (hb10 : Below V.heap.size V w) (hS10 : SAt w A10 c10 (boS L r2)) (hf10 : (A10 = A9 ∧ c10 = c9 ∧ r2 = r1) ∨ ∀ a, A10 = some a → V.heap.size ≤ a.block) (x : Value) :
    SAt (w.setCell ⟨r + 2, 0, none⟩ x) A10 c10 (boS L r2) ∧ Below W.heap.size W (w.setCell ⟨r + 2, 0, none⟩ x) ∧ ((A10 = C ∧ c10 = e ∧ r2 = b) ∨ ∀ a, A10 = some a → W.heap.size ≤ a.block) := by
  subst hr
  have hb : Below W.heap.size W (w.setCell ⟨W.heap.size + 2, 0, none⟩ x) := (hWV.trans (hb10.mono hWV.size)).setCell (p := ⟨W.heap.size + 2, 0, none⟩) (by show _ ≤ _ + 2; omega) _
  have key : (A10 = C ∧ c10 = e ∧ r2 = b) ∨ ∀ a, A10 = some a → U.heap.size ≤ a.block := by
    rcases hf10 with ⟨h1, h2, h3⟩ | h1
    · rcases hf9 with ⟨h4, h5, h6⟩ | h4
      · exact .inl ⟨h1.trans h4, h2.trans h5, h3.trans h6⟩
      · exact .inr fun a ha => h4 a (h1 ▸ ha)
    · exact .inr fun a ha => Nat.le_trans hUV (h1 a ha)
  rcases key with ⟨h1, h2, h3⟩ | h1
  · refine ⟨?_, hb, .inl ⟨h1, h2, h3⟩⟩
    rw [h1, h2, h3]; exact hC.below hb (Nat.le_refl _)
  · exact ⟨sat_far hS10 (fun a ha => by have := h1 a ha; omega) _, hb, .inr fun a ha => by have := h1 a ha; omega⟩
attribute [local go_sem] opLd11 opSt11
set_option maxRecDepth 100000 in
set_option maxHeartbeats 8000000 in
/-- With the next sample, then without it. -/
theorem choose_step (A : Option Addr) (c : Nat) (L : List Sm) (u : Int) (most k f f1 : Nat) (hf : f + (k + 1) = L.length) (hf1 : f1 = f + 1) (hk : k + 1 < L.length) (hn5 : L.length ≤ 500) (l : List Nat) (b : Option (List Nat)) (hl : Beg L (k + 1) l) (hbo : BoOk L b) (hm : l.length ≤ most)
    (IH : ∀ (l : List Nat) (b : Option (List Nat)), Beg L k l → BoOk L b → ∀ (B : Option Addr) (d : Nat) (C : Option Addr) (e : Nat) (W : World), SAt W A c L → IAt W B d (zs l) → SAt W C e (boS L b) →
      Calls Tryd.prog 56 #[sv A L.length c, .int .i64 u, .int .i64 (most : Int), .int .i64 (f1 : Int), .slice B l.length d, sv C (boS L b).length e] W (ChR L C e b (chooseV (areaL L u) L.length most k l b) W))
    (B : Option Addr) (d : Nat) (C : Option Addr) (e : Nat) (W : World) (hA : SAt W A c L) (hI : IAt W B d (zs l)) (hC : SAt W C e (boS L b)) :
    Calls Tryd.prog 56 #[sv A L.length c, .int .i64 u, .int .i64 (most : Int), .int .i64 (f : Int), .slice B l.length d, sv C (boS L b).length e] W (ChR L C e b (chooseV (areaL L u) L.length most (k + 1) l b) W) := by
  obtain ⟨hl2, hl1⟩ := hl.next hk
  rw [show L.length - (k + 1) = f by omega] at hl2
  have hres : chooseV (areaL L u) L.length most (k + 1) l b = chooseV (areaL L u) L.length most k l (chooseV (areaL L u) L.length most k (l ++ [f]) b) := by
    show (if most < l.length then b else chooseV (areaL L u) L.length most k l (chooseV (areaL L u) L.length most k (l ++ [L.length - (k + 1)]) b)) = _
    rw [if_neg (by omega), show L.length - (k + 1) = f by omega]
  rw [hres]
  clear hres
  have hll := (hl.len (by omega)).2
  have hlp := (hl.len (by omega)).1
  obtain ⟨l2, hl2e⟩ : ∃ l2, l2 = l ++ [f] := ⟨_, rfl⟩
  rw [← hl2e] at hl2 ⊢
  obtain ⟨r1, hr1⟩ : ∃ r1, r1 = chooseV (areaL L u) L.length most k l2 b := ⟨_, rfl⟩
  have hbo1 : BoOk L r1 := by rw [hr1]; exact choose_bo hl2 (by omega) hbo
  obtain ⟨r2, hr2⟩ : ∃ r2, r2 = chooseV (areaL L u) L.length most k l r1 := ⟨_, rfl⟩
  rw [← hr1, ← hr2]
  obtain ⟨k1, k2, k3, hbU, hUs⟩ := boxes3 W #[.slice A L.length c] #[.slice C (boS L b).length e] #[.slice none 0 0] 24 24 24
  obtain ⟨U, hU⟩ : ∃ U, U = ((W.alloc (.cells #[.slice A L.length c] 24)).alloc (.cells #[.slice C (boS L b).length e] 24)).alloc (.cells #[.slice none 0 0] 24) := ⟨_, rfl⟩
  rw [← hU] at k1 k2 k3 hbU hUs
  obtain ⟨nb, hnb⟩ : ∃ nb, nb = (boS L b).length := ⟨_, rfl⟩
  obtain ⟨n9, hn9⟩ : ∃ n9, n9 = (boS L r1).length := ⟨_, rfl⟩
  obtain ⟨n10, hn10⟩ : ∃ n10, n10 = (boS L r2).length := ⟨_, rfl⟩
  obtain ⟨r, hr⟩ : ∃ r, r = W.heap.size := ⟨_, rfl⟩
  rw [← hr] at k1 k2 k3 hbU hUs
  have hWV : ∀ V, Chs U V r → Below r W V := fun V hV => hbU.trans hV.below
  have hIH1 : ∀ V B d, Chs U V r → EAt enN 1 V B d l2 → Calls Tryd.prog 56 #[sv A L.length c, .int .i64 u, .int .i64 (most : Int), .int .i64 (f1 : Int), .slice B l2.length d, sv C nb e] V (fun x w' => ∃ A' c', x = .returned (sv A' n9 c') ∧ SAt w' A' c' (boS L r1) ∧ Below V.heap.size V w' ∧ ((A' = C ∧ c' = e ∧ r1 = b) ∨ ∀ a, A' = some a → V.heap.size ≤ a.block)) := fun V B d hV hB => by
    have := IH l2 b hl2 hbo B d C e V (hA.below (hWV V hV) (Nat.le_of_eq hr.symm)) (iat_N.2 hB) (hC.below (hWV V hV) (Nat.le_of_eq hr.symm))
    rw [← hnb, ← hr1] at this
    rw [hn9]
    exact this
  have hIH2 : ∀ V A9 c9, Chs U V r → SAt V A9 c9 (boS L r1) → Calls Tryd.prog 56 #[sv A L.length c, .int .i64 u, .int .i64 (most : Int), .int .i64 (f1 : Int), .slice B l.length d, sv A9 n9 c9] V (fun x w' => ∃ A' c', x = .returned (sv A' n10 c') ∧ SAt w' A' c' (boS L r2) ∧ Below V.heap.size V w' ∧ ((A' = A9 ∧ c' = c9 ∧ r2 = r1) ∨ ∀ a, A' = some a → V.heap.size ≤ a.block)) := fun V A9 c9 hV h9 => by
    have := IH l r1 hl1 hbo1 B d A9 c9 V (hA.below (hWV V hV) (Nat.le_of_eq hr.symm)) (hI.below (hWV V hV) (Nat.le_of_eq hr.symm)) h9
    rw [← hn9, ← hr2] at this
    rw [hn10]
    exact this
  have HI1 := Lib.hid hIH1
  have HI2 := Lib.hid hIH2
  have hIN : ∀ V, Chs U V r → EAt enN 1 V B d l := fun V hV => iat_N.1 (hI.below (hWV V hV) (Nat.le_of_eq hr.symm))
  have hBn : B = none → d = 0 := fun hB => by
    obtain ⟨g, o, h1, _⟩ := zs_at hI hlp
    rw [hB] at h1; cases h1
  have HB := Lib.hid (And.intro hIN hBn)
  have HL := Lib.hid (And.intro hl2e hll)
  have HH := Lib.hid (And.intro hC (And.intro hWV (And.intro hUs (And.intro hr (And.intro hnb (And.intro hn9 (And.intro hn10 k3)))))))
  rw [← hnb] at k2 hU ⊢
  have hmi : ¬ (most : Int) < (l.length : Int) := by omega
  have hfL : ((f : Int) == (L.length : Int)) = false := by simp; omega
  have hw1 : IntKind.i64.wrap ((f : Int) + 1) = (f1 : Int) := by rw [IntWalk.i64_in _ (by omega)]; omega
  have s0 := one_at k1
  have hch := Chs.refl U r
  have HS := Lib.hid (show ∀ V, Chs U V r → Below r U V ∧ V.cell? ⟨r, 0, none⟩ = some (.slice A L.length c) from fun V hV => ⟨hV.below, (World.cell?_of_block (a := ⟨r, _, none⟩) hV.k0).trans s0⟩)
  have kb := k2
  have hr3 : r + 2 < U.heap.size := by omega
  clear IH hIH1 hIH2 hIN hBn hl2e hll hlp hC hWV hr hnb hn9 hn10 k1 k2 k3 hbU hA hI hl hl2 hl1 hbo hbo1 hr1 hr2 hm hf hk hf1 hUs
  go_enter Tryd.func56, Tryd.ntmps56
  go_upto_region 1 with (fail)
  rw [← hU, ← HH.out.2.2.2.1]
  clear hU
  go_upto_region 8 with (fail)
  clear s0
  have hkey : ∀ V V', Below U.heap.size V V' → Chs U V r → V.heap[r + 1]? = some (.cells #[.slice C nb e] 24 (0, 0)) → Chs U V' r ∧ V'.heap[r + 1]? = some (.cells #[.slice C nb e] 24 (0, 0)) ∧ Chs U V'.drew r ∧ V'.cell? ⟨r + 1, 0, none⟩ = some (.slice C nb e) ∧ V'.frozen? ⟨r + 1, 0, none⟩ = false := fun V V' hV h1 h2 => by
    have h3 := (hV.block (r + 1) (by omega)).trans h2
    exact ⟨h1.part hr3 h1.size hV, h3, (h1.part hr3 h1.size hV).drew, one_at h3, frozen_at h3 0⟩
  obtain ⟨c0, b0, d0, x0, y0⟩ := hkey U U (Below.refl _ _) hch kb
  obtain ⟨cE, bE1, dE, xE, yE⟩ := hkey U (U.alloc bE) (below_box _ _) hch kb
  obtain ⟨cO, bO1, dO, xO, yO⟩ := hkey U (U.alloc (bO f)) (below_box _ _) hch kb
  obtain ⟨cA, bA1, dA, xA, yA⟩ := hkey (U.alloc bE) ((U.alloc bE).alloc (bO f)) ((below_box _ _).mono cE.size) cE bE1
  obtain ⟨cB, bB1, dB, xB, yB⟩ := hkey (U.alloc (bO f)) ((U.alloc (bO f)).alloc bE) ((below_box _ _).mono cO.size) cO bO1
  have HA := Lib.hid (And.intro dA (And.intro (show ((U.alloc bE).alloc (bO f)).drew.heap[r + 1]? = _ from bA1) cA))
  have HBB := Lib.hid (And.intro dB (And.intro (show ((U.alloc (bO f)).alloc bE).drew.heap[r + 1]? = _ from bB1) cB))
  have HE := Lib.hid (And.intro dE (And.intro (show (U.alloc bE).drew.heap[r + 1]? = _ from bE1) cE))
  have HO := Lib.hid (And.intro cO (And.intro bO1 dO))
  have HKEY := Lib.hid hkey
  have s1 := HS.out U.drew hch.drew
  have H0 := Lib.hid (And.intro c0 (And.intro b0 d0))
  clear hkey c0 b0 d0 cE bE1 dE cO bO1 dO cA bA1 dA cB bB1 dB hch kb
  have TA := Lib.hid (twoA U f).drew
  have TB := Lib.hid (twoB U f).drew
  have OC := Lib.hid (show OwnE enN 1 (U.alloc bE).drew U.heap.size 3 (some ⟨U.heap.size, 0, none⟩) 0 [] from owne_new (enc := enN) (k := 1) U 3)
  rw [← opLd_is, ← opSt_is]
  go_cut [12] from 39 to 52 (fun p wx => p = .pointer (some ⟨r + 1 + 1, 0, none⟩) ∧ ∃ A9 c9, SAt wx A9 c9 (boS L r1) ∧ Chs U wx r ∧ wx.heap[r + 1]? = some (.cells #[.slice A9 n9 c9] 24 (0, 0)) ∧ ((A9 = C ∧ c9 = e ∧ r1 = b) ∨ ∀ a, A9 = some a → U.heap.size ≤ a.block))
  case first =>
    go_region_held3 (fun w' => Below r U w' ∧ w'.cell? ⟨r, 0, none⟩ = some (.slice A L.length c))
      (first | assumption | (with_reducible exact HS.out _ H0.out.2.2) | (with_reducible exact HS.out _ H0.out.1) | (with_reducible exact HS.out _ HE.out.2.2) | (with_reducible exact HS.out _ HE.out.1) | (with_reducible exact HS.out _ HO.out.2.2) | (with_reducible exact HS.out _ HO.out.1) | (with_reducible exact HS.out _ HA.out.2.2) | (with_reducible exact HS.out _ HA.out.1) | (with_reducible exact HS.out _ HBB.out.2.2) | (with_reducible exact HS.out _ HBB.out.1) | (with_reducible exact HS.out _ H4.out.1) | (with_reducible exact HS.out _ H4.out.2) | (with_reducible exact HS.out _ HT1.out.2.1) | (with_reducible exact HS.out _ HT1.out.2.2.2) | (with_reducible exact HS.out _ H5.out.2.1) | (with_reducible exact HS.out _ H5.out.2.2.2) | (with_reducible exact HS.out _ H9.out.1) | (with_reducible exact HS.out _ H9.out.2.2.2.2.2.2) | (with_reducible exact HS.out _ H9.out.2.2.2.2.2.2.drew))
      (first
        | (go_at_call 56; with_reducible refine (HI1.out _ _ _ H5.out.2.1 (OwnE.at EN H5.out.1).1).mono ?_; rintro e9 w9 ⟨A9, c9, rfl, h9, hb9, hf9⟩; obtain ⟨q1, q2, q3, q4, q5⟩ := HKEY.out _ _ (hb9.mono H5.out.2.1.size) H5.out.2.1 H5.out.2.2.1; have hq := q1.store (fun q hq => Below.heap_setCell _ _ _ _ (by simpa using hq)) (fun n hn => (Below.refl n w9).setCell (p := ⟨r + 1, 0, none⟩) hn (.slice A9 n9 c9)); have H9 := Lib.hid (And.intro q1 (And.intro q2 (And.intro h9 (And.intro hf9 (And.intro hb9 (And.intro H5.out.2.1 hq)))))); clear q1 q2 q3 h9 hf9 hb9 hq)
        | (refine step_e2 EN Tryd.underlying91 int_info (by decide) ?_ (.tmp 46) (.tmp 48) ?_ U.heap.size A4 c4 l ?_ HT1.out.1.row (some ⟨_, 0, none⟩) 1 [f] ?_ (one_eat HT1.out.1.one) (fun h => by cases h) ?_ HT1.out.2.1.size ?_
           (exact rfl)
           (exact rfl)
           (exact rfl)
           (exact rfl)
           (have := HL.out.2; simp only [List.length_cons, List.length_nil]; omega)
           intro A5 c5 w5 h5 b5 k5
           rw [← HL.out.1] at h5 ⊢
           obtain ⟨q1, q2, q3, x5, y5⟩ := HKEY.out _ _ b5 HT1.out.2.1 HT1.out.2.2.1
           have H5 := Lib.hid (And.intro h5 (And.intro q1 (And.intro q2 q3)))
           clear h5 b5 k5 q1 q2 q3)
        | (refine step_twoN ?_ (.tmp 44) (.tmp 45) ?_ U.heap.size (some ⟨U.heap.size, 0, none⟩) 0 [] (U.heap.size + 1) f ?_ TA.out B d l ?_ (HB.out.1 _ HA.out.1) HB.out.2 ?_ HA.out.1.size ?_
           (exact rfl)
           (exact rfl)
           (exact rfl)
           (exact rfl)
           (have := HL.out.2; simp only [List.length_nil]; omega)
           intro A4 c4 w4 h4 b4
           rw [List.nil_append] at h4 ⊢
           obtain ⟨q1, q2, q3, x4, y4⟩ := HKEY.out _ _ b4 HA.out.1 HA.out.2.1
           have HT1 := Lib.hid (And.intro h4 (And.intro q1 (And.intro q2 q3)))
           clear h4 b4 q1 q2 q3)
        | (refine step_twoN ?_ (.tmp 44) (.tmp 45) ?_ U.heap.size (some ⟨U.heap.size + 1, 0, none⟩) 0 [] (U.heap.size) f ?_ TB.out B d l ?_ (HB.out.1 _ HBB.out.1) HB.out.2 ?_ HBB.out.1.size ?_
           (exact rfl)
           (exact rfl)
           (exact rfl)
           (exact rfl)
           (have := HL.out.2; simp only [List.length_nil]; omega)
           intro A4 c4 w4 h4 b4
           rw [List.nil_append] at h4 ⊢
           obtain ⟨q1, q2, q3, x4, y4⟩ := HKEY.out _ _ b4 HBB.out.1 HBB.out.2.1
           have HT1 := Lib.hid (And.intro h4 (And.intro q1 (And.intro q2 q3)))
           clear h4 b4 q1 q2 q3)
        | (refine step_e2 EN Tryd.underlying91 int_info (by decide) ?_ (.tmp 44) (.tmp 45) ?_ U.heap.size (some ⟨U.heap.size, 0, none⟩) 0 [] ?_ OC.out B d l ?_ (HB.out.1 _ HE.out.1) HB.out.2 ?_ HE.out.1.size ?_
           (exact rfl)
           (exact rfl)
           (exact rfl)
           (exact rfl)
           (have := HL.out.2; simp only [List.length_nil]; omega)
           intro A4 c4 w4 h4 b4 k4
           rw [List.nil_append] at h4 ⊢
           obtain ⟨q1, q2, q3, x4, y4⟩ := HKEY.out _ _ b4 HE.out.1 HE.out.2.1
           obtain ⟨q6, q7, q8, x4c, y4c⟩ := HKEY.out _ (w4.alloc (bO f)) ((below_box _ _).mono q1.size) q1 q2
           have H4 := Lib.hid (And.intro q1 q3)
           have HT1 := Lib.hid (And.intro (twoC f h4) (And.intro q6 (And.intro q7 q8)))
           clear h4 b4 k4 q1 q2 q3 q6 q7 q8))
    all_goals
      (try go_wp2_with (fail))
      go_meet
      obtain ⟨g1, g2⟩ := ch_mid HH.out.2.2.2.1 HH.out.2.2.1 HH.out.1 (.slice A9 n9 c9) (HH.out.2.1 _ H9.out.2.2.2.2.2.2) H9.out.2.2.2.2.2.1.size H9.out.2.2.2.1 H9.out.2.2.1
      exact ⟨rfl, A9, c9, g1, H9.out.2.2.2.2.2.2, Boxed.set _ H9.out.2.1, g2⟩
  case rest =>
  obtain ⟨rfl, A9, c9, h9, hch, kb, hf9⟩ := hcut
  obtain ⟨V, hV⟩ : ∃ V, V = wc := ⟨_, rfl⟩
  subst hV
  have s0 := (HS.out V hch).2
  have t0 := one_at kb
  have k3 := hch.k2.trans HH.out.2.2.2.2.2.2.2
  have s2 := one_at k3
  have f2 := frozen_at k3 0
  have HC := Lib.hid (And.intro h9 (And.intro hch (And.intro hf9 k3)))
  clear h9 hch kb hf9 k3 s1 x0 y0 xE yE xO yO xA yA xB yB
  go_wp2_with (go_at_call 56; with_reducible refine (HI2.out _ _ _ HC.out.2.1 HC.out.1).mono ?_; rintro e10 w10 ⟨A10, c10, rfl, h10, hb10, hf10⟩; have k4 := heap_keep HC.out.2.2.2 hb10; replace s2 := one_at k4; replace f2 := frozen_at k4 0; have H10 := Lib.hid (And.intro h10 (And.intro hb10 (And.intro hf10 k4))); clear h10 hb10 hf10 k4)
  obtain ⟨g1, g2, g3⟩ := ch_last HH.out.2.2.2.1 HH.out.2.2.1 HH.out.1 (HH.out.2.1 _ HC.out.2.1) HC.out.2.1.size HC.out.2.2.1 H10.out.2.1 H10.out.1 H10.out.2.2.1 (.slice A10 n10 c10)
  exact bodyPost_ret (results_cell_row rfl _ _ (r + 2) 24 #[.slice A10 n10 c10] (0, 0) _ rfl (Boxed.set _ H10.out.2.2.2) Tryd.underlying24 rfl series_size) rfl ⟨A10, c10, by rw [HH.out.2.2.2.2.2.2.1], g1, g2, g3⟩
/-- choose, all of it. -/
theorem chooseR_ok (A : Option Addr) (c : Nat) (L : List Sm) (u : Int) (most : Nat) (h : OkE L u) (hn : 0 < L.length) : ∀ (k f : Nat), f + k = L.length → k < L.length → ∀ (l : List Nat) (b : Option (List Nat)), Beg L k l → BoOk L b → ∀ (B : Option Addr) (d : Nat) (C : Option Addr) (e : Nat) (W : World), SAt W A c L → IAt W B d (zs l) → SAt W C e (boS L b) →
    Calls Tryd.prog 56 #[sv A L.length c, .int .i64 u, .int .i64 (most : Int), .int .i64 (f : Int), .slice B l.length d, sv C (boS L b).length e] W (ChR L C e b (chooseV (areaL L u) L.length most k l b) W)
  | k, f, hf, hk, l, b, hl, hbo, B, d, C, e, W, hA, hI, hC => by
    by_cases hm : most < l.length
    · exact choose_over A c L u most k f l b hm B d C e W hI hC
    · match k, hf, hk, hl with
      | 0, hf, hk, hl =>
        obtain rfl : f = L.length := by omega
        exact choose_leafR A c L u most h hn l b hl hbo (by omega) B d C e W hA hI hC
      | k + 1, hf, hk, hl =>
        exact choose_step A c L u most k f (f + 1) hf rfl hk h.ok.len l b hl hbo (by omega) (fun l b hl hbo B d C e W hA hI hC => chooseR_ok A c L u most h hn k (f + 1) (by omega) (by omega) l b hl hbo B d C e W hA hI hC) B d C e W hA hI hC
end Sx
end Go.Proofs.YtionocafkaemiaaDoor
