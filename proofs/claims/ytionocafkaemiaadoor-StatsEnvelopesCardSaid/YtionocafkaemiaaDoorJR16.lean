/- over of the reference: the least envelope with samples at chosen samples. -/
import Derived.Test.YtionocafkaemiaaDoorK1
import Derived.Test.YtionocafkaemiaaDoorJR4
import Derived.Test.YtionocafkaemiaaDoorJR5
import Derived.Test.YtionocafkaemiaaDoorJL1
import Derived.Test.YtionocafkaemiaaDoorJA26
namespace Go.Proofs.YtionocafkaemiaaDoor
open Go.RowKit Go.Lib
namespace Sx
theorem zs_at {w : World} {B : Option Addr} {d : Nat} {l : List Nat} (h : IAt w B d (zs l)) {j : Nat} (hj : j < l.length) : ∃ g o, B = some ⟨g, o, none⟩ ∧ g < w.heap.size ∧ w.cell? ⟨g, o + j, none⟩ = some (.int .i64 (l.getD j 0 : Int)) :=
  iat_nat h (by rw [List.getD_eq_getElem?_getD, List.getElem?_eq_getElem hj]; rfl)
theorem over_next (L : List Sm) (l : List Nat) {j : Nat} (hj : j < l.length) : (overS L l).take (j + 1) = (overS L l).take j ++ [⟨(sm L (l.getD j 0)).a, hiV L (l.getD j 0) (ovEnd L l j - l.getD j 0)⟩] := by
  rw [List.take_add_one, ← over_get L l j hj, sm_get (by rw [over_len]; exact hj)]
  rfl
theorem hiV_first {L : List Sm} {i d : Nat} (hd : 0 < d) : max (sm L i).v (hiV L i d) = hiV L i d := by
  have := hiV_ge L i d 0 hd
  rw [Nat.add_zero] at this
  omega
theorem hiV_zero {L : List Sm} (i : Nat) (h : 0 ≤ (sm L i).v) : max (sm L i).v (hiV L i 0) = (sm L i).v := by
  unfold hiV; omega
def opV47 : Op := .load 2 (.tmp 46)
attribute [local go_sem] opV47
theorem opV47_eq : Op.load 2 (.tmp 46) = opV47 := rfl
attribute [local irreducible] wpQuiet
set_option maxRecDepth 100000 in
set_option maxHeartbeats 8000000 in
theorem overR_ok (A : Option Addr) (c : Nat) (L : List Sm) (B : Option Addr) (d : Nat) (l : List Nat) (W : World) (hL : SAt W A c L) (hI : IAt W B d (zs l)) (hok : OkS L) (hs : Starts L l) :
    Calls Tryd.prog 81 #[sv A L.length c, .slice B l.length d] W fun e w' => ∃ A' c', e = .returned (sv A' (overS L l).length c') ∧ SAt w' A' c' (overS L l) ∧ Below W.heap.size W w' ∧ ∀ a, A' = some a → W.heap.size ≤ a.block := by
  have hlen := hok.len
  have hll := hs.len
  obtain ⟨U, hU⟩ : ∃ U, U = ((W.alloc (.cells #[.slice A L.length c] 24)).alloc (.cells #[.slice none 0 0] 24)).alloc (.cells #[.slice none 0 0] 24) := ⟨_, rfl⟩
  obtain ⟨k1, k2⟩ := two_boxes W #[.slice A L.length c] #[.slice none 0 0] 24 24
  have hb2 : Below W.heap.size W ((W.alloc (.cells #[.slice A L.length c] 24)).alloc (.cells #[.slice none 0 0] 24)) := (below_box W _).alloc (by simp) _
  have hsz2 : ((W.alloc (.cells #[.slice A L.length c] 24)).alloc (.cells #[.slice none 0 0] 24)).heap.size = W.heap.size + 2 := by simp
  have hb3 := below_box ((W.alloc (.cells #[.slice A L.length c] 24)).alloc (.cells #[.slice none 0 0] 24)) (.cells #[.slice none 0 0] 24)
  have k3 := new_at ((W.alloc (.cells #[.slice A L.length c] 24)).alloc (.cells #[.slice none 0 0] 24)) (.cells #[.slice none 0 0] 24)
  rw [hsz2] at k3
  have k1' := heap_keep k1 hb3
  have k2' := heap_keep k2 hb3
  have hbU := hb2.trans (hb3.mono hb2.size)
  rw [← hU] at k1' k2' k3 hbU
  have hUs : U.heap.size = W.heap.size + 3 := by rw [hU]; simp
  clear k1 k2 hb2 hb3 hsz2
  go_enter Tryd.func81, Tryd.ntmps81
  go_upto_region 2 with (fail)
  rw [← hU]
  obtain ⟨r, hr⟩ : ∃ r, r = W.heap.size := ⟨_, rfl⟩
  rw [← hr] at k1' k2' k3 hbU hUs ⊢
  have HU := Lib.hid (And.intro k1' (And.intro k2' (And.intro k3 (And.intro hbU (And.intro hL (And.intro hI (And.intro hr (And.intro hs hok))))))))
  clear hU k1' k2' k3 hbU hUs hL hI hr hs hok
  go_wp2_with (fail)
  go_loopw [6] (fun i wr => ∃ (j : Nat) (A' : Option Addr) (c' : Nat), j ≤ l.length ∧ i = .int .i64 (j : Int) ∧ wr.heap[r]? = some (.cells #[.slice A L.length c] 24 (0, 0)) ∧ wr.heap[r + 1]? = some (.cells #[.slice none 0 0] 24 (0, 0)) ∧ Boxed wr (r + 2) 24 (.slice A' ((overS L l).take j).length c') ∧ OwnE Sx.es 2 wr (r + 3) 49 A' c' ((overS L l).take j) ∧ Below r W wr) (fun i _ => l.length - (intOf i).toNat)
  case atStart => exact ⟨0, none, 0, by omega, rfl, HU.out.1, HU.out.2.1, HU.out.2.2.1, World.ownsRow_nil _ _ _ _, HU.out.2.2.2.1⟩
  case round =>
    obtain ⟨j, A', c', hj, rfl, hr0, hr1, hbx, hown, hbl⟩ := hrel
    have hLr := HU.out.2.2.2.2.1.below hbl (Nat.le_of_eq HU.out.2.2.2.2.2.2.1.symm)
    have hIr := HU.out.2.2.2.2.2.1.below hbl (Nat.le_of_eq HU.out.2.2.2.2.2.2.1.symm)
    obtain ⟨wo, hwo⟩ : ∃ x, x = wr := ⟨_, rfl⟩
    subst hwo
    have hlx : ((overS L l).take j).length = j := by rw [List.length_take, over_len]; omega
    obtain ⟨X, hX⟩ : ∃ X, X = (overS L l).take j := ⟨_, rfl⟩
    rw [← hX] at hbx hown hlx
    have s0 := one_at hr0
    by_cases hlt : j < l.length
    · have hlti : (j : Int) < (l.length : Int) := by omega
      have hnext := over_next L l hlt
      rw [← hX] at hnext
      obtain ⟨he1, he2⟩ := HU.out.2.2.2.2.2.2.2.1.at hlt
      obtain ⟨gl, ol, rfl, hgl, cl⟩ := zs_at hIr hlt
      have hnx : ∀ h : j + 1 < l.length, wo.cell? ⟨gl, ol + (j + 1), none⟩ = some (.int .i64 (ovEnd L l j : Int)) := fun h => by
        obtain ⟨g', o', e, _, e0⟩ := zs_at hIr h
        injection e with e; injection e with e1 e2 _
        subst e1; subst e2
        rw [e0]; unfold ovEnd; rw [if_pos h]
      have hnx2 : ¬ j + 1 < l.length → ovEnd L l j = L.length := fun h => by unfold ovEnd; rw [if_neg h]
      have hv0 := (HU.out.2.2.2.2.2.2.2.2.ok _ (sm_mem (show l.getD j 0 < L.length by omega))).v0
      obtain ⟨ga, oa, rfl, hga, a0, a1⟩ := hLr.s2 (show l.getD j 0 < L.length by omega)
      have hgo := fun k (hk : k < L.length) => hLr.s2 hk
      have hz0 := hiV_zero (L := L) (l.getD j 0) hv0
      have hzf := fun k (hk : 0 < k) => hiV_first (L := L) (i := l.getD j 0) hk
      generalize hlj : l.getD j 0 = lj at *
      generalize hee : ovEnd L l j = ee at *
      have hxx : ∃ xa xv, sm L lj = ⟨xa, xv⟩ := ⟨_, _, rfl⟩
      obtain ⟨xa, xv, hxx⟩ := hxx
      rw [hxx] at a0 a1 hnext hz0 hzf
      dsimp only at a0 a1 hnext hz0 hzf
      have HR := Lib.hid (And.intro hnext (And.intro hr0 (And.intro hr1 (And.intro hbx (And.intro hown (And.intro hbl (And.intro hLr (And.intro hIr (And.intro hgo (And.intro hz0 (And.intro hzf hX)))))))))))
      have HN1 := Lib.hid (And.intro hnx hnx2)
      clear hnext hr0 hr1 hbx hown hbl hLr hIr hgo hz0 hzf hX hnx hnx2 hxx hlj hee hv0
      go_upto_if 23 with (fail)
      go_cut [7] from 10 to 61 (fun p wx => p = .int .i64 (ee : Int) ∧ wx = wo)
      case first =>
        by_cases hn : j + 1 < l.length
        · have hni : (j : Int) + 1 < (l.length : Int) := by omega
          have cn := HN1.out.1 hn
          have qa : (0 : Int) ≤ (j : Int) + 1 := by omega
          have qb : ((j : Int) + 1).toNat = j + 1 := by omega
          go_wp2_with (fail)
          go_meet
          exact ⟨rfl, rfl⟩
        · have hni : ¬ (j : Int) + 1 < (l.length : Int) := by omega
          have cn := HN1.out.2 hn
          subst cn
          go_wp2_with (fail)
          go_meet
          exact ⟨rfl, rfl⟩
      case rest =>
      obtain ⟨rfl, hwc⟩ := hcut
      obtain ⟨V0, hV0⟩ : ∃ V0, V0 = wc := ⟨_, rfl⟩
      subst hV0
      have hwc := hwc.symm
      subst hwc
      have hlL : lj < L.length := by omega
      have hS2 : ∀ V, Below wo.heap.size wo V → Below wo.heap.size wo V ∧ V.cell? ⟨r, 0, none⟩ = some (.slice (some ⟨ga, oa, none⟩) L.length c) ∧ V.cell? ⟨gl, ol + j, none⟩ = some (.int .i64 (lj : Int)) ∧ V.cell? ⟨ga, oa + lj * 2, none⟩ = some (.int .i64 xa) ∧ V.cell? ⟨ga, oa + lj * 2 + 1, none⟩ = some (.int .i64 xv) := fun V hV => ⟨hV, cell_keep2 hV s0, cell_keep2 hV cl, cell_keep2 hV a0, cell_keep2 hV a1⟩
      have HS2 := Lib.hid hS2
      have s1 := HS2.out wo.drew (below_drew (Below.refl _ _))
      clear hS2
      go_upto_region 8 with (fail)
      go_cut [8] from 10 to 61 (fun p wx => p = .pointer (some ⟨wo.heap.size, 0, none⟩) ∧ wx = (wo.alloc (.cells #[.int .i64 xa, .int .i64 xv] 49)).drew)
      case first =>
        go_region_held3 (fun w' => Below wo.heap.size wo w' ∧ w'.cell? ⟨r, 0, none⟩ = some (.slice (some ⟨ga, oa, none⟩) L.length c) ∧ w'.cell? ⟨gl, ol + j, none⟩ = some (.int .i64 (lj : Int)) ∧ w'.cell? ⟨ga, oa + lj * 2, none⟩ = some (.int .i64 xa) ∧ w'.cell? ⟨ga, oa + lj * 2 + 1, none⟩ = some (.int .i64 xv))
          (first | assumption | exact HS2.out _ (below_drew (below_box wo _)))
          (first | (fail))
        all_goals
          (try go_wp2_with (fail))
          go_meet
          exact ⟨rfl, rfl⟩
      case rest =>
      obtain ⟨rfl, hwc⟩ := hcut
      obtain ⟨ub, hub⟩ : ∃ ub, ub = wo.heap.size := ⟨_, rfl⟩
      obtain ⟨V1, hV1⟩ : ∃ V1, V1 = wc := ⟨_, rfl⟩
      subst hV1
      have hbx : V1.heap[ub]? = some (.cells #[.int .i64 xa, .int .i64 xv] 49 (0, 0)) := by
        rw [hwc, hub]
        exact new_at wo _
      have hbV : Below ub wo V1 := by rw [hwc, hub]; exact below_drew (below_box wo _)
      have s9 := HS2.out V1 (by rw [← hub]; exact hbV)
      have hus : V1.heap.size = ub + 1 := by rw [hwc, hub]; simp
      rw [← hub]
      have cl1 := s9.2.2.1
      have HV := Lib.hid (And.intro hbx (And.intro hbV (And.intro hub hus)))
      clear hwc hub hbx hbV hus s1 s9
      go_wp2_with (fail)
      go_loopw [9] (fun i wr => ∃ (k : Nat) (hv : Int), lj ≤ k ∧ k ≤ ee ∧ i = .int .i64 (k : Int) ∧ hv = max xv (hiV L lj (k - lj)) ∧ wr.heap[ub]? = some (.cells #[.int .i64 xa, .int .i64 hv] 49 (0, 0)) ∧ Below ub wo wr) (fun i _ => ee - (intOf i).toNat)
      case atStart => exact ⟨lj, xv, Nat.le_refl _, by omega, rfl, by rw [Nat.sub_self, HR.out.2.2.2.2.2.2.2.2.2.1], HV.out.1, HV.out.2.1⟩
      case round =>
        obtain ⟨k, hv, hk1, hk2, rfl, hhv, hbl2, hb2⟩ := hrel
        have t0 := cell_keep2 (HV.out.2.2.1 ▸ hb2) s0
        obtain ⟨u0, u1⟩ := two_at hbl2
        by_cases hke : k < ee
        · have hkei : (k : Int) < (ee : Int) := by omega
          have hkL : k < L.length := by omega
          have hki : (k : Int) < (L.length : Int) := by omega
          obtain ⟨g', o', e, hg', d0, d1⟩ := HR.out.2.2.2.2.2.2.2.2.1 k hkL
          injection e with e; injection e with e1 e2 _
          subst e1; subst e2
          have hgu : ga < ub := by rw [HV.out.2.2.1]; exact hg'
          have hru : r < ub := by rw [HV.out.2.2.1]; exact lt_of_heap HR.out.2.1
          replace d1 := cell_keep2 (HV.out.2.2.1 ▸ hb2) d1
          have hnx : max xv (hiV L lj (k + 1 - lj)) = max hv (sm L k).v := by
            rw [hhv, show k + 1 - lj = (k - lj) + 1 by omega]
            show max xv (max (hiV L lj (k - lj)) (sm L (lj + (k - lj))).v) = _
            rw [show lj + (k - lj) = k by omega]; omega
          generalize (sm L k).v = y at *
          obtain ⟨nv, hnv⟩ : ∃ nv, nv = max hv y := ⟨_, rfl⟩
          have qmx : (if hv < y then y else hv) = nv := by rw [hnv]; split <;> omega
          have qmx2 : max hv y = nv := hnv.symm
          have hul : ∀ j, wr.frozen? ⟨ub, j, none⟩ = false := fun j => by simp [World.frozen?, hbl2]
          have H2 := Lib.hid (And.intro (hnx.trans hnv.symm) (And.intro hbl2 hb2))
          clear hhv hnx hnv d0 hbl2 hb2
          have hS3 : ∀ V, Below ub wr V → Below ub wr V ∧ V.cell? ⟨r, 0, none⟩ = some (.slice (some ⟨ga, oa, none⟩) L.length c) ∧ V.cell? ⟨ga, oa + k * 2 + 1, none⟩ = some (.int .i64 y) := fun V hV => ⟨hV, (hV.cell (p := ⟨r, _, none⟩) hru).trans t0, (hV.cell (p := ⟨ga, _, none⟩) hgu).trans d1⟩
          have HS3 := Lib.hid hS3
          have s3 := HS3.out wr.drew (below_drew (Below.refl _ _))
          clear hS3
          have hbS : Below ub wr (wr.setCell ⟨ub, 1, none⟩ (.int .i64 nv)) := (Below.refl ub wr).setCell (Nat.le_refl _) _
          go_upto_region 12 with (fail)
          rw [opV47_eq]
          go_region_held3 (fun w' => Below ub wr w' ∧ w'.cell? ⟨r, 0, none⟩ = some (.slice (some ⟨ga, oa, none⟩) L.length c) ∧ w'.cell? ⟨ga, oa + k * 2 + 1, none⟩ = some (.int .i64 y))
            (first | assumption | exact HS3.out _ hbS | exact HS3.out _ (below_drew hbS))
            (first | (fail))
          all_goals
            go_wp2_with (fail)
            go_roundw
            case rel =>
              refine ⟨k + 1, nv, by omega, by omega, by go_num, H2.out.1.symm, ?_, ?_⟩
              · show (wr.setCell _ _).heap[ub]? = _
                rw [setCell_at _ _ _ _ _ _ H2.out.2.1]; rfl
              · exact below_drew (H2.out.2.2.setCell (Nat.le_refl _) _)
            case measure => simp [intOf]; omega
        · obtain rfl : k = ee := by omega
          have hhx : hv = hiV L lj (k - lj) := hhv.trans (HR.out.2.2.2.2.2.2.2.2.2.2.1 _ (by omega))
          have hbw : Below wo.heap.size wo wr := HV.out.2.2.1 ▸ hb2
          have hwos := lt_of_heap HR.out.2.2.2.1
          have hbxW : Boxed wr (r + 2) 24 (.slice A' X.length c') := (hbw.block _ hwos).trans HR.out.2.2.2.1
          have hrW0 := heap_keep HR.out.2.1 hbw
          have hrW1 := heap_keep HR.out.2.2.1 hbw
          have hownW : OwnE Sx.es 2 wr (r + 3) 49 A' c' X := row_below HR.out.2.2.2.2.1 hbw
          have x1 := hbxW.cell
          obtain ⟨X2, hX2⟩ : ∃ X2, X2 = (overS L l).take (j + 1) := ⟨_, rfl⟩
          have hnext : X2 = X ++ [⟨xa, hv⟩] := by rw [hX2, hhx]; exact HR.out.1
          have HX2 := Lib.hid hX2
          have hrn : r + 3 ≤ wr.heap.size := Nat.le_trans hwos hbw.size
          have HN := Lib.hid (And.intro hnext (And.intro hbxW (And.intro hrW0 (And.intro hrW1 (And.intro hownW (And.intro (HR.out.2.2.2.2.2.1.trans (hbw.mono (Nat.le_of_lt (lt_of_heap HR.out.2.1)))) (And.intro hbw (And.intro hrn hlx))))))))
          clear hhv hhx hbl2 hb2 hbw hwos hbxW hrW0 hrW1 hownW hX2 hnext hrn hlx
          go_wp2_with (at_builtin; go_loud (refine wpList_e ES Tryd.underlying22 sample_info (by decide) ?_ (.tmp 57) (.tmp 59) ?_ (r + 3) A' c' X ?_ (HN.out.2.2.2.2.1.alloc _) (some ⟨wr.heap.size, 0, none⟩) 1 [⟨xa, hv⟩] ?_ (oneS wr _ ⟨xa, hv⟩) (fun h => by cases h) ?_ ?_ ?_; (exact rfl); (exact rfl); (exact rfl); (exact rfl); (rw [HN.out.2.2.2.2.2.2.2.2, List.length_cons, List.length_nil]; omega); (simp; have := HN.out.2.2.2.2.2.2.2.1; omega); intro A8 c8 w8 h8 b8 _ _; rw [← HN.out.1] at h8 ⊢; have hbN := below_box wr (.cells #[.int .i64 xa, .int .i64 hv] 49); have q0 := (b8.block r (by omega)).trans (heap_keep HN.out.2.2.1 hbN); have q1 := (b8.block (r + 1) (by omega)).trans (heap_keep HN.out.2.2.2.1 hbN); have q2 := (b8.block (r + 2) (by omega)).trans ((hbN.block (r + 2) (by have := HN.out.2.2.2.2.2.2.2.1; omega)).trans HN.out.2.1); have z0 := one_at q2; have zf := frozen_pl q2 0; have H8 := Lib.hid (And.intro h8 (And.intro (And.intro b8 hbN) (And.intro q0 (And.intro q1 q2)))); clear h8 b8 hbN q0 q1 q2))
          go_roundw
          case rel =>
            have hnr8 := not_row' H8.out.2.2.2.2 (by decide) H8.out.1
            refine ⟨j + 1, A8, c8, by omega, by go_num, (Below.heap_setCell _ _ _ _ (by first | (simp; done) | (simp; omega))).trans H8.out.2.2.1, (Below.heap_setCell _ _ _ _ (by first | (simp; done) | (simp; omega))).trans H8.out.2.2.2.1, by rw [← HX2.out]; exact Boxed.set _ H8.out.2.2.2.2, by rw [← HX2.out]; exact rowE_far H8.out.1 hnr8 _ _, ?_⟩
            exact ((HN.out.2.2.2.2.2.1.trans (H8.out.2.1.2.mono (by have := HN.out.2.2.2.2.2.2.2.1; omega))).trans (H8.out.2.1.1.mono (by omega))).setCell (by show r ≤ r + 2; omega) _
          case measure => simp [intOf]; omega
    · obtain rfl : j = l.length := by omega
      have hje : (overS L l).take l.length = overS L l := List.take_of_length_le (by rw [over_len]; omega)
      rw [hje] at hX
      subst hX
      have z0 : wo.cell? ⟨r + 1 + 1, 0, none⟩ = some (.slice A' (overS L l).length c') := one_at hbx
      have hfr := frozen_pl hr1 0
      have q1 := one_at hr1
      have hEE := (OwnE.at ES hown).1
      have hset : (wo.setCell ⟨r + 1, 0, none⟩ (.slice A' (overS L l).length c')).heap[r + 1]? = some (.cells #[.slice A' (overS L l).length c'] 24 (0, 0)) := Boxed.set _ hr1
      have hErr : SAt (wo.setCell ⟨r + 1, 0, none⟩ (.slice A' (overS L l).length c')) A' c' (overS L l) := (OwnE.at ES (rowE_far hown (p := r + 1) (fun e => by have := (OwnE.at ES hown).2 (r + 1) e; omega) (r + 1) 0)).1
      have hgn : ∀ g, A'.map (·.block) = some g → r ≤ g := fun g e => by have := (OwnE.at ES hown).2 g e; omega
      have HE := Lib.hid (And.intro hset (And.intro hErr (And.intro (hbl.setCell (p := ⟨r + 1, 0, none⟩) (by show r ≤ r + 1; omega) (.slice A' (overS L l).length c')) (And.intro HU.out.2.2.2.2.2.2.1 hgn))))
      have hri : ¬ ((l.length : Int) < (l.length : Int)) := by omega
      obtain ⟨nX, hnX⟩ : ∃ nX, nX = (overS L l).length := ⟨_, rfl⟩
      rw [← hnX] at z0 HE hbx
      have HNX := Lib.hid hnX
      clear hnX hset hErr hgn hbl hEE hown hje hlx HU hbx hr1 hr0 hLr hIr s0
      go_wp2_with (fail)
      refine bodyPost_ret (results_cell_row rfl _ _ (r + 1) 24 #[.slice A' nX c'] (0, 0) _ rfl HE.out.1 Tryd.underlying24 rfl series_size) rfl ⟨A', c', by rw [← HNX.out], HE.out.2.1, ?_, ?_⟩
      · rw [← HE.out.2.2.2.1]
        exact HE.out.2.2.1
      · rw [← HE.out.2.2.2.1]
        intro g hg
        exact HE.out.2.2.2.2 _ (by rw [hg]; rfl)
end Sx
end Go.Proofs.YtionocafkaemiaaDoor
