/- The law's small functions: Example, series, Same. -/
import Derived.Test.YtionocafkaemiaaDoorJS2
import Derived.Test.YtionocafkaemiaaDoorJA15
import Derived.Test.YtionocafkaemiaaDoorJA19
import Derived.Test.YtionocafkaemiaaDoorJR5
import Derived.Test.YtionocafkaemiaaDoorJR8
import Derived.BigQuiet
namespace Go.Proofs.YtionocafkaemiaaDoor
open Go.RowKit Go.Sort Go.Lib
namespace Sx
attribute [local irreducible] wpQuiet
def exL : List Sm := [⟨10, 5⟩, ⟨20, 8⟩, ⟨30, 2⟩]
abbrev exC : Obj := .cells #[.int .i64 10, .int .i64 5, .int .i64 20, .int .i64 8, .int .i64 30, .int .i64 2] 49
theorem ex_at (w _w' : World) (g : Nat) (h : w.heap[g]? = some (.cells #[.int .i64 10, .int .i64 5, .int .i64 20, .int .i64 8, .int .i64 30, .int .i64 2] 49 (0, 0))) : SAt w (some ⟨g, 0, none⟩) 3 exL := by
  have hc : ∀ j, w.cell? ⟨g, j, none⟩ = (#[.int .i64 10, .int .i64 5, .int .i64 20, .int .i64 8, .int .i64 30, .int .i64 2] : Array Value)[j]? := fun j => cell_of_row _ _ _ _ _ _ h
  refine ⟨Nat.le_refl _, by unfold maxLen; omega, fun j x hx => ⟨g, 0, rfl, lt_of_heap h, fun i v hi hv => ?_⟩⟩
  have hj : j < 3 := by have := (List.getElem?_eq_some_iff.1 hx).1; simpa [exL] using this
  rw [hc]
  rcases (by omega : i = 0 ∨ i = 1) with rfl | rfl <;> rcases (by omega : j = 0 ∨ j = 1 ∨ j = 2) with rfl | rfl | rfl <;> (simp [exL] at hx; subst hx; simp [es] at hv; subst hv; rfl)
theorem series_size : (Tryd.prog.info? 24).map (·.size) = some 1 := by kernel_rfl
set_option maxRecDepth 100000 in
set_option maxHeartbeats 2000000 in
theorem example_ok (W : World) : Calls Tryd.prog 37 #[] W fun e w' => ∃ g, e = .returned (sv (some ⟨g, 0, none⟩) 3 3) ∧ SAt w' (some ⟨g, 0, none⟩) 3 exL ∧ Below W.heap.size W w' := by
  go_enter Tryd.func37, Tryd.ntmps37
  go_wp2
  obtain ⟨k1, k2⟩ := two_boxes W #[.slice (some ⟨W.heap.size + 1, 0, none⟩) 3 3] #[.int .i64 10, .int .i64 5, .int .i64 20, .int .i64 8, .int .i64 30, .int .i64 2] 24 49
  refine bodyPost_ret (results_cell_row rfl _ _ W.heap.size 24 #[.slice (some ⟨W.heap.size + 1, 0, none⟩) 3 3] (0, 0) _ rfl k1 Tryd.underlying24 rfl series_size) rfl ⟨W.heap.size + 1, rfl, ex_at _ W _ k2, ?_⟩
  exact (below_box W _).alloc (by simp) _
set_option maxRecDepth 100000 in
set_option maxHeartbeats 2000000 in
theorem same_self (A B : Option Addr) (c d : Nat) (L : List Sm) (W : World) (hA : SAt W A c L) (hB : SAt W B d L) :
    Calls Tryd.prog 19 #[sv A L.length c, sv B L.length d] W fun e w' => e = .returned (.bool true) ∧ Below W.heap.size W w' := by
  have m1 := hA.1
  have m2 := hA.2.1
  have n1 := hB.1
  have n2 := hB.2.1
  unfold maxLen at m2 n2
  obtain ⟨k1, k2⟩ := two_boxes W #[.slice A L.length c] #[.slice B L.length d] 24 24
  have hb : Below W.heap.size W ((W.alloc (.cells #[.slice A L.length c] 24)).alloc (.cells #[.slice B L.length d] 24)) := (below_box W _).alloc (by simp) _
  go_enter Tryd.func19, Tryd.ntmps19
  go_upto_region 1 with (fail)
  obtain ⟨U, hU⟩ : ∃ U, U = (W.alloc (.cells #[.slice A L.length c] 24)).alloc (.cells #[.slice B L.length d] 24) := ⟨_, rfl⟩
  rw [← hU] at k1 k2 hb ⊢
  have HU := Lib.hid (And.intro k1 (And.intro k2 (And.intro (hA.below hb (Nat.le_refl _)) (And.intro (hB.below hb (Nat.le_refl _)) hb))))
  have s0 := one_at k1
  have s1 := one_at k2
  clear k1 k2 hb hA hB hU
  go_wp2_with (fail)
  clear s0 s1
  go_loopw [5] (fun i wr => ∃ k : Nat, k ≤ L.length ∧ i = .int .i64 k ∧ ∃ q, wr = U.drewN q) (fun i _ => L.length - (intOf i).toNat)
  case atStart => exact ⟨0, Nat.zero_le _, rfl, 0, rfl⟩
  case round =>
    obtain ⟨k, hk, rfl, q, hq⟩ := hrel
    have hbw : Below U.heap.size U wr := by rw [hq]; exact below_drewN (Below.refl _ _) q
    have hI1 := HU.out.2.2.1.below hbw (Nat.le_refl _)
    have hI2 := HU.out.2.2.2.1.below hbw (Nat.le_refl _)
    have s0 := cell_keep2 hbw (one_at HU.out.1)
    have s1 := cell_keep2 hbw (one_at HU.out.2.1)
    have HQ := Lib.hid hq
    clear hbw hq
    by_cases h1 : k < L.length
    · obtain ⟨g, o, rfl, hg, d0, d1⟩ := hI1.s2 h1
      obtain ⟨g2, o2, rfl, hg2, c0, c1⟩ := hI2.s2 h1
      generalize sm L k = u at *
      obtain ⟨ua, uv⟩ := u
      dsimp only at d0 d1 c0 c1
      clear hI1 hI2
      go_wp2_with (fail)
      go_quiet (fail)
      go_wp2
      go_roundw
      case rel => exact ⟨k + 1, by omega, by go_num, _, by rw [HQ.out]; exact World.drewN_drewN ..⟩
      case measure => simp [intOf]; omega
    · clear hI1 hI2
      go_wp2
      go_ret
      exact ⟨rfl, by rw [HQ.out]; exact below_drewN HU.out.2.2.2.2 q⟩
theorem frozen_pl {w : World} {p T : Nat} {cs : Array Value} (h : w.heap[p]? = some (.cells cs T (0, 0))) (j : Nat) : w.frozen? ⟨p, j, none⟩ = false := by simp [World.frozen?, h]
/-- A series of times and values. -/
def srs : List Int → List Sm
  | a :: v :: l => ⟨a, v⟩ :: srs l
  | _ => []
theorem srs_at : ∀ (M : List Int) (j : Nat), 2 * j + 1 < M.length → (srs M)[j]? = some ⟨addr M (2 * j), addr M (2 * j + 1)⟩
  | [], j, h => by simp at h
  | [_], j, h => by simp at h
  | a :: v :: l, 0, h => rfl
  | a :: v :: l, j + 1, h => by
    have := srs_at l j (by simp at h; omega)
    show (srs l)[j]? = _
    rw [this]
    rfl
theorem srs_len : ∀ (M : List Int), (srs M).length = M.length / 2
  | [] => rfl
  | [_] => by simp [srs]
  | a :: v :: l => by
    have := srs_len l
    simp only [srs, List.length_cons, this]
    omega
def opS13 : Op := .load 22 (.tmp 12)
attribute [local go_sem] opS13
theorem opS13_eq : Op.load 22 (.tmp 12) = opS13 := rfl
theorem rowE_far {w : World} {B T c : Nat} {A : Option Addr} {X : List Sm} {v : Value} (h : OwnE Sx.es 2 w B T A c X) {p : Nat} (hne : A.map (·.block) ≠ some p) (q j : Nat) (hq : q = p := by rfl) : OwnE Sx.es 2 (w.setCell ⟨q, j, none⟩ v) B T A c X := by
  subst hq
  refine ⟨h.1, ?_⟩
  rcases h.2 with h1 | ⟨g, cap, cur, hv, hb, hg, rest⟩
  · exact .inl h1
  · refine .inr ⟨g, cap, cur, hv, hb, ?_, rest⟩
    have hgp : g ≠ q := fun e => hne (by injection hv with e1; rw [e1, e]; rfl)
    exact (Below.heap_setCell _ _ _ _ (fun e => hgp (by simpa using e))).trans hg
set_option maxRecDepth 100000 in
set_option maxHeartbeats 4000000 in
theorem series_ok (A : Option Addr) (c : Nat) (M : List Int) (W : World) (hM : IAt W A c M) (hl : M.length ≤ 100) :
    Calls Tryd.prog 38 #[.slice A M.length c] W fun e w' => ∃ A' c', e = .returned (sv A' (srs M).length c') ∧ SAt w' A' c' (srs M) ∧ Below W.heap.size W w' := by
  obtain ⟨k1, k2⟩ := two_boxes W #[.slice none 0 0] #[.slice none 0 0] 24 24
  have hb : Below W.heap.size W ((W.alloc (.cells #[.slice none 0 0] 24)).alloc (.cells #[.slice none 0 0] 24)) := (below_box W _).alloc (by simp) _
  have hsz : ((W.alloc (.cells #[.slice none 0 0] 24)).alloc (.cells #[.slice none 0 0] 24)).heap.size = W.heap.size + 2 := by simp
  go_enter Tryd.func38, Tryd.ntmps38
  go_upto_region 2 with (fail)
  obtain ⟨U, hU⟩ : ∃ U, U = (W.alloc (.cells #[.slice none 0 0] 24)).alloc (.cells #[.slice none 0 0] 24) := ⟨_, rfl⟩
  rw [← hU] at k1 k2 hb hsz ⊢
  obtain ⟨r, hr⟩ : ∃ r, r = W.heap.size := ⟨_, rfl⟩
  rw [← hr] at k1 k2 hb hsz ⊢
  have HU := Lib.hid (And.intro k1 (And.intro k2 (And.intro hb (And.intro hsz (And.intro hM hr)))))
  clear k1 k2 hb hsz hM hU hr
  go_wp2_with (fail)
  go_loopw [4] (fun i wr => ∃ (m j : Nat) (A' : Option Addr) (c' : Nat), m ≤ M.length ∧ i = .int .i64 (m : Int) ∧ m = 2 * j ∧ wr.heap[r]? = some (.cells #[.slice none 0 0] 24 (0, 0)) ∧ Boxed wr (r + 1) 24 (.slice A' ((srs M).take j).length c') ∧ OwnE Sx.es 2 wr (r + 2) 49 A' c' ((srs M).take j) ∧ Below r W wr) (fun i _ => M.length - (intOf i).toNat)
  case atStart => exact ⟨0, 0, none, 0, by omega, rfl, rfl, HU.out.1, HU.out.2.1, World.ownsRow_nil _ _ _ _, HU.out.2.2.1⟩
  case round =>
    obtain ⟨m, j, A', c', hm, rfl, hmj, hr0, hbx, hown, hbl⟩ := hrel
    have HMJ := Lib.hid hmj
    have hlen : ((srs M).take j).length = j := by rw [List.length_take, srs_len]; omega
    have hMr := HU.out.2.2.2.2.1.below hbl (Nat.le_of_eq HU.out.2.2.2.2.2.symm)
    obtain ⟨X, hX⟩ : ∃ X, X = (srs M).take j := ⟨_, rfl⟩
    rw [← hX] at hbx hown hlen
    by_cases hlt : m + 1 < M.length
    · have hx := srs_at M j (by omega)
      rw [← hmj] at hx
      obtain ⟨g, o, rfl, hg, c0⟩ := hMr.at (show m < M.length by omega)
      obtain ⟨g', o', e1, _, c1⟩ := hMr.at hlt
      injection e1 with e1; injection e1 with e1 e2
      subst e1; subst e2
      generalize addr M m = a at *
      generalize addr M (m + 1) = v at *
      obtain ⟨X2, hX2⟩ : ∃ X2, X2 = (srs M).take (j + 1) := ⟨_, rfl⟩
      have hnext : X2 = X ++ [⟨a, v⟩] := by rw [hX2, List.take_add_one, hx, ← hX]; rfl
      have HX2 := Lib.hid hX2
      clear hX2
      have hnr := not_row' hbx (by decide) hown
      have hXl : X.length ≤ 100 := by omega
      have hgr : g < r + 1 := by
        obtain ⟨g', o', e1, hg', _⟩ := HU.out.2.2.2.2.1.at (show m < M.length by omega)
        injection e1 with e1; injection e1 with e1 e2
        have := HU.out.2.2.2.2.2
        omega
      have hS2 : ∀ V, Below (r + 1) wr V → Below (r + 1) wr V ∧ V.cell? ⟨g, o + m, none⟩ = some (.int .i64 a) ∧ V.cell? ⟨g, o + (m + 1), none⟩ = some (.int .i64 v) := fun V hV => ⟨hV, (hV.cell (p := ⟨g, _, none⟩) hgr).trans c0, (hV.cell (p := ⟨g, _, none⟩) hgr).trans c1⟩
      have HS2 := Lib.hid hS2
      have s1 := HS2.out wr.drew (below_drew (Below.refl _ _))
      have x0 := hbx.cell
      obtain ⟨wO, hwO⟩ : ∃ wO, wO = (wr.alloc (.cells #[.int .i64 a, .int .i64 v] 49)).drew := ⟨_, rfl⟩
      have hplt := lt_of_heap hbx
      have hbO : Below wr.heap.size wr wO := by rw [hwO]; exact below_drew (below_box wr _)
      have x1 := cell_keep2 hbO x0
      have hbxO : Boxed wO (r + 1) 24 (.slice A' X.length c') := (hbO.block _ hplt).trans hbx
      have hrowO : OwnE Sx.es 2 wO (r + 2) 49 A' c' X := row_below hown hbO
      have hone : EAt Sx.es 2 wO (some ⟨wr.heap.size, 0, none⟩) 1 [(⟨a, v⟩ : Sm)] := by rw [hwO]; exact oneS wr _ ⟨a, v⟩
      have hO2 : Below (r + 1) wr wO := hbO.mono (Nat.le_of_lt hplt)
      have hszO := hbO.size
      rw [hwO] at x1
      have HN := Lib.hid (And.intro hnext (And.intro hr0 (And.intro hbxO (And.intro hrowO (And.intro hbl (And.intro hnr (And.intro hlen (And.intro hone (And.intro hO2 (And.intro hwO (And.intro hszO hplt)))))))))))
      have hlti : (m : Int) + 1 < (M.length : Int) := by omega
      clear hx hX hMr hnext hr0 hown hbl hnr hlen hlt hbx hS2 hgr hbO hbxO hrowO hone hO2 hszO hplt c0 c1 hwO hmj
      go_upto_region 5 with (fail)
      obtain ⟨m1, hm1⟩ : ∃ m1, m1 = m + 1 := ⟨_, rfl⟩
      have hw1 : IntKind.i64.wrap ((m : Int) + 1) = (m1 : Int) := by rw [IntWalk.i64_in _ (by omega)]; omega
      have hm1i : (m1 : Int) < (M.length : Int) := by omega
      have hmi : (m : Int) < (M.length : Int) := by omega
      rw [← hm1] at HS2 s1
      have HM1 := Lib.hid hm1
      clear hm1 hlti
      rw [opS13_eq]
      go_region_held3 (fun w' => Below (r + 1) wr w' ∧ w'.cell? ⟨g, o + m, none⟩ = some (.int .i64 a) ∧ w'.cell? ⟨g, o + m1, none⟩ = some (.int .i64 v))
        (first | assumption | (rw [← HN.out.2.2.2.2.2.2.2.2.2.1]; exact HS2.out _ HN.out.2.2.2.2.2.2.2.2.1) | exact HS2.out _ (HN.out.2.2.2.2.2.2.2.2.1.trans (hb8.mono (Nat.le_succ _))) | exact HS2.out _ ((HN.out.2.2.2.2.2.2.2.2.1.trans (hb8.mono (Nat.le_succ _))).setCell (Nat.le_refl _) _))
        (first | (rw [← HN.out.2.2.2.2.2.2.2.2.2.1]; refine step_e2 ES Tryd.underlying22 sample_info (by decide) (by rfl) (.tmp 13) (.tmp 24) (by rfl) (r + 2) A' c' X (by rfl) HN.out.2.2.2.1 (some ⟨wr.heap.size, 0, none⟩) 1 [(⟨a, v⟩ : Sm)] (by rfl) HN.out.2.2.2.2.2.2.2.1 (fun h => by cases h) (by simp; omega) (by have h1 := HN.out.2.2.2.2.2.2.2.2.2.2.1; have h2 := HN.out.2.2.2.2.2.2.2.2.2.2.2; omega) ?_
                  intro A8 c8 w8 h8 hb8 hk8
                  have hbx8 := (hk8 (r + 1) (by have h1 := HN.out.2.2.2.2.2.2.2.2.2.2.1; have h2 := HN.out.2.2.2.2.2.2.2.2.2.2.2; omega) HN.out.2.2.2.2.2.1).trans HN.out.2.2.1
                  have z0 := one_at hbx8
                  have zf := frozen_pl hbx8 0
                  rw [← HN.out.1] at h8 ⊢
                  have H8 := Lib.hid (And.intro h8 (And.intro hb8 hbx8))
                  clear h8 hbx8))
      all_goals
        have hXl2 : X2.length ≤ 200 := by rw [HN.out.1, List.length_append]; simp; omega
        go_wp2_with (fail)
        go_roundw
        case rel =>
          have hnr8 := not_row' H8.out.2.2 (by decide) H8.out.1
          have hb8 := H8.out.2.1
          refine ⟨m + 2, j + 1, A8, c8, by have := HM1.out; omega, by go_num, by rw [HMJ.out]; omega, ?_, by rw [← HX2.out]; exact Boxed.set _ H8.out.2.2, by rw [← HX2.out]; exact rowE_far H8.out.1 hnr8 _ _, (HN.out.2.2.2.2.1.trans ((HN.out.2.2.2.2.2.2.2.2.1.trans (H8.out.2.1.mono (Nat.le_succ _))).mono (Nat.le_succ _))).setCell (Nat.le_succ _) _⟩
          exact (Below.heap_setCell _ _ _ _ (by simp)).trans (((HN.out.2.2.2.2.2.2.2.2.1.trans (H8.out.2.1.mono (Nat.le_succ _))).block r (Nat.lt_succ_self _)).trans HN.out.2.1)
        case measure => simp [intOf]; omega
    · have hje : (srs M).take j = srs M := List.take_of_length_le (by rw [srs_len]; omega)
      rw [hje] at hX
      subst hX
      have s0 := one_at hbx
      have hfr := frozen_pl hr0 0
      have r0 := one_at hr0
      have hEE := (OwnE.at ES hown).1
      have hset : (wr.setCell ⟨r, 0, none⟩ (.slice A' (srs M).length c')).heap[r]? = some (.cells #[.slice A' (srs M).length c'] 24 (0, 0)) := Boxed.set _ hr0
      have hErr : SAt (wr.setCell ⟨r, 0, none⟩ (.slice A' (srs M).length c')) A' c' (srs M) := (OwnE.at ES (rowE_far hown (p := r) (fun e => by have := (OwnE.at ES hown).2 r e; omega) r 0)).1
      have HE := Lib.hid (And.intro hset (And.intro hErr (And.intro (hbl.setCell (Nat.le_refl _) (p := ⟨r, 0, none⟩) (.slice A' (srs M).length c')) HU.out.2.2.2.2.2)))
      have hri : ¬ ((m : Int) + 1 < (M.length : Int)) := by omega
      have hlx : (srs M).length ≤ 100 := by rw [srs_len]; omega
      obtain ⟨nX, hnX⟩ : ∃ nX, nX = (srs M).length := ⟨_, rfl⟩
      rw [← hnX] at s0 HE hlx hbx
      have HNX := Lib.hid hnX
      clear hnX hset hErr hbl hEE hown hje hlen hMr HU HMJ hmj hbx hr0
      go_wp2_with (fail)
      refine bodyPost_ret (results_cell_row rfl _ _ r 24 #[.slice A' nX c'] (0, 0) _ rfl HE.out.1 Tryd.underlying24 rfl series_size) rfl ⟨A', c', by rw [← HNX.out], HE.out.2.1, ?_⟩
      rw [← HE.out.2.2.2]
      exact HE.out.2.2.1
end Sx
end Go.Proofs.YtionocafkaemiaaDoor
