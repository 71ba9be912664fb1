/- The program's area in a covered interval. Area. -/
import Derived.Test.YtionocafkaemiaaDoorJA10
import Derived.Test.YtionocafkaemiaaDoorJA11
import Derived.Test.YtionocafkaemiaaDoorJR8
import Derived.Stop.RegionWithIn
import Derived.Test.YtionocafkaemiaaDoorK2
namespace Go.Proofs.YtionocafkaemiaaDoor
open Go.RowKit Go.Lib
namespace Sx
attribute [local irreducible] wpQuiet
attribute [local go_sem] Oper.semAt_some

theorem upd2_keeps {own : Ow} {V : World} {b : Nat} {z y : Value} (hb : own b ≠ none) : Keeps own own V ((V.setCell ⟨b, 0, none⟩ z).setCell ⟨b, 1, none⟩ y) := (upd1_keeps hb).trans
  ⟨rfl, rfl, rfl, Nat.le_of_eq (by simp only [setCell_size]), fun k hk hn => by
    have e2 : k ≠ b := fun e => hb (e ▸ hn)
    rw [setCell_far _ _ _ _ e2], fun _ _ => rfl, fun _ h => .inl h⟩
set_option maxRecDepth 100000 in
set_option maxHeartbeats 4000000 in
theorem area_ok2 (A : Option Addr) (c : Nat) (L : List Sm) (f t : Int) (hcov : Cov L f t) (W : World) (hL : SAt W A c L) :
    Calls Tryd.prog 41 #[sv A L.length c, .int .i64 f, .int .i64 t] W fun e w' => e = .returned (.agg #[.int .i64 (areaV (stepsV L f t)).h, .int .i64 (areaV (stepsV L f t)).l]) ∧ Below W.heap.size W w' := by
  obtain ⟨k1, k2⟩ := two_boxes W #[.slice A L.length c] #[.int .i64 0, .int .i64 0] 24 31
  have hb : Below W.heap.size W ((W.alloc (.cells #[.slice A L.length c] 24)).alloc (.cells #[.int .i64 0, .int .i64 0] 31)) := (below_box W _).alloc (by simp) _
  have hcm := hL.2.1
  have hlc := hL.1
  unfold maxLen at hcm
  have hsz : ((W.alloc (.cells #[.slice A L.length c] 24)).alloc (.cells #[.int .i64 0, .int .i64 0] 31)).heap.size = W.heap.size + 2 := by simp
  have HX := Lib.hid (And.intro hb (And.intro k1 (And.intro k2 (And.intro hsz hL))))
  clear hb k1 k2 hL hsz
  refine (callsIn_wide (n := 8)).1 ?_
  refine callsIn_of_wp_marks Tryd.func41 rfl trivial ?_ rfl
  simp only [Tryd.ntmps41, List.size_toArray, List.length_cons, List.length_nil, Nat.reduceAdd, Nat.reduceSub, Array.replicate_succ, Array.replicate_zero, List.push_toArray, List.append_toArray, List.nil_append, List.cons_append]
  refine wpIn_wide.2 ?_
  go_upto_region 1 with (fail)
  generalize (W.alloc (.cells #[.slice A L.length c] 24)).alloc (.cells #[.int .i64 0, .int .i64 0] 31) = U at *
  have s0 : U.cell? ⟨W.heap.size, 0, none⟩ = some (.slice A L.length c) := one_at HX.out.2.1
  go_wp2_with (go_at_call 44; refine (steps_make _ _ _ _ _ _).mono ?_; rintro e w2 ⟨rfl, hw2⟩)
  refine (wpIn_wide (n := 8)).1 ?_
  have hWU : Below W.heap.size W U := HX.out.1
  have hD := std_new (f := f) (t := t) (HX.out.2.2.2.2.below hWU (Nat.le_refl _))
  have hbs := below_std (V := U) (.cells #[.slice A L.length c] 24) (.cells #[.int .i64 f] 2) (.cells #[.int .i64 t] 2)
  have hsU := HX.out.2.2.2.1
  obtain ⟨W0, hW0⟩ : ∃ W0, W0 = (((U.alloc (.cells #[.slice A L.length c] 24)).alloc (.cells #[.int .i64 f] 2)).alloc (.cells #[.int .i64 t] 2)) := ⟨_, rfl⟩
  rw [← hW0] at hD hbs ⊢
  have h2 : W0.heap[W.heap.size + 1]? = some (.cells #[.int .i64 0, .int .i64 0] 31 (0, 0)) := by rw [hbs.block _ (by omega)]; exact HX.out.2.2.1
  obtain ⟨u, hu⟩ : ∃ u, u = W.heap.size + 1 := ⟨_, rfl⟩
  rw [← hu] at h2
  obtain ⟨p, hp⟩ : ∃ p, p = U.heap.size := ⟨_, rfl⟩
  rw [← hp] at hD ⊢
  have hpu : p = u + 1 := by omega
  have hsz : p ≤ W0.heap.size := by rw [hp]; exact hbs.size
  have HB := Lib.hid (And.intro (hWU.trans (hbs.mono hWU.size)) hD)
  have hltb := lt_of_heap h2
  have HQ := Lib.hid (And.intro hpu hu)
  clear hpu hp hWU hD hbs hW0 hw2 s0 hsU
  rw [← hu]
  clear hu
  obtain ⟨own0, hown⟩ : ∃ own0 : Ow, ∀ x, own0 x = if x = u then some 0 else none := ⟨fun x => if x = u then some 0 else none, fun _ => rfl⟩
  have ho1 : ∀ x, (x = u) → own0 x ≠ none := fun x h => by rw [hown, if_pos h]; simp
  have ho0 : ∀ x, ¬ (x = u) → own0 x = none := fun x h => by rw [hown, if_neg h]
  have HO := Lib.hid (And.intro ho1 ho0)
  clear ho1 ho0 hown
  have hlen := hcov.ok.len
  have hsl := steps_len L f t
  have hokp := steps_ok hcov.ok (f := f) (t := t)
  have hfit := area_fits hokp hcov.f0 hcov.t1 (by omega)
  have HC := Lib.hid (And.intro hcov (And.intro hokp hfit))
  clear hokp hfit
  refine rangeA (I := fun own pre V => own = own0 ∧ V.heap[u]? = some (.cells #[.int .i64 (areaV pre).h, .int .i64 (areaV pre).l] 31 (0, 0)))
    (Ix := fun _ _ _ _ => False) rfl (by omega) (gf := 73) (lb := #[.pointer (some ⟨p, 0, none⟩), .pointer (some ⟨p + 1, 0, none⟩), .pointer (some ⟨p + 2, 0, none⟩)]) rfl trivial (enters_of Tryd.func73 (by kernel_rfl) rfl)
    (stepseq (8 - 1) (by omega) p (p + 1) (p + 2) A c L f t hcov) own0 ?hf0 ?hD ?hR (fun _ => rfl) ?hE ?hI (fun _ _ _ _ _ h _ _ => h) ?h0 (fun x : Sp => .cells #[.int .i64 x.f, .int .i64 x.v] 49)
    (fun x q => { tmps := #[sv A L.length c, .int .i64 f, .int .i64 t, .pointer (some ⟨W.heap.size, 0, none⟩), undef, undef, .pointer (some ⟨u, 0, none⟩), .pointer (some ⟨q, 0, none⟩), .int .i64 (x.t - x.f), .agg #[.slice A L.length c], .int .i64 f, .int .i64 t, .func (.func 73) #[] #[.pointer (some ⟨p, 0, none⟩), .pointer (some ⟨p + 1, 0, none⟩), .pointer (some ⟨p + 2, 0, none⟩)], .agg #[.int .i64 x.f, .int .i64 x.v], .int .i64 (x.t - x.f), undef, undef, undef, undef, undef, undef, undef], defers := [] }) ?assign ?body ?done ?stop
  case hf0 =>
    intro x hx
    by_cases h : x = u
    · omega
    · exact absurd (HO.out.2 x h) hx
  case hD =>
    intro V hV
    have hD := HB.out.2
    exact ⟨Nat.lt_of_lt_of_le hD.l1 hV.size, Nat.lt_of_lt_of_le hD.l2 hV.size, Nat.lt_of_lt_of_le hD.l3 hV.size, cell_keep2 hV hD.c1, cell_keep2 hV hD.c2, cell_keep2 hV hD.c3, hD.row.below hV (Nat.le_refl _)⟩
  case hR =>
    have hD := HB.out.2
    have hc := hcov.cov
    have hul := upto_le L f
    have hpu := HQ.out.1
    have hv := HQ.out.2
    intro x hx
    have hxl : x < W0.heap.size ∧ ¬ (x = u) := by
      rcases hx with rfl | rfl | rfl | ⟨o, hA⟩
      · have := hD.l1; omega
      · have := hD.l2; omega
      · have := hD.l3; omega
      · obtain ⟨g, o', e, hg, _⟩ := HX.out.2.2.2.2.s2 (j := 0) (by omega)
        rw [hA] at e; injection e with e; injection e with e1 e2 _
        omega
    exact ⟨HO.out.2 x hxl.2, hxl.1⟩
  case hE => exact fun _ _ _ _ => trivial
  case hI =>
    rintro own pre V V' ⟨rfl, k2⟩ hs hk
    exact ⟨rfl, (hk _ (HO.out.1 _ rfl) (lt_of_heap k2)).trans k2⟩
  case h0 => exact ⟨rfl, h2⟩
  case assign =>
    intro l x V K hK
    gi_wp2
    exact hK
  case body =>
    rintro l own pre x V q ⟨rfl, k2⟩ hf hA hob hou
    obtain ⟨u0, u1⟩ := two_at hob
    obtain ⟨c0, c1⟩ := two_at k2
    have f2 : ∀ j, V.frozen? ⟨u, j, none⟩ = false := fun j => by simp [World.frozen?, k2]
    obtain ⟨k, hkM, hxk, hpre⟩ := hA
    have hb0 := HC.out.2.2 k (by omega)
    rw [← hpre] at hb0
    have hx := HC.out.2.1 x (by rw [hxk]; exact sp_mem hkM)
    have hx1 := hx.f0; have hx2 := hx.ft; have hx3 := hx.t1
    have hcf := hcov.f0; have hct := hcov.t1
    have hnx := area_snoc pre x
    have hpok := prod_okV hx.v0 hx.v1 (show 0 ≤ x.t - x.f by omega) (by omega)
    have HPR := Lib.hid (fun V => product_ok x.v (x.t - x.f) hx.v0 hx.v1 (by omega) (by omega) V)
    have HPL := Lib.hid (fun V => plus_ok (areaV pre) (prodV x.v (x.t - x.f)) V hb0 ⟨hpok.h0, by have := hpok.h1; omega, hpok.l0, hpok.l1⟩)
    generalize areaV pre = z at *
    generalize prodV x.v (x.t - x.f) = pr at *
    generalize plusV z pr = r at *
    have HK := Lib.hid (And.intro k2 (And.intro hob hnx))
    have hul := lt_of_heap k2
    have hql := lt_of_heap hob
    clear hnx hxk hpre hob hpok hb0 k2 hx hcf hct hx1 hx2 hx3
    gi_wp2
    gi_region_with? (first | (refine ⟨trivial, CallsIn.mono (CallsIn.inRound l (callsIn_wide.2 (HPR.out _))) ?_⟩; rintro e w4 ⟨rfl, hb4⟩; have hk4 := (hb4.block _ hul).trans HK.out.1; obtain ⟨c40, c41⟩ := two_at hk4; have hkq := (hb4.block _ hql).trans HK.out.2.1; obtain ⟨u40, u41⟩ := two_at hkq) | (refine ⟨trivial, CallsIn.mono (CallsIn.inRound l (callsIn_wide.2 (HPL.out _))) ?_⟩; rintro e w5 ⟨rfl, hb5⟩; have hk5 := (hb5.block _ (lt_of_heap hk4)).trans hk4; obtain ⟨v0, v1⟩ := two_at hk5; have vf : ∀ j, w5.frozen? ⟨u, j, none⟩ = false := (fun j => by simp [World.frozen?, hk5])))
    all_goals
      gi_wp2
      refine ⟨own, ((Keeps.of_below _ ((below_drew (Below.refl V.heap.size V)).trans hb4)).trans (Keeps.of_below _ hb5)).trans (upd2_keeps (HO.out.1 _ rfl)), rfl, ?_⟩
      rw [set2 hk5, HK.out.2.2]
  case done =>
    rintro own xs V rfl ⟨rfl, k2⟩ hK hd hdv
    have hul := lt_of_heap k2
    have hu := HQ.out.2
    have hpu := HQ.out.1
    have hBs := HB.out.1.size
    obtain ⟨a, ha⟩ : ∃ a, a = areaV (stepsV L f t) := ⟨_, rfl⟩
    rw [← ha] at k2
    have HA := Lib.hid ha
    have HE := Lib.hid (And.intro k2 (And.intro hK hdv))
    obtain ⟨c20, c21⟩ := two_at k2
    have f2 : ∀ j, V.frozen? ⟨u, j, none⟩ = false := fun j => by simp [World.frozen?, k2]
    have hne : W0.heap.size ≠ u := by omega
    clear k2 hK hdv hu hpu ha
    go_wp2
    have hK := HE.out.2.1
    have hdv : ((V.setCell ⟨u, 0, none⟩ (.int .i64 a.h)).setCell ⟨u, 1, none⟩ (.int .i64 a.l)).heap[W0.heap.size]? = some (.deferred (some [])) := by
      rw [setCell_far _ _ _ _ (by show W0.heap.size ≠ u; exact hne), setCell_far _ _ _ _ (by show W0.heap.size ≠ u; exact hne)]
      exact HE.out.2.2
    refine ⟨by simp, .inl ⟨_, _, rfl, run_takeDeferred hdv, ?_⟩⟩
    refine ⟨_, results_cell_row rfl _ _ u 31 #[.int .i64 a.h, .int .i64 a.l] (0, 0) _ rfl ((World.putObj_heap_other (by omega)).trans (set2 HE.out.1)) Tryd.underlying31 rfl area_size2, ?_, ?_⟩
    · rw [← HA.out]
    · have hB := HB.out.1
      have hv := HQ.out.2
      have hpu := HQ.out.1
      refine ⟨hK.os.trans hB.os, hK.tape.trans hB.tape, hK.output.trans hB.output, ?_, fun x hx => ?_⟩
      · have := hK.size; simp; omega
      · rw [World.putObj_heap_other (by omega), setCell_far _ _ _ _ (by show x ≠ u; omega), setCell_far _ _ _ _ (by show x ≠ u; omega), hK.block x (by omega) (HO.out.2 x (by omega))]
        exact hB.block x hx
  case stop =>
    rintro _ _ _ _ _ h
    exact h.elim
end Sx
end Go.Proofs.YtionocafkaemiaaDoor
namespace Go.Proofs.YtionocafkaemiaaDoor
open Go.RowKit Go.Lib
namespace Sx
attribute [local irreducible] wpQuiet

set_option maxRecDepth 100000 in
set_option maxHeartbeats 4000000 in
theorem Area_ok (A : Option Addr) (c : Nat) (L : List Sm) (f t : Int) (W : World) (hL : SAt W A c L) :
    Calls Tryd.prog 12 #[sv A L.length c, .int .i64 f, .int .i64 t] W fun e w' => e = .returned (.tuple #[.agg #[.int .i64 (areaS L f t).1.h, .int .i64 (areaS L f t).1.l], .int .i64 (areaS L f t).2]) ∧ Below W.heap.size W w' := by
  obtain ⟨k1, k2⟩ := two_boxes W #[.slice A L.length c] #[.int .i64 0, .int .i64 0] 24 31
  have hb : Below W.heap.size W ((W.alloc (.cells #[.slice A L.length c] 24)).alloc (.cells #[.int .i64 0, .int .i64 0] 31)) := (below_box W _).alloc (by simp) _
  have hAK := fun V (hV : Below W.heap.size W V) => ask_ok A c L f t V (hL.below hV (Nat.le_refl _))
  by_cases hask : askS L f t = 0
  · have hcov := ask_cov.1 hask
    have hx : areaS L f t = (areaV (stepsV L f t), 0) := by unfold areaS; rw [if_neg (by omega)]
    have hAR := fun V (hV : Below W.heap.size W V) => area_ok2 A c L f t hcov V (hL.below hV (Nat.le_refl _))
    rw [hask] at hAK
    rw [hx]
    have HX := Lib.hid (And.intro hb (And.intro k1 (And.intro k2 (And.intro hAK hAR))))
    generalize areaV (stepsV L f t) = a at *
    clear hb k1 k2 hAK hL hask hcov hx hAR
    go_enter Tryd.func12, Tryd.ntmps12
    go_upto_region 1 with (fail)
    generalize (W.alloc (.cells #[.slice A L.length c] 24)).alloc (.cells #[.int .i64 0, .int .i64 0] 31) = V at *
    have s0 : V.cell? ⟨W.heap.size, 0, none⟩ = some (.slice A L.length c) := one_at HX.out.2.1
    go_upto_region 4 with (go_at_call 40; refine (HX.out.2.2.2.1 _ HX.out.1).mono ?_; rintro e w1 ⟨rfl, hb1⟩; replace s0 := cell_keep2 hb1 s0; have hW1 := HX.out.1.trans (hb1.mono HX.out.1.size); have H1 := Lib.hid (And.intro hb1 hW1); clear hb1 hW1)
    go_wp2_with (go_at_call 41; refine (HX.out.2.2.2.2 _ H1.out.2).mono ?_; rintro e w2 ⟨rfl, hb2⟩; have hrb : w2.heap[W.heap.size + 1]? = some (.cells #[.int .i64 0, .int .i64 0] 31 (0, 0)) := (by have h1 := (H1.out.1.block _ (lt_of_heap HX.out.2.2.1)).trans HX.out.2.2.1; exact (hb2.block _ (lt_of_heap h1)).trans h1); have hf : ∀ j, w2.frozen? ⟨W.heap.size + 1, j, none⟩ = false := (fun j => by simp [World.frozen?, hrb]); obtain ⟨r0, r1⟩ := two_at hrb; have HR := Lib.hid (And.intro hrb (H1.out.2.trans (hb2.mono H1.out.2.size))); clear hb2)
    refine bodyPost_ret (results_row2 rfl _ _ (W.heap.size + 1) 31 #[.int .i64 a.h, .int .i64 a.l] (0, 0) _ rfl (set2 HR.out.1) Tryd.underlying31 area_sz) rfl ⟨rfl, ?_⟩
    exact below_set2 HR.out.2 (Nat.le_succ _)
  · have hx : areaS L f t = (⟨0, 0⟩, askS L f t) := by unfold areaS; rw [if_pos hask]
    rw [hx]
    have HX := Lib.hid (And.intro hb (And.intro k1 (And.intro k2 hAK)))
    generalize askS L f t = e at *
    clear hb k1 k2 hAK hL hx
    go_enter Tryd.func12, Tryd.ntmps12
    go_upto_region 1 with (fail)
    generalize (W.alloc (.cells #[.slice A L.length c] 24)).alloc (.cells #[.int .i64 0, .int .i64 0] 31) = V at *
    have s0 : V.cell? ⟨W.heap.size, 0, none⟩ = some (.slice A L.length c) := one_at HX.out.2.1
    go_upto_region 2 with (go_at_call 40; refine (HX.out.2.2.2 _ HX.out.1).mono ?_; rintro e w1 ⟨rfl, hb1⟩)
    have hrb : w1.heap[W.heap.size + 1]? = some (.cells #[.int .i64 0, .int .i64 0] 31 (0, 0)) := by rw [hb1.block _ (lt_of_heap HX.out.2.2.1)]; exact HX.out.2.2.1
    have hf : ∀ j, w1.frozen? ⟨W.heap.size + 1, j, none⟩ = false := fun j => by simp [World.frozen?, hrb]
    obtain ⟨r0, r1⟩ := two_at hrb
    have HR := Lib.hid (And.intro hrb (HX.out.1.trans (hb1.mono HX.out.1.size)))
    clear hb1 s0
    go_wp2_with (fail)
    refine bodyPost_ret (results_row2 rfl _ _ (W.heap.size + 1) 31 #[.int .i64 0, .int .i64 0] (0, 0) _ rfl (set2 HR.out.1) Tryd.underlying31 area_sz) rfl ⟨rfl, ?_⟩
    exact below_set2 HR.out.2 (Nat.le_succ _)
end Sx
end Go.Proofs.YtionocafkaemiaaDoor
