/- Share. -/
import Derived.Test.YtionocafkaemiaaDoorJA8
import Derived.Test.YtionocafkaemiaaDoorJR7
import Derived.Test.YtionocafkaemiaaDoorJB2
namespace Go.Proofs.YtionocafkaemiaaDoor
open Go.RowKit Go.Lib
namespace Sx
attribute [local irreducible] wpQuiet
attribute [local go_sem] Oper.semAt_some

theorem upd1_keeps {own : Ow} {V : World} {b : Nat} {z : Value} (hb : own b ≠ none) : Keeps own own V (V.setCell ⟨b, 0, none⟩ z) :=
  ⟨rfl, rfl, rfl, Nat.le_of_eq (by simp only [setCell_size]), fun k hk hn => by
    have e2 : k ≠ b := fun e => hb (e ▸ hn)
    rw [setCell_far _ _ _ _ e2], fun _ _ => rfl, fun _ h => .inl h⟩
set_option maxRecDepth 100000 in
set_option maxHeartbeats 4000000 in
theorem share_ok (A : Option Addr) (c : Nat) (L : List Sm) (f t bd : Int) (W : World) (hL : SAt W A c L) :
    Calls Tryd.prog 28 #[sv A L.length c, .int .i64 f, .int .i64 t, .int .i64 bd] W fun e w' => e = .returned (.tuple #[.int .i64 (shareS L f t bd).1, .int .i64 (shareS L f t bd).2]) ∧ Below W.heap.size W w' := by
  obtain ⟨k1, k2⟩ := two_boxes W #[.slice A L.length c] #[.int .i64 bd] 24 2
  have hb : Below W.heap.size W ((W.alloc (.cells #[.slice A L.length c] 24)).alloc (.cells #[.int .i64 bd] 2)) := (below_box W _).alloc (by simp) _
  have hcm := hL.2.1
  have hlc := hL.1
  unfold maxLen at hcm
  have hAK := fun V (hV : Below W.heap.size W V) => ask_ok A c L f t V (hL.below hV (Nat.le_refl _))
  have HT := Lib.hid (fun V => isValue_ok bd V)
  by_cases hask : askS L f t = 0
  · have hcov := ask_cov.1 hask
    have hx : shareS L f t bd = if inT bd = false then (0, 7) else (shareV bd (stepsV L f t), 0) := by unfold shareS; rw [if_neg (by omega)]
    rw [hask] at hAK
    rw [hx]
    have HX := Lib.hid (And.intro hb (And.intro k1 (And.intro k2 (And.intro hAK (And.intro hcov hL)))))
    clear hb k1 k2 hAK hL hask hcov hx
    cases ht : inT bd with
    | false =>
      rw [ht] at HT
      clear ht
      go_enter Tryd.func28, Tryd.ntmps28
      go_upto_region 1 with (fail)
      generalize (W.alloc (.cells #[.slice A L.length c] 24)).alloc (.cells #[.int .i64 bd] 2) = V at *
      have s0 : V.cell? ⟨W.heap.size, 0, none⟩ = some (.slice A L.length c) := one_at HX.out.2.1
      have s1 : V.cell? ⟨W.heap.size + 1, 0, none⟩ = some (.int .i64 bd) := one_at HX.out.2.2.1
      go_wp2_with (first | (go_at_call 40; refine (HX.out.2.2.2.1 _ HX.out.1).mono ?_; rintro e w1 ⟨rfl, hb1⟩; replace s1 := cell_keep2 hb1 s1; have H1 := Lib.hid (HX.out.1.trans (hb1.mono HX.out.1.size)); clear hb1) | (go_at_call 59; refine (HT.out _).mono ?_; rintro e w2 ⟨rfl, hw⟩; have hw := hw.symm; subst hw))
      go_ret2
      exact ⟨rfl, H1.out⟩
    | true =>
      rw [ht] at HT
      clear ht
      refine (callsIn_wide (n := 8)).1 ?_
      refine callsIn_of_wp_marks Tryd.func28 rfl trivial ?_ rfl
      simp only [Tryd.ntmps28, List.size_toArray, List.length_cons, List.length_nil, Nat.reduceAdd, Nat.reduceSub, Array.replicate_succ, Array.replicate_zero, List.push_toArray, List.append_toArray, List.nil_append, List.cons_append]
      refine wpIn_wide.2 ?_
      go_upto_region 1 with (fail)
      generalize (W.alloc (.cells #[.slice A L.length c] 24)).alloc (.cells #[.int .i64 bd] 2) = V at *
      have s0 : V.cell? ⟨W.heap.size, 0, none⟩ = some (.slice A L.length c) := one_at HX.out.2.1
      have s1 : V.cell? ⟨W.heap.size + 1, 0, none⟩ = some (.int .i64 bd) := one_at HX.out.2.2.1
      go_upto_region 7 with (first | (go_at_call 40; refine (HX.out.2.2.2.1 _ HX.out.1).mono ?_; rintro e w1 ⟨rfl, hb1⟩; replace s0 := cell_keep2 hb1 s0; replace s1 := cell_keep2 hb1 s1; have H1 := Lib.hid hb1; clear hb1) | (go_at_call 59; refine (HT.out _).mono ?_; rintro e w2 ⟨rfl, hw⟩; have hw := hw.symm; subst hw))
      obtain ⟨u, hu⟩ : ∃ u, u = w1.heap.size := ⟨_, rfl⟩
      obtain ⟨U, hU⟩ : ∃ U, U = w1.alloc (.cells #[.int .i64 0] 2) := ⟨_, rfl⟩
      rw [← hU, ← hu]
      have hbU : Below w1.heap.size w1 U := by rw [hU]; exact below_box w1 _
      have hcu : U.heap[u]? = some (.cells #[.int .i64 0] 2 (0, 0)) := by rw [hU, hu]; exact new_at w1 _
      have hsU : U.heap.size = u + 1 := by rw [hU, hu]; simp
      replace s0 := cell_keep2 hbU s0
      have HU := Lib.hid (And.intro hbU (And.intro hcu (And.intro hsU hu)))
      clear s1 hbU hcu hsU hu hU
      go_wp2_with (go_at_call 44; refine (steps_make _ _ _ _ _ _).mono ?_; rintro e w2 ⟨rfl, hw2⟩)
      refine (wpIn_wide (n := 8)).1 ?_
      have hWU : Below W.heap.size W U := (HX.out.1.trans (H1.out.mono HX.out.1.size)).trans (HU.out.1.mono (HX.out.1.trans (H1.out.mono HX.out.1.size)).size)
      have hD := std_new (f := f) (t := t) (HX.out.2.2.2.2.2.below hWU (Nat.le_refl _))
      have hbs := below_std (V := U) (.cells #[.slice A L.length c] 24) (.cells #[.int .i64 f] 2) (.cells #[.int .i64 t] 2)
      have hbnd1 : w1.heap[W.heap.size + 1]? = some (.cells #[.int .i64 bd] 2 (0, 0)) := by rw [H1.out.block _ (lt_of_heap HX.out.2.2.1)]; exact HX.out.2.2.1
      have hltb := lt_of_heap hbnd1
      have hbnd2 : U.heap[W.heap.size + 1]? = some (.cells #[.int .i64 bd] 2 (0, 0)) := by rw [HU.out.1.block _ hltb]; exact hbnd1
      have hus := HU.out.2.2.2
      have hus2 := HU.out.2.2.1
      obtain ⟨W0, hW0⟩ : ∃ W0, W0 = (((U.alloc (.cells #[.slice A L.length c] 24)).alloc (.cells #[.int .i64 f] 2)).alloc (.cells #[.int .i64 t] 2)) := ⟨_, rfl⟩
      rw [← hW0] at hD hbs ⊢
      have h1 : W0.heap[W.heap.size + 1]? = some (.cells #[.int .i64 bd] 2 (0, 0)) := by rw [hbs.block _ (lt_of_heap hbnd2)]; exact hbnd2
      have h2 : W0.heap[u]? = some (.cells #[.int .i64 0] 2 (0, 0)) := by rw [hbs.block _ (by omega)]; exact HU.out.2.1
      obtain ⟨v, hv⟩ : ∃ v, v = W.heap.size + 1 := ⟨_, rfl⟩
      rw [← hv] at h1 hltb
      have hvu : v < u := by omega
      have hWp : W.heap.size < u := by omega
      have HB := Lib.hid (And.intro (hWU.trans (hbs.mono hWU.size)) (And.intro hD (And.intro hv (HX.out.2.2.2.2.2.below (hWU.trans (hbs.mono hWU.size)) (Nat.le_refl _)))))
      obtain ⟨p, hp⟩ : ∃ p, p = U.heap.size := ⟨_, rfl⟩
      rw [← hp] at hD ⊢
      have hpu : p = u + 1 := by omega
      have hps := lt_of_heap h2
      have hsz : p ≤ W0.heap.size := by rw [hp]; exact hbs.size
      have HD := Lib.hid hD
      have HQ := Lib.hid (And.intro hpu (And.intro hv hus))
      clear hpu hus hus2 hp hWU hD hbs hbnd1 hbnd2 hW0 hw2 s0
      rw [← hv]
      clear hv
      obtain ⟨own0, hown⟩ : ∃ own0 : Ow, ∀ x, own0 x = if x = v ∨ x = u then some 0 else none := ⟨fun x => if x = v ∨ x = u then some 0 else none, fun _ => rfl⟩
      have ho1 : ∀ x, (x = v ∨ x = u) → own0 x ≠ none := fun x h => by rw [hown, if_pos h]; simp
      have ho0 : ∀ x, ¬ (x = v ∨ x = u) → own0 x = none := fun x h => by rw [hown, if_neg h]
      have HO := Lib.hid (And.intro ho1 ho0)
      clear ho1 ho0 hown
      have hcov := HX.out.2.2.2.2.1
      have hlen := hcov.ok.len
      have hsl := steps_len L f t
      have hbd := fun k => shareV_bd (bd := bd) (steps_ok hcov.ok (f := f) (t := t)) hcov.f0 hcov.t1 (by omega) k
      have HC := Lib.hid (And.intro hcov hbd)
      refine rangeA (I := fun own pre V => own = own0 ∧ V.heap[v]? = some (.cells #[.int .i64 bd] 2 (0, 0)) ∧ V.heap[u]? = some (.cells #[.int .i64 (shareV bd pre)] 2 (0, 0)))
        (Ix := fun _ _ _ _ => False) rfl (by omega) (gf := 73) (lb := #[.pointer (some ⟨p, 0, none⟩), .pointer (some ⟨p + 1, 0, none⟩), .pointer (some ⟨p + 2, 0, none⟩)]) rfl trivial (enters_of Tryd.func73 (by kernel_rfl) rfl)
        (stepseq (8 - 1) (by omega) p (p + 1) (p + 2) A c L f t hcov) own0 ?hf0 ?hD ?hR (fun _ => rfl) ?hE ?hI (fun _ _ _ _ _ h _ _ => h) ?h0 (fun x : Sp => .cells #[.int .i64 x.f, .int .i64 x.v] 49)
        (fun x q => { tmps := #[sv A L.length c, .int .i64 f, .int .i64 t, .int .i64 bd, .pointer (some ⟨W.heap.size, 0, none⟩), undef, undef, .pointer (some ⟨v, 0, none⟩), .int .i64 0, .int .i64 0, .int .i64 0, .pointer (some ⟨u, 0, none⟩), .pointer (some ⟨q, 0, none⟩), .int .i64 (x.t - x.f), .agg #[.slice A L.length c], .int .i64 f, .int .i64 t, .int .i64 0, .bool false, .int .i64 0, .bool false, undef, .bool false, .int .i64 bd, .bool true, .bool false, .agg #[.slice A L.length c], .int .i64 f, .int .i64 t, .func (.func 73) #[] #[.pointer (some ⟨p, 0, none⟩), .pointer (some ⟨p + 1, 0, none⟩), .pointer (some ⟨p + 2, 0, none⟩)], .agg #[.int .i64 x.f, .int .i64 x.v], .int .i64 (x.t - x.f), undef, undef, undef, undef, undef, undef, undef, undef], defers := [] }) ?assign ?body ?done ?stop
      case hf0 =>
        intro x hx
        by_cases h : x = v ∨ x = u
        · omega
        · exact absurd (HO.out.2 x h) hx
      case hD =>
        intro V hV
        have hD := HD.out
        exact ⟨Nat.lt_of_lt_of_le hD.l1 hV.size, Nat.lt_of_lt_of_le hD.l2 hV.size, Nat.lt_of_lt_of_le hD.l3 hV.size, cell_keep2 hV hD.c1, cell_keep2 hV hD.c2, cell_keep2 hV hD.c3, hD.row.below hV (Nat.le_refl _)⟩
      case hR =>
        have hD := HD.out
        have hc := hcov.cov
        have hul := upto_le L f
        have hpu := HQ.out.1
        have hv := HQ.out.2.1
        intro x hx
        have hxl : x < W0.heap.size ∧ ¬ (x = v ∨ x = u) := by
          rcases hx with rfl | rfl | rfl | ⟨o, hA⟩
          · have := hD.l1; omega
          · have := hD.l2; omega
          · have := hD.l3; omega
          · obtain ⟨g, o', e, hg, _⟩ := HX.out.2.2.2.2.2.s2 (j := 0) (by omega)
            rw [hA] at e; injection e with e; injection e with e1 e2 _
            omega
        exact ⟨HO.out.2 x hxl.2, hxl.1⟩
      case hE => exact fun _ _ _ _ => trivial
      case hI =>
        rintro own pre V V' ⟨rfl, k1, k2⟩ hs hk
        exact ⟨rfl, (hk _ (HO.out.1 _ (.inl rfl)) (lt_of_heap k1)).trans k1, (hk _ (HO.out.1 _ (.inr rfl)) (lt_of_heap k2)).trans k2⟩
      case h0 => exact ⟨rfl, h1, h2⟩
      case assign =>
        intro l x V K hK
        gi_wp2
        exact hK
      case body =>
        rintro l own pre x V q ⟨rfl, k1, k2⟩ hf hA hob hou
        obtain ⟨u0, u1⟩ := two_at hob
        have c1 := one_at k1
        have c2 := one_at k2
        have f2 : V.frozen? ⟨u, 0, none⟩ = false := by simp [World.frozen?, k2]
        obtain ⟨k, hkM, hxk, hpre⟩ := hA
        have hnx := share_take (bd := bd) hkM
        have b0 := HC.out.2 k
        have b1 := HC.out.2 (k + 1)
        rw [hnx] at b1
        have htk : pre ++ [x] = (stepsV L f t).take (k + 1) := by rw [hpre, hxk, spt_next hkM]
        rw [← htk, ← hpre, ← hxk] at hnx
        rw [← hpre, ← hxk] at b1
        rw [← hpre] at b0
        unfold shr at hnx b1
        have HK := Lib.hid (And.intro k1 (And.intro k2 hnx))
        clear k1 k2 hnx hob hxk hpre htk
        generalize shareV bd pre = sm at *
        by_cases hge : bd ≤ x.v
        · rw [if_pos hge] at b1 HK
          gi_wp2
          refine ⟨own, upd1_keeps (HO.out.1 _ (.inr rfl)), rfl, ?_, ?_⟩
          · rw [setCell_far _ _ _ _ (by show v ≠ u; omega)]; exact HK.out.1
          · rw [setCell_at _ _ _ _ _ _ HK.out.2.1, HK.out.2.2]; rfl
        · have hge2 : ¬ x.v ≥ bd := hge
          rw [if_neg hge] at b1 HK
          gi_wp2
          exact ⟨own, Keeps.refl _ _, rfl, HK.out.1, by rw [HK.out.2.2, Int.add_zero]; exact HK.out.2.1⟩
      case done =>
        rintro own xs V rfl ⟨rfl, k1, k2⟩ hK hd hdv
        have c2 := one_at k2
        have HE := Lib.hid (And.intro hK hdv)
        clear k1 k2 hK hdv
        go_wp2
        refine ⟨by simp, .inl ⟨_, _, rfl, run_takeDeferred HE.out.2, ?_⟩⟩
        refine ⟨_, results_tmp2 rfl _ _ _, rfl, ?_⟩
        have hK := HE.out.1
        have hB := HB.out.1
        have hBs := hB.size
        have hv := HQ.out.2.1
        refine ⟨hK.os.trans hB.os, hK.tape.trans hB.tape, hK.output.trans hB.output, ?_, fun x hx => ?_⟩
        · have := hK.size; simp; omega
        · rw [World.putObj_heap_other (by omega), hK.block x (by omega) (HO.out.2 x (by omega))]
          exact hB.block x hx
      case stop =>
        rintro _ _ _ _ _ h
        exact h.elim
  · have hx : shareS L f t bd = (0, askS L f t) := by unfold shareS; rw [if_pos hask]
    rw [hx]
    have HX := Lib.hid (And.intro hb (And.intro k1 (And.intro k2 hAK)))
    generalize askS L f t = e at *
    clear hb k1 k2 hAK hL hx
    go_enter Tryd.func28, Tryd.ntmps28
    go_upto_region 1 with (fail)
    generalize (W.alloc (.cells #[.slice A L.length c] 24)).alloc (.cells #[.int .i64 bd] 2) = V at *
    have s0 : V.cell? ⟨W.heap.size, 0, none⟩ = some (.slice A L.length c) := one_at HX.out.2.1
    go_wp2_with (first | (go_at_call 40; refine (HX.out.2.2.2 _ HX.out.1).mono ?_; rintro e w1 ⟨rfl, hb1⟩; have H1 := Lib.hid (HX.out.1.trans (hb1.mono HX.out.1.size)); clear hb1))
    go_ret2
    exact ⟨rfl, H1.out⟩
end Sx
end Go.Proofs.YtionocafkaemiaaDoor
