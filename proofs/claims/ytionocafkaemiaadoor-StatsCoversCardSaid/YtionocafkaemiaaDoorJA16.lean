/- The program's quantile. The program's quantile: whole. -/
import Derived.Test.YtionocafkaemiaaDoorJA15
import Derived.Outline
namespace Go.Proofs.YtionocafkaemiaaDoor
open Go.RowKit Go.Shelf Go.Lib
namespace Sx
attribute [local irreducible] wpQuiet
attribute [local go_sem] Oper.semAt_some

theorem cell_two_new (w : World) (a b : Value) (T : TypeId) : ∀ j u, ([a, b] : List Value)[j]? = some u → (w.alloc (.cells #[a, b] T)).cell? ((⟨w.heap.size, 0, none⟩ : Addr).add j) = some u := by
  intro j u hu
  obtain ⟨h0, h1⟩ := two_at (new_at w (.cells #[a, b] T))
  rw [add_plain, Nat.zero_add]
  rcases j with _ | _ | j
  · simp at hu; rw [← hu]; exact h0
  · simp at hu; rw [← hu]; exact h1
  · simp at hu
theorem own_of {A : Option Addr} {n c g : Nat} (h : A.map (·.block) = some g) : (Value.slice A n c).ownBlock = some g := by
  cases A with
  | none => cases h
  | some ad => injection h with h; rw [← h]; rfl
theorem cum_bd {N : List Pr} (h : ∀ x, x ∈ N → 0 ≤ x.2 ∧ x.2 ≤ 1000000000000) : ∀ k, k ≤ N.length → 0 ≤ cumP (N.take k) ∧ cumP (N.take k) ≤ (k : Int) * 1000000000000
  | 0, _ => by simp [cumP]
  | k + 1, hk => by
    have h1 := cum_bd h k (by omega)
    have hx := h _ (List.getElem_mem (show k < N.length by omega))
    rw [cum_take (u := N[k]) (List.getElem?_eq_getElem (by omega))]
    omega
set_option maxRecDepth 100000 in
set_option maxHeartbeats 4000000 in
theorem quant_main (A : Option Addr) (c : Nat) (L : List Sm) (f t num den : Int) (W : World) (hL : SAt W A c L) (hcov : Cov L f t) (g1 : ¬ num < 1) (g2 : ¬ den < num) (g3 : ¬ 1000 < den) :
    Calls Tryd.prog 14 #[sv A L.length c, .int .i64 f, .int .i64 t, .int .i64 num, .int .i64 den] W fun e w' => (∃ v, e = .returned (.tuple #[.int .i64 v, .int .i64 0]) ∧ IsQ (stepsV L f t) (num * (t - f)) den v) ∧ Below W.heap.size W w' := by
  have hb := below_box W (.cells #[.slice A L.length c] 24)
  have hn := one_at (new_at W (.cells #[.slice A L.length c] 24))
  have hcm := hL.2.1
  have hlc := hL.1
  unfold maxLen at hcm
  have hAK := fun V (hV : Below W.heap.size W V) => ask_ok A c L f t V (hL.below hV (Nat.le_refl _))
  rw [ask_cov.2 hcov] at hAK
  have hlen := hcov.ok.len
  have hsl := steps_len L f t
  have hokp := steps_ok hcov.ok (f := f) (t := t)
  have hqo := quant_ok hcov (num := num) (den := den) (by omega) (by omega)
  have hf0 := hcov.f0; have hft := hcov.ft; have ht1 := hcov.t1
  have hK := mul_bd (a := num) (b := t - f) (A := 1000) (B := 1000000000000) (by omega) (by omega) (by omega) (by omega)
  have q1 : decide (num < 1) = false := decide_eq_false g1
  have q2 : decide (den < num) = false := decide_eq_false g2
  have q3 : decide (1000 < den) = false := decide_eq_false g3
  obtain ⟨K, hKe⟩ : ∃ K, num * (t - f) = K := ⟨_, rfl⟩
  rw [hKe] at hK hqo ⊢
  have hsz0 : (W.alloc (.cells #[.slice A L.length c] 24)).heap.size = W.heap.size + 1 := by simp
  have HX := Lib.hid (And.intro hb (And.intro hAK (And.intro hL (And.intro hcov (And.intro hokp (And.intro hqo hsz0))))))
  have HK := Lib.hid hKe
  clear hb hAK hL hcov hokp hqo hsz0 hKe
  refine (callsIn_wide (n := 8)).1 ?_
  refine callsIn_of_wp_marks Tryd.func14 rfl trivial ?_ rfl
  simp only [Tryd.ntmps14, List.size_toArray, List.length_cons, List.length_nil, Nat.reduceAdd, Nat.reduceSub, Array.replicate_succ, Array.replicate_zero, List.push_toArray, List.append_toArray, List.nil_append, List.cons_append]
  refine wpIn_wide.2 ?_
  go_upto_region 1 with (fail)
  generalize W.alloc (.cells #[.slice A L.length c] 24) = V at *
  go_upto_region 7 with (go_at_call 40; refine (HX.out.2.1 _ HX.out.1).mono ?_; rintro e w1 ⟨rfl, hb1⟩; replace hn := cell_keep2 hb1 hn; have H1 := Lib.hid hb1; clear hb1)
  obtain ⟨u, hu⟩ : ∃ u, u = w1.heap.size := ⟨_, rfl⟩
  have bO : Boxed (w1.alloc (.cells #[.slice none 0 0] 72)) w1.heap.size 72 (.slice none 0 0) := Boxed.new w1 72 (.slice none 0 0)
  obtain ⟨U, hU⟩ : ∃ U, U = w1.alloc (.cells #[.slice none 0 0] 72) := ⟨_, rfl⟩
  rw [← hU, ← hu]
  rw [← hU, ← hu] at bO
  have hbU : Below w1.heap.size w1 U := by rw [hU]; exact below_box w1 _
  have hsU : U.heap.size = u + 1 := by rw [hU, hu]; simp
  replace hn := cell_keep2 hbU hn
  have HU := Lib.hid (And.intro hbU (And.intro bO (And.intro hsU hu)))
  clear bO hbU hsU hU hu
  go_wp2_with (go_at_call 44; refine (steps_make _ _ _ _ _ _).mono ?_; rintro e w2 ⟨rfl, hw2⟩)
  refine (wpIn_wide (n := 8)).1 ?_
  have hWU : Below W.heap.size W U := (HX.out.1.trans (H1.out.mono HX.out.1.size)).trans (HU.out.1.mono (HX.out.1.trans (H1.out.mono HX.out.1.size)).size)
  have hWu : W.heap.size < u := by have h1 := H1.out.size; have h2 := HX.out.2.2.2.2.2.2; have h3 := HU.out.2.2.2; omega
  have hD := std_new (f := f) (t := t) (HX.out.2.2.1.below hWU (Nat.le_refl _))
  have hbs := below_std (V := U) (.cells #[.slice A L.length c] 24) (.cells #[.int .i64 f] 2) (.cells #[.int .i64 t] 2)
  have hsU := HU.out.2.2.1
  obtain ⟨W0, hW0⟩ : ∃ W0, W0 = (((U.alloc (.cells #[.slice A L.length c] 24)).alloc (.cells #[.int .i64 f] 2)).alloc (.cells #[.int .i64 t] 2)) := ⟨_, rfl⟩
  rw [← hW0] at hD hbs ⊢
  have bO : Boxed W0 u 72 (.slice none 0 0) := (hbs.block u (by omega)).trans HU.out.2.1
  obtain ⟨p, hp⟩ : ∃ p, p = U.heap.size := ⟨_, rfl⟩
  rw [← hp] at hD ⊢
  have hpu : p = u + 1 := by omega
  have hsz : p ≤ W0.heap.size := by rw [hp]; exact hbs.size
  have HB := Lib.hid (And.intro (hWU.trans (hbs.mono hWU.size)) (And.intro hD bO))
  have hltb := bO.lt
  have HQ := Lib.hid hpu
  clear hpu hp hWU hD hbs hW0 hw2 hsU bO hn
  obtain ⟨own0, hown⟩ : ∃ own0 : Ow, ∀ x, own0 x = if x = u then some 0 else none := ⟨fun x => if x = u then some 0 else none, fun _ => rfl⟩
  have ho1 : ∀ x, (x = u) → own0 x ≠ none := fun x h => by rw [hown, if_pos h]; simp
  have ho0 : ∀ x, ¬ (x = u) → own0 x = none := fun x h => by rw [hown, if_neg h]
  have HO := Lib.hid (And.intro ho1 ho0)
  clear ho1 ho0 hown
  obtain ⟨i0, z0, hi0, hz0, hz1, hz2, hz3⟩ := info_open pair_info
  refine rangeA (I := fun own pre V => OutE epr 2 72 76 u own (prs pre) V ∧ (∀ x, own0 x ≠ none → own x ≠ none))
    (Ix := fun _ _ _ _ => False) rfl (by omega) (gf := 73) (lb := #[.pointer (some ⟨p, 0, none⟩), .pointer (some ⟨p + 1, 0, none⟩), .pointer (some ⟨p + 2, 0, none⟩)]) rfl trivial (enters_of Tryd.func73 (by kernel_rfl) rfl)
    (stepseq (8 - 1) (by omega) p (p + 1) (p + 2) A c L f t HX.out.2.2.2.1) own0 ?hf0 ?hD ?hR (fun _ => rfl) ?hE ?hI (fun _ _ _ _ _ h _ _ => h) ?h0 (fun x : Sp => .cells #[.int .i64 x.f, .int .i64 x.v] 49)
    (fun x q => { tmps := #[sv A L.length c, .int .i64 f, .int .i64 t, .int .i64 num, .int .i64 den, .pointer (some ⟨W.heap.size, 0, none⟩), undef, undef, undef, undef, .int .i64 0, .int .i64 0, .int .i64 0, .pointer (some ⟨u, 0, none⟩), .pointer (some ⟨q, 0, none⟩), .int .i64 (x.t - x.f), undef, undef, undef, .agg #[.slice A L.length c], .int .i64 f, .int .i64 t, .int .i64 0, .bool false, .int .i64 0, .bool false, undef, .bool false, .int .i64 num, .bool false, .bool false, .int .i64 num, .int .i64 den, .bool false, .bool false, .bool false, .int .i64 den, .bool false, .bool false, .agg #[.slice A L.length c], .int .i64 f, .int .i64 t, .func (.func 73) #[] #[.pointer (some ⟨p, 0, none⟩), .pointer (some ⟨p + 1, 0, none⟩), .pointer (some ⟨p + 2, 0, none⟩)], .agg #[.int .i64 x.f, .int .i64 x.v], .int .i64 (x.t - x.f), undef, undef, undef, undef, undef, undef, undef, undef, undef, undef, undef, undef, undef, undef, undef, undef, undef, undef, undef, undef, undef, undef, undef, undef, undef, undef, undef, undef, undef, undef, undef], defers := [] }) ?assign ?body ?done ?stop
  case assign =>
    intro l x V K hK
    gi_wp2
    exact hK
  case hf0 =>
    intro x hx
    by_cases h : x = u
    · omega
    · exact absurd (HO.out.2 x h) hx
  case hD =>
    intro V hV
    have hD := HB.out.2.1
    exact ⟨Nat.lt_of_lt_of_le hD.l1 hV.size, Nat.lt_of_lt_of_le hD.l2 hV.size, Nat.lt_of_lt_of_le hD.l3 hV.size, cell_keep2 hV hD.c1, cell_keep2 hV hD.c2, cell_keep2 hV hD.c3, hD.row.below hV (Nat.le_refl _)⟩
  case hR =>
    have hD := HB.out.2.1
    have hcov := HX.out.2.2.2.1
    have hc := hcov.cov
    have hul := upto_le L f
    have hpu := HQ.out
    intro x hx
    have hxl : x < W0.heap.size ∧ ¬ (x = u) := by
      rcases hx with rfl | rfl | rfl | ⟨o, hA⟩
      · have := hD.l1; omega
      · have := hD.l2; omega
      · have := hD.l3; omega
      · obtain ⟨g, o', e, hg, _⟩ := HX.out.2.2.1.s2 (j := 0) (by omega)
        rw [hA] at e; injection e with e; injection e with e1 e2 _
        omega
    exact ⟨HO.out.2 x hxl.2, hxl.1⟩
  case hE => exact fun _ _ _ _ => trivial
  case hI =>
    rintro own pre V V' ⟨hO, hz⟩ hs hk
    exact ⟨outE_keep hO hk, hz⟩
  case h0 => exact ⟨⟨none, 0, HB.out.2.2, owne_nil _ _ _, HO.out.1 u rfl, fun g hg => by cases hg⟩, fun x h => h⟩
  case body =>
    rintro l own pre x V q ⟨⟨A2, cp, hb, hr, ho, hg⟩, hz⟩ hf hA hob hou
    have hbc := hb.cell
    have hbf := hb.frozen
    have hbl := hb.lt
    obtain ⟨u0, u1⟩ := two_at hob
    have hql := lt_of_heap hob
    obtain ⟨k, hkM, hxk, hpre⟩ := hA
    have hpl : (prs pre).length ≤ 500 := by unfold prs; rw [hpre, List.length_map, List.length_take]; omega
    have hpp : prs (pre ++ [x]) = prs pre ++ [(x.v, x.t - x.f)] := by unfold prs; simp
    have HE := Lib.hid (And.intro hb (And.intro ho (And.intro hg (And.intro hz (And.intro hf hpp)))))
    clear hb ho hg hz hf hxk hpre hpp hob hou
    generalize prs pre = N at *
    gi_wp2_with (gi_at_builtin; refine wpListIn_append_own_at _ rfl _ _ 72 rfl u 76 i0 z0 2 16 Tryd.underlying72 hi0 hz0 hz1 hz2 hz3 (by omega) (.slice A2 N.length cp) N.length (ce epr N) rfl (hr.alloc _) ⟨V.heap.size, 0, none⟩ 1 1 [.int .i64 x.v, .int .i64 (x.t - x.f)] rfl rfl (cell_two_new _ _ _ _) (by simp [Value.oneCell']) (by unfold maxLen; omega) (by omega) (by simp; omega) ?_
                 intro v' w1 hown' hgrow _ hat
                 obtain ⟨own3, hk3, ho3⟩ := outE_step (ts := 72) (x := ((x.v, x.t - x.f) : Pr)) (by decide) HE.out.1 hr HE.out.2.1 HE.out.2.2.1 hown' hgrow hat
                 obtain ⟨g', cap', rfl⟩ := ownsRow_succ hown'
                 have hc1 : w1.cell? ⟨u, 0, none⟩ = some (.slice A2 N.length cp) := (HE.out.1.appended (by decide) hr (by omega) (Nat.le_refl _) hown' hgrow).1.cell
                 have hf1 : w1.frozen? ⟨u, 0, none⟩ = false := (HE.out.1.appended (by decide) hr (by omega) (Nat.le_refl _) hown' hgrow).1.frozen
                 have H3 := Lib.hid (And.intro hk3 (And.intro ho3 hgrow))
                 clear hk3 ho3 hgrow)
    refine ⟨own3, H3.out.1, by rw [HE.out.2.2.2.2.2]; exact H3.out.2.1, fun y hy => ?_⟩
    have hyl : y < V.heap.size := HE.out.2.2.2.2.1 y (HE.out.2.2.2.1 y hy)
    rw [H3.out.1.same y hyl]
    exact HE.out.2.2.2.1 y hy
  case stop =>
    rintro _ _ _ _ _ h
    exact h.elim
  case done =>
    rintro own xs V rfl ⟨⟨A2, cp, hb, hr, ho, hg⟩, hz⟩ hK hd hdv
    have hbc := hb.cell
    have hbl := hb.lt
    have hqo := HX.out.2.2.2.2.2.1
    have hokp := HX.out.2.2.2.2.1
    have hNl : (prs (stepsV L f t)).length = (stepsV L f t).length := by unfold prs; rw [List.length_map]
    have hst := hb.not_row (by decide) hr
    have hdW : ∀ g, A2.map (·.block) = some g → g ≠ W0.heap.size := by
      intro g hgg e
      refine hg g ?_ (e ▸ hd)
      cases A2 with
      | none => cases hgg
      | some ad => injection hgg with h; rw [← h]; rfl
    have hVb : Below W.heap.size W V := by
      have hB := HB.out.1
      have hBs := hB.size
      refine ⟨hK.os.trans hB.os, hK.tape.trans hB.tape, hK.output.trans hB.output, Nat.le_trans hBs hK.size, fun x hx => ?_⟩
      rw [hK.block x (by omega) (HO.out.2 x (by omega))]
      exact hB.block x hx
    have hbk := (OwnE.at EPR hr).2
    have HV := Lib.hid (And.intro hdW (And.intro hVb (And.intro hbk hK.size)))
    clear hdW hVb hbk
    have hSO := sortP_ok V u 76 cp A2 (prs (stepsV L f t)) (by omega) hr
    obtain ⟨M, hM⟩ : ∃ M, M = stepsV L f t := ⟨_, rfl⟩
    rw [← hM] at hqo hokp hNl hSO hbc hb hr hg hst hsl
    obtain ⟨N, hN⟩ : ∃ N, N = prs M := ⟨_, rfl⟩
    rw [← hN] at hNl hSO hbc hb hr hg hst
    have HD := Lib.hid (And.intro hK (And.intro hd (And.intro hdv (And.intro hb (And.intro hqo (And.intro hokp (And.intro hst (And.intro hM (And.intro hN hr)))))))))
    have HS := Lib.hid hSO
    have hNl2 : N.length ≤ 500 := by omega
    have HNl := Lib.hid hNl
    clear hK hd hdv hb hr ho hg hz hqo hokp hSO hst hM hN hNl
    go_upto_region 14 with (go_at_call 45; (with_reducible refine HS.out.mono ?_); rintro e w3 ⟨rfl, ⟨N', hp, hs, hr3⟩, hro⟩; have hlN : N'.length = N.length := hp.length_eq; have hbx : w3.heap[u]? = some (.cells #[.slice A2 N.length cp] 72 (0, 0)) := (hro.block u hbl (fun e => HD.out.2.2.2.2.2.2.1 (own_of e).symm)).trans HD.out.2.2.2.1; have hbc3 := one_at hbx; have H3 := Lib.hid (And.intro hp (And.intro hs (And.intro hr3 (And.intro hro (And.intro hbx hlN))))); clear hp hs hr3 hro hbx hlN)
    have hcb := cum_bd (N := N') (fun x hx => by
      have hxm := H3.out.1.mem_iff.1 hx
      rw [HD.out.2.2.2.2.2.2.2.2.1] at hxm
      obtain ⟨y, hy, rfl⟩ := List.mem_map.1 hxm
      have h := HD.out.2.2.2.2.2.1 y hy
      have := h.f0; have := h.ft; have := h.t1
      exact ⟨by dsimp only; omega, by dsimp only; omega⟩)
    have HC := Lib.hid hcb
    clear hcb
    refine wp_loop_ghost_k (I := fun n a wr => ∃ (k : Nat) (u18 u57 u58 u59 u60 u61 u62 u63 u64 u65 u66 u67 u68 u69 u70 u71 u72 u73 u74 u75 : Value), k ≤ N.length ∧ n = N.length - k ∧ a = { tmps := #[sv A L.length c, .int .i64 f, .int .i64 t, .int .i64 num, .int .i64 den, .pointer (some ⟨W.heap.size, 0, none⟩), undef, undef, undef, undef, .int .i64 0, .int .i64 0, .int .i64 0, .pointer (some ⟨u, 0, none⟩), undef, undef, .int .i64 (cumP (N'.take k)), undef, u18, .agg #[.slice A L.length c], .int .i64 f, .int .i64 t, .int .i64 0, .bool false, .int .i64 0, .bool false, undef, .bool false, .int .i64 num, .bool false, .bool false, .int .i64 num, .int .i64 den, .bool false, .bool false, .bool false, .int .i64 den, .bool false, .bool false, .agg #[.slice A L.length c], .int .i64 f, .int .i64 t, .func (.func 73) #[] #[.pointer (some ⟨p, 0, none⟩), .pointer (some ⟨p + 1, 0, none⟩), .pointer (some ⟨p + 2, 0, none⟩)], undef, undef, undef, undef, undef, undef, undef, undef, undef, .slice A2 N.length cp, .tuple #[], .slice A2 N.length cp, .int .i64 (N.length : Int), .int .i64 (k : Int), u57, u58, u59, u60, u61, u62, u63, u64, u65, u66, u67, u68, u69, u70, u71, u72, u73, u74, u75], defers := [{ target := .collected W0.heap.size, args := #[] }] } ∧ Below w3.heap.size w3 wr ∧ ∀ j, j ≤ k → cumP (N'.take j) * den < K) N.length ?_ ?_
    · refine ⟨0, undef, undef, undef, undef, undef, undef, undef, undef, undef, undef, undef, undef, undef, undef, undef, undef, undef, undef, undef, undef, Nat.zero_le _, by omega, rfl, Below.refl _ _, fun j hj => ?_⟩
      obtain rfl : j = 0 := by omega
      have hKpos : 0 < K := by rw [← HK.out]; exact Int.mul_pos (by omega) (by omega)
      show (0 : Int) * den < K
      omega
    · rintro n a wr ⟨k, u18, u57, u58, u59, u60, u61, u62, u63, u64, u65, u66, u67, u68, u69, u70, u71, u72, u73, u74, u75, hk, rfl, rfl, hbw, hlow⟩ J K2 hJ hK2
      have hlN := H3.out.2.2.2.2.2
      by_cases hlt : k < N.length
      · have hlti : (k : Int) < (N.length : Int) := by omega
        obtain ⟨x, hx⟩ : ∃ x, N'[k]? = some x := ⟨_, List.getElem?_eq_getElem (by omega)⟩
        obtain ⟨g, o, rfl, hg, d2⟩ := (OwnE.at EPR H3.out.2.2.1).1.2.2 k x hx
        have e0 := cell_keep2 hbw (d2 0 _ (by omega) rfl)
        have e1 := cell_keep2 hbw (d2 1 _ (by omega) rfl)
        rw [Nat.add_zero] at e0
        have hgr := Nat.lt_of_lt_of_le hg hbw.size
        have hnx := cum_take hx
        have b0 := HC.out k (by omega)
        have b1 := HC.out (k + 1) (by omega)
        rw [hnx] at b1
        obtain ⟨s, hs⟩ : ∃ s, s = cumP (N'.take k) := ⟨_, rfl⟩
        rw [← hs] at hnx b0 b1 ⊢
        obtain ⟨xv, xl⟩ := x
        dsimp only at e0 e1 hnx b1
        have hPb := mul_bd (a := s + xl) (b := den) (A := 500000000000000) (B := 1000) (by omega) (by omega) (by omega) (by omega)
        obtain ⟨P, hP⟩ : ∃ P, (s + xl) * den = P := ⟨_, rfl⟩
        rw [hP] at hPb
        have b0a := b0.1; have b0b := b0.2; have b1a := b1.1; have b1b := b1.2
        have hKe := HK.out
        have HR := Lib.hid (And.intro hbw (And.intro hlow (And.intro hx (And.intro hnx hlN))))
        clear hbw hlow hx hnx hlN d2 b0 b1 hs
        by_cases hge : K ≤ P
        · go_wp2_with (fail)
          obtain ⟨wf, hwf⟩ : ∃ wf, wf = wr.alloc (.cells #[.int .i64 xv, .int .i64 xl] 76) := ⟨_, rfl⟩
          rw [← hwf]
          have hwb : Below w3.heap.size w3 wf := by rw [hwf]; exact HR.out.1.trans ((below_box wr _).mono HR.out.1.size)
          have h3b : Below W.heap.size W w3 := HV.out.2.1.trans (H3.out.2.2.2.1.below HV.out.2.1.size fun g hgg => by have := HV.out.2.2.1 g hgg; omega)
          have hdv : wf.heap[W0.heap.size]? = some (.deferred (some [])) := by
            have h1 := HD.out.2.2.1
            have h2 := lt_of_heap h1
            rw [hwb.block _ (Nat.lt_of_lt_of_le h2 H3.out.2.2.2.1.size), H3.out.2.2.2.1.block _ h2 fun e => HV.out.1 _ e rfl]
            exact h1
          refine ⟨by simp, .inl ⟨_, _, rfl, run_takeDeferred hdv, ?_⟩⟩
          refine ⟨_, results_tmp2 rfl _ _ _, ⟨xv, rfl, ?_⟩, ?_⟩
          · rw [← HD.out.2.2.2.2.2.2.2.1]
            refine sorted_is HD.out.2.2.2.2.1 (N := N') (k := k) (u := (xv, xl)) (by rw [← HD.out.2.2.2.2.2.2.2.2.1]; exact H3.out.1) H3.out.2.1 HR.out.2.2.1 ?_ HR.out.2.1
            rw [HR.out.2.2.2.1]
            show K ≤ (s + xl) * den
            rw [hP]; exact hge
          · have hB := HB.out.1.size
            have hb2 := h3b.trans (hwb.mono h3b.size)
            refine ⟨hb2.os, hb2.tape, hb2.output, by simp; exact hb2.size, fun x hx => ?_⟩
            rw [World.putObj_heap_other (by omega)]
            exact hb2.block x hx
        · go_wp2_with (fail)
          have hks : (k : Int) + 1 = ((k + 1 : Nat) : Int) := rfl
          have hcs := HR.out.2.2.2.1.symm
          rw [hks, hcs]
          refine ⟨N.length - (k + 1), by omega, hJ _ _ _ ⟨k + 1, _, _, _, _, _, _, _, _, _, _, _, _, _, _, _, _, _, _, _, _, by omega, rfl, rfl, HR.out.1.trans ((below_box wr _).mono HR.out.1.size), fun j hj => ?_⟩⟩
          rcases Nat.lt_or_ge j (k + 1) with h1 | h1
          · exact HR.out.2.1 j (by omega)
          · obtain rfl : j = k + 1 := by omega
            rw [HR.out.2.2.2.1]
            show (s + xl) * den < K
            rw [hP]; omega
      · exfalso
        have h1 := sorted_all HD.out.2.2.2.2.1 (N := N') (by rw [← HD.out.2.2.2.2.2.2.2.2.1]; exact H3.out.1)
        have h2 := hlow k (Nat.le_refl _)
        rw [List.take_of_length_le (by omega)] at h2
        omega
end Sx
end Go.Proofs.YtionocafkaemiaaDoor
namespace Go.Proofs.YtionocafkaemiaaDoor
open Go.RowKit Go.Shelf Go.Lib
namespace Sx
attribute [local irreducible] wpQuiet

set_option maxRecDepth 100000 in
set_option maxHeartbeats 4000000 in
theorem quant_ok2 (A : Option Addr) (c : Nat) (L : List Sm) (f t num den : Int) (W : World) (hL : SAt W A c L) :
    Calls Tryd.prog 14 #[sv A L.length c, .int .i64 f, .int .i64 t, .int .i64 num, .int .i64 den] W fun e w' => e = .returned (.tuple #[.int .i64 (quantS L f t num den).1, .int .i64 (quantS L f t num den).2]) ∧ Below W.heap.size W w' := by
  have hb := below_box W (.cells #[.slice A L.length c] 24)
  have hn := one_at (new_at W (.cells #[.slice A L.length c] 24))
  have hAK := fun V (hV : Below W.heap.size W V) => ask_ok A c L f t V (hL.below hV (Nat.le_refl _))
  by_cases hask : askS L f t = 0
  · have hcov := ask_cov.1 hask
    have hx : quantS L f t num den = if num < 1 ∨ den < num ∨ 1000 < den then (0, 2) else (quantR (stepsV L f t) (num * (t - f)) den, 0) := by unfold quantS; rw [if_neg (by omega)]
    rw [hask] at hAK
    rw [hx]
    by_cases hg : num < 1 ∨ den < num ∨ 1000 < den
    · rw [if_pos hg]
      have HX := Lib.hid (And.intro hb hAK)
      clear hb hAK hL hask hcov hx
      by_cases g1 : num < 1
      · clear hg
        go_enter Tryd.func14, Tryd.ntmps14
        go_upto_region 1 with (fail)
        generalize W.alloc (.cells #[.slice A L.length c] 24) = V at *
        go_wp2_with (first | (go_at_call 40; refine (HX.out.2 _ HX.out.1).mono ?_; rintro e w1 ⟨rfl, hb1⟩; have H1 := Lib.hid (HX.out.1.trans (hb1.mono HX.out.1.size)); clear hb1))
        go_ret2
        exact ⟨rfl, H1.out⟩
      by_cases g2 : den < num
      · clear hg
        go_enter Tryd.func14, Tryd.ntmps14
        go_upto_region 1 with (fail)
        generalize W.alloc (.cells #[.slice A L.length c] 24) = V at *
        go_wp2_with (first | (go_at_call 40; refine (HX.out.2 _ HX.out.1).mono ?_; rintro e w1 ⟨rfl, hb1⟩; have H1 := Lib.hid (HX.out.1.trans (hb1.mono HX.out.1.size)); clear hb1))
        go_ret2
        exact ⟨rfl, H1.out⟩
      have g3 : 1000 < den := by omega
      clear hg
      go_enter Tryd.func14, Tryd.ntmps14
      go_upto_region 1 with (fail)
      generalize W.alloc (.cells #[.slice A L.length c] 24) = V at *
      go_wp2_with (first | (go_at_call 40; refine (HX.out.2 _ HX.out.1).mono ?_; rintro e w1 ⟨rfl, hb1⟩; have H1 := Lib.hid (HX.out.1.trans (hb1.mono HX.out.1.size)); clear hb1))
      go_ret2
      exact ⟨rfl, H1.out⟩
    · rw [if_neg hg]
      refine (quant_main A c L f t num den W hL hcov (by omega) (by omega) (by omega)).mono ?_
      rintro e w' ⟨⟨v, rfl, hv⟩, hb⟩
      refine ⟨?_, hb⟩
      rw [hv.unique (quantR_is (quant_ok hcov (num := num) (den := den) (by omega) (by omega)))]
  · have hx : quantS L f t num den = (0, askS L f t) := by unfold quantS; rw [if_pos hask]
    rw [hx]
    have HX := Lib.hid (And.intro hb hAK)
    generalize askS L f t = e at *
    clear hb hAK hL hx
    go_enter Tryd.func14, Tryd.ntmps14
    go_upto_region 1 with (fail)
    generalize W.alloc (.cells #[.slice A L.length c] 24) = V at *
    go_wp2_with (first | (go_at_call 40; refine (HX.out.2 _ HX.out.1).mono ?_; rintro e w1 ⟨rfl, hb1⟩; have H1 := Lib.hid (HX.out.1.trans (hb1.mono HX.out.1.size)); clear hb1))
    go_ret2
    exact ⟨rfl, H1.out⟩
end Sx
end Go.Proofs.YtionocafkaemiaaDoor
