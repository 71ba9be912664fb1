/- The program: fit. -/
import Derived.Test.YtnkkhbmbbkmfhaaJA10
import Derived.Test.YtnkkhbmbbkmfhaaJR7
import Derived.Test.YtnkkhbmbbkmfhaaK3
namespace Go.Proofs.Ytnkkhbmbbkmfhaa
open Go.RowKit Go.Sort Go.Lib
namespace Py

attribute [local irreducible] wpQuiet
theorem range_get {n i : Nat} (h : i < n) : (List.range n)[i]? = some i := by rw [List.getElem?_range h]
set_option maxRecDepth 100000 in
set_option maxHeartbeats 4000000 in
theorem fit_ok (t : Nat) (B0 : Option Addr) (d0 : Nat) (G : List PU) (A : Option Addr) (c : Nat) (K : List Nat) (n : Nat) (w : World) (ht : w.cell? ⟨t, 1, none⟩ = some (.slice B0 G.length d0)) (hG : UAt w B0 d0 G) (hK : IAt w A c (zs K)) (hb : ∀ k, k ∈ K → k < G.length) (_hn : n ≤ 100000) (hkl : K.length ≤ 100000) (_hgl : G.length ≤ 100000) :
    Calls Try.prog 50 #[.pointer (some ⟨t, 0, none⟩), .slice A K.length c, .int .i64 (n : Int)] w fun e w' => e = .returned (.bool (fitP G K n)) ∧ ∃ q, w' = w.drewN q := by
  have hcap := hG.2.1
  have hlc := hG.1
  have hdc := hK.1
  have hdm := hK.2.1
  rw [List.length_map] at hdc
  unfold maxLen at hcap hdm
  have HX := Lib.hid (And.intro hG (And.intro hK (And.intro hb ht)))
  clear hG hK hb ht
  have hf0 : fitP G K n = ((List.range K.length).drop 0).all fun i => decide (manyP G K i ≤ n) := rfl
  have HF0 := Lib.hid hf0
  clear hf0
  go_enter Try.func50, Try.ntmps50
  go_wp2_with (fail)
  go_loopw [14] (fun i wr => ∃ k : Nat, k ≤ K.length ∧ i = .int .i64 k ∧ (fitP G K n = ((List.range K.length).drop k).all fun i => decide (manyP G K i ≤ n)) ∧ ∃ q, wr = w.drewN q) (fun i _ => K.length - (intOf i).toNat)
  case atStart => exact ⟨0, Nat.zero_le _, rfl, HF0.out, 0, rfl⟩
  case round =>
    obtain ⟨i, hi, rfl, hf, q0, hq0⟩ := hrel
    obtain ⟨V, hV⟩ : ∃ V, V = wr := ⟨_, rfl⟩
    subst hV
    have hkk : IAt V A c (zs K) := by rw [hq0]; exact HX.out.2.1.drew q0
    have HQ0 := Lib.hid hq0
    clear hq0
    by_cases hlt : i < K.length
    · obtain ⟨x, hx⟩ : ∃ x, K[i]? = some x := ⟨_, List.getElem?_eq_getElem hlt⟩
      obtain ⟨g, o, rfl, hg, k0⟩ := iat_nat hkk hx
      have hxl := HX.out.2.2.1 x (List.mem_of_getElem? hx)
      rw [drop_next (range_get hlt), List.all_cons] at hf
      have hgx := kd_int K i hx
      have hm0 : manyP G K i = (K.take (i + 1)).countP fun j => decide ((use G x).f < (use G j).t) := by unfold manyP; rw [hgx]
      have hml : manyP G K i ≤ i + 1 := by rw [hm0]; exact Nat.le_trans List.countP_le_length (by rw [List.length_take]; omega)
      have HF := Lib.hid (And.intro hf (And.intro hm0 hx))
      clear hf hm0 hkk hx hgx
      go_wp2_with (fail)
      go_loopw [9, 24] (fun m j wr => ∃ q : Nat, q ≤ i + 1 ∧ j = .int .i64 q ∧ m = .int .i64 (((K.take q).countP fun j => decide ((use G x).f < (use G j).t) : Nat) : Int) ∧ ∃ q1, wr = w.drewN q1) (fun _ j _ => i + 1 - (intOf j).toNat)
      case atStart => exact ⟨0, Nat.zero_le _, rfl, rfl, _, HQ0.out⟩
      case round =>
        obtain ⟨q, hq, rfl, rfl, q1, hq1⟩ := hrel
        have hcl : ((K.take q).countP fun j => decide ((use G x).f < (use G j).t)) ≤ q := by
          refine Nat.le_trans List.countP_le_length ?_
          rw [List.length_take]; omega
        by_cases hqt : q < i + 1
        · obtain ⟨y, hy⟩ : ∃ y, K[q]? = some y := ⟨_, List.getElem?_eq_getElem (show q < K.length by omega)⟩
          have hkq : IAt wr (some ⟨g, o, none⟩) c (zs K) := by rw [hq1]; exact HX.out.2.1.drew q1
          have hgq : UAt wr B0 d0 G := by rw [hq1]; exact HX.out.1.drew q1
          have t1 : wr.cell? ⟨t, 1, none⟩ = some (.slice B0 G.length d0) := by rw [hq1]; exact HX.out.2.2.2
          obtain ⟨g', o', e, _, k1⟩ := iat_nat hkq hy
          injection e with e; injection e with e1 e2 _
          subst e1; subst e2
          have hyl := HX.out.2.2.1 y (List.mem_of_getElem? hy)
          obtain ⟨g2, o2, hB, hg2, d0', d1, d2⟩ := hgq.at hyl
          obtain ⟨g3, o3, hB2, _, c0, c1, c2⟩ := hgq.at hxl
          rw [hB] at hB2
          injection hB2 with hB2; injection hB2 with e1 e2 _
          subst e1; subst e2
          rw [hB] at t1
          have hnx : ((K.take (q + 1)).countP fun j => decide ((use G x).f < (use G j).t)) = ((K.take q).countP fun j => decide ((use G x).f < (use G j).t)) + if (use G x).f < (use G y).t then 1 else 0 := by
            rw [take_next hy, List.countP_append, List.countP_singleton]
            congr 1
            simp only [decide_eq_true_eq]
          have HN := Lib.hid (And.intro hnx hq1)
          clear hnx hq1 d0' d1 c0 c2 hy hkq hgq
          generalize ((K.take q).countP fun j => decide ((use G x).f < (use G j).t)) = m at *
          generalize (use G y).t = yt at *
          generalize hxf : (use G x).f = xf at *
          have HXF := Lib.hid hxf
          clear hxf
          go_upto_region 8 with (fail)
          go_quiet (fail)
          by_cases h1 : yt > xf
          · have h2 : xf < yt := h1
            have hnx := HN.out.1
            rw [if_pos h2] at hnx
            have HN2 := Lib.hid hnx
            clear hnx
            go_wp2
            go_roundw
            case rel => exact ⟨q + 1, by omega, by go_num, by rw [HN2.out]; first | done | rfl | go_num, _, by rw [HN.out.2, drew_drewN]⟩
            case measure => simp [intOf]; omega
          · have h2 : ¬ xf < yt := h1
            have hnx := HN.out.1
            rw [if_neg h2] at hnx
            have HN2 := Lib.hid hnx
            clear hnx
            go_wp2
            go_roundw
            case rel => exact ⟨q + 1, by omega, by go_num, by rw [HN2.out]; first | done | rfl | go_num, _, by rw [HN.out.2, drew_drewN]⟩
            case measure => simp [intOf]; omega
        · obtain rfl : q = i + 1 := by omega
          rw [← HF.out.2.1] at hcl ⊢
          have HQ1 := Lib.hid hq1
          clear hq1
          have HFF := Lib.hid HF.out.1
          generalize manyP G K i = m at *
          by_cases hmn : m ≤ n
          · have hmn2 : ¬ m > n := by omega
            have hv : fitP G K n = ((List.range K.length).drop (i + 1)).all fun i => decide (manyP G K i ≤ n) := by rw [HFF.out, decide_eq_true hmn, Bool.true_and]
            have HV := Lib.hid hv
            clear hv
            go_wp2
            go_roundw
            case rel => exact ⟨i + 1, by omega, by go_num, HV.out, _, HQ1.out⟩
            case measure => simp [intOf]; omega
          · have hv : fitP G K n = false := by rw [HFF.out, decide_eq_false hmn, Bool.false_and]
            have HV := Lib.hid hv
            clear hv
            go_wp2
            go_ret
            exact ⟨by rw [HV.out]; rfl, _, HQ1.out⟩
    · obtain rfl : i = K.length := by omega
      rw [List.drop_eq_nil_of_le (by simp)] at hf
      have HV := Lib.hid hf
      clear hf hkk
      go_wp2
      go_ret
      exact ⟨by rw [HV.out]; rfl, _, HQ0.out⟩
end Py
end Go.Proofs.Ytnkkhbmbbkmfhaa
