/- The specification: Fit, less. -/
import Derived.Test.YtnkkhbmbbkmfhaaJR6
import Derived.Test.YtnkkhbmbbkmfhaaK3
namespace Go.Proofs.Ytnkkhbmbbkmfhaa
open Go.RowKit
namespace Py

theorem kd_int (K : List Nat) (i : Nat) : ∀ {x : Nat}, K[i]? = some x → K.getD i 0 = x := by
  intro x h
  rw [List.getD_eq_getElem?_getD, h]; rfl
attribute [local irreducible] wpQuiet
set_option maxRecDepth 100000 in
set_option maxHeartbeats 4000000 in
theorem fitR_ok (A : Option Addr) (c : Nat) (G : List PU) (B : Option Addr) (d : Nat) (K : List Nat) (n : Nat) (w : World) (hG : UAt w A c G) (hK : IAt w B d (zs K)) (hb : ∀ k, k ∈ K → k < G.length) (_hn : n ≤ 100000) (hkl : K.length ≤ 100000) (_hgl : G.length ≤ 100000) :
    Calls Try.prog 33 #[.slice A G.length c, .slice B K.length d, .int .i64 (n : Int)] w fun e w' => e = .returned (.bool (fitV G K n)) ∧ w' = w := by
  have hcap := hG.2.1
  have hlc := hG.1
  have hdc := hK.1
  have hdm := hK.2.1
  rw [List.length_map] at hdc
  unfold maxLen at hcap hdm
  have HX := Lib.hid (And.intro hG (And.intro hK hb))
  clear hG hK hb
  go_enter Try.func33, Try.ntmps33
  go_wp2_with (fail)
  go_loop [7] (fun i => ∃ k : Nat, k ≤ K.length ∧ i = .int .i64 k ∧ fitV G K n = (K.drop k).all fun i => decide (many G K (use G i).f ≤ n)) (fun i => K.length - (intOf i).toNat)
  case atStart => exact ⟨0, Nat.zero_le _, rfl, rfl⟩
  case round =>
    obtain ⟨i, hi, rfl, hf⟩ := hrel
    by_cases hlt : i < K.length
    · obtain ⟨x, hx⟩ : ∃ x, K[i]? = some x := ⟨_, List.getElem?_eq_getElem hlt⟩
      obtain ⟨g, o, rfl, hg, k0⟩ := iat_nat HX.out.2.1 hx
      have hxl := HX.out.2.2 x (List.mem_of_getElem? hx)
      obtain ⟨g2, o2, rfl, hg2, c0, c1, c2⟩ := HX.out.1.at hxl
      rw [drop_next hx, List.all_cons] at hf
      have hm0 : (K.countP fun k => decide ((use G k).f ≤ (use G x).f) && decide ((use G x).f < (use G k).t)) = many G K (use G x).f := rfl
      generalize (use G x).f = t at *
      have hml : many G K t ≤ K.length := List.countP_le_length
      have HF := Lib.hid (And.intro hf hm0)
      clear hf hm0 c0 c2 hx
      go_wp2_with (fail)
      go_loop [9, 10] (fun m j => ∃ q : Nat, q ≤ K.length ∧ j = .int .i64 q ∧ m = .int .i64 (((K.take q).countP fun k => decide ((use G k).f ≤ t) && decide (t < (use G k).t) : Nat) : Int)) (fun _ j => K.length - (intOf j).toNat)
      case atStart => exact ⟨0, Nat.zero_le _, rfl, rfl⟩
      case round =>
        obtain ⟨q, hq, rfl, rfl⟩ := hrel
        have hcl : ((K.take q).countP fun k => decide ((use G k).f ≤ t) && decide (t < (use G k).t)) ≤ q := by
          refine Nat.le_trans List.countP_le_length ?_
          rw [List.length_take]; omega
        by_cases hqt : q < K.length
        · obtain ⟨y, hy⟩ : ∃ y, K[q]? = some y := ⟨_, List.getElem?_eq_getElem hqt⟩
          obtain ⟨g', o', e, _, k1⟩ := iat_nat HX.out.2.1 hy
          injection e with e; injection e with e1 e2 _
          subst e1; subst e2
          have hyl := HX.out.2.2 y (List.mem_of_getElem? hy)
          obtain ⟨g', o', e, _, d0, d1, d2⟩ := HX.out.1.at hyl
          injection e with e; injection e with e1 e2 _
          subst e1; subst e2
          have hnx : ((K.take (q + 1)).countP fun k => decide ((use G k).f ≤ t) && decide (t < (use G k).t)) = ((K.take q).countP fun k => decide ((use G k).f ≤ t) && decide (t < (use G k).t)) + if (use G y).f ≤ t ∧ t < (use G y).t then 1 else 0 := by
            rw [take_next hy, List.countP_append, List.countP_singleton]
            congr 1
            simp only [Bool.and_eq_true, decide_eq_true_eq]
          generalize ((K.take q).countP fun k => decide ((use G k).f ≤ t) && decide (t < (use G k).t)) = m at *
          generalize (use G y).f = yf at *
          generalize (use G y).t = yt at *
          clear d0 hy
          by_cases h1 : yf ≤ t
          · by_cases h2 : t < yt
            · rw [if_pos ⟨h1, h2⟩] at hnx
              have HN := Lib.hid hnx
              clear hnx
              go_wp2
              go_round
              case rel => exact ⟨q + 1, by omega, by go_num, by rw [HN.out]; go_num⟩
              case measure => simp [intOf]; omega
            · rw [if_neg (fun e => h2 e.2)] at hnx
              have HN := Lib.hid hnx
              clear hnx
              go_wp2
              go_round
              case rel => exact ⟨q + 1, by omega, by go_num, by rw [HN.out]; rfl⟩
              case measure => simp [intOf]; omega
          · rw [if_neg (fun e => h1 e.1)] at hnx
            have HN := Lib.hid hnx
            clear hnx
            go_wp2
            go_round
            case rel => exact ⟨q + 1, by omega, by go_num, by rw [HN.out]; rfl⟩
            case measure => simp [intOf]; omega
        · obtain rfl : q = K.length := by omega
          have hck : ((K.take K.length).countP fun k => decide ((use G k).f ≤ t) && decide (t < (use G k).t)) = many G K t := by rw [List.take_length]; exact HF.out.2
          rw [hck] at hcl ⊢
          clear hck
          have HFF := Lib.hid HF.out.1
          generalize many G K t = m at *
          by_cases hmn : m ≤ n
          · have hv : fitV G K n = (K.drop (i + 1)).all fun i => decide (many G K (use G i).f ≤ n) := by rw [HFF.out, decide_eq_true hmn, Bool.true_and]
            have HV := Lib.hid hv
            clear hv
            go_wp2
            go_round
            case rel => exact ⟨i + 1, by omega, by go_num, HV.out⟩
            case measure => simp [intOf]; omega
          · have hv : fitV G K n = false := by rw [HFF.out, decide_eq_false hmn, Bool.false_and]
            have HV := Lib.hid hv
            clear hv
            go_wp2
            go_ret
            exact ⟨by rw [HV.out]; rfl, rfl⟩
    · obtain rfl : i = K.length := by omega
      rw [List.drop_length] at hf
      have HV := Lib.hid hf
      clear hf
      go_wp2
      go_ret
      exact ⟨by rw [HV.out]; rfl, rfl⟩
set_option maxHeartbeats 4000000 in
theorem lessR_ok (A : Option Addr) (c : Nat) (K : List Nat) (B : Option Addr) (d : Nat) (M : List Nat) (w : World) (hK : IAt w A c (zs K)) (hM : IAt w B d (zs M)) :
    Calls Try.prog 52 #[.slice A K.length c, .slice B M.length d] w fun e w' => e = .returned (.bool (lessV K M)) ∧ ∃ q, w' = w.drewN q := by
  have hkc := hK.1
  have hkm := hK.2.1
  have hdc := hM.1
  have hdm := hM.2.1
  rw [List.length_map] at hdc hkc
  unfold maxLen at hkm hdm
  have HX := Lib.hid (And.intro hK hM)
  clear hK hM
  go_enter Try.func52, Try.ntmps52
  go_wp2_with (fail)
  go_loopw [5] (fun i wr => ∃ k : Nat, k ≤ K.length ∧ k ≤ M.length ∧ i = .int .i64 k ∧ lessV K M = lessV (K.drop k) (M.drop k) ∧ ∃ q, wr = w.drewN q) (fun i _ => K.length - (intOf i).toNat)
  case atStart => exact ⟨0, Nat.zero_le _, Nat.zero_le _, rfl, rfl, 0, rfl⟩
  case round =>
    obtain ⟨k, hk, hkM, rfl, hl, q, hq⟩ := hrel
    have hX := HX.out.1.drew q
    have hY := HX.out.2.drew q
    rw [← hq] at hX hY
    have HQ := Lib.hid hq
    clear hq
    by_cases h1 : k < K.length
    · by_cases h2 : k < M.length
      · obtain ⟨x, hx⟩ : ∃ x, K[k]? = some x := ⟨_, List.getElem?_eq_getElem h1⟩
        obtain ⟨y, hy⟩ : ∃ y, M[k]? = some y := ⟨_, List.getElem?_eq_getElem h2⟩
        obtain ⟨g, o, rfl, hg, k0⟩ := iat_nat hX hx
        obtain ⟨g2, o2, rfl, hg2, m0⟩ := iat_nat hY hy
        rw [drop_next hx, drop_next hy, lessV_cons] at hl
        clear hX hY hx hy
        by_cases he : x = y
        · rw [if_pos he] at hl
          have hb : ((x : Int) != (y : Int)) = false := by simp [he]
          have HL := Lib.hid hl
          clear hl he
          go_upto_region 4 with (fail)
          go_quiet (fail)
          go_wp2_with (fail)
          go_roundw
          case rel => exact ⟨k + 1, by omega, by omega, by go_num, HL.out, _, by rw [HQ.out, drew_drewN]⟩
          case measure => simp [intOf]; omega
        · rw [if_neg he] at hl
          have hb : ((x : Int) != (y : Int)) = true := by simp; omega
          have HL := Lib.hid hl
          clear hl he
          go_upto_region 4 with (fail)
          go_quiet (fail)
          go_upto_region 5 with (fail)
          go_quiet (fail)
          go_wp2
          go_ret
          exact ⟨by rw [HL.out]; first | done | rfl, _, by rw [HQ.out, drew_drewN, drew_drewN]⟩
      · have hM : M.drop k = [] := List.drop_eq_nil_of_le (by omega)
        have hv : lessV K M = false := by rw [hl, lessV_end (.inr hM), hM]; simp
        have HV := Lib.hid hv
        clear hv hl hM hX hY
        go_wp2
        go_ret
        exact ⟨by rw [HV.out, decide_eq_false (show ¬ (K.length < M.length) by omega)]; first | done | rfl, _, HQ.out⟩
    · have hK : K.drop k = [] := List.drop_eq_nil_of_le (by omega)
      have hv : lessV K M = decide (K.length < M.length) := by
        rw [hl, lessV_end (.inl hK), List.length_drop, List.length_drop, Bool.eq_iff_iff, decide_eq_true_eq, decide_eq_true_eq]; omega
      have HV := Lib.hid hv
      clear hv hl hK hX hY
      go_wp2
      go_ret
      exact ⟨by rw [HV.out]; rfl, _, HQ.out⟩
end Py
end Go.Proofs.Ytnkkhbmbbkmfhaa
