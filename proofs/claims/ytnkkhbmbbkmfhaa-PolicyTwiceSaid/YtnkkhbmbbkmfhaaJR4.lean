/- The specification: Gaps, aged, in, Kept. -/
import Derived.Test.YtnkkhbmbbkmfhaaJR3
import Derived.Test.YtnkkhbmbbkmfhaaK1
namespace Go.Proofs.Ytnkkhbmbbkmfhaa
open Go.RowKit
namespace Py

/-- What a call that returns gaps says. -/
def GapsOut (w : World) (L : List PU) (e : Ending) (w' : World) : Prop :=
  (checkV L ≠ 0 → e = .returned (.tuple #[.slice none 0 0, .int .i64 (checkV L)])) ∧ (checkV L = 0 → ∃ A' c', e = .returned (.tuple #[.slice A' (gapsV L).length c', .int .i64 0]) ∧ EAt eu 3 w' A' c' (gapsV L)) ∧ Below w.heap.size w w'
set_option maxHeartbeats 2000000 in
theorem GapsR_ok (A : Option Addr) (c : Nat) (L : List PU) (W : World) (hL : UAt W A c L) : Calls Try.prog 20 #[.slice A L.length c] W (GapsOut W L) := by
  have hX := checkR_ok A c L W hL
  by_cases hv : checkV L = 0
  · rw [hv] at hX
    have hok := (checkV_ok L).1 hv
    have hg := fun q => gapsR_ok A c L _ (hL.drew q) hok.len
    have HX := Lib.hid hX
    have HG := Lib.hid hg
    have HV := Lib.hid hv
    clear hL hX hv hg
    go_enter Try.func20, Try.ntmps20
    go_wp2_with (first | (go_at_call 16; refine HX.out.mono ?_; rintro e w' ⟨rfl, q, rfl⟩) | (go_at_call 49; refine (HG.out _).mono ?_; rintro e w' ⟨A', c', rfl, hr, hb⟩; have HR := Lib.hid (And.intro hr hb); clear hr hb))
    go_ret2
    exact ⟨fun e => absurd HV.out e, fun _ => ⟨A', c', rfl, (OwnE.at EU HR.out.1).1⟩, (below_drewN (Below.refl _ _) q).trans HR.out.2⟩
  · have hne : (checkV L != 0) = true := by simp [hv]
    have HX := Lib.hid hX
    have HV := Lib.hid hv
    clear hL hX hv
    unfold GapsOut
    generalize checkV L = cv at *
    go_enter Try.func20, Try.ntmps20
    go_wp2_with (first | (go_at_call 16; refine HX.out.mono ?_; rintro e w' ⟨rfl, q, rfl⟩))
    go_ret2
    exact ⟨fun _ => rfl, fun e => absurd e HV.out, below_drewN (Below.refl _ _) _⟩

attribute [local irreducible] wpQuiet
set_option maxRecDepth 100000 in
set_option maxHeartbeats 4000000 in
theorem agedR_ok (A : Option Addr) (c : Nat) (L : List PU) (h w age : Int) (W : World) (hU : UAt W A c L) (hL : OkL L) (hc : OkC h w) (ha : 0 ≤ age) (ha1 : age ≤ 1000000000) :
    Calls Try.prog 42 #[.slice A L.length c, cbx h w, .int .i64 age] W fun e w' => e = .returned (.int .i64 (agedV L h w age)) ∧ Below W.heap.size W w' := by
  have hcap := hU.2.1
  have hlc := hU.1
  have hlen := hL.len
  unfold maxLen at hcap
  have hb := below_box W (.cells #[.int .i64 h, .int .i64 w] 24)
  have hsz : (W.alloc (.cells #[.int .i64 h, .int .i64 w] 24)).heap.size = W.heap.size + 1 := by simp
  have hnb : (W.alloc (.cells #[.int .i64 h, .int .i64 w] 24)).heap[W.heap.size]? = some (.cells #[.int .i64 h, .int .i64 w] 24 (0, 0)) := by rw [heapAlloc, if_pos rfl]
  have hX := hU.below hb (Nat.le_refl _)
  have HX := Lib.hid (And.intro hX (And.intro hb (And.intro hsz hnb)))
  have h0 := hc.h0; have h1 := hc.h1; have w0 := hc.w0; have w1 := hc.w1
  have HC := Lib.hid (And.intro hL hc)
  have hall := agedK_all L h w age
  have hz := agedK_0 L h w age
  have HK := Lib.hid (And.intro hall hz)
  clear hU hb hsz hnb hX hL hc hall hz
  go_enter Try.func42, Try.ntmps42
  go_upto_region 1 with (fail)
  generalize hV : W.alloc (.cells #[.int .i64 h, .int .i64 w] 24) = V at *
  obtain ⟨b, hbe⟩ : ∃ b, b = W.heap.size := ⟨_, rfl⟩
  rw [← hbe] at HX ⊢
  have HW := Lib.hid (And.intro hV hbe)
  clear hV hbe
  have z0 : V.cell? ⟨b, 0, none⟩ = some (.int .i64 h) := by rw [cell_of_row _ _ _ _ _ _ HX.out.2.2.2]; rfl
  have z1 : V.cell? ⟨b, 1, none⟩ = some (.int .i64 w) := by rw [cell_of_row _ _ _ _ _ _ HX.out.2.2.2]; rfl
  go_wp2_with (fail)
  go_loopw [7, 8] (fun n i wr => ∃ k : Nat, k ≤ L.length ∧ i = .int .i64 k ∧ n = .int .i64 (agedK L h w age k) ∧ ∃ q, wr = V.drewN q) (fun _ i _ => L.length - (intOf i).toNat)
  case atStart => exact ⟨0, Nat.zero_le _, rfl, by rw [HK.out.2], 0, rfl⟩
  case round =>
    obtain ⟨k, hk, rfl, rfl, q, hq⟩ := hrel
    have x0 : wr.cell? ⟨b, 0, none⟩ = some (.int .i64 h) := by rw [hq]; exact z0
    have x1 : wr.cell? ⟨b, 1, none⟩ = some (.int .i64 w) := by rw [hq]; exact z1
    have hX := HX.out.1.drew q
    rw [← hq] at hX
    have HQ := Lib.hid hq
    clear hq z0 z1
    by_cases hlt : k < L.length
    · have hF := firstR_ok A c L k hlt wr hX
      have hN := fun q => nextR_ok A c L k hlt (wr.drewN q) (hX.drew q)
      have hE := fun q => endR_ok A c L (wr.drewN q) (hX.drew q)
      have hnb := agedK_bd HC.out.1 HC.out.2 ha k hk
      have hnx := agedK_next hlt h w age
      have htb := term_bd HC.out.1 HC.out.2 ha hlt
      have hte : termA L h w age k = match nextOf (use L k).p (L.drop (k + 1)) with | some v => gapC h w age ⟨(use L k).p, (use L k).t, v.f⟩ | none => tailC h age (endV L) (use L k).t := rfl
      have heb := endV_ge (use_mem hlt)
      have heb1 := endV_le HC.out.1.ok
      have hub := use_bd HC.out.1 hlt
      have hns := nextI_spec L k
      have hmu := fun m (hm : m < L.length) => use_bd HC.out.1 hm
      generalize hfb : firstB L k = fb at *
      generalize hnk : agedK L h w age k = n at *
      generalize htk : termA L h w age k = tk at *
      generalize hEe : endV L = en at *
      have HEN := Lib.hid hEe
      clear hEe
      obtain ⟨g, o, rfl, hg, c0, c1, c2⟩ := hX.at hlt
      obtain ⟨n1, hn1⟩ : ∃ n1, n1 = n + (if fb = true then w else 0) := ⟨_, rfl⟩
      rw [← hn1] at hnx
      have hn1b : 0 ≤ n1 ∧ n1 ≤ (k : Int) * 1002000000000 + 1000000000 := by rw [hn1]; split <;> omega
      have HF := Lib.hid hF
      have HN := Lib.hid hN
      have HE := Lib.hid hE
      have HNX := Lib.hid (And.intro hnx (And.intro hfb (And.intro hnk htk)))
      have HMU := Lib.hid hmu
      clear hF hN hE hnx hfb hnk htk hmu
      have hfirst : ∀ P : Prop, ((fb = true ∧ n + w = n1) → P) → ((fb = false ∧ n = n1) → P) → P := fun P a b => by
        cases fb with
        | true => exact a ⟨rfl, by rw [hn1]; simp⟩
        | false => exact b ⟨rfl, by rw [hn1]; simp⟩
      clear hn1
      rcases hns with ⟨s1, s2⟩ | ⟨m, s1, s2, s3, s4⟩
      · rw [s1] at hte
        dsimp only at hte
        rw [s2] at HN
        unfold tailC at hte
        generalize htt : (use L k).t = t at *
        obtain ⟨mn, hmn⟩ : ∃ mn, mn = min age (en - t) := ⟨_, rfl⟩
        rw [← hmn] at hte
        have hq : (¬ en - t < age ∧ age * h = tk) ∨ (en - t < age ∧ (en - t) * h = tk) := by
          rcases Int.lt_or_le (en - t) age with h1 | h1
          · have : mn = en - t := by omega
            rw [this] at hte; exact .inr ⟨h1, hte.symm⟩
          · have : mn = age := by omega
            rw [this] at hte; exact .inl ⟨by omega, hte.symm⟩
        have HM := Lib.hid s1
        clear hte s1 s2 hmn c0 c1
        refine hfirst _ ?_ ?_
        all_goals
          rintro ⟨rfl, e1⟩
          go_upto_region 10 with (first
            | (go_at_call 53; refine HF.out.mono ?_; rintro e w1 ⟨rfl, q1, rfl⟩)
            | (go_at_call 63; refine (HN.out _).mono ?_; rintro e w2 ⟨rfl, q2, rfl⟩))
          obtain ⟨V2, hV2⟩ : ∃ V2, V2 = wr.drewN (q1 + q2) := ⟨_, rfl⟩
          rw [← hV2]
          have hX2 : UAt V2 (some ⟨g, o, none⟩) c L := by rw [hV2]; exact hX.drew _
          have hE2 := fun n => endR_ok _ c L (V2.drewN n) (hX2.drew n)
          rw [HEN.out] at hE2
          have HE2 := Lib.hid hE2
          clear hX2 hE2
          have y0 : V2.cell? ⟨b, 0, none⟩ = some (.int .i64 h) := by rw [hV2]; exact x0
          have y2 : V2.cell? ⟨g, o + k * 3 + 2, none⟩ = some (.int .i64 t) := by rw [hV2]; exact c2
          have HV2 := Lib.hid hV2
          clear hV2 x0 x1 c2
          rcases hq with ⟨h3, h4⟩ | ⟨h3, h4⟩
          · go_quiet ((go_at_call 64; exact Calls.quiet_of_same (HE2.out _)))
            go_wp2_with (fail)
            go_roundw
            case rel => exact ⟨k + 1, by omega, by go_num, by rw [HNX.out.1]; first | done | (rw [if_neg h3, h4]; go_num), _, by rw [HV2.out, HQ.out, drew_drewN, drew_drewN]⟩
            case measure => simp [intOf]; omega
          · go_quiet ((go_at_call 64; exact Calls.quiet_of_same (HE2.out _)))
            go_wp2_with (fail)
            go_roundw
            case rel => exact ⟨k + 1, by omega, by go_num, by rw [HNX.out.1]; first | done | (rw [if_pos h3, h4]; go_num), _, by rw [HV2.out, HQ.out, drew_drewN, drew_drewN]⟩
            case measure => simp [intOf]; omega
      · obtain ⟨g', o', hgo, _, y0, y1, y2⟩ := hX.at s3
        injection hgo with hgo; injection hgo with hg1 hg2 _
        subst hg1; subst hg2
        rw [s1] at hte
        rw [s4] at HN
        have hmb := HMU.out m s3
        dsimp only at hte
        unfold gapC at hte
        dsimp only at hte
        have hgo := term_ok HC.out.1 hlt s3 s1
        have hgt := hgo.ft
        dsimp only at hgt
        have HM := Lib.hid s1
        clear s1 s4 c0 c1 y0 y2 heb heb1 hgo
        generalize (use L k).t = t at *
        generalize (use L m).f = u at *
        have hq : (u - t ≤ age ∧ (u - t) * h = tk) ∨ (¬ u - t ≤ age ∧ age * h + w = tk) := by
          by_cases h1 : u - t ≤ age
          · rw [if_pos h1] at hte; exact .inl ⟨h1, hte.symm⟩
          · rw [if_neg h1] at hte; exact .inr ⟨h1, hte.symm⟩
        clear hte
        refine hfirst _ ?_ ?_
        all_goals
          rintro ⟨rfl, e1⟩
          go_upto_region 11 with (first
            | (go_at_call 53; refine HF.out.mono ?_; rintro e w1 ⟨rfl, q1, rfl⟩)
            | (go_at_call 63; refine (HN.out _).mono ?_; rintro e w2 ⟨rfl, q2, rfl⟩))
          obtain ⟨V2, hV2⟩ : ∃ V2, V2 = wr.drewN (q1 + q2) := ⟨_, rfl⟩
          rw [← hV2]
          have z0 : V2.cell? ⟨b, 0, none⟩ = some (.int .i64 h) := by rw [hV2]; exact x0
          have z1 : V2.cell? ⟨b, 1, none⟩ = some (.int .i64 w) := by rw [hV2]; exact x1
          have d2 : V2.cell? ⟨g, o + k * 3 + 2, none⟩ = some (.int .i64 t) := by rw [hV2]; exact c2
          have d1 : V2.cell? ⟨g, o + m * 3 + 1, none⟩ = some (.int .i64 u) := by rw [hV2]; exact y1
          have HV2 := Lib.hid hV2
          clear hV2 x0 x1 c2 y1
          rcases hq with ⟨h3, h4⟩ | ⟨h3, h4⟩
          · go_quiet (fail)
            go_upto_region 12 with (fail)
            go_quiet (fail)
            go_wp2_with (fail)
            go_roundw
            case rel => exact ⟨k + 1, by omega, by go_num, by rw [HNX.out.1], _, by rw [HV2.out, HQ.out, drew_drewN, drew_drewN]⟩
            case measure => simp [intOf]; omega
          · obtain ⟨x, hx⟩ : ∃ x, x = age * h := ⟨_, rfl⟩
            have q3 : age * h = x := hx.symm
            rw [q3] at h4
            have hxb : 0 ≤ x ∧ x ≤ 1000000000000 := by rw [hx]; exact mul_bd ha h0 ha1 h1
            clear hx
            go_quiet (fail)
            go_wp2_with (fail)
            go_roundw
            case rel => exact ⟨k + 1, by omega, by go_num, by rw [HNX.out.1, ← h4]; first | done | rfl | (congr 1; omega), _, by rw [HV2.out, HQ.out, drew_drewN, drew_drewN]⟩
            case measure => simp [intOf]; omega
    · obtain rfl : k = L.length := by omega
      clear hX
      rw [HK.out.1]
      go_wp2
      go_ret
      exact ⟨rfl, by rw [HQ.out, ← HW.out.2]; exact below_drewN HX.out.2.1 _⟩
set_option maxHeartbeats 2000000 in
theorem inL_ok (A : Option Addr) (c : Nat) (K : List Nat) (n : Nat) (w : World) (h : IAt w A c (zs K)) :
    Calls Try.prog 54 #[.slice A K.length c, .int .i64 (n : Int)] w fun e w' => e = .returned (.bool (decide (n ∈ K))) ∧ w' = w := by
  have hcap := h.2.1
  have hlc := h.1
  rw [List.length_map] at hlc
  unfold maxLen at hcap
  have HX := Lib.hid h
  clear h
  go_enter Try.func54, Try.ntmps54
  go_wp2_with (fail)
  go_loop [5] (fun i => ∃ k : Nat, k ≤ K.length ∧ i = .int .i64 k ∧ n ∉ K.take k) (fun i => K.length - (intOf i).toNat)
  case atStart => exact ⟨0, Nat.zero_le _, rfl, by simp⟩
  case round =>
    obtain ⟨k, hk, rfl, hno⟩ := hrel
    by_cases hlt : k < K.length
    · obtain ⟨x, hx⟩ : ∃ x, K[k]? = some x := ⟨_, List.getElem?_eq_getElem hlt⟩
      obtain ⟨g, o, rfl, hg, c0⟩ := iat_nat HX.out hx
      by_cases he : x = n
      · have hb : ((x : Int) == (n : Int)) = true := by simp [he]
        have hm : n ∈ K := by rw [← he]; exact List.mem_of_getElem? hx
        have HM := Lib.hid hm
        clear hm hno hx he
        go_wp2
        go_ret
        exact ⟨by rw [decide_eq_true HM.out]; rfl, rfl⟩
      · have hb : ((x : Int) == (n : Int)) = false := by rw [beq_eq_false_iff_ne]; omega
        have hm : n ∉ K.take (k + 1) := by
          rw [take_next hx, List.mem_append, List.mem_singleton]
          rintro (h | h)
          · exact hno h
          · exact he h.symm
        have HM := Lib.hid hm
        clear hm hno hx he
        go_wp2
        go_round
        case rel => exact ⟨k + 1, by omega, by go_num, HM.out⟩
        case measure => simp [intOf]; omega
    · obtain rfl : k = K.length := by omega
      rw [List.take_length] at hno
      have HM := Lib.hid hno
      clear hno
      go_wp2
      go_ret
      exact ⟨by rw [decide_eq_false HM.out]; rfl, rfl⟩
end Py
end Go.Proofs.Ytnkkhbmbbkmfhaa
