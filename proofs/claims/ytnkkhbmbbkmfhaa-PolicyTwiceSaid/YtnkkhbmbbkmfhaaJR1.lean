/- The specification: from, Check. -/
import Derived.Test.YtnkkhbmbbkmfhaaJM1
import Derived.Test.YtnkkhbmbbkmfhaaK0
import Derived.Test.YtnkkhbmbbkmfhaaProg
namespace Go.Proofs.Ytnkkhbmbbkmfhaa
open Go.RowKit
namespace Py

def inR (n a b : Int) : Bool := decide (a ≤ n) && decide (n ≤ b)
theorem fromR_ok (n a b : Int) (w : World) : Calls Try.prog 46 #[.int .i64 n, .int .i64 a, .int .i64 b] w fun e w' => e = .returned (.bool (inR n a b)) ∧ w' = w := by
  unfold inR
  by_cases h : a ≤ n
  · have e1 : n ≥ a := h
    go_enter Try.func46, Try.ntmps46
    go_wp2
    go_ret
    exact ⟨by simp [h], rfl⟩
  · have e1 : ¬ n ≥ a := h
    go_enter Try.func46, Try.ntmps46
    go_wp2
    go_ret
    exact ⟨by rw [decide_eq_false (show ¬ a ≤ n by omega)]; rfl, rfl⟩
theorem badU_in (u : PU) : badU u = (decide (u.p < 0) || decide (1024 ≤ u.p) || !inR u.f 0 1000000000 || !inR u.t 0 1000000000 || decide (u.t ≤ u.f)) := by
  unfold badU inR
  have e1 : decide (u.f < 0) = !decide (0 ≤ u.f) := by by_cases h : u.f < 0 <;> simp [h] <;> omega
  have e2 : decide (1000000000 < u.f) = !decide (u.f ≤ 1000000000) := by by_cases h : u.f ≤ 1000000000 <;> simp [h] <;> omega
  have e3 : decide (u.t < 0) = !decide (0 ≤ u.t) := by by_cases h : u.t < 0 <;> simp [h] <;> omega
  have e4 : decide (1000000000 < u.t) = !decide (u.t ≤ 1000000000) := by by_cases h : u.t ≤ 1000000000 <;> simp [h] <;> omega
  rw [e1, e2, e3, e4, Bool.not_and, Bool.not_and]
  simp only [Bool.or_assoc]
theorem UAt.drew {w : World} {A : Option Addr} {c : Nat} {L : List PU} (h : UAt w A c L) (q : Nat) : UAt (w.drewN q) A c L := h
theorem drew_drewN (w : World) (a b : Nat) : (w.drewN a).drewN b = w.drewN (a + b) := World.drewN_drewN ..
attribute [local irreducible] wpQuiet
set_option maxRecDepth 100000 in
set_option maxHeartbeats 4000000 in
theorem checkR_ok (A : Option Addr) (c : Nat) (L : List PU) (w : World) (h : UAt w A c L) :
    Calls Try.prog 16 #[.slice A L.length c] w fun e w' => e = .returned (.int .i64 (checkV L)) ∧ ∃ q, w' = w.drewN q := by
  have hcap := h.2.1
  have hlc := h.1
  unfold maxLen at hcap
  have HX := Lib.hid h
  clear h
  by_cases hL : 200 < L.length
  · have hv : checkV L = 3 := by unfold checkV; rw [if_pos hL]
    have HV := Lib.hid hv
    have e500 : (200 : Int) < (L.length : Int) := by omega
    clear hv
    go_enter Try.func16, Try.ntmps16
    go_wp2
    go_ret
    exact ⟨by rw [HV.out]; rfl, 0, rfl⟩
  · have hv : checkV L = if L.any badU then 7 else if Good L then 0 else 6 := by unfold checkV; rw [if_neg hL]
    have HV := Lib.hid hv
    have e500 : ¬ (200 : Int) < (L.length : Int) := by omega
    clear hv
    go_enter Try.func16, Try.ntmps16
    go_wp2_with (fail)
    go_loopw [3] (fun i wr => ∃ k : Nat, k ≤ L.length ∧ i = .int .i64 k ∧ L.any badU = (L.drop k).any badU ∧ ∃ q, wr = w.drewN q) (fun i _ => L.length - (intOf i).toNat)
    case atStart => exact ⟨0, Nat.zero_le _, rfl, rfl, 0, rfl⟩
    case round =>
      obtain ⟨k, hk, rfl, hall, q, hq⟩ := hrel
      have hX := HX.out.drew q
      rw [← hq] at hX
      have HQ := Lib.hid hq
      clear hq
      by_cases hlt : k < L.length
      · obtain ⟨g, o, rfl, hg, d0, d1, d2⟩ := hX.at hlt
        clear hX
        rw [drop_next (use_get hlt), List.any_cons] at hall
        have hbad := badU_in (use L k)
        generalize use L k = b at *
        obtain ⟨p, f, t⟩ := b
        dsimp only at d0 d1 d2 hbad
        have hf := fun W => fromR_ok f 0 1000000000 W
        have ht := fun W => fromR_ok t 0 1000000000 W
        generalize inR f 0 1000000000 = bf at *
        generalize inR t 0 1000000000 = bt at *
        have hb : badU ⟨p, f, t⟩ = true → checkV L = 7 := fun e => by rw [HV.out, hall, e]; rfl
        have hgd : badU ⟨p, f, t⟩ = false → L.any badU = (L.drop (k + 1)).any badU := fun e => by rw [hall, e, Bool.false_or]
        generalize badU ⟨p, f, t⟩ = bb at *
        have HB := Lib.hid (And.intro hb hgd)
        have HF := Lib.hid hf
        have HT := Lib.hid ht
        clear hall hb hgd hf ht
        by_cases h0 : p < 0
        · have hbt : bb = true := by rw [hbad]; simp [h0]
          have HBB := Lib.hid hbt
          clear hbad hbt
          go_upto_region 6 with (fail)
          go_quiet (fail)
          go_wp2
          go_ret
          exact ⟨by rw [HB.out.1 HBB.out]; rfl, _, by rw [HQ.out, drew_drewN]⟩
        by_cases h1 : 1024 ≤ p
        · have h1' : p ≥ 1024 := h1
          have hbt : bb = true := by rw [hbad]; simp [h1]
          have HBB := Lib.hid hbt
          clear hbad hbt
          go_upto_region 6 with (fail)
          go_quiet (fail)
          go_wp2
          go_ret
          exact ⟨by rw [HB.out.1 HBB.out]; rfl, _, by rw [HQ.out, drew_drewN]⟩
        have h1' : ¬ p ≥ 1024 := h1
        cases bf with
        | false =>
          have hbt : bb = true := by rw [hbad]; simp
          have HBB := Lib.hid hbt
          clear hbad hbt
          go_upto_region 6 with (fail)
          go_quiet ((go_at_call 46; with_reducible exact Calls.quiet_of_same (HF.out _)))
          go_wp2
          go_ret
          exact ⟨by rw [HB.out.1 HBB.out]; rfl, _, by rw [HQ.out, drew_drewN]⟩
        | true =>
          cases bt with
          | false =>
            have hbt : bb = true := by rw [hbad]; simp
            have HBB := Lib.hid hbt
            clear hbad hbt
            go_upto_region 6 with (fail)
            go_quiet (first | (go_at_call 46; with_reducible exact Calls.quiet_of_same (HF.out _)) | (go_at_call 46; with_reducible exact Calls.quiet_of_same (HT.out _)))
            go_wp2
            go_ret
            exact ⟨by rw [HB.out.1 HBB.out]; rfl, _, by rw [HQ.out, drew_drewN]⟩
          | true =>
            by_cases h2 : t ≤ f
            · have h2' : f ≥ t := h2
              have hbt : bb = true := by rw [hbad]; simp [h2]
              have HBB := Lib.hid hbt
              clear hbad hbt
              go_upto_region 6 with (fail)
              go_quiet (first | (go_at_call 46; with_reducible exact Calls.quiet_of_same (HF.out _)) | (go_at_call 46; with_reducible exact Calls.quiet_of_same (HT.out _)))
              go_wp2
              go_ret
              exact ⟨by rw [HB.out.1 HBB.out]; rfl, _, by rw [HQ.out, drew_drewN]⟩
            · have h2' : ¬ f ≥ t := h2
              have hbt : bb = false := by rw [hbad]; simp [h0, h1, h2]
              have HBB := Lib.hid hbt
              clear hbad hbt
              go_upto_region 6 with (fail)
              go_quiet (first | (go_at_call 46; with_reducible exact Calls.quiet_of_same (HF.out _)) | (go_at_call 46; with_reducible exact Calls.quiet_of_same (HT.out _)))
              go_wp2_with (fail)
              go_roundw
              case rel => exact ⟨k + 1, by omega, by go_num, HB.out.2 HBB.out, _, by rw [HQ.out, drew_drewN]⟩
              case measure => simp [intOf]; omega
      · obtain rfl : k = L.length := by omega
        have hbad : L.any badU = false := by rw [hall, List.drop_length]; rfl
        have hfail : ∀ m, ¬ Good (L.take m) → checkV L = 6 := fun m hm => check_fail (by omega) hbad hm
        have hgood : Good L → checkV L = 0 := fun hg => by rw [check_good (by omega) hbad, if_pos hg]
        have hnext := fun m (hm : m < L.length) (hg : Good (L.take m)) => good_next hm hg
        have HH := Lib.hid (And.intro hfail (And.intro hgood hnext))
        clear hall hbad hfail hgood hnext
        go_wp2_with (fail)
        go_loopw [4] (fun i wr => ∃ m : Nat, m ≤ L.length ∧ i = .int .i64 m ∧ Good (L.take m) ∧ ∃ q, wr = w.drewN q) (fun i _ => L.length - (intOf i).toNat)
        case atStart => exact ⟨0, Nat.zero_le _, rfl, by simp [Good], q, HQ.out⟩
        case round =>
          obtain ⟨m, hm, rfl, hg, q2, hq⟩ := hrel
          have hX := HX.out.drew q2
          rw [← hq] at hX
          have HQ := Lib.hid hq
          clear hq
          by_cases hlt : m < L.length
          · have hn := HH.out.2.2 m hlt hg
            obtain ⟨g, o, rfl, hgl, d0, d1, d2⟩ := hX.at hlt
            have hN := fun (hb : ¬ Good (L.take (m + 1))) => HH.out.1 _ hb
            have HN := Lib.hid (And.intro hn hN)
            clear hn hN hX
            generalize hu : use L m = u at *
            have HU := Lib.hid hu
            clear hu
            obtain ⟨p, f, t⟩ := u
            dsimp only at d0 d1 d2 HN
            have HG := Lib.hid hg
            clear hg
            go_upto_region 11 with (fail)
            go_cut [109] from 66 to 138 (fun v wx => (∃ q, wx = w.drewN q) ∧ ∃ b : Bool, v = .bool b ∧ (b = true ↔ ¬ (0 < m → Ord2 (use L (m - 1)) ⟨p, f, t⟩)))
            case first =>
              rcases Nat.eq_zero_or_pos m with hm0 | hm0
              · subst hm0
                go_quiet (fail)
                go_wp2_with (fail)
                go_meet
                exact ⟨⟨_, by rw [HQ.out, drew_drewN]⟩, false, rfl, by simp⟩
              · obtain ⟨m1, rfl⟩ : ∃ m1 : Nat, m = m1 + 1 := ⟨m - 1, by omega⟩
                have hX := HX.out.drew q2
                rw [← HQ.out] at hX
                obtain ⟨g', o', hgo, _, c0, c1, c2⟩ := hX.at (j := m1) (by omega)
                injection hgo with hgo; injection hgo with hg1 hg2 _
                subst hg1; subst hg2
                generalize hub : use L m1 = b at c0 c1 c2
                have HUB := Lib.hid hub
                clear hub
                obtain ⟨bp, bf, bt⟩ := b
                dsimp only at c0 c1 c2
                clear hX c2
                by_cases h1 : f < bf
                · go_quiet (fail)
                  go_wp2_with (fail)
                  go_meet
                  exact ⟨⟨_, by rw [HQ.out, drew_drewN]⟩, true, rfl, by show _ ↔ ¬ (_ → Ord2 (use L m1) _); rw [HUB.out]; unfold Ord2; dsimp only; simp; omega⟩
                · by_cases h2 : f = bf
                  · have hb2 : (f == bf) = true := by simp [h2]
                    have H2 := Lib.hid h2
                    clear h2
                    by_cases h3 : p ≤ bp
                    · go_quiet (fail)
                      go_wp2_with (fail)
                      go_meet
                      exact ⟨⟨_, by rw [HQ.out, drew_drewN]⟩, true, rfl, by have := H2.out; show _ ↔ ¬ (_ → Ord2 (use L m1) _); rw [HUB.out]; unfold Ord2; dsimp only; simp; omega⟩
                    · go_quiet (fail)
                      go_wp2_with (fail)
                      go_meet
                      exact ⟨⟨_, by rw [HQ.out, drew_drewN]⟩, false, rfl, by have := H2.out; show _ ↔ ¬ (_ → Ord2 (use L m1) _); rw [HUB.out]; unfold Ord2; dsimp only; simp; omega⟩
                  · have hb2 : (f == bf) = false := by simp [h2]
                    have H2 := Lib.hid h2
                    clear h2
                    go_quiet (fail)
                    go_wp2_with (fail)
                    go_meet
                    exact ⟨⟨_, by rw [HQ.out, drew_drewN]⟩, false, rfl, by have := H2.out; show _ ↔ ¬ (_ → Ord2 (use L m1) _); rw [HUB.out]; unfold Ord2; dsimp only; simp; omega⟩
            case rest =>
              obtain ⟨⟨q3, hq3⟩, b, rfl, hb⟩ := hcut
              have HQ3 := Lib.hid hq3
              clear hq3 d0 d1 d2
              have HB := Lib.hid hb
              clear hb
              cases b with
              | true =>
                have hV := HN.out.2 fun hgd => HB.out.1 rfl (HN.out.1.1 hgd).1
                have HV := Lib.hid hV
                clear hV
                go_wp2
                go_ret
                exact ⟨by rw [HV.out]; rfl, _, HQ3.out⟩
              | false =>
                have hord : 0 < m → Ord2 (use L (m - 1)) ⟨p, f, t⟩ := Classical.byContradiction fun hc => by have := HB.out.2 hc; cases this
                have HO := Lib.hid hord
                clear hord
                go_wp2_with (fail)
                go_loopw [5] (fun i wr => ∃ j : Nat, j ≤ m ∧ i = .int .i64 j ∧ (∀ i, i < j → (use L i).p = p → (use L i).t < f) ∧ ∃ q, wr = w.drewN q) (fun i _ => m - (intOf i).toNat)
                case atStart => exact ⟨0, Nat.zero_le _, rfl, fun i hi => by omega, q3, HQ3.out⟩
                case round =>
                  obtain ⟨j, hj, rfl, hall, q4, hq4⟩ := hrel
                  have hX := HX.out.drew q4
                  rw [← hq4] at hX
                  have HQ4 := Lib.hid hq4
                  clear hq4
                  have HA := Lib.hid hall
                  clear hall
                  by_cases hjm : j < m
                  · obtain ⟨g', o', hgo, _, d0, d1, d2⟩ := hX.at hlt
                    injection hgo with hgo; injection hgo with hg1 hg2 _
                    subst hg1; subst hg2
                    obtain ⟨g', o', hgo, _, c0, c1, c2⟩ := hX.at (j := j) (by omega)
                    injection hgo with hgo; injection hgo with hg1 hg2 _
                    subst hg1; subst hg2
                    have hjl : j < L.length := by omega
                    rw [HU.out] at d0 d1
                    generalize huj : use L j = b at *
                    have HUJ := Lib.hid huj
                    clear huj d2 c1 hX
                    obtain ⟨bp, bf, bt⟩ := b
                    dsimp only at c0 c2 d0 d1
                    by_cases h1 : bp = p
                    · have hb1 : (bp == p) = true := by simp [h1]
                      have H1 := Lib.hid h1
                      clear h1
                      by_cases h2 : f ≤ bt
                      · have hV := HN.out.2 fun hgd => by
                          have := (HN.out.1.1 hgd).2 j hjm
                          rw [HUJ.out] at this
                          have := this H1.out
                          dsimp only at this; omega
                        have HV := Lib.hid hV
                        clear hV
                        go_upto_region 16 with (fail)
                        go_quiet (fail)
                        go_wp2
                        go_ret
                        exact ⟨by rw [HV.out]; rfl, _, by rw [HQ4.out, drew_drewN]⟩
                      · go_upto_region 16 with (fail)
                        go_quiet (fail)
                        go_wp2_with (fail)
                        go_roundw
                        case rel => exact ⟨j + 1, by omega, by go_num, fun i hi hp => by
                          rcases Nat.lt_or_ge i j with h3 | h3
                          · exact HA.out i h3 hp
                          · have : i = j := by omega
                            subst this; rw [HUJ.out]; dsimp only; omega, _, by rw [HQ4.out, drew_drewN]⟩
                        case measure => simp [intOf]; omega
                    · have hb1 : (bp == p) = false := by simp [h1]
                      have H1 := Lib.hid h1
                      clear h1
                      go_upto_region 16 with (fail)
                      go_quiet (fail)
                      go_wp2_with (fail)
                      go_roundw
                      case rel => exact ⟨j + 1, by omega, by go_num, fun i hi hp => by
                        rcases Nat.lt_or_ge i j with h3 | h3
                        · exact HA.out i h3 hp
                        · have : i = j := by omega
                          subst this; rw [HUJ.out] at hp; exact absurd hp H1.out, _, by rw [HQ4.out, drew_drewN]⟩
                      case measure => simp [intOf]; omega
                  · obtain rfl : j = m := by omega
                    have hgn := HN.out.1.2 ⟨HO.out, HA.out⟩
                    have HGN := Lib.hid hgn
                    clear hgn hX
                    go_wp2_with (fail)
                    go_roundw
                    case rel => exact ⟨j + 1, by omega, by go_num, HGN.out, q4, HQ4.out⟩
                    case measure => simp [intOf]; omega
          · obtain rfl : m = L.length := by omega
            have hv := HH.out.2.1 (by rwa [List.take_length] at hg)
            have HV := Lib.hid hv
            clear hv hg
            go_wp2
            go_ret
            exact ⟨by rw [HV.out]; rfl, _, HQ.out⟩
end Py
end Go.Proofs.Ytnkkhbmbbkmfhaa
