/- math/bits.Div64. -/
import Derived.Test.YtionocafkaemiaaDoorJD1
import Derived.Test.YtionocafkaemiaaDoorK1
import Derived.Test.YtionocafkaemiaaDoorJShNm
import Derived.Deep.CutRange
import Derived.Deep.CutBlock
import Derived.Outline
import Derived.Laws.Bits64b
namespace Go.Proofs.YtionocafkaemiaaDoor
open Go.RowKit Go.Lib Go.Shelf
namespace Sx
attribute [local irreducible] wpQuiet

theorem bitLenAux_bd : ∀ (f x : Nat), 0 < x → x < 2 ^ f → 1 ≤ Lib.bitLenAux f x ∧ Lib.bitLenAux f x ≤ f ∧ 2 ^ (Lib.bitLenAux f x - 1) ≤ x ∧ x < 2 ^ Lib.bitLenAux f x
  | 0, x, h0, h1 => by simp at h1; omega
  | f + 1, x, h0, h1 => by
    unfold Lib.bitLenAux
    rw [if_neg (by omega)]
    by_cases hx : x / 2 = 0
    · have : x = 1 := by omega
      subst this
      have e : Lib.bitLenAux f (1 / 2) = 0 := by
        cases f with
        | zero => rfl
        | succ f => unfold Lib.bitLenAux; rw [if_pos (by decide)]
      rw [e]; simp
    · have hp : 2 ^ (f + 1) = 2 * 2 ^ f := by rw [Nat.pow_succ]; omega
      obtain ⟨a1, a2, a3, a4⟩ := bitLenAux_bd f (x / 2) (by omega) (by omega)
      generalize Lib.bitLenAux f (x / 2) = b at *
      obtain ⟨c, rfl⟩ : ∃ c, b = c + 1 := ⟨b - 1, by omega⟩
      have e1 : 2 ^ (c + 1) = 2 * 2 ^ c := by rw [Nat.pow_succ]; omega
      have e2 : 2 ^ (1 + (c + 1)) = 2 * (2 * 2 ^ c) := by rw [show 1 + (c + 1) = c + 1 + 1 by omega, Nat.pow_succ, e1]; omega
      rw [e2, show 1 + (c + 1) - 1 = c + 1 by omega, e1]
      rw [show c + 1 - 1 = c by omega] at a3
      rw [e1] at a4
      omega
theorem bitLen_top {y : Nat} (h0 : 0 < y) (h1 : y < 18446744073709551616) : ∃ s : Nat, s ≤ 63 ∧ 64 - (Lib.bitLen y : Int) = (s : Int) ∧ 9223372036854775808 ≤ y * 2 ^ s ∧ y * 2 ^ s < 18446744073709551616 := by
  obtain ⟨a1, a2, a3, a4⟩ := bitLenAux_bd 64 y h0 (by omega)
  have e : Lib.bitLen y = Lib.bitLenAux 64 y := rfl
  rw [e]
  generalize Lib.bitLenAux 64 y = b at *
  refine ⟨64 - b, by omega, by omega, ?_, ?_⟩
  · have : 2 ^ (b - 1) * 2 ^ (64 - b) ≤ y * 2 ^ (64 - b) := Nat.mul_le_mul_right _ a3
    rw [← Nat.pow_add, show b - 1 + (64 - b) = 63 by omega] at this
    omega
  · have : y * 2 ^ (64 - b) < 2 ^ b * 2 ^ (64 - b) := Nat.mul_lt_mul_of_pos_right a4 (Nat.two_pow_pos _)
    rw [← Nat.pow_add, show b + (64 - b) = 64 by omega] at this
    omega
set_option maxRecDepth 100000 in
theorem div64_q (hi lo y : Nat) (hhi : hi < y) (hlo : lo < 18446744073709551616) (hy : y < 18446744073709551616) (W : World) :
    Calls Tryd.prog 79 #[.int .u64 hi, .int .u64 lo, .int .u64 y] W fun e w' => e = .returned (.tuple #[.int .u64 (((hi * 18446744073709551616 + lo) / y : Nat) : Int), .int .u64 (((hi * 18446744073709551616 + lo) % y : Nat) : Int)]) ∧ ∃ q, w' = W.drewN q := by
  by_cases h0 : hi = 0
  · subst h0
    rw [Nat.zero_mul, Nat.zero_add]
    have hne : ((y : Int) == 0) = false := by simp; omega
    have hne2 : (y : Int) ≠ 0 := by omega
    have hne3 : y ≠ 0 := by omega
    obtain ⟨q, hq⟩ : ∃ q, q = lo / y := ⟨_, rfl⟩
    obtain ⟨r, hr⟩ : ∃ r, r = lo % y := ⟨_, rfl⟩
    have d1 : (lo : Int) / (y : Int) = (q : Int) := by rw [hq]; simp
    have d2 : (lo : Int) % (y : Int) = (r : Int) := by rw [hr]; simp
    have q0 : q < 18446744073709551616 := by have := Nat.div_le_self lo y; omega
    rw [← hq, ← hr]
    have d0 : IntKind.u64.wrap (q : Int) = (q : Int) := IntWalk.u64_in _ (by omega)
    clear hq hr
    go_enter Tryd.func79, Tryd.ntmps79
    go_wp2_with (fail)
    go_quiet (fail)
    rw [d2]
    go_wp2_with (fail)
    go_ret2
    exact ⟨rfl, nq, rfl⟩
  · obtain ⟨s, hs, hbl, hs1, hs2⟩ := bitLen_top (y := y) (by omega) hy
    have hne : ((y : Int) == 0) = false := by simp; omega
    have hne3 : y ≠ 0 := by omega
    have hle : ¬ y ≤ hi := by omega
    have hne0 : ((hi : Int) == 0) = false := by simp; omega
    have hLZ := Lib.hid (fun V => (show Calls Tryd.prog 102 #[.int .u64 (y : Int)] V fun e w' => e = .returned (.int .i64 (s : Int)) ∧ w' = V from by
      have h := Any.bits_LeadingZeros64 Tryd.lead64 (y : Int) V (by omega) (by omega)
      rw [Int.toNat_natCast, hbl] at h
      exact h))
    clear hbl
    obtain ⟨Y, hY⟩ : ∃ Y, Y = y * 2 ^ s := ⟨_, rfl⟩
    obtain ⟨H, hH⟩ : ∃ H, H = hi * 2 ^ s := ⟨_, rfl⟩
    obtain ⟨K, hK⟩ : ∃ K, K = lo / 2 ^ (64 - s) := ⟨_, rfl⟩
    obtain ⟨v, hv⟩ : ∃ v, v = lo * 2 ^ s % 18446744073709551616 := ⟨_, rfl⟩
    have hp : 0 < 2 ^ s := Nat.two_pow_pos s
    have hprt := Dv.parts (hi := hi) (lo := lo) hs hlo
    have hsh := Dv.shifted (hi * 18446744073709551616 + lo) y s
    rw [← hH, ← hK, ← hv] at hprt
    rw [hprt, ← hY] at hsh
    rw [← hY] at hs1 hs2
    have hv64 : v < 18446744073709551616 := by rw [hv]; exact Nat.mod_lt _ (by omega)
    have hu : H + K < Y := by
      have h1 : (hi * 18446744073709551616 + lo) * 2 ^ s < Y * 18446744073709551616 := by
        rw [hY, Nat.mul_right_comm]
        exact Nat.mul_lt_mul_of_pos_right (by omega) hp
      omega
    have b1 : IntKind.u64.wrap ((y : Int) * 2 ^ s) = (Y : Int) := by
      rw [show (y : Int) * 2 ^ s = (Y : Int) by rw [hY]; simp]
      exact IntWalk.u64_in _ (by omega)
    have b2 : IntKind.u64.wrap ((hi : Int) * 2 ^ s) = (H : Int) := by
      rw [show (hi : Int) * 2 ^ s = (H : Int) by rw [hH]; simp]
      exact IntWalk.u64_in _ (by omega)
    have b3 : (lo : Int) / 2 ^ (64 - s) = (K : Int) := by rw [hK]; simp
    have b4 : IntKind.u64.wrap ((lo : Int) * 2 ^ s) = (v : Int) := by
      rw [show (lo : Int) * 2 ^ s = ((lo * 2 ^ s : Nat) : Int) by simp, IntKind.wrap_u64, hv]; omega
    have b5 : bits .or .u64 (H : Int) (K : Int) = ((H + K : Nat) : Int) := by
      rw [bits_or_u64_nat _ _ (by omega) (by omega)]
      have hk : K < 2 ^ s := by
        rw [hK]
        refine Nat.div_lt_of_lt_mul ?_
        rw [← Nat.pow_add, show 64 - s + s = 64 by omega]; exact hlo
      have := Nat.two_pow_add_eq_or_of_lt hk hi
      rw [hH, Nat.mul_comm hi, ← this]
    obtain ⟨y1, hy1⟩ : ∃ y1, y1 = Y / 4294967296 := ⟨_, rfl⟩
    obtain ⟨y0, hy0⟩ : ∃ y0, y0 = Y % 4294967296 := ⟨_, rfl⟩
    obtain ⟨t1, ht1⟩ : ∃ t1, t1 = v / 4294967296 := ⟨_, rfl⟩
    obtain ⟨t0, ht0⟩ : ∃ t0, t0 = v % 4294967296 := ⟨_, rfl⟩
    have b6 : (Y : Int) / 4294967296 = (y1 : Int) := by rw [hy1]; simp
    have b7 : bits .and .u64 (Y : Int) 4294967295 = (y0 : Int) := by rw [hy0]; exact Mul64.maskN Y hs2
    have b8 : (v : Int) / 4294967296 = (t1 : Int) := by rw [ht1]; simp
    have b9 : bits .and .u64 (v : Int) 4294967295 = (t0 : Int) := by rw [ht0]; exact Mul64.maskN v hv64
    obtain ⟨u, huu⟩ : ∃ u, u = H + K := ⟨_, rfl⟩
    rw [← huu] at b5 hu hprt hsh
    have hD1 : Dv.Dig 4294967296 Y y1 y0 u t1 := ⟨by omega, by omega, by omega, by omega, hu, by omega⟩
    have htwo := Dv.two 4294967296 (y := Y) (u := u) (t1 := t1) (t0 := t0) (by omega)
    rw [show u * 4294967296 * 4294967296 + t1 * 4294967296 + t0 = u * 18446744073709551616 + v by omega, hsh.1] at htwo
    have hres2 : (hi * 18446744073709551616 + lo) % y = ((u * 4294967296 + t1) % Y * 4294967296 + t0) % Y / 2 ^ s := by rw [← htwo.2]; exact hsh.2.symm
    rw [htwo.1, hres2]
    obtain ⟨Q1, hQ1⟩ : ∃ Q1, Q1 = (u * 4294967296 + t1) / Y := ⟨_, rfl⟩
    obtain ⟨R1, hR1⟩ : ∃ R1, R1 = (u * 4294967296 + t1) % Y := ⟨_, rfl⟩
    have hR1l : R1 < Y := by rw [hR1]; exact Nat.mod_lt _ (by omega)
    rw [← hQ1, ← hR1]
    have hD0 : Dv.Dig 4294967296 Y y1 y0 R1 t0 := ⟨by omega, by omega, by omega, by omega, hR1l, by omega⟩
    obtain ⟨Q0, hQ0⟩ : ∃ Q0, Q0 = (R1 * 4294967296 + t0) / Y := ⟨_, rfl⟩
    obtain ⟨R0, hR0⟩ : ∃ R0, R0 = (R1 * 4294967296 + t0) % Y := ⟨_, rfl⟩
    have hR0l : R0 < Y := by rw [hR0]; exact Nat.mod_lt _ (by omega)
    have hQ1l : Q1 < 4294967296 := by rw [hQ1]; exact hD1.q_lt
    have hQ0l : Q0 < 4294967296 := by rw [hQ0]; exact hD0.q_lt
    rw [← hQ0, ← hR0]
    obtain ⟨Z, hZ⟩ : ∃ Z, Z = R0 / 2 ^ s := ⟨_, rfl⟩
    rw [← hZ]
    have HZ := Lib.hid (show (R0 : Int) / 2 ^ s = (Z : Int) by rw [hZ]; simp)
    clear hZ
    have hb1 : y1 < 4294967296 := by omega
    have hb2 : y0 < 4294967296 := by omega
    have hb3 : t1 < 4294967296 := by omega
    have hb4 : t0 < 4294967296 := by omega
    have hb5 : u < 18446744073709551616 := by omega
    have hb6 : 2147483648 ≤ y1 := by omega
    have hb7 : H < 18446744073709551616 := by omega
    have hb8 : K < 18446744073709551616 := by omega
    have hle2 : ¬ (y : Int) ≤ (hi : Int) := by omega
    have HX := Lib.hid (And.intro hD1 (And.intro hD0 (And.intro hQ1 (And.intro hQ0 (And.intro hR1 hR0)))))
    have H64 := Lib.hid (And.intro hs2 hR0l)
    clear hs1 hs2 hD1 hD0 hQ1 hQ0 hR1 hR0 htwo hres2 hsh hprt hu hY hH hK hv hp hv64 hy1 hy0 ht1 ht0 huu hR0l hR1l hhi hle hlo hy h0
    go_enter Tryd.func79, Tryd.ntmps79
    go_upto_region 15 with (go_at_call 102; refine (hLZ.out _).mono ?_; rintro e w' ⟨rfl, hw⟩; have hw := hw.symm; subst hw)
    have E1 := Lib.hid (And.intro HX.out.1 HX.out.2.2.1)
    have E0 := Lib.hid (And.intro HX.out.2.1 HX.out.2.2.2.1)
    obtain ⟨q, hq⟩ : ∃ q, q = u / y1 := ⟨_, rfl⟩
    obtain ⟨r, hr⟩ : ∃ r, r = u % y1 := ⟨_, rfl⟩
    have hqr : q * y1 + r = u := by rw [hq, hr, Nat.mul_comm]; exact Nat.div_add_mod _ _
    have hrl : r < y1 := by rw [hr]; exact Nat.mod_lt _ (by omega)
    have c1 : (u : Int) / (y1 : Int) = (q : Int) := by rw [hq]; simp
    obtain ⟨p, hp⟩ : ∃ p, p = q * y1 := ⟨_, rfl⟩
    have c2 : (q : Int) * (y1 : Int) = (p : Int) := by rw [hp]; simp
    have c3 : (u : Int) - (p : Int) = (r : Int) := by omega
    have hpl : p < 18446744073709551616 := by omega
    have cp0 : IntKind.u64.wrap (p : Int) = (p : Int) := IntWalk.u64_in _ (by omega)
    have hql := E1.out.1.q_le hqr
    have cq0 : IntKind.u64.wrap (q : Int) = (q : Int) := IntWalk.u64_in _ (by omega)
    have cr0 : IntKind.u64.wrap (r : Int) = (r : Int) := IntWalk.u64_in _ (by omega)
    have hge1 : Q1 ≤ q := by rw [E1.out.2, hq]; exact E1.out.1.start
    have HQ := Lib.hid (And.intro hqr hge1)
    clear hqr hq hr hp hge1
    go_upto_block 0 with (fail)
    go_cut [15, 16] from 67 to 85 (fun a b wx => a = .int .u64 (Q1 : Int) ∧ (∃ r : Int, b = .int .u64 r) ∧ wx = W)
    case first =>
      go_wp2_with (fail)
      go_loop [15, 16] (fun a b => ∃ q r : Nat, a = .int .u64 (q : Int) ∧ b = .int .u64 (r : Int) ∧ q * y1 + r = u ∧ Q1 ≤ q ∧ r < 4294967296) (fun a _ => (RowKit.intOf a).toNat)
      case atStart => exact ⟨q, r, rfl, rfl, HQ.out.1, HQ.out.2, by omega⟩
      case round =>
        clear c1 c2 c3 cp0 cq0 cr0 hql hpl hrl
        obtain ⟨q, r, rfl, rfl, hqr, hge, hrl⟩ := hrel
        have hql := E1.out.1.q_le hqr
        have hov := E1.out.1.over hqr
        have hfit := E1.out.1.fit hqr
        have hstop : 0 < q → 4294967296 ≤ r + y1 → Q1 ≤ q - 1 → q - 1 = Q1 := fun h0 h h2 => by
          rw [E1.out.2] at h2 ⊢
          refine E1.out.1.stop (q := q - 1) (r := r + y1) ?_ h h2
          rw [← hqr]
          obtain ⟨k, rfl⟩ : ∃ k, q = k + 1 := ⟨q - 1, by omega⟩
          rw [Nat.add_sub_cancel, Nat.add_mul, Nat.one_mul]; omega
        rw [← E1.out.2] at hov
        obtain ⟨m, hm⟩ : ∃ m, m = q * y0 := ⟨_, rfl⟩
        have cm : (q : Int) * (y0 : Int) = (m : Int) := by rw [hm]; simp
        rw [← hm] at hov hfit
        have hm64 : m < 18446744073709551616 := by omega
        have cq0 : IntKind.u64.wrap (q : Int) = (q : Int) := IntWalk.u64_in _ (by omega)
        have cm0 : IntKind.u64.wrap (m : Int) = (m : Int) := IntWalk.u64_in _ (by omega)
        have HR := Lib.hid (And.intro hqr (And.intro hge hstop))
        clear hqr hge hm hfit hstop
        by_cases ho : Q1 < q
        · have hov := hov.1 ho
          obtain ⟨k, hk⟩ : ∃ k, k = q - 1 := ⟨_, rfl⟩
          have ck : (q : Int) - 1 = (k : Int) := by omega
          have hkl : (k : Int) < 18446744073709551616 := by omega
          have hov2 : 4294967296 * (r : Int) + (t1 : Int) < (m : Int) := by omega
          have hrl2 : (r : Int) < 4294967296 := by omega
          have hov3 : decide (4294967296 * (r : Int) + (t1 : Int) < (m : Int)) = true := decide_eq_true hov2
          have HK := Lib.hid (And.intro hk (And.intro ho (And.intro hov hrl)))
          clear hk ho hov hrl hql
          by_cases hr2 : (4294967296 : Int) ≤ (r : Int) + (y1 : Int)
          · have hfin : k = Q1 := by
              have h1 := HK.out.1; have h2 := HK.out.2.1
              rw [h1]
              exact HR.out.2.2 (by omega) (by omega) (by omega)
            have HF := Lib.hid hfin
            clear hfin
            by_cases hB : (4294967296 : Int) ≤ (q : Int)
            all_goals
              go_wp2_with (fail)
              go_meet
              exact ⟨by rw [HF.out], ⟨_, rfl⟩, rfl⟩
          · by_cases hB : (4294967296 : Int) ≤ (q : Int)
            all_goals
              go_wp2_with (fail)
              go_round
              case rel =>
                have h1 := HK.out.1; have h2 := HK.out.2.1
                refine ⟨k, r + y1, rfl, by rw [Int.natCast_add], ?_, by omega, by omega⟩
                have h3 := HR.out.1
                have h4 : q = k + 1 := by omega
                rw [h4, Nat.add_mul, Nat.one_mul] at h3
                omega
              case measure => simp [RowKit.intOf]; have h1 := HK.out.1; have h2 := HK.out.2.1; omega
        · have hov := mt hov.2 ho
          have hqQ : q = Q1 := by have := HR.out.2.1; omega
          have hov2 : ¬ (4294967296 * (r : Int) + (t1 : Int) < (m : Int)) := by omega
          have hov3 : decide (4294967296 * (r : Int) + (t1 : Int) < (m : Int)) = false := decide_eq_false hov2
          have hB : ¬ (4294967296 : Int) ≤ (q : Int) := by omega
          have hrl2 : (r : Int) < 4294967296 := by omega
          have HF := Lib.hid hqQ
          clear hqQ hov ho hrl hql
          go_wp2_with (fail)
          go_meet
          exact ⟨by rw [HF.out], ⟨_, rfl⟩, rfl⟩
    case rest =>
    clear c1 c2 c3 cp0 cq0 cr0 hql hpl hrl HQ
    obtain ⟨rfl, ⟨rr, rfl⟩, hwc⟩ := hcut
    obtain ⟨VW, hVW⟩ : ∃ VW, VW = wc := ⟨_, rfl⟩
    rw [← hVW]
    have HW := Lib.hid (hVW.trans hwc)
    clear hwc hVW
    obtain ⟨n1, hn1⟩ : ∃ n1, n1 = u * 4294967296 % 18446744073709551616 := ⟨_, rfl⟩
    obtain ⟨n2, hn2⟩ : ∃ n2, n2 = (n1 + t1) % 18446744073709551616 := ⟨_, rfl⟩
    obtain ⟨n3, hn3⟩ : ∃ n3, n3 = Q1 * Y := ⟨_, rfl⟩
    obtain ⟨n4, hn4⟩ : ∃ n4, n4 = n3 % 18446744073709551616 := ⟨_, rfl⟩
    have hdm : n3 + R1 = u * 4294967296 + t1 := by
      have h1 := HX.out.2.2.1; have h2 := HX.out.2.2.2.2.1
      rw [hn3, h1, h2, Nat.mul_comm]; exact Nat.div_add_mod _ _
    have hR1l : R1 < 18446744073709551616 := by have := HX.out.2.1.eu; have := H64.out.1; omega
    have g1 : IntKind.u64.wrap ((u : Int) * 4294967296) = (n1 : Int) := by rw [IntKind.wrap_u64, hn1]; omega
    have g2 : IntKind.u64.wrap ((n1 : Int) + (t1 : Int)) = (n2 : Int) := by rw [IntKind.wrap_u64, hn2]; omega
    have g3 : (Q1 : Int) * (Y : Int) = (n3 : Int) := by rw [hn3]; simp
    have g4 : IntKind.u64.wrap (n3 : Int) = (n4 : Int) := by rw [IntKind.wrap_u64, hn4]; omega
    have g5 : IntKind.u64.wrap ((n2 : Int) - (n4 : Int)) = (R1 : Int) := by rw [IntKind.wrap_u64]; omega
    have gl : n1 < 18446744073709551616 ∧ n2 < 18446744073709551616 ∧ n4 < 18446744073709551616 := by omega
    obtain ⟨gl1, gl2, gl4⟩ := gl
    have HN := Lib.hid hdm
    clear hdm hn1 hn2 hn3 hn4
    obtain ⟨q, hq⟩ : ∃ q, q = R1 / y1 := ⟨_, rfl⟩
    obtain ⟨r, hr⟩ : ∃ r, r = R1 % y1 := ⟨_, rfl⟩
    have hqr : q * y1 + r = R1 := by rw [hq, hr, Nat.mul_comm]; exact Nat.div_add_mod _ _
    have hrl : r < y1 := by rw [hr]; exact Nat.mod_lt _ (by omega)
    have c1 : (R1 : Int) / (y1 : Int) = (q : Int) := by rw [hq]; simp
    obtain ⟨p, hp⟩ : ∃ p, p = q * y1 := ⟨_, rfl⟩
    have c2 : (q : Int) * (y1 : Int) = (p : Int) := by rw [hp]; simp
    have c3 : (R1 : Int) - (p : Int) = (r : Int) := by omega
    have hpl : p < 18446744073709551616 := by omega
    have cp0 : IntKind.u64.wrap (p : Int) = (p : Int) := IntWalk.u64_in _ (by omega)
    have hql := E0.out.1.q_le hqr
    have cq0 : IntKind.u64.wrap (q : Int) = (q : Int) := IntWalk.u64_in _ (by omega)
    have cr0 : IntKind.u64.wrap (r : Int) = (r : Int) := IntWalk.u64_in _ (by omega)
    have hge1 : Q0 ≤ q := by rw [E0.out.2, hq]; exact E0.out.1.start
    have HQ0 := Lib.hid (And.intro hqr hge1)
    clear hqr hq hr hp hge1
    go_upto_block 2 with (fail)
    go_cut [18, 16] from 102 to 120 (fun a b wx => a = .int .u64 (Q0 : Int) ∧ (∃ r : Int, b = .int .u64 r) ∧ wx = VW)
    case first =>
      clear g1 g2 g3 g4 g5 gl1 gl2 gl4
      go_wp2_with (fail)
      go_loop [18, 16] (fun a b => ∃ q r : Nat, a = .int .u64 (q : Int) ∧ b = .int .u64 (r : Int) ∧ q * y1 + r = R1 ∧ Q0 ≤ q ∧ r < 4294967296) (fun a _ => (RowKit.intOf a).toNat)
      case atStart => exact ⟨q, r, rfl, rfl, HQ0.out.1, HQ0.out.2, by omega⟩
      case round =>
        clear c1 c2 c3 cp0 cq0 cr0 hql hpl hrl
        obtain ⟨q, r, rfl, rfl, hqr, hge, hrl⟩ := hrel
        have hql := E0.out.1.q_le hqr
        have hov := E0.out.1.over hqr
        have hfit := E0.out.1.fit hqr
        have hstop : 0 < q → 4294967296 ≤ r + y1 → Q0 ≤ q - 1 → q - 1 = Q0 := fun h0 h h2 => by
          rw [E0.out.2] at h2 ⊢
          refine E0.out.1.stop (q := q - 1) (r := r + y1) ?_ h h2
          rw [← hqr]
          obtain ⟨k, rfl⟩ : ∃ k, q = k + 1 := ⟨q - 1, by omega⟩
          rw [Nat.add_sub_cancel, Nat.add_mul, Nat.one_mul]; omega
        rw [← E0.out.2] at hov
        obtain ⟨m, hm⟩ : ∃ m, m = q * y0 := ⟨_, rfl⟩
        have cm : (q : Int) * (y0 : Int) = (m : Int) := by rw [hm]; simp
        rw [← hm] at hov hfit
        have hm64 : m < 18446744073709551616 := by omega
        have cq0 : IntKind.u64.wrap (q : Int) = (q : Int) := IntWalk.u64_in _ (by omega)
        have cm0 : IntKind.u64.wrap (m : Int) = (m : Int) := IntWalk.u64_in _ (by omega)
        have HR := Lib.hid (And.intro hqr (And.intro hge hstop))
        clear hqr hge hm hfit hstop
        by_cases ho : Q0 < q
        · have hov := hov.1 ho
          obtain ⟨k, hk⟩ : ∃ k, k = q - 1 := ⟨_, rfl⟩
          have ck : (q : Int) - 1 = (k : Int) := by omega
          have hkl : (k : Int) < 18446744073709551616 := by omega
          have hov2 : 4294967296 * (r : Int) + (t0 : Int) < (m : Int) := by omega
          have hrl2 : (r : Int) < 4294967296 := by omega
          have hov3 : decide (4294967296 * (r : Int) + (t0 : Int) < (m : Int)) = true := decide_eq_true hov2
          have HK := Lib.hid (And.intro hk (And.intro ho (And.intro hov hrl)))
          clear hk ho hov hrl hql
          by_cases hr2 : (4294967296 : Int) ≤ (r : Int) + (y1 : Int)
          · have hfin : k = Q0 := by
              have h1 := HK.out.1; have h2 := HK.out.2.1
              rw [h1]
              exact HR.out.2.2 (by omega) (by omega) (by omega)
            have HF := Lib.hid hfin
            clear hfin
            by_cases hB : (4294967296 : Int) ≤ (q : Int)
            all_goals
              go_wp2_with (fail)
              go_meet
              exact ⟨by rw [HF.out], ⟨_, rfl⟩, rfl⟩
          · by_cases hB : (4294967296 : Int) ≤ (q : Int)
            all_goals
              go_wp2_with (fail)
              go_round
              case rel =>
                have h1 := HK.out.1; have h2 := HK.out.2.1
                refine ⟨k, r + y1, rfl, by rw [Int.natCast_add], ?_, by omega, by omega⟩
                have h3 := HR.out.1
                have h4 : q = k + 1 := by omega
                rw [h4, Nat.add_mul, Nat.one_mul] at h3
                omega
              case measure => simp [RowKit.intOf]; have h1 := HK.out.1; have h2 := HK.out.2.1; omega
        · have hov := mt hov.2 ho
          have hqQ : q = Q0 := by have := HR.out.2.1; omega
          have hov2 : ¬ (4294967296 * (r : Int) + (t0 : Int) < (m : Int)) := by omega
          have hov3 : decide (4294967296 * (r : Int) + (t0 : Int) < (m : Int)) = false := decide_eq_false hov2
          have hB : ¬ (4294967296 : Int) ≤ (q : Int) := by omega
          have hrl2 : (r : Int) < 4294967296 := by omega
          have HF := Lib.hid hqQ
          clear hqQ hov ho hrl hql
          go_wp2_with (fail)
          go_meet
          exact ⟨by rw [HF.out], ⟨_, rfl⟩, rfl⟩
    case rest =>
    clear c1 c2 c3 cp0 cq0 cr0 hql hpl hrl HQ0 g1 g2 g3 g4 g5 gl1 gl2 gl4
    obtain ⟨rfl, ⟨rr, rfl⟩, hwc⟩ := hcut
    obtain ⟨n1, hn1⟩ : ∃ n1, n1 = R1 * 4294967296 % 18446744073709551616 := ⟨_, rfl⟩
    obtain ⟨n2, hn2⟩ : ∃ n2, n2 = (n1 + t0) % 18446744073709551616 := ⟨_, rfl⟩
    obtain ⟨n3, hn3⟩ : ∃ n3, n3 = Q0 * Y := ⟨_, rfl⟩
    obtain ⟨n4, hn4⟩ : ∃ n4, n4 = n3 % 18446744073709551616 := ⟨_, rfl⟩
    have hdm : n3 + R0 = R1 * 4294967296 + t0 := by
      have h1 := HX.out.2.2.2.1; have h2 := HX.out.2.2.2.2.2
      rw [hn3, h1, h2, Nat.mul_comm]; exact Nat.div_add_mod _ _
    have hR0l : R0 < 18446744073709551616 := by have := H64.out.1; have := H64.out.2; omega
    have g1 : IntKind.u64.wrap ((R1 : Int) * 4294967296) = (n1 : Int) := by rw [IntKind.wrap_u64, hn1]; omega
    have g2 : IntKind.u64.wrap ((n1 : Int) + (t0 : Int)) = (n2 : Int) := by rw [IntKind.wrap_u64, hn2]; omega
    have g3 : (Q0 : Int) * (Y : Int) = (n3 : Int) := by rw [hn3]; simp
    have g4 : IntKind.u64.wrap (n3 : Int) = (n4 : Int) := by rw [IntKind.wrap_u64, hn4]; omega
    have g5 : IntKind.u64.wrap ((n2 : Int) - (n4 : Int)) = (R0 : Int) := by rw [IntKind.wrap_u64]; omega
    have g6 := HZ.out
    have gl : n1 < 18446744073709551616 ∧ n2 < 18446744073709551616 ∧ n4 < 18446744073709551616 := by omega
    obtain ⟨gl1, gl2, gl4⟩ := gl
    have g7 : IntKind.u64.wrap ((Q1 : Int) * 4294967296) = (Q1 : Int) * 4294967296 := IntWalk.u64_in _ (by omega)
    have g8 : IntKind.u64.wrap ((Q1 : Int) * 4294967296 + (Q0 : Int)) = ((Q1 : Int) * 4294967296 + (Q0 : Int)) := IntWalk.u64_in _ (by omega)
    have HF := Lib.hid (And.intro hwc HW.out)
    clear hdm hn1 hn2 hn3 hn4 hwc HN
    go_wp2_with (fail)
    go_ret2
    refine ⟨by simp, ?_⟩
    rw [HF.out.1, HF.out.2]
    exact ⟨0, rfl⟩
theorem div64_ok (hi lo y : Nat) (hhi : hi < y) (hlo : lo < 18446744073709551616) (hy : y < 18446744073709551616) (W : World) :
    Calls Tryd.prog 79 #[.int .u64 hi, .int .u64 lo, .int .u64 y] W fun e w' => e = .returned (.tuple #[.int .u64 (((hi * 18446744073709551616 + lo) / y : Nat) : Int), .int .u64 (((hi * 18446744073709551616 + lo) % y : Nat) : Int)]) ∧ Below W.heap.size W w' := by
  refine (div64_q hi lo y hhi hlo hy W).mono ?_
  rintro e w' ⟨rfl, q, rfl⟩
  exact ⟨rfl, below_drewN (Below.refl _ _) _⟩
end Sx
end Go.Proofs.YtionocafkaemiaaDoor
