/- The reference's small functions: used, empty, Capacity, Sizes. -/
import Derived.Test.YtlknhbcambdccaaJZA
namespace Go.Proofs.Ytlknhbcambdccaa
open Go.RowKit
namespace Sl
open Bu

set_option maxRecDepth 100000 in
set_option maxHeartbeats 2000000 in
theorem usedR_ok (w : World) (pg : Int) (A : Option Addr) (c : Nat) (us : List Bool) (h : BoolAt 0 w A c us) :
    Calls Try.prog 80 #[.agg #[.int .i64 pg, .slice A us.length c]] w fun e w' => e = .returned (.int .i64 ((us.count true : Nat) : Int)) ∧ Below w.heap.size w w' := by
  obtain ⟨n, hn⟩ : ∃ n, n = us.length := ⟨_, rfl⟩
  obtain ⟨W1, hW1⟩ : ∃ W1, W1 = w.alloc (.cells #[.int .i64 pg, .slice A n c] 90) := ⟨_, rfl⟩
  have hb1 : Below w.heap.size w W1 := by rw [hW1]; exact below_box w _
  have hx1 : W1.heap[w.heap.size]? = some (.cells #[.int .i64 pg, .slice A n c] 90 (0, 0)) := by rw [hW1, heapAlloc, if_pos rfl]
  obtain ⟨_, x1, -, -⟩ := Bu.two_cells hx1
  have h1 : BoolAt 0 W1 A c us := h.keep hb1.size fun z _ hz => hb1.block z hz
  have hln := h.1
  have hlm := h.2.1
  unfold maxLen at hlm
  have HX := Lib.hid (And.intro h1 (And.intro hn hb1))
  have HW := Lib.hid hW1
  rw [← hn] at hln ⊢
  clear h h1 hn hb1 hx1 hW1
  go_enter Try.func80, Try.ntmps80
  go_wp2_with (fail)
  rw [← HW.out]
  go_loop [3, 4] (fun m i => ∃ k : Nat, k ≤ n ∧ i = .int .i64 (k : Int) ∧ m = .int .i64 (((us.take k).count true : Nat) : Int)) (fun _ i => n - (intOf i).toNat)
  case atStart => exact ⟨0, Nat.zero_le _, rfl, rfl⟩
  case round =>
    obtain ⟨k, hk, rfl, rfl⟩ := hrel
    have e0 : (0 : Int) ≤ (k : Int) := by omega
    by_cases hlt : k < n
    · have e1 : (k : Int) < (n : Int) := by omega
      have hkk : IntKind.i64.wrap ((k : Int) + 1) = ((k + 1 : Nat) : Int) := by rw [IntWalk.i64_in _ (by omega)]; rfl
      have hku : k < us.length := by rw [← HX.out.2.1]; exact hlt
      obtain ⟨v, hv⟩ : ∃ v, us[k]? = some v := ⟨_, List.getElem?_eq_getElem hku⟩
      obtain ⟨g, o, rfl, _, hg, d⟩ := HX.out.1.2.2 k v hv
      have hcnt : (us.take (k + 1)).count true = (us.take k).count true + (if v then 1 else 0) := by
        rw [List.take_succ_eq_append_getElem hku, List.count_append]
        rw [List.getElem?_eq_getElem hku] at hv; injection hv with hv
        rw [hv]; cases v <;> rfl
      have hct : (us.take k).count true ≤ k := Nat.le_trans List.count_le_length (by rw [List.length_take]; exact Nat.min_le_left _ _)
      have hcw : IntKind.i64.wrap ((((us.take k).count true : Nat) : Int) + 1) = (((us.take k).count true + 1 : Nat) : Int) := by rw [IntWalk.i64_in _ (by omega)]; rfl
      have HC := Lib.hid hcnt
      clear hcnt hv
      cases v with
      | false =>
        go_wp2
        go_round
        case rel => exact ⟨k + 1, by omega, by go_num, by rw [HC.out]; rfl⟩
        case measure => simp [intOf]; omega
      | true =>
        go_wp2
        go_round
        case rel => exact ⟨k + 1, by omega, by go_num, by rw [HC.out]; rfl⟩
        case measure => simp [intOf]; omega
    · obtain rfl : k = n := by omega
      have e1 : ¬ ((k : Nat) : Int) < (k : Int) := by omega
      have hfin : us.take k = us := by rw [HX.out.2.1, List.take_length]
      have HF := Lib.hid hfin
      clear hfin
      go_wp2
      go_ret
      exact ⟨congrArg (fun x => Ending.returned (.int .i64 x)) (by rw [HF.out]), HX.out.2.2⟩

theorem sb_at {w : World} {A : Option Addr} {c : Nat} {l : List (Int × List Bool)} (h : SbAt 0 w A c l) {k : Nat} {x : Int × List Bool} (hx : l[k]? = some x) :
    ∃ g o U cu, A = some ⟨g, o, none⟩ ∧ g < w.heap.size ∧ w.cell? ⟨g, o + k * 2, none⟩ = some (.int .i64 x.1) ∧ w.cell? ⟨g, o + k * 2 + 1, none⟩ = some (.slice U x.2.length cu) ∧ BoolAt 0 w U cu x.2 := by
  obtain ⟨g, o, U, cu, h1, _, h2, h3, h4, h5⟩ := h.2.2 k x hx
  exact ⟨g, o, U, cu, h1, h2, h3, h4, h5⟩
theorem empty_le (l : List (Int × List Bool)) : emptyS (loadS l) ≤ l.length := by
  have h1 : emptyS (loadS l) ≤ (loadS l).length := List.length_filter_le _ _
  unfold loadS at h1 ⊢
  rw [List.length_map] at h1; exact h1

set_option maxRecDepth 100000 in
set_option maxHeartbeats 2000000 in
theorem emptyR_ok (w : World) (s o kp : Int) (A : Option Addr) (c : Nat) (l : List (Int × List Bool)) (h : SbAt 0 w A c l) :
    Calls Try.prog 83 #[stv s o kp A l.length c] w fun e w' => e = .returned (.int .i64 ((emptyS (loadS l) : Nat) : Int)) ∧ Below w.heap.size w w' := by
  obtain ⟨n, hn⟩ : ∃ n, n = l.length := ⟨_, rfl⟩
  obtain ⟨W1, hW1⟩ : ∃ W1, W1 = w.alloc (.cells #[.int .i64 s, .int .i64 o, .int .i64 kp, .slice A n c] 69) := ⟨_, rfl⟩
  have hb1 : Below w.heap.size w W1 := by rw [hW1]; exact below_box w _
  have hx1 : W1.heap[w.heap.size]? = some (.cells #[.int .i64 s, .int .i64 o, .int .i64 kp, .slice A n c] 69 (0, 0)) := by rw [hW1, heapAlloc, if_pos rfl]
  obtain ⟨_, _, _, x3⟩ := four_at hx1
  have hln := h.1
  have hlm := h.2.1
  unfold maxLen at hlm
  have hszl : w.heap.size < W1.heap.size := by rw [hW1]; simp
  have HX := Lib.hid (And.intro (h.below hb1) (And.intro hn hb1))
  have HW := Lib.hid hW1
  rw [← hn] at hln ⊢
  clear h hn hb1 hx1 hW1
  go_enter Try.func83, Try.ntmps83
  go_wp2_with (fail)
  rw [← HW.out]
  go_loopw [3, 4] (fun m i wr => ∃ k : Nat, k ≤ n ∧ i = .int .i64 (k : Int) ∧ m = .int .i64 ((emptyS (loadS (l.take k)) : Nat) : Int) ∧ Below W1.heap.size W1 wr) (fun _ i _ => n - (intOf i).toNat)
  case atStart => exact ⟨0, Nat.zero_le _, rfl, rfl, Below.refl _ _⟩
  case round =>
    obtain ⟨k, hk, rfl, rfl, hb⟩ := hrel
    have e0 : (0 : Int) ≤ (k : Int) := by omega
    replace x3 := (hb.cell (p := ⟨w.heap.size, 3, none⟩) hszl).trans x3
    by_cases hlt : k < n
    · have e1 : (k : Int) < (n : Int) := by omega
      have hkk : IntKind.i64.wrap ((k : Int) + 1) = ((k + 1 : Nat) : Int) := by rw [IntWalk.i64_in _ (by omega)]; rfl
      have hku : k < l.length := by rw [← HX.out.2.1]; exact hlt
      obtain ⟨⟨pg, us⟩, hx⟩ : ∃ x, l[k]? = some x := ⟨_, List.getElem?_eq_getElem hku⟩
      obtain ⟨g, oo, U, cu, rfl, hg, d0, d1, hU⟩ := sb_at HX.out.1 hx
      replace d0 := (hb.cell (p := ⟨g, oo + k * 2, none⟩) hg).trans d0
      replace d1 := (hb.cell (p := ⟨g, oo + k * 2 + 1, none⟩) hg).trans d1
      dsimp only at d0 d1 hU
      have hus := usedR_ok wr pg U cu us (hU.keep hb.size fun z _ hz => hb.block z hz)
      obtain ⟨q, hq⟩ : ∃ q, q = us.length := ⟨_, rfl⟩
      obtain ⟨m, hm⟩ : ∃ m, m = us.count true := ⟨_, rfl⟩
      rw [← hq] at d1
      rw [← hq, ← hm] at hus
      have HU := Lib.hid hus
      have hcnt : emptyS (loadS (l.take (k + 1))) = emptyS (loadS (l.take k)) + if m = 0 then 1 else 0 := by rw [load_snoc hx, empty_snoc, hm]; rfl
      have hct : emptyS (loadS (l.take k)) ≤ k := Nat.le_trans (empty_le _) (by rw [List.length_take]; exact Nat.min_le_left _ _)
      obtain ⟨E, hE⟩ : ∃ E, E = emptyS (loadS (l.take k)) := ⟨_, rfl⟩
      rw [← hE] at hcnt hct ⊢
      have hcw : IntKind.i64.wrap ((E : Int) + 1) = ((E + 1 : Nat) : Int) := by rw [IntWalk.i64_in _ (by omega)]; rfl
      have HC := Lib.hid (And.intro hcnt hb)
      clear hcnt hus hq hm hE hb hU hx
      go_wp2_with (go_at_call 80; fail)
      refine HU.out.mono ?_
      rintro _ w2 ⟨rfl, hb2⟩
      have H2 := Lib.hid hb2
      clear hb2
      by_cases hm0 : m = 0
      · have hmb : (((m : Nat) : Int) == 0) = true := by simp [hm0]
        have HM := Lib.hid hm0
        clear hm0
        go_wp2
        go_roundw
        case rel => exact ⟨k + 1, by omega, by go_num, by rw [HC.out.1, if_pos HM.out]; rfl, below_step HC.out.2 H2.out (Nat.le_refl _)⟩
        case measure => simp [intOf]; omega
      · have hmb : (((m : Nat) : Int) == 0) = false := by simp [hm0]
        have HM := Lib.hid hm0
        clear hm0
        go_wp2
        go_roundw
        case rel => exact ⟨k + 1, by omega, by go_num, by rw [HC.out.1, if_neg HM.out]; rfl, below_step HC.out.2 H2.out (Nat.le_refl _)⟩
        case measure => simp [intOf]; omega
    · obtain rfl : k = n := by omega
      have e1 : ¬ ((k : Nat) : Int) < (k : Int) := by omega
      have H2 := Lib.hid (And.intro hb (show l.take k = l by rw [HX.out.2.1, List.take_length]))
      clear hb
      go_wp2
      go_ret
      exact ⟨congrArg (fun x => Ending.returned (.int .i64 x)) (by rw [H2.out.2]), below_step HX.out.2.2 H2.out.1 (Nat.le_refl _)⟩

set_option maxRecDepth 100000 in
set_option maxHeartbeats 1000000 in
theorem capacityR_ok (w : World) (s o : Nat) (h8 : 8 ≤ s) (h4 : o ≤ 4) : Calls Try.prog 64 #[.int .i64 (s : Int), .int .i64 (o : Int)] w fun e w' => e = .returned (.int .i64 ((capa s o : Nat) : Int)) ∧ w = w' := by
  have hp : 2 ^ o ≤ 2 ^ 4 := Nat.pow_le_pow_right (by decide) h4
  have HS := Lib.hid (size_ok o w (by omega))
  obtain ⟨M, hM⟩ : ∃ M : Nat, M = 2 ^ o := ⟨_, rfl⟩
  rw [← hM] at HS hp
  have hq : capa s o = 64 * M / s := by unfold capa; rw [hM]
  have hm : IntKind.i64.wrap (64 * (M : Int)) = ((64 * M : Nat) : Int) := by rw [IntWalk.i64_in _ (by omega)]; push_cast; rfl
  have h0 : (s : Int) ≠ 0 := by omega
  have e1 : (0 : Int) ≤ ((64 * M : Nat) : Int) := by omega
  have e2 : (0 : Int) < (s : Int) := by omega
  have HQ := Lib.hid hq
  clear hM hq
  go_enter Try.func64, Try.ntmps64
  go_wp2_with (go_at_call 87; refine HS.out.mono ?_; rintro e w' ⟨rfl, rfl⟩)
  go_ret
  refine ⟨?_, rfl⟩
  rw [HQ.out]
  exact congrArg (fun x => Ending.returned (.int .i64 x)) (by push_cast; rfl)

set_option maxRecDepth 100000 in
set_option maxHeartbeats 4000000 in
theorem sizesR_ok (w : World) (size order keep : Int) :
    Calls Try.prog 67 #[.int .i64 size, .int .i64 order, .int .i64 keep] w fun e w' => e = .returned (.bool (sizesB size order keep)) ∧ w = w' := by
  obtain ⟨r, hr⟩ : ∃ r, r = sizesB size order keep := ⟨_, rfl⟩
  rw [← hr]
  have HR := Lib.hid hr
  clear hr
  by_cases h8 : 8 ≤ size
  · have d_h8 : decide (size < 8) = false := decide_eq_false (by omega)
    by_cases h1024 : size ≤ 1024
    · have d_h1024 : decide (1024 < size) = false := decide_eq_false (by omega)
      by_cases hm : size % 8 = 0
      · have tm : ((size % 8 : Int) != 0) = false := by simp [hm]
        by_cases ho : 0 ≤ order
        · have d_ho : decide (order < 0) = false := decide_eq_false (by omega)
          by_cases ho4 : order ≤ 4
          · have d_ho4 : decide (4 < order) = false := decide_eq_false (by omega)
            by_cases hk : 0 ≤ keep
            · have d_hk : decide (keep < 0) = false := decide_eq_false (by omega)
              by_cases hk64 : keep ≤ 64
              · have d_hk64 : decide (64 < keep) = false := decide_eq_false (by omega)
                obtain ⟨o, rfl⟩ := Int.eq_ofNat_of_zero_le ho
                obtain ⟨s, rfl⟩ := Int.eq_ofNat_of_zero_le (show 0 ≤ size by omega)
                have hcap := capacityR_ok w s o (by omega) (by omega)
                have hiff : 1 ≤ capa s o ↔ s ≤ 64 * 2 ^ o := by unfold capa; exact Nat.one_le_div_iff (by omega)
                obtain ⟨K, hK⟩ : ∃ K, K = capa s o := ⟨_, rfl⟩
                rw [← hK] at hcap hiff
                have HC := Lib.hid hcap
                have HM := Lib.hid (And.intro hiff hm)
                clear hcap hiff hm hK
                by_cases h1 : 1 ≤ K
                · have h1b : decide ((1 : Int) ≤ (K : Int)) = true := decide_eq_true (by omega)
                  go_enter Try.func67, Try.ntmps67
                  go_wp2_with (go_at_call 64; refine HC.out.mono ?_; rintro e w' ⟨rfl, rfl⟩)
                  go_ret
                  refine ⟨?_, rfl⟩
                  rw [HR.out]
                  unfold sizesB
                  rw [Int.toNat_natCast, decide_eq_true ⟨h8, h1024, HM.out.2, ho, ho4, hk, hk64, by have := HM.out.1.1 h1; omega⟩]
                  rfl
                · have h1b : decide ((1 : Int) ≤ (K : Int)) = false := decide_eq_false (by omega)
                  go_enter Try.func67, Try.ntmps67
                  go_wp2_with (go_at_call 64; refine HC.out.mono ?_; rintro e w' ⟨rfl, rfl⟩)
                  go_ret
                  refine ⟨?_, rfl⟩
                  rw [HR.out]
                  unfold sizesB
                  rw [Int.toNat_natCast, decide_eq_false (fun h => h1 (HM.out.1.2 (by have := h.2.2.2.2.2.2.2; omega)))]
                  rfl
              · have d_hk64 : decide (64 < keep) = true := decide_eq_true (by omega)
                have HM := Lib.hid hm
                clear hm
                go_enter Try.func67, Try.ntmps67
                go_wp2
                go_ret
                refine ⟨?_, rfl⟩
                rw [HR.out]
                unfold sizesB
                rw [decide_eq_false (fun h => by have := h.2.2.2.2.2.2.1; omega)]
                rfl
            · have d_hk : decide (keep < 0) = true := decide_eq_true (by omega)
              have HM := Lib.hid hm
              clear hm
              go_enter Try.func67, Try.ntmps67
              go_wp2
              go_ret
              refine ⟨?_, rfl⟩
              rw [HR.out]
              unfold sizesB
              rw [decide_eq_false (fun h => by have := h.2.2.2.2.2.1; omega)]
              rfl
          · have d_ho4 : decide (4 < order) = true := decide_eq_true (by omega)
            have HM := Lib.hid hm
            clear hm
            go_enter Try.func67, Try.ntmps67
            go_wp2
            go_ret
            refine ⟨?_, rfl⟩
            rw [HR.out]
            unfold sizesB
            rw [decide_eq_false (fun h => by have := h.2.2.2.2.1; omega)]
            rfl
        · have d_ho : decide (order < 0) = true := decide_eq_true (by omega)
          have HM := Lib.hid hm
          clear hm
          go_enter Try.func67, Try.ntmps67
          go_wp2
          go_ret
          refine ⟨?_, rfl⟩
          rw [HR.out]
          unfold sizesB
          rw [decide_eq_false (fun h => by have := h.2.2.2.1; omega)]
          rfl
      · have tm : ((size % 8 : Int) != 0) = true := by simp [hm]
        have HM := Lib.hid hm
        clear hm
        go_enter Try.func67, Try.ntmps67
        go_wp2
        go_ret
        refine ⟨?_, rfl⟩
        rw [HR.out]
        unfold sizesB
        rw [decide_eq_false (fun h => by exact HM.out h.2.2.1)]
        rfl
    · have d_h1024 : decide (1024 < size) = true := decide_eq_true (by omega)
      go_enter Try.func67, Try.ntmps67
      go_wp2
      go_ret
      refine ⟨?_, rfl⟩
      rw [HR.out]
      unfold sizesB
      rw [decide_eq_false (fun h => by have := h.2.1; omega)]
      rfl
  · have d_h8 : decide (size < 8) = true := decide_eq_true (by omega)
    go_enter Try.func67, Try.ntmps67
    go_wp2
    go_ret
    refine ⟨?_, rfl⟩
    rw [HR.out]
    unfold sizesB
    rw [decide_eq_false (fun h => by have := h.1; omega)]
    rfl
end Sl
end Go.Proofs.Ytlknhbcambdccaa
