/- Blocks of the specification. -/
import Derived.Test.YtdanhbbdkcbapaaRD
import Derived.OwnWalk
namespace Go.Proofs.Ytdanhbbdkcbapaa
open Go.RowKit
namespace Bu

/-- The cells of a row of blocks. -/
def cellsL (L : List Blk) : List Value := L.flatMap fun x => [.int .i64 (x.1 : Int), .int .i64 (x.2 : Int)]
theorem cellsL_add (L : List Blk) (x : Blk) : cellsL (L ++ [x]) = cellsL L ++ [.int .i64 (x.1 : Int), .int .i64 (x.2 : Int)] := by simp [cellsL]
theorem cellsL_cons (x : Blk) (L : List Blk) : cellsL (x :: L) = .int .i64 (x.1 : Int) :: .int .i64 (x.2 : Int) :: cellsL L := by simp [cellsL]
theorem cellsL_len (L : List Blk) : (cellsL L).length = L.length * 2 := by
  induction L with
  | nil => rfl
  | cons x L ih => rw [cellsL_cons]; simp only [List.length_cons, ih]; omega
theorem cellsL_get : ∀ (L : List Blk) (j : Nat) (x : Blk), L[j]? = some x → (cellsL L)[j * 2]? = some (.int .i64 (x.1 : Int)) ∧ (cellsL L)[j * 2 + 1]? = some (.int .i64 (x.2 : Int)) := by
  intro L
  induction L with
  | nil => intro j x h; simp at h
  | cons y L ih =>
    intro j x h
    rw [cellsL_cons]
    cases j with
    | zero => simp at h; subst h; simp
    | succ j =>
      have e1 : (j + 1) * 2 = j * 2 + 1 + 1 := by omega
      rw [e1]
      simp only [List.getElem?_cons_succ]
      exact ih j x (by simpa using h)
theorem cellsL_one (L : List Blk) : ∀ u ∈ cellsL L, u.oneCell' = true := by
  intro u hu
  unfold cellsL at hu
  obtain ⟨x, _, hx⟩ := List.mem_flatMap.1 hu
  simp at hx
  rcases hx with rfl | rfl <;> rfl

theorem add0 (g j : Nat) : (⟨g, 0, none⟩ : Addr).add j = ⟨g, j, none⟩ := by unfold Addr.add; split <;> simp_all

/-- A slice of the call's own. -/
abbrev Own (w : World) (B : Nat) (A : Option Addr) (c : Nat) (L : List Blk) : Prop := w.ownsRow B 39 2 (.slice A L.length c) L.length (cellsL L)

theorem Own.at {w : World} {B c : Nat} {A : Option Addr} {L : List Blk} (h : Own w B A c L) : BlkAt w A c L ∧ ∀ g, A.map (·.block) = some g → B ≤ g ∧ g < w.heap.size := by
  rcases h.2 with ⟨hn, h0⟩ | ⟨g, cap, cur, hv, hB, hg, hnc, hcm, _⟩
  · injection hn with h1 h2 h3
    subst h1; subst h3
    obtain rfl : L = [] := List.length_eq_zero_iff.1 h0
    exact ⟨⟨Nat.le_refl _, Nat.zero_le _, fun j x hx => by simp at hx⟩, fun g hg => by cases hg⟩
  · injection hv with h1 h2 h3
    subst h1; subst h3
    refine ⟨⟨by rw [List.length_map]; exact hnc, hcm, fun j x hx => ?_⟩, fun g' hg' => ?_⟩
    · rw [List.getElem?_map] at hx
      cases hL : L[j]? with
      | none => rw [hL] at hx; cases hx
      | some y =>
        rw [hL] at hx
        injection hx with hx
        subst hx
        obtain ⟨k1, k2⟩ := cellsL_get L j y hL
        have c1 := h.cells (g := g) rfl _ _ k1
        have c2 := h.cells (g := g) rfl _ _ k2
        rw [add0] at c1 c2
        exact ⟨g, 0, rfl, lt_of_heap hg, by rw [Nat.zero_add]; exact c1, by rw [Nat.zero_add]; exact c2⟩
    · simp at hg'; subst hg'
      exact ⟨hB, lt_of_heap hg⟩

theorem own_value {w : World} {B n : Nat} {v : Value} {L : List Value} (h : w.ownsRow B 39 2 v n L) : ∃ A c, v = .slice A n c := by
  rcases h.2 with ⟨rfl, h0⟩ | ⟨g, cap, cur, rfl, _⟩
  · exact ⟨none, 0, by rw [h0]⟩
  · exact ⟨_, _, rfl⟩

/-- The best order so far. -/
def bestI (L : List Blk) (p : Nat) : Nat → Int
  | 0 => -1
  | k + 1 => if p % 2 ^ k = 0 ∧ freeB L p k = true then (k : Int) else bestI L p k
theorem bestI_of (L : List Blk) (p : Nat) : ∀ n, bestI L p (n + 1) = match bestB L p n with | some k => (k : Int) | none => -1 := by
  intro n
  induction n with
  | zero =>
    have e1 : bestI L p (0 + 1) = if p % 2 ^ 0 = 0 ∧ freeB L p 0 = true then ((0 : Nat) : Int) else -1 := by rw [bestI, bestI]
    have e3 : bestB L p 0 = if freeB L p 0 then some 0 else none := by rw [bestB]
    rw [e1, e3]
    by_cases h : freeB L p 0 = true
    · rw [if_pos ⟨by rw [Nat.pow_zero]; exact Nat.mod_one _, h⟩, if_pos h]
    · rw [if_neg (fun e => h e.2), if_neg h]
  | succ n ih =>
    rw [bestI, bestB]
    by_cases h : p % 2 ^ (n + 1) = 0 ∧ freeB L p (n + 1) = true
    · rw [if_pos h, if_pos h]
    · rw [if_neg h, if_neg h]; exact ih
theorem bestI_lo (L : List Blk) (p : Nat) : ∀ n, -1 ≤ bestI L p n ∧ bestI L p n < n := by
  intro n
  induction n with
  | zero => exact ⟨Int.le_refl _, by show (-1 : Int) < 0; omega⟩
  | succ n ih => rw [bestI]; split <;> omega
theorem best_le {L : List Blk} {p N n : Nat} (hp : p < 2 ^ N) (h : bestB L p N = some n) : n ≤ N ∧ p + 2 ^ n ≤ 2 ^ N := by
  obtain ⟨h1, h2, _, _⟩ := bestB_some h
  refine ⟨h1, ?_⟩
  have := (nested (k := n) (n := N) (q := 0) (x := p) h2 (by simp) h1 (Nat.le_refl _) (by have := pow_pos2 n; omega) (Nat.zero_le _) (by omega)).2
  omega

set_option maxRecDepth 100000 in
set_option maxHeartbeats 4000000 in
theorem blocksR_ok (w : World) (N : Nat) (A : Option Addr) (c : Nat) (L : List Blk) (h : BlkAt w A c L) (hS : Small L) (hN : N ≤ 10) :
    Calls Try.prog 45 #[sv N A L.length c] w fun e w' => (∃ A' c', e = .returned (.slice A' (blocksB N L).length c') ∧ Own w' w.heap.size A' c' (blocksB N L)) ∧ Below w.heap.size w w' := by
  obtain ⟨b1, b2⟩ := state_cells w (.int .i64 (N : Int)) (.slice A L.length c) 24
  have hb0 := below_box w (.cells #[.int .i64 (N : Int), .slice A L.length c] 24)
  have HX := Lib.hid (And.intro (h.below hb0) (And.intro hb0 hS))
  have HZ := Lib.hid (fun (n : Nat) (hn : n ≤ N) W => size_ok n W (by omega))
  have hlt : 2 ^ N ≤ 1024 := by
    have : 2 ^ N ≤ 2 ^ 10 := Nat.pow_le_pow_right (by omega) hN
    omega
  have hbl : blocksB N L = [] ++ blkFrom N L (2 ^ N - 0) 0 := rfl
  obtain ⟨R, hR⟩ : ∃ R, R = blocksB N L := ⟨_, rfl⟩
  rw [← hR] at hbl ⊢
  obtain ⟨M, hM⟩ : ∃ M : Nat, M = 2 ^ N := ⟨_, rfl⟩
  have HZN := HZ.out N (Nat.le_refl _)
  rw [← hM] at HZN hlt hbl
  have HZN := Lib.hid HZN
  have HM := Lib.hid (And.intro hM hbl)
  have hinfo := info_open block_info
  obtain ⟨i0, z0, hi0, hz0, hz1, hz2, hz3⟩ := hinfo
  have hs0 : (w.alloc (.cells #[.int .i64 (N : Int), .slice A L.length c] 24)).heap.size = w.heap.size + 1 := by simp
  have HS := Lib.hid hs0
  clear h hb0 hS hR hM hbl hs0
  go_enter Try.func45, Try.ntmps45
  go_wp2_with (fail)
  generalize hW0 : w.alloc (.cells #[.int .i64 (N : Int), .slice A L.length c] 24) = W0 at *
  clear hW0
  go_loopw [3, 4] (fun o i wr => ∃ (p : Nat) (pre : List Blk) (A' : Option Addr) (c' : Nat), p ≤ M ∧ i = .int .i64 (p : Int) ∧ o = .slice A' pre.length c' ∧ Own wr W0.heap.size A' c' pre ∧ Below W0.heap.size W0 wr ∧ R = pre ++ blkFrom N L (M - p) p ∧ pre.length ≤ p) (fun _ i _ => M - (intOf i).toNat)
  case atStart => exact ⟨0, [], none, 0, Nat.zero_le _, rfl, rfl, World.ownsRow_nil _ _ _ _, Below.refl _ _, HM.out.2, Nat.le_refl _⟩
  case round =>
    obtain ⟨p, pre, A', c', hp, rfl, rfl, hown, hbw, hRR, hpl⟩ := hrel
    have c0 := cell_keep2 hbw b1
    have c1 := cell_keep2 hbw b2
    have hZ := HX.out.1.below hbw
    have hwl : w.heap.size < wr.heap.size := by have := hbw.size; have := HS.out; omega
    by_cases hlt2 : p < M
    · have t1 : (p : Int) < (M : Int) := by omega
      have HB := Lib.hid (And.intro hown (And.intro hbw (And.intro hRR (And.intro hpl hZ))))
      clear hown hbw hRR hpl hZ
      go_wp2_with (go_at_call 15; refine (HZN.out _).mono ?_; rintro e w' ⟨rfl, rfl⟩)
      obtain ⟨wo, rfl⟩ : ∃ wo : World, wo = wr := ⟨_, rfl⟩
      go_loopw [5, 6] (fun b i wr => ∃ (k : Nat), k ≤ N + 1 ∧ i = .int .i64 (k : Int) ∧ b = .int .i64 (bestI L p k) ∧ Below wo.heap.size wo wr) (fun _ i _ => N + 1 - (intOf i).toNat)
      case atStart => exact ⟨0, Nat.zero_le _, rfl, rfl, Below.refl _ _⟩
      case round =>
        obtain ⟨k, hk, rfl, rfl, hbo⟩ := hrel
        have d0 := cell_keep2 hbo c0
        have d1 := cell_keep2 hbo c1
        have hZk := HB.out.2.2.2.2.below hbo
        have hwk : w.heap.size < wr.heap.size := by have := hbo.size; omega
        by_cases hlt3 : k ≤ N
        · have t2 : (k : Int) ≤ (N : Int) := by omega
          have t3 : (0 : Int) ≤ (k : Int) := by omega
          have hlek : 2 ^ k ≤ M := by rw [HM.out.1]; exact Nat.pow_le_pow_right (by decide) hlt3
          have hF := freeR_ok wr N A c L p k hZk HX.out.2.2 (by omega) (by omega)
          have hpos := pow_pos2 k
          have hst : bestI L p (k + 1) = if p % 2 ^ k = 0 ∧ freeB L p k = true then (k : Int) else bestI L p k := rfl
          have HK := HZ.out k hlt3
          obtain ⟨m, hm⟩ : ∃ m : Nat, m = 2 ^ k := ⟨_, rfl⟩
          rw [← hm] at HK hpos hst hlek
          have HK := Lib.hid HK
          obtain ⟨bi, hbi⟩ : ∃ bi, bi = bestI L p k := ⟨_, rfl⟩
          rw [← hbi] at hst ⊢
          have hkk : IntKind.i64.wrap ((k : Int) + 1) = ((k + 1 : Nat) : Int) := by rw [IntWalk.i64_in _ (by omega)]; rfl
          have hmi : (0 : Int) < (m : Int) := by omega
          have hm0 : ((m : Nat) : Int) ≠ 0 := by omega
          have HBO := Lib.hid (And.intro hbo hm)
          clear hbo hm hbi hZk
          by_cases hr : p % m = 0
          · have hrem : (((p : Nat) : Int) % (m : Int) == 0) = true := by rw [beq_iff_eq]; omega
            cases hf : freeB L p k with
            | true =>
              rw [hf] at hF hst
              rw [if_pos ⟨hr, rfl⟩] at hst
              have HF := Lib.hid hF
              have HT := Lib.hid hst
              clear hF hst hf hr
              go_wp2_with (first | (go_at_call 15; refine (HK.out _).mono ?_; rintro e w' ⟨rfl, rfl⟩) | (go_at_call 16; refine HF.out.mono ?_; rintro e w' ⟨rfl, hbF⟩; have H5 := Lib.hid hbF; clear hbF))
              go_roundw
              case rel => exact ⟨k + 1, by omega, by go_num, by rw [HT.out], HBO.out.1.trans (H5.out.mono HBO.out.1.size)⟩
              case measure => simp [intOf]; omega
            | false =>
              rw [hf] at hF hst
              rw [if_neg (fun h => by cases h.2)] at hst
              have HF := Lib.hid hF
              have HT := Lib.hid hst
              clear hF hst hf hr
              go_wp2_with (first | (go_at_call 15; refine (HK.out _).mono ?_; rintro e w' ⟨rfl, rfl⟩) | (go_at_call 16; refine HF.out.mono ?_; rintro e w' ⟨rfl, hbF⟩; have H5 := Lib.hid hbF; clear hbF))
              go_roundw
              case rel => exact ⟨k + 1, by omega, by go_num, by rw [HT.out], HBO.out.1.trans (H5.out.mono HBO.out.1.size)⟩
              case measure => simp [intOf]; omega
          · have hrem : (((p : Nat) : Int) % (m : Int) == 0) = false := by rw [beq_eq_false_iff_ne]; omega
            rw [if_neg (fun h => hr h.1)] at hst
            have HT := Lib.hid hst
            clear hF hst hr
            go_wp2_with (go_at_call 15; refine (HK.out _).mono ?_; rintro e w' ⟨rfl, rfl⟩)
            go_roundw
            case rel => exact ⟨k + 1, by omega, by go_num, by rw [HT.out], HBO.out.1⟩
            case measure => simp [intOf]; omega
        · obtain rfl : k = N + 1 := by omega
          have t2 : ¬ (((N + 1 : Nat) : Int)) ≤ (N : Int) := by omega
          have hbe := bestI_of L p N
          cases hbb : bestB L p N with
          | none =>
            rw [hbb] at hbe
            rw [hbe]
            have hpp : IntKind.i64.wrap ((p : Int) + 1) = ((p + 1 : Nat) : Int) := by rw [IntWalk.i64_in _ (by omega)]; rfl
            have hstep : blkFrom N L (M - p) p = blkFrom N L (M - (p + 1)) (p + 1) := by
              rw [show M - p = (M - (p + 1)) + 1 by omega, blkFrom, if_pos (by rw [← HM.out.1]; exact hlt2), hbb]
            have HT := Lib.hid (And.intro hstep hbo)
            clear hbe hbb hstep hbo hZk
            go_wp2_with (fail)
            go_roundw
            case rel => exact ⟨p + 1, pre, A', c', by omega, by go_num, rfl, row_keep HB.out.1 fun g _ hg => HT.out.2.block g hg, HB.out.2.1.trans (HT.out.2.mono HB.out.2.1.size), by rw [HB.out.2.2.1, HT.out.1], by have := HB.out.2.2.2.1; omega⟩
            case measure => simp [intOf]; omega
          | some n =>
            rw [hbb] at hbe
            rw [hbe]
            have hbl := best_le (by rw [← HM.out.1]; exact hlt2) hbb
            have hpos := pow_pos2 n
            have hstep : blkFrom N L (M - p) p = (p, n) :: blkFrom N L (M - (p + 2 ^ n)) (p + 2 ^ n) := by
              rw [show M - p = (M - (p + 1)) + 1 by omega, blkFrom, if_pos (by rw [← HM.out.1]; exact hlt2), hbb]
              show (p, n) :: blkFrom N L (M - (p + 1)) (p + 2 ^ n) = _
              rw [blkFrom_enough (M - (p + 2 ^ n)) (M - (p + 1)) (p + 2 ^ n) (by rw [← HM.out.1]; omega) (by omega)]
            have HK := HZ.out n hbl.1
            rw [← HM.out.1] at hbl
            obtain ⟨m, hm⟩ : ∃ m : Nat, m = 2 ^ n := ⟨_, rfl⟩
            rw [← hm] at HK hpos hstep hbl
            have HK := Lib.hid HK
            have hpp : IntKind.i64.wrap ((p : Int) + (m : Int)) = ((p + m : Nat) : Int) := by rw [IntWalk.i64_in _ (by omega)]; rfl
            have hn0 : ¬ ((n : Int)) < 0 := by omega
            have hown := row_keep HB.out.1 fun g _ hg => hbo.block g hg
            have hpl := HB.out.2.2.2.1
            have hwo := HB.out.2.1.size
            have hwz := hbo.size
            have hbl2 := hbl.2
            have HT := Lib.hid (And.intro hstep hbo)
            have HO := Lib.hid hown
            clear hbe hbb hstep hbo hZk hbl hm hown
            go_wp2_with (first | (go_at_call 15; refine (HK.out _).mono ?_; rintro e w' ⟨rfl, rfl⟩) | (at_builtin; refine wpList_append_own _ rfl _ _ 22 rfl W0.heap.size 39 i0 z0 2 16 Try.underlying22 hi0 hz0 hz1 hz2 hz3 (by omega) (.slice A' pre.length c') pre.length (cellsL pre) rfl (HO.out.alloc _) ⟨wr.heap.size, 0, none⟩ 1 1 [.int .i64 (p : Int), .int .i64 (n : Int)] rfl rfl (two_new _ _ _ _) (by simp [Value.oneCell']) (by unfold maxLen; omega) (by omega) (by simp; omega) ?_; intro v' w1 hown1 hgrow1 _; obtain ⟨A2, c2, rfl⟩ := own_value hown1; have H6 := Lib.hid (And.intro hown1 hgrow1); clear hown1 hgrow1))
            go_roundw
            case rel =>
              refine ⟨p + m, pre ++ [(p, n)], A2, c2, by omega, by go_num, by simp, ?_, ?_, by rw [HB.out.2.2.1, HT.out.1]; simp, by rw [List.length_append, List.length_singleton]; omega⟩
              · have := H6.out.1
                rw [← cellsL_add pre (p, n)] at this
                unfold Own
                rw [List.length_append, List.length_singleton]
                exact this
              · exact ((HB.out.2.1.trans (HT.out.2.mono HB.out.2.1.size)).alloc (by omega) _).grown H6.out.2 (by simp; omega) fun k hk => (HB.out.1.lt k hk).1
            case measure => simp [intOf]; omega
    · obtain rfl : p = M := by omega
      rw [Nat.sub_self, blkFrom, List.append_nil] at hRR
      subst hRR
      have HB := Lib.hid (And.intro hown hbw)
      clear hown hbw hZ
      have t1 : ¬ (p : Int) < (p : Int) := by omega
      go_wp2_with (go_at_call 15; refine (HZN.out _).mono ?_; rintro e w' ⟨rfl, rfl⟩)
      go_ret
      refine ⟨⟨A', c', rfl, HB.out.1.1, ?_⟩, HX.out.2.1.trans (HB.out.2.mono (by have := HX.out.2.1.size; omega))⟩
      rcases HB.out.1.2 with h | ⟨g, cap, cur, hv, hB2, r⟩
      · exact .inl h
      · exact .inr ⟨g, cap, cur, hv, by have := HS.out; omega, r⟩
end Bu
end Go.Proofs.Ytdanhbbdkcbapaa
