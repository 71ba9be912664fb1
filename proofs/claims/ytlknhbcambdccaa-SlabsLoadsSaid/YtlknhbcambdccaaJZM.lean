/- SlabsLoads: the walk. -/
import Derived.Test.YtlknhbcambdccaaJZL
import Derived.Test.YtlknhbcambdccaaK25
namespace Go.Proofs.Ytlknhbcambdccaa
open Go.RowKit
namespace Sl
open Bu

set_option maxRecDepth 100000 in
set_option maxHeartbeats 1000000 in
theorem loadR_bad (w : World) (Bp : Addr) (size order keep : Int) (hsz : sizesB size order keep = false) (A : Option Addr) (n c : Nat) :
    Calls Try.prog 33 #[.pointer (some Bp), stv size order keep A n c] w fun e w' => e = .returned (.tuple #[.pointer none, .int .i64 7]) ∧ Below w.heap.size w w' := by
  obtain ⟨W1, hW1⟩ : ∃ W1, W1 = w.alloc (.cells #[.int .i64 size, .int .i64 order, .int .i64 keep, .slice A n c] 69) := ⟨_, rfl⟩
  have hb1 : Below w.heap.size w W1 := by rw [hW1]; exact below_box w _
  have hR1 : W1.heap[w.heap.size]? = some (.cells #[.int .i64 size, .int .i64 order, .int .i64 keep, .slice A n c] 69 (0, 0)) := by rw [hW1, heapAlloc, if_pos rfl]
  obtain ⟨q0, q1, q2, q3⟩ := four_at hR1
  have hS := sizesR_ok W1 size order keep
  rw [hsz] at hS
  have HS := Lib.hid hS
  have HW := Lib.hid hW1
  have HX := Lib.hid hb1
  clear hb1 hR1 hW1 hsz hS
  go_enter Try.func33, Try.ntmps33
  go_wp2_with (fail)
  rw [← HW.out]
  go_wp2_with (go_at_call 67; refine HS.out.mono ?_; rintro e w' ⟨rfl, rfl⟩)
  go_ret2
  exact ⟨rfl, HX.out⟩

/-- What both Loads leave, where the sizes are allowed. -/
theorem loads_duo {W1 W2 W3 W4 W5 : World} {Bp : Addr} {b c r M cG : Nat} {A : Option Addr} {B : List Blk} {s o kp : Nat} {l : List (Int × List Bool)} {own own2 : Own?} {q : List RS}
    (hb2 : Below W1.heap.size W1 W2) (hbb : W1.heap.size ≤ b) (hb3 : Below W2.heap.size W2 W3) (hH : Held W3 own c b ⟨s, o, kp, loadS l⟩ M B) (hown : ∀ z, z < W2.heap.size → z ≠ b → own z = none)
    (hb4 : Below W3.heap.size W3 W4) (hq : q.map (·.1) = loadS l) (hR : RefAt W4 own2 r Bp s o kp q) (hf2 : Fresh own2 W4) (ho2 : ∀ z, z < W3.heap.size → own2 z = none)
    (hA : BlkAt W1 A cG B) (h5 : W5 = W4.alloc (.cells #[.pointer (some ⟨b, 0, none⟩), .pointer (some ⟨c, 0, none⟩), .int .i64 (M : Int), .slice A B.length cG, .pointer (some ⟨r, 0, none⟩), .slice none 0 0] 72)) :
    Duo W1 Bp W4.heap.size c b r own own2 ⟨s, o, kp, loadS l⟩ M B q A cG [] none 0 W5 := by
  have s2 := hb2.size
  have s3 := hb3.size
  have s4 := hb4.size
  have hb5 : Below W4.heap.size W4 W5 := by rw [h5]; exact below_box W4 _
  have hs5 : W5.heap.size = W4.heap.size + 1 := by rw [h5]; simp
  have hb35 : Below W3.heap.size W3 W5 := below_step hb4 hb5 (Nat.le_refl _)
  have hb15 : Below W1.heap.size W1 W5 := below_step (below_step hb2 hb3 (Nat.le_refl _)) hb35 (Nat.le_refl _)
  have hfr := hH.fresh
  have hout : ∀ z, z < W1.heap.size → own z = none := fun z hz => hown z (by omega) (by omega)
  have hnone : ∀ z, W3.heap.size ≤ z → own z = none := fun z hz => by
    cases h : own z with
    | none => rfl
    | some v => have := hfr z (by rw [h]; simp); omega
  have hnone2 : ∀ z, W4.heap.size ≤ z → own2 z = none := fun z hz => by
    cases h : own2 z with
    | none => rfl
    | some v => have := hf2 z (by rw [h]; simp); omega
  refine ⟨⟨hH.below hb35, hb15, hout⟩, hR.below hf2 hb5, hq, fun k hk => by have := hf2 k hk; omega, fun z hz => ho2 z (by omega), fun z hz => ho2 z (hfr z hz), by rw [h5, heapAlloc, if_pos rfl]; rfl, ⟨by omega, hnone _ s4, hnone2 _ (Nat.le_refl _)⟩, ⟨hA.below hb15, fun hB g hg => ?_⟩, ⟨⟨Nat.zero_le _, Nat.zero_le _, fun j x hx => by simp at hx⟩, fun _ => rfl, (fun g hg => by cases hg)⟩, (fun z hz => by cases hz), List.nodup_nil⟩
  obtain ⟨x, hx⟩ : ∃ x, B[0]? = some x := by
    cases B with
    | nil => exact absurd rfl hB
    | cons x B => exact ⟨x, rfl⟩
  obtain ⟨g', oo, hA', hgl, _⟩ := hA.at hx
  rw [hA'] at hg
  have hg : g' = g := by injection hg
  subst hg
  exact ⟨by omega, hout _ hgl, ho2 _ (by omega), by omega⟩

theorem run_nil_cache (w : World) (p : Option Addr) : (binOp .eql 22 (.pointer p) (.pointer none)).run Try.prog w = .ok (.bool p.isNone) w := run_eql_ptr_nil Try.prog w 22 _ p Try.underlying22

set_option maxRecDepth 100000 in
set_option maxHeartbeats 8000000 in
theorem loads_walk (w : World) (N0 : Int) (A : Option Addr) (c : Nat) (Z : List (Int × Int)) (hZ : ZAt w A c Z) (s o kp : Int) (A2 : Option Addr) (c2 : Nat) (l : List (Int × List Bool)) (h : SbAt 0 w A2 c2 l) (hl64 : ∀ x ∈ l, -9223372036854775808 ≤ x.1 ∧ x.1 < 9223372036854775808) :
    Calls Try.prog 9 #[sv N0 A Z.length c, stv s o kp A2 l.length c2] w fun e w' => e = .returned (.bool true) ∧ Below w.heap.size w w' := by
  obtain ⟨n, hn⟩ : ∃ n, n = l.length := ⟨_, rfl⟩
  obtain ⟨zn, hzn⟩ : ∃ zn, zn = Z.length := ⟨_, rfl⟩
  obtain ⟨W1, hW1⟩ : ∃ W1, W1 = (w.alloc (.cells #[.int .i64 N0, .slice A zn c] 46)).alloc (.cells #[.int .i64 s, .int .i64 o, .int .i64 kp, .slice A2 n c2] 69) := ⟨_, rfl⟩
  have hb1 : Below w.heap.size w W1 := by rw [hW1]; exact (below_box w _).alloc (by simp) _
  have hs1 : W1.heap.size = w.heap.size + 2 := by rw [hW1]; simp
  have hA1 : W1.heap[w.heap.size]? = some (.cells #[.int .i64 N0, .slice A zn c] 46 (0, 0)) := by
    rw [hW1, alloc_old _ _ _ (by simp), heapAlloc, if_pos rfl]
  obtain ⟨D, hD⟩ : ∃ D, D = w.heap.size + 1 := ⟨_, rfl⟩
  have hB1 : W1.heap[D]? = some (.cells #[.int .i64 s, .int .i64 o, .int .i64 kp, .slice A2 n c2] 69 (0, 0)) := by
    rw [hW1, hD, heapAlloc, if_pos (by simp)]
  obtain ⟨a0, a1, _, _⟩ := Bu.two_cells hA1
  obtain ⟨b0, b1, b2, b3⟩ := four_at hB1
  have hln := h.1
  have hlm := h.2.1
  have hzl := hZ.1
  have hzm := hZ.2.1
  unfold maxLen at hlm hzm
  have hld := load_ok W1 N0 A c Z (hZ.below hb1)
  rw [← hzn] at hld hzl
  have HL := Lib.hid hld
  have HX := Lib.hid (And.intro (h.below hb1) (And.intro hn (And.intro hb1 (And.intro hs1 (And.intro hA1 (And.intro hB1 (And.intro (hZ.below hb1) (And.intro hl64 hzn))))))))
  have HW := Lib.hid hW1
  have HD := Lib.hid hD
  have HSh := Lib.hid (fun W => shown_ok W)
  have hwW : w.heap.size < W1.heap.size := by omega
  have hDW : D < W1.heap.size := by omega
  rw [← hn] at hln ⊢
  rw [← hzn]
  clear h hn hb1 hs1 hA1 hB1 hZ hl64 hzn hW1 hD hld
  by_cases h40 : 40 < n
  · have d40 : decide (40 < n) = true := decide_eq_true h40
    go_enter Try.func9, Try.ntmps9
    go_upto_region 1 with (fail)
    rw [← HW.out, ← HD.out]
    go_wp2_with (go_at_call 17; refine (HSh.out _).mono ?_; rintro _ W9 ⟨rfl, hb9⟩; have H9 := Lib.hid hb9; clear hb9)
    go_ret
    exact ⟨rfl, below_step HX.out.2.2.1 H9.out (Nat.le_refl _)⟩
  have d40 : decide (40 < n) = false := decide_eq_false h40
  by_cases h100 : 100 < zn
  · have d100 : decide (100 < zn) = true := decide_eq_true h100
    go_enter Try.func9, Try.ntmps9
    go_upto_region 1 with (fail)
    rw [← HW.out, ← HD.out]
    go_wp2_with (go_at_call 17; refine (HSh.out _).mono ?_; rintro _ W9 ⟨rfl, hb9⟩; have H9 := Lib.hid hb9; clear hb9)
    go_ret
    exact ⟨rfl, below_step HX.out.2.2.1 H9.out (Nat.le_refl _)⟩
  have d100 : decide (100 < zn) = false := decide_eq_false h100
  go_enter Try.func9, Try.ntmps9
  go_upto_region 1 with (fail)
  rw [← HW.out, ← HD.out]
  go_wp2_with (fail)
  go_loop [5] (fun i => ∃ k : Nat, k ≤ n ∧ i = .int .i64 (k : Int)) (fun i => n - (intOf i).toNat)
  case atStart => exact ⟨0, Nat.zero_le _, rfl⟩
  case round =>
    obtain ⟨k, hk, rfl⟩ := hrel
    have e0 : (0 : Int) ≤ (k : Int) := by omega
    by_cases hlt : k < n
    · have e1 : (k : Int) < (n : Int) := by omega
      have hkk : IntKind.i64.wrap ((k : Int) + 1) = ((k + 1 : Nat) : Int) := by rw [IntWalk.i64_in _ (by omega)]; rfl
      obtain ⟨⟨pg, us⟩, hx⟩ : ∃ x, l[k]? = some x := ⟨_, List.getElem?_eq_getElem (by have := HX.out.2.1; omega)⟩
      obtain ⟨g1, o1, U1, cu1, rfl, hg1, d0, d1, hU1⟩ := sb_at HX.out.1 hx
      dsimp only at d0 d1 hU1
      obtain ⟨q, hq⟩ : ∃ q, q = us.length := ⟨_, rfl⟩
      have hm1 := hU1.1
      have hx1 := hU1.2.1
      unfold maxLen at hx1
      rw [← hq] at d1 hm1
      clear hx hU1 hq
      by_cases h200 : 200 < q
      · have d200 : decide (200 < q) = true := decide_eq_true h200
        go_wp2_with (go_at_call 17; refine (HSh.out _).mono ?_; rintro _ W9 ⟨rfl, hb9⟩; have H9 := Lib.hid hb9; clear hb9)
        go_ret
        exact ⟨rfl, below_step HX.out.2.2.1 H9.out (Nat.le_refl _)⟩
      · have d200 : decide (200 < q) = false := decide_eq_false h200
        go_wp2_with (fail)
        go_round
        case rel => exact ⟨k + 1, by omega, by go_num⟩
        case measure => simp [intOf]; omega
    · obtain rfl : k = n := by omega
      have e1 : ¬ ((k : Nat) : Int) < (k : Int) := by omega
      go_wp2_with (go_at_call 32; fail)
      refine HL.out.mono ?_
      intro e2 W2 hL
      obtain ⟨hb2, hL⟩ := hL
      have f0 := (hb2.cell (p := ⟨D, 0, none⟩) hDW).trans b0
      have f1 := (hb2.cell (p := ⟨D, 1, none⟩) hDW).trans b1
      have f2 := (hb2.cell (p := ⟨D, 2, none⟩) hDW).trans b2
      have f3 := (hb2.cell (p := ⟨D, 3, none⟩) hDW).trans b3
      have hD2 : D < W2.heap.size := Nat.lt_of_lt_of_le hDW hb2.size
      have hw2 : w.heap.size < W2.heap.size := Nat.lt_of_lt_of_le hwW hb2.size
      have g0 := (hb2.cell (p := ⟨w.heap.size, 0, none⟩) hwW).trans a0
      have g1 := (hb2.cell (p := ⟨w.heap.size, 1, none⟩) hwW).trans a1
      rcases hL with ⟨hne, rfl⟩ | ⟨hz, b, M, B, hNM, hZB, rfl, hBu, hbb⟩
      · have hnb : (checkV N0 Z != 0) = true := by rw [bne_iff_ne]; exact hne
        obtain ⟨cv, hcv⟩ : ∃ cv, cv = checkV N0 Z := ⟨_, rfl⟩
        rw [← hcv] at hnb ⊢
        have HN := Lib.hid (loadC_not W2 none (isNot_nil W2) s o kp A2 k c2)
        have H2 := Lib.hid hb2
        clear hb2 hne hcv a0 a1 b0 b1 b2 b3
        go_wp2_with (go_at_call 30; fail)
        refine HN.out.mono ?_
        rintro _ W3 ⟨rfl, hb3⟩
        have H3 := Lib.hid hb3
        clear hb3
        go_wp2_with (go_at_call 17; refine (HSh.out _).mono ?_; rintro _ W9 ⟨rfl, hb9⟩; have H9 := Lib.hid hb9; clear hb9)
        go_ret
        exact ⟨rfl, below_step (below_step (below_step HX.out.2.2.1 H2.out (Nat.le_refl _)) H3.out (Nat.le_refl _)) H9.out (Nat.le_refl _)⟩
      · by_cases hsz : sizesB s o kp = true
        · have hs2 := hsz
          unfold sizesB at hs2
          rw [decide_eq_true_eq] at hs2
          obtain ⟨p1, _, _, p4, _, p6, _, _⟩ := hs2
          obtain ⟨s, rfl⟩ := Int.eq_ofNat_of_zero_le (show 0 ≤ s by omega)
          obtain ⟨o, rfl⟩ := Int.eq_ofNat_of_zero_le p4
          obtain ⟨kp, rfl⟩ := Int.eq_ofNat_of_zero_le p6
          subst hNM hZB
          have hblk : BlkAt W1 A c B := HX.out.2.2.2.2.2.2.1
          have hznB : zn = B.length := by rw [HX.out.2.2.2.2.2.2.2.2, List.length_map]
          rw [hznB] at g1
          have hP := load_walk W2 b M s o kp B A2 c2 l hBu hsz (HX.out.1.below hb2) HX.out.2.2.2.2.2.2.2.1
          rw [← HX.out.2.1] at hP
          have HP := Lib.hid hP
          have hRc := fun W3 (hb3 : Below W2.heap.size W2 W3) => loadR_ok W3 w.heap.size 0 M s o kp B A c A2 c2 l (Nat.lt_of_lt_of_le hw2 hb3.size) ((hb3.cell (p := ⟨w.heap.size, 0, none⟩) hw2).trans g0) ((hb3.cell (p := ⟨w.heap.size, 1, none⟩) hw2).trans g1) ((hblk.below hb2).below hb3) hBu.2 hsz ((HX.out.1.below hb2).below hb3) HX.out.2.2.2.2.2.2.2.1
          rw [← HX.out.2.1] at hRc
          have HRc := Lib.hid hRc
          have H2 := Lib.hid (And.intro hb2 (And.intro hbb (And.intro hBu (And.intro hznB hblk))))
          clear hb2 hsz hBu hblk hP hRc hbb hz a0 a1 b0 b1 b2 b3 hznB
          go_wp2_with (go_at_call 30; fail)
          refine HP.out.mono ?_
          intro e3 W3 hL3
          obtain ⟨hb3, hL3⟩ := hL3
          have k0 := (hb3.cell (p := ⟨D, 0, none⟩) hD2).trans f0
          have k1 := (hb3.cell (p := ⟨D, 1, none⟩) hD2).trans f1
          have k2 := (hb3.cell (p := ⟨D, 2, none⟩) hD2).trans f2
          have k3 := (hb3.cell (p := ⟨D, 3, none⟩) hD2).trans f3
          have m0 := (hb3.cell (p := ⟨w.heap.size, 0, none⟩) hw2).trans g0
          have m1 := (hb3.cell (p := ⟨w.heap.size, 1, none⟩) hw2).trans g1
          have hw3 : w.heap.size < W3.heap.size := Nat.lt_of_lt_of_le hw2 hb3.size
          have hR := HRc.out W3 hb3
          have HR := Lib.hid hR
          clear hR
          have hnil := run_nil_cache
          rcases hL3 with ⟨hok, hem, cc, own, rfl, hH, hown, hcs⟩ | ⟨hnot, rfl⟩
          · have H3 := Lib.hid (And.intro hb3 (And.intro hok (And.intro hem (And.intro hH (And.intro hown hcs)))))
            clear hb3 hok hem hH hown hcs
            go_wp2_with (go_at_call 33; fail)
            refine HR.out.mono ?_
            rintro e4 W4 ⟨hr4, hb4⟩
            rcases hr4 with ⟨_, _, hn4⟩ | ⟨hnot, _⟩
            · obtain ⟨r, own2, q, rfl, hq, hR4, hf4, ho4, hr4⟩ := hn4
              have n0 := (hb4.cell (p := ⟨w.heap.size, 0, none⟩) hw3).trans m0
              have n1 := (hb4.cell (p := ⟨w.heap.size, 1, none⟩) hw3).trans m1
              obtain ⟨W5, hW5⟩ : ∃ W5, W5 = W4.alloc (.cells #[.pointer (some ⟨b, 0, none⟩), .pointer (some ⟨cc, 0, none⟩), .int .i64 (M : Int), .slice A B.length c, .pointer (some ⟨r, 0, none⟩), .slice none 0 0] 72) := ⟨_, rfl⟩
              have hduo := loads_duo (W1 := W1) H2.out.1 H2.out.2.1 H3.out.1 H3.out.2.2.2.1 H3.out.2.2.2.2.1 hb4 hq hR4 hf4 ho4 H2.out.2.2.2.2 hW5
              have HA := Lib.hid (agrees_ok _ _ _ _ _ _ _ _ _ _ _ _ _ _ _ _ _ W5 hduo)
              have H4 := Lib.hid (And.intro hb4 (show Below W4.heap.size W4 W5 by rw [hW5]; exact below_box W4 _))
              have HW5 := Lib.hid hW5
              clear hb4 hq hR4 hf4 ho4 hr4 hduo hW5
              go_upto_region 19 with (fail)
              rw [← HW5.out]
              go_wp2_with (first | (go_at_call 31; refine HA.out.mono ?_; rintro _ W8 ⟨rfl, hb8⟩; have H8 := Lib.hid hb8; clear hb8) | (go_at_call 17; refine (HSh.out _).mono ?_; rintro _ W9 ⟨rfl, hb9⟩; have H9 := Lib.hid hb9; clear hb9))
              go_ret
              exact ⟨rfl, below_step (below_step (below_step (below_step (below_step (below_step HX.out.2.2.1 H2.out.1 (Nat.le_refl _)) H3.out.1 (Nat.le_refl _)) H4.out.1 (Nat.le_refl _)) H4.out.2 (Nat.le_refl _)) H8.out (Nat.le_refl _)) H9.out (Nat.le_refl _)⟩
            · exact absurd ⟨H3.out.2.1, H3.out.2.2.1⟩ hnot
          · have H3 := Lib.hid (And.intro hb3 hnot)
            clear hb3 hnot
            go_wp2_with (go_at_call 33; fail)
            refine HR.out.mono ?_
            rintro e4 W4 ⟨hr4, hb4⟩
            rcases hr4 with ⟨y1, y2, _⟩ | ⟨_, rfl⟩
            · exact absurd ⟨y1, y2⟩ H3.out.2
            · have H4 := Lib.hid hb4
              clear hb4
              go_wp2_with (go_at_call 17; refine (HSh.out _).mono ?_; rintro _ W9 ⟨rfl, hb9⟩; have H9 := Lib.hid hb9; clear hb9)
              go_ret
              exact ⟨rfl, below_step (below_step (below_step (below_step HX.out.2.2.1 H2.out.1 (Nat.le_refl _)) H3.out.1 (Nat.le_refl _)) H4.out (Nat.le_refl _)) H9.out (Nat.le_refl _)⟩
        · have hsz2 : sizesB s o kp = false := by simpa using hsz
          have HP := Lib.hid (load_bad W2 b M B hBu s o kp hsz2 A2 k c2)
          have H2 := Lib.hid (And.intro hb2 (And.intro hsz2 (And.intro hZB (And.intro hNM hz))))
          clear hb2 hsz hsz2 hBu hZB hNM hz a0 a1 b0 b1 b2 b3
          go_wp2_with (go_at_call 30; fail)
          refine HP.out.mono ?_
          rintro _ W3 ⟨rfl, hb3⟩
          have k0 := (hb3.cell (p := ⟨D, 0, none⟩) hD2).trans f0
          have k1 := (hb3.cell (p := ⟨D, 1, none⟩) hD2).trans f1
          have k2 := (hb3.cell (p := ⟨D, 2, none⟩) hD2).trans f2
          have k3 := (hb3.cell (p := ⟨D, 3, none⟩) hD2).trans f3
          have HR := Lib.hid (loadR_bad W3 ⟨w.heap.size, 0, none⟩ s o kp H2.out.2.1 A2 k c2)
          have H3 := Lib.hid hb3
          clear hb3
          go_wp2_with (go_at_call 33; fail)
          refine HR.out.mono ?_
          rintro _ W4 ⟨rfl, hb4⟩
          have H4 := Lib.hid hb4
          clear hb4
          have hnil := run_nil_cache
          go_wp2_with (go_at_call 17; refine (HSh.out _).mono ?_; rintro _ W9 ⟨rfl, hb9⟩; have H9 := Lib.hid hb9; clear hb9)
          go_ret
          exact ⟨rfl, below_step (below_step (below_step (below_step HX.out.2.2.1 H2.out.1 (Nat.le_refl _)) H3.out (Nat.le_refl _)) H4.out (Nat.le_refl _)) H9.out (Nat.le_refl _)⟩
end Sl
end Go.Proofs.Ytlknhbcambdccaa
