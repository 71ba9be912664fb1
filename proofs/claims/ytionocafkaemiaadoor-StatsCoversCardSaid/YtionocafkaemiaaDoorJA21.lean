/- Products and sums of areas: what they leave in memory, to the block. -/
import Derived.Test.YtionocafkaemiaaDoorJA13
import Derived.Test.YtionocafkaemiaaDoorJA15
namespace Go.Proofs.YtionocafkaemiaaDoor
open Go.RowKit Go.Lib Go.Shelf Go.Sort
namespace Sx
attribute [local irreducible] wpQuiet

theorem frozen_row {w : World} {p T : Nat} {cs : Array Value} (h : w.heap[p]? = some (.cells cs T (0, 0))) (j : Nat) : w.frozen? ⟨p, j, none⟩ = false := by simp [World.frozen?, h]
theorem alloc_row2 (w : World) (c d : Array Value) (T : TypeId) : (w.alloc (.cells c T)).setRow w.heap.size d = w.alloc (.cells d T) := by
  cases w with
  | mk heap tape drawn os output =>
    unfold World.setRow World.alloc
    congr 1
    apply Array.ext
    · simp
    · intro k h1 h2
      simp only [Array.getElem_modify]
      simp only [Array.size_modify, Array.size_push] at h1
      by_cases hk : heap.size = k
      · subst hk; simp
      · rw [if_neg hk]
        have : k < heap.size := by omega
        simp [Array.getElem_push, this]
theorem alloc_set2 (w : World) (a b x y : Value) (T : TypeId) : ((w.alloc (.cells #[a, b] T)).setCell ⟨w.heap.size, 0, none⟩ x).setCell ⟨w.heap.size, 1, none⟩ y = w.alloc (.cells #[x, y] T) := by
  rw [setCell_eq_setRow _ _ _ _ _ _ _ (new_at w _), setCell_eq_setRow _ _ _ _ _ _ _ (setRow_heap _ _ _ _ _ _ (new_at w _)), setRow_setRow, alloc_row2]
  rfl
def GrP (v : Value) (W : World) (e : Ending) (w' : World) : Prop := e = .returned v ∧ ∃ q os', w' = grow (W.drewN q) os'
set_option maxRecDepth 100000 in
set_option maxHeartbeats 4000000 in
theorem product_g0 (v n : Int) (hv0 : 0 ≤ v) (hv1 : v ≤ 1000000000000) (hn0 : 0 ≤ n) (hn1 : n ≤ 1000000000000) (W : World) :
    Calls Tryd.prog 53 #[.int .i64 v, .int .i64 n] W (GrP (.agg #[.int .i64 (prodV v n).h, .int .i64 (prodV v n).l]) W) := by
  obtain ⟨a, rfl⟩ := Int.eq_ofNat_of_zero_le hv0
  obtain ⟨b, rfl⟩ := Int.eq_ofNat_of_zero_le hn0
  have hp : a * b ≤ 1000000000000000000000000 := by
    have : a * b ≤ 1000000000000 * 1000000000000 := Nat.mul_le_mul (by omega) (by omega)
    omega
  have hM := Lib.hid (fun V => Any.bits_Mul64 Tryd.mul64 a b (by omega) (by omega) V)
  have hx : prodV (a : Int) (b : Int) = ⟨((a * b / 1000000000000 : Nat) : Int), ((a * b % 1000000000000 : Nat) : Int)⟩ := by
    unfold prodV; simp
  rw [hx]
  obtain ⟨hi, hhi⟩ : ∃ hi, hi = a * b / 18446744073709551616 := ⟨_, rfl⟩
  obtain ⟨lo, hlo⟩ : ∃ lo, lo = a * b % 18446744073709551616 := ⟨_, rfl⟩
  rw [← hhi, ← hlo] at hM
  have hsum : hi * 18446744073709551616 + lo = a * b := by omega
  have hD := Lib.hid (fun V => div64_q hi lo 1000000000000 (by omega) (by omega) (by omega) V)
  rw [hsum] at hD
  obtain ⟨q, hq⟩ : ∃ q, q = a * b / 1000000000000 := ⟨_, rfl⟩
  obtain ⟨r, hr⟩ : ∃ r, r = a * b % 1000000000000 := ⟨_, rfl⟩
  rw [← hq, ← hr] at hD
  rw [← hq, ← hr]
  have q0 : q ≤ 1000000000000 := by omega
  have r0 : r < 1000000000000 := by omega
  have k1 := new_at W (.cells #[.int .i64 0, .int .i64 0] 31)
  have hbW := below_box W (.cells #[.int .i64 0, .int .i64 0] 31)
  clear hhi hlo hsum hq hr hp hx
  go_enter Tryd.func53, Tryd.ntmps53
  go_upto_region 1 with (fail)
  obtain ⟨V, hV⟩ : ∃ V, V = W.alloc (.cells #[.int .i64 0, .int .i64 0] 31) := ⟨_, rfl⟩
  rw [← hV]
  rw [← hV] at k1 hbW
  have HVE := Lib.hid hV
  clear hV
  have HX := Lib.hid (And.intro hbW k1)
  clear hbW k1
  go_upto_region 3 with (first | (go_at_call 78; refine (hM.out _).mono ?_; rintro e w1 ⟨rfl, hw⟩; have hw := hw.symm; subst hw) | (go_at_call 79; refine (hD.out _).mono ?_; rintro e w1 ⟨rfl, nq, rfl⟩))
  have hrb : (V.drewN nq).heap[W.heap.size]? = some (.cells #[.int .i64 0, .int .i64 0] 31 (0, 0)) := HX.out.2
  obtain ⟨r0, r1⟩ := two_at hrb
  have hf : ∀ j, (V.drewN nq).frozen? ⟨W.heap.size, j, none⟩ = false := fun j => frozen_row hrb j
  have HR := Lib.hid hrb
  clear hrb
  go_wp2_with (fail)
  refine bodyPost_ret (results_cell_row rfl _ _ W.heap.size 31 #[.int .i64 q, .int .i64 r] (0, 0) _ rfl (set2 HR.out) Tryd.underlying31 rfl area_size2) rfl ?_
  refine ⟨rfl, nq, #[.cells #[.int .i64 q, .int .i64 r] 31], ?_⟩
  rw [HVE.out, ← alloc_eq_grow]
  exact alloc_set2 (W.drewN nq) _ _ _ _ _
theorem product_g (v n : Int) (hv0 : 0 ≤ v) (hv1 : v ≤ 1000000000000) (hn0 : 0 ≤ n) (hn1 : n ≤ 1000000000000) (W : World) :
    Calls Tryd.prog 53 #[.int .i64 v, .int .i64 n] W fun e w' => e = .returned (.agg #[.int .i64 (prodV v n).h, .int .i64 (prodV v n).l]) ∧ ∃ q os', w' = grow (W.drewN q) os' := product_g0 v n hv0 hv1 hn0 hn1 W
set_option maxRecDepth 100000 in
set_option maxHeartbeats 4000000 in
theorem plus_g (a b : Ar) (W : World) (ha : a.Ok 1000000000000000) (hb : b.Ok 1000000000000000) :
    Calls Tryd.prog 52 #[.agg #[.int .i64 a.h, .int .i64 a.l], .agg #[.int .i64 b.h, .int .i64 b.l]] W fun e w' => e = .returned (.agg #[.int .i64 (plusV a b).h, .int .i64 (plusV a b).l]) ∧ ∃ q os', w' = grow (W.drewN q) os' := by
  obtain ⟨ah, al⟩ := a
  obtain ⟨bh, bl⟩ := b
  obtain ⟨a1, a2, a3, a4⟩ := ha
  obtain ⟨b1, b2, b3, b4⟩ := hb
  dsimp only at a1 a2 a3 a4 b1 b2 b3 b4
  obtain ⟨k1, k2, k3⟩ := three_boxes W (.cells #[.int .i64 ah, .int .i64 al] 31) (.cells #[.int .i64 bh, .int .i64 bl] 31) (.cells #[.int .i64 0, .int .i64 0] 31)
  have hbW := below_std (V := W) (.cells #[.int .i64 ah, .int .i64 al] 31) (.cells #[.int .i64 bh, .int .i64 bl] 31) (.cells #[.int .i64 0, .int .i64 0] 31)
  go_enter Tryd.func52, Tryd.ntmps52
  go_upto_region 1 with (fail)
  obtain ⟨V, hV⟩ : ∃ V, V = ((W.alloc (.cells #[.int .i64 ah, .int .i64 al] 31)).alloc (.cells #[.int .i64 bh, .int .i64 bl] 31)).alloc (.cells #[.int .i64 0, .int .i64 0] 31) := ⟨_, rfl⟩
  rw [← hV]
  rw [← hV] at k1 k2 k3 hbW
  have HVE := Lib.hid hV
  clear hV
  obtain ⟨c0, c1⟩ := two_at k1
  obtain ⟨d0, d1⟩ := two_at k2
  obtain ⟨e0, e1⟩ := two_at k3
  have hf : ∀ j, V.frozen? ⟨W.heap.size + 2, j, none⟩ = false := fun j => by simp [World.frozen?, k3]
  have HX := Lib.hid (And.intro hbW k3)
  clear hbW k1 k2 k3
  have hx : plusV ⟨ah, al⟩ ⟨bh, bl⟩ = ⟨ah + bh + (al + bl) / 1000000000000, (al + bl) % 1000000000000⟩ := rfl
  have HP := Lib.hid hx
  clear hx
  obtain ⟨q, hq⟩ : ∃ q, q = (al + bl) / 1000000000000 := ⟨_, rfl⟩
  obtain ⟨r, hr⟩ : ∃ r, r = (al + bl) % 1000000000000 := ⟨_, rfl⟩
  have t1 : (al + bl).tdiv 1000000000000 = q := by rw [Int.tdiv_eq_ediv_of_nonneg (by omega)]; exact hq.symm
  have t2 : (al + bl).tmod 1000000000000 = r := by rw [Int.tmod_eq_emod_of_nonneg (by omega)]; exact hr.symm
  have q0 : 0 ≤ q ∧ q ≤ 1 := by omega
  have r0 : 0 ≤ r ∧ r < 1000000000000 := by omega
  rw [← hq, ← hr] at HP
  clear hq hr
  go_wp2_with (fail)
  refine bodyPost_ret (results_cell_row rfl _ _ (W.heap.size + 2) 31 #[.int .i64 (ah + bh + q), .int .i64 r] (0, 0) _ rfl (set2 HX.out.2) Tryd.underlying31 rfl area_size) rfl ⟨?_, 0, #[.cells #[.int .i64 ah, .int .i64 al] 31, .cells #[.int .i64 bh, .int .i64 bl] 31, .cells #[.int .i64 (ah + bh + q), .int .i64 r] 31], ?_⟩
  · rw [HP.out]
  · rw [HVE.out]
    have hs : ((W.alloc (.cells #[.int .i64 ah, .int .i64 al] 31)).alloc (.cells #[.int .i64 bh, .int .i64 bl] 31)).heap.size = W.heap.size + 2 := by simp
    rw [← hs, alloc_set2, alloc_eq_grow, alloc_eq_grow, alloc_eq_grow, grow_grow, grow_grow]
    rfl
end Sx
end Go.Proofs.YtionocafkaemiaaDoor
