/- Plus, in the reference and in the program. Plus and Less of the reference. -/
import Derived.Test.YtionocafkaemiaaDoorK0
import Derived.Test.YtionocafkaemiaaDoorJA8
import Derived.Test.YtionocafkaemiaaDoorK1
namespace Go.Proofs.YtionocafkaemiaaDoor
open Go.RowKit Go.Lib
namespace Sx
attribute [local irreducible] wpQuiet

theorem area_size : (Tryd.prog.info? 31).map (·.size) = some 2 := by kernel_rfl
theorem three_boxes (w : World) (a b c : Obj) : (((w.alloc a).alloc b).alloc c).heap[w.heap.size]? = some a ∧ (((w.alloc a).alloc b).alloc c).heap[w.heap.size + 1]? = some b ∧ (((w.alloc a).alloc b).alloc c).heap[w.heap.size + 2]? = some c := by
  refine ⟨?_, ?_, ?_⟩
  · rw [heapAlloc, if_neg (by simp <;> omega), heapAlloc, if_neg (by simp <;> omega), heapAlloc, if_pos rfl]
  · rw [heapAlloc, if_neg (by simp <;> omega), heapAlloc, if_pos (by simp <;> omega)]
  · rw [heapAlloc, if_pos (by simp <;> omega)]
set_option maxRecDepth 100000 in
set_option maxHeartbeats 4000000 in
theorem plus_ok (a b : Ar) (W : World) (ha : a.Ok 1000000000000000) (hb : b.Ok 1000000000000000) :
    Calls Tryd.prog 52 #[.agg #[.int .i64 a.h, .int .i64 a.l], .agg #[.int .i64 b.h, .int .i64 b.l]] W fun e w' => e = .returned (.agg #[.int .i64 (plusV a b).h, .int .i64 (plusV a b).l]) ∧ Below W.heap.size W w' := by
  obtain ⟨ah, al⟩ := a
  obtain ⟨bh, bl⟩ := b
  obtain ⟨a1, a2, a3, a4⟩ := ha
  obtain ⟨b1, b2, b3, b4⟩ := hb
  dsimp only at a1 a2 a3 a4 b1 b2 b3 b4
  obtain ⟨k1, k2, k3⟩ := three_boxes W (.cells #[.int .i64 ah, .int .i64 al] 31) (.cells #[.int .i64 bh, .int .i64 bl] 31) (.cells #[.int .i64 0, .int .i64 0] 31)
  have hbW := below_std (V := W) (.cells #[.int .i64 ah, .int .i64 al] 31) (.cells #[.int .i64 bh, .int .i64 bl] 31) (.cells #[.int .i64 0, .int .i64 0] 31)
  go_enter Tryd.func52, Tryd.ntmps52
  go_upto_region 1 with (fail)
  generalize ((W.alloc (.cells #[.int .i64 ah, .int .i64 al] 31)).alloc (.cells #[.int .i64 bh, .int .i64 bl] 31)).alloc (.cells #[.int .i64 0, .int .i64 0] 31) = V at *
  obtain ⟨c0, c1⟩ := two_at k1
  obtain ⟨d0, d1⟩ := two_at k2
  obtain ⟨e0, e1⟩ := two_at k3
  have hf : ∀ j, V.frozen? ⟨W.heap.size + 2, j, none⟩ = false := fun j => by simp [World.frozen?, k3]
  have HX := Lib.hid (And.intro hbW k3)
  clear hbW k1 k2 k3
  have hx : plusV ⟨ah, al⟩ ⟨bh, bl⟩ = ⟨ah + bh + (al + bl) / 1000000000000, (al + bl) % 1000000000000⟩ := rfl
  have HP := Lib.hid hx
  clear hx
  obtain ⟨q, hq⟩ : ∃ q, q = (al + bl) / 1000000000000 := ⟨_, rfl⟩
  obtain ⟨r, hr⟩ : ∃ r, r = (al + bl) % 1000000000000 := ⟨_, rfl⟩
  have t1 : (al + bl).tdiv 1000000000000 = q := by rw [Int.tdiv_eq_ediv_of_nonneg (by omega)]; exact hq.symm
  have t2 : (al + bl).tmod 1000000000000 = r := by rw [Int.tmod_eq_emod_of_nonneg (by omega)]; exact hr.symm
  have q0 : 0 ≤ q ∧ q ≤ 1 := by omega
  have r0 : 0 ≤ r ∧ r < 1000000000000 := by omega
  rw [← hq, ← hr] at HP
  clear hq hr
  go_wp2_with (fail)
  refine bodyPost_ret (results_cell_row rfl _ _ (W.heap.size + 2) 31 #[.int .i64 (ah + bh + q), .int .i64 r] (0, 0) _ rfl (set2 HX.out.2) Tryd.underlying31 rfl area_size) rfl ⟨?_, ?_⟩
  · rw [HP.out]
  · exact below_set2 HX.out.1 (by omega)
end Sx
end Go.Proofs.YtionocafkaemiaaDoor
namespace Go.Proofs.YtionocafkaemiaaDoor
open Go.RowKit Go.Lib
namespace Sx
attribute [local irreducible] wpQuiet
set_option maxRecDepth 100000 in
set_option maxHeartbeats 4000000 in
theorem plusR_ok (a b : Ar) (W : World) (ha : a.Ok 1000000000000000) (hb : b.Ok 1000000000000000) :
    Calls Tryd.prog 31 #[.agg #[.int .i64 a.h, .int .i64 a.l], .agg #[.int .i64 b.h, .int .i64 b.l]] W fun e w' => e = .returned (.agg #[.int .i64 (plusV a b).h, .int .i64 (plusV a b).l]) ∧ Below W.heap.size W w' := by
  obtain ⟨ah, al⟩ := a
  obtain ⟨bh, bl⟩ := b
  obtain ⟨a1, a2, a3, a4⟩ := ha
  obtain ⟨b1, b2, b3, b4⟩ := hb
  dsimp only at a1 a2 a3 a4 b1 b2 b3 b4
  obtain ⟨k1, k2, k3⟩ := three_boxes W (.cells #[.int .i64 ah, .int .i64 al] 31) (.cells #[.int .i64 bh, .int .i64 bl] 31) (.cells #[.int .i64 0, .int .i64 0] 31)
  have hbW := below_std (V := W) (.cells #[.int .i64 ah, .int .i64 al] 31) (.cells #[.int .i64 bh, .int .i64 bl] 31) (.cells #[.int .i64 0, .int .i64 0] 31)
  go_enter Tryd.func31, Tryd.ntmps31
  go_upto_region 1 with (fail)
  generalize ((W.alloc (.cells #[.int .i64 ah, .int .i64 al] 31)).alloc (.cells #[.int .i64 bh, .int .i64 bl] 31)).alloc (.cells #[.int .i64 0, .int .i64 0] 31) = V at *
  obtain ⟨c0, c1⟩ := two_at k1
  obtain ⟨d0, d1⟩ := two_at k2
  obtain ⟨e0, e1⟩ := two_at k3
  have hf : ∀ j, V.frozen? ⟨W.heap.size + 2, j, none⟩ = false := fun j => by simp [World.frozen?, k3]
  have HX := Lib.hid (And.intro hbW k3)
  clear hbW k1 k2 k3
  have hx : plusV ⟨ah, al⟩ ⟨bh, bl⟩ = ⟨ah + bh + (al + bl) / 1000000000000, (al + bl) % 1000000000000⟩ := rfl
  have HP := Lib.hid hx
  clear hx
  obtain ⟨q, hq⟩ : ∃ q, q = (al + bl) / 1000000000000 := ⟨_, rfl⟩
  obtain ⟨r, hr⟩ : ∃ r, r = (al + bl) % 1000000000000 := ⟨_, rfl⟩
  have t1 : (al + bl).tdiv 1000000000000 = q := by rw [Int.tdiv_eq_ediv_of_nonneg (by omega)]; exact hq.symm
  have t2 : (al + bl).tmod 1000000000000 = r := by rw [Int.tmod_eq_emod_of_nonneg (by omega)]; exact hr.symm
  have q0 : 0 ≤ q ∧ q ≤ 1 := by omega
  have r0 : 0 ≤ r ∧ r < 1000000000000 := by omega
  rw [← hq, ← hr] at HP
  clear hq hr
  go_wp2_with (fail)
  refine bodyPost_ret (results_cell_row rfl _ _ (W.heap.size + 2) 31 #[.int .i64 (ah + bh + q), .int .i64 r] (0, 0) _ rfl (set2 HX.out.2) Tryd.underlying31 rfl area_size) rfl ⟨?_, ?_⟩
  · rw [HP.out]
  · exact below_set2 HX.out.1 (by omega)

set_option maxRecDepth 100000 in
set_option maxHeartbeats 4000000 in
theorem lessR_ok (a b : Ar) (W : World) :
    Calls Tryd.prog 22 #[.agg #[.int .i64 a.h, .int .i64 a.l], .agg #[.int .i64 b.h, .int .i64 b.l]] W fun e w' => e = .returned (.bool (lessV a b)) ∧ Below W.heap.size W w' := by
  obtain ⟨ah, al⟩ := a
  obtain ⟨bh, bl⟩ := b
  obtain ⟨k1, k2⟩ := two_boxes W #[.int .i64 ah, .int .i64 al] #[.int .i64 bh, .int .i64 bl] 31 31
  have hb : Below W.heap.size W ((W.alloc (.cells #[.int .i64 ah, .int .i64 al] 31)).alloc (.cells #[.int .i64 bh, .int .i64 bl] 31)) := (below_box W _).alloc (by simp) _
  have HX := Lib.hid hb
  clear hb
  have hv : lessV ⟨ah, al⟩ ⟨bh, bl⟩ = decide (ah < bh ∨ (ah = bh ∧ al < bl)) := rfl
  rw [hv]
  by_cases h1 : ah < bh
  · rw [show decide (ah < bh ∨ (ah = bh ∧ al < bl)) = true by simp; omega]
    clear hv
    go_enter Tryd.func22, Tryd.ntmps22
    go_upto_region 1 with (fail)
    generalize (W.alloc (.cells #[.int .i64 ah, .int .i64 al] 31)).alloc (.cells #[.int .i64 bh, .int .i64 bl] 31) = V at *
    obtain ⟨c0, c1⟩ := two_at k1
    obtain ⟨d0, d1⟩ := two_at k2
    clear k1 k2
    go_wp2_with (fail)
    go_ret
    exact ⟨rfl, HX.out⟩
  · by_cases h2 : ah = bh
    · subst h2
      rw [show decide (ah < ah ∨ (ah = ah ∧ al < bl)) = decide (al < bl) by simp]
      clear hv
      go_enter Tryd.func22, Tryd.ntmps22
      go_upto_region 1 with (fail)
      generalize (W.alloc (.cells #[.int .i64 ah, .int .i64 al] 31)).alloc (.cells #[.int .i64 ah, .int .i64 bl] 31) = V at *
      obtain ⟨c0, c1⟩ := two_at k1
      obtain ⟨d0, d1⟩ := two_at k2
      clear k1 k2
      go_wp2_with (fail)
      go_ret
      exact ⟨rfl, HX.out⟩
    · rw [show decide (ah < bh ∨ (ah = bh ∧ al < bl)) = false by simp; omega]
      clear hv
      go_enter Tryd.func22, Tryd.ntmps22
      go_upto_region 1 with (fail)
      generalize (W.alloc (.cells #[.int .i64 ah, .int .i64 al] 31)).alloc (.cells #[.int .i64 bh, .int .i64 bl] 31) = V at *
      obtain ⟨c0, c1⟩ := two_at k1
      obtain ⟨d0, d1⟩ := two_at k2
      clear k1 k2
      go_wp2_with (fail)
      go_ret
      exact ⟨rfl, HX.out⟩
end Sx
end Go.Proofs.YtionocafkaemiaaDoor
