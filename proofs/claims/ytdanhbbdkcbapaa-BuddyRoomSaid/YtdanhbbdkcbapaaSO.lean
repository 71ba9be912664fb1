/- Alloc refused. -/
import Derived.Test.YtdanhbbdkcbapaaSN
namespace Go.Proofs.Ytdanhbbdkcbapaa
open Go.RowKit
namespace Bu

set_option maxRecDepth 100000 in
set_option maxHeartbeats 1000000 in
theorem alloc_bad (w : World) (b N : Nat) (order : Int) (Fr Gv : Nat → Nat → Bool) (hB : Bu w b N Fr Gv) (ho : order < 0 ∨ 10 < order) :
    Calls Try.prog 14 #[.pointer (some ⟨b, 0, none⟩), .int .i64 order] w fun e w' => e = .returned (.tuple #[.int .i64 0, .int .i64 7]) ∧ Below w.heap.size w w' := by
  have hbl := hB.lt
  obtain ⟨W0, hW0⟩ : ∃ W0, W0 = ((((w.alloc (.cells #[.pointer (some ⟨b, 0, none⟩)] 28)).alloc (.cells #[.int .i64 order] 3)).alloc (.cells #[.int .i64 0] 3)).alloc (.cells #[.int .i64 0] 25)) := ⟨_, rfl⟩
  have hs0 : W0.heap.size = w.heap.size + 4 := by rw [hW0]; simp
  have hb0 : Below w.heap.size w W0 := by rw [hW0]; exact ((((Below.refl _ _).alloc (Nat.le_refl _) _).alloc (by simp) _).alloc (by simp; omega) _).alloc (by simp; omega) _
  have x2 : W0.heap[w.heap.size]? = some (.cells #[.pointer (some ⟨b, 0, none⟩)] 28 (0, 0)) := by
    rw [hW0, heapAlloc, if_neg (by simp <;> omega), heapAlloc, if_neg (by simp <;> omega), heapAlloc, if_neg (by simp), heapAlloc, if_pos rfl]
  have x3 : W0.heap[w.heap.size + 1]? = some (.cells #[.int .i64 order] 3 (0, 0)) := by
    rw [hW0, heapAlloc, if_neg (by simp <;> omega), heapAlloc, if_neg (by simp), heapAlloc, if_pos (by simp)]
  have x4 : W0.heap[w.heap.size + 1 + 1]? = some (.cells #[.int .i64 0] 3 (0, 0)) := by
    rw [hW0, heapAlloc, if_neg (by simp), heapAlloc, if_pos (by simp)]
  have x5 : W0.heap[w.heap.size + 1 + 1 + 1]? = some (.cells #[.int .i64 0] 25 (0, 0)) := by
    rw [hW0, heapAlloc, if_pos (by simp)]
  have h4 := one_cell x4
  have h5 := one_cell x5
  obtain ⟨c2, _⟩ := one_cell x2
  obtain ⟨c3, _⟩ := one_cell x3
  obtain ⟨c4, f4⟩ := h4
  obtain ⟨c5, f5⟩ := h5
  have HIs := Lib.hid (is_ok W0 b N Fr Gv (hB.keep (hb0.block b hbl)))
  have H0 := Lib.hid (And.intro hb0 (And.intro x4 x5))
  clear hB hb0 x2 x3 x4 x5
  have hcase : order < 0 ∨ (0 ≤ order ∧ 10 < order) := by omega
  clear ho
  rcases hcase with hc | ⟨hc, hd⟩
  all_goals
    go_enter Try.func14, Try.ntmps14
    go_wp2_with (fail)
    rw [← hW0]
    clear hW0
    go_wp2_with (go_at_call 29; refine HIs.out.mono ?_; rintro e w' ⟨rfl, rfl⟩)
    have hq5 := one_cell (w := (W0.setCell ⟨w.heap.size + 1 + 1, 0, none⟩ (.int .i64 0)).setCell ⟨w.heap.size + 1 + 1 + 1, 0, none⟩ (.int .i64 7)) (b := w.heap.size + 1 + 1 + 1) (setCell_at _ _ _ _ _ _ ((setCell_far _ _ _ _ (by show w.heap.size + 1 + 1 + 1 ≠ w.heap.size + 1 + 1; omega)).trans H0.out.2.2))
    have hq4 := one_cell (w := (W0.setCell ⟨w.heap.size + 1 + 1, 0, none⟩ (.int .i64 0)).setCell ⟨w.heap.size + 1 + 1 + 1, 0, none⟩ (.int .i64 7)) (b := w.heap.size + 1 + 1) ((setCell_far _ _ _ _ (by show w.heap.size + 1 + 1 ≠ w.heap.size + 1 + 1 + 1; omega)).trans (setCell_at _ _ _ _ _ _ H0.out.2.1))
    refine bodyPost_ret (alloc_results _ w.heap.size 0 7 _ rfl rfl hq4.1 hq5.1) rfl ⟨rfl, (H0.out.1.setCell (p := ⟨w.heap.size + 1 + 1, 0, none⟩) (by show w.heap.size ≤ w.heap.size + 1 + 1; omega) _).setCell (p := ⟨w.heap.size + 1 + 1 + 1, 0, none⟩) (by show w.heap.size ≤ w.heap.size + 1 + 1 + 1; omega) _⟩

end Bu
end Go.Proofs.Ytdanhbbdkcbapaa
