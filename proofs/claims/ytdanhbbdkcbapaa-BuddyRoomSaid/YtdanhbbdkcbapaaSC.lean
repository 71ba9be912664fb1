/- New. -/
import Derived.Test.YtdanhbbdkcbapaaSB
namespace Go.Proofs.Ytdanhbbdkcbapaa
open Go.RowKit
namespace Bu

theorem is_nil (w : World) : Calls Try.prog 29 #[.pointer none] w fun e w' => e = .returned (.bool false) ∧ w = w' := by
  go_enter Try.func29, Try.ntmps29
  go_wp2
  go_ret
  exact ⟨rfl, rfl⟩
theorem is_ok (w : World) (b N : Nat) (Fr Gv : Nat → Nat → Bool) (h : Bu w b N Fr Gv) : Calls Try.prog 29 #[.pointer (some ⟨b, 0, none⟩)] w fun e w' => e = .returned (.bool true) ∧ w = w' := by
  obtain ⟨h0, _⟩ := h.head
  clear h
  go_enter Try.func29, Try.ntmps29
  go_wp2
  go_ret
  exact ⟨rfl, rfl⟩

theorem zero_size : Try.zeroCells58.size = 354 := by kernel_rfl
theorem zero_cells : Try.zeroCells58.toList.drop 2 = List.replicate 352 (Value.int .u64 0) := by kernel_rfl
theorem zero_at (i : Nat) (h : i < 352) : Try.zeroCells58[2 + i]? = some (.int .u64 0) := by
  have h1 : (Try.zeroCells58.toList.drop 2)[i]? = some (.int .u64 0) := by
    rw [zero_cells, List.getElem?_replicate, if_pos h]
  rw [List.getElem?_drop] at h1
  simpa using h1

def noSets : Nat → Nat → Bool := fun _ _ => false
theorem zero_bu (w : World) (N : Nat) : Bu (w.alloc (.cells ((Try.zeroCells58.setIfInBounds 0 (.bool true)).setIfInBounds 1 (.int .i64 (N : Int))) 58)) w.heap.size N noSets noSets := by
  have hz := zero_size
  refine ⟨_, heap_alloc_new _ _, by simp [hz], ?_, ?_, fun k q hk hq => ⟨?_, ?_⟩⟩
  · rw [Array.getElem?_setIfInBounds, if_neg (by omega), Array.getElem?_setIfInBounds, if_pos rfl, if_pos (by omega)]
  · rw [Array.getElem?_setIfInBounds, if_pos rfl, if_pos (by simp [hz])]
  · rw [Array.getElem?_setIfInBounds, if_neg (by omega), Array.getElem?_setIfInBounds, if_neg (by omega), show 2 + k * 16 + q = 2 + (k * 16 + q) by omega, zero_at _ (by omega)]
    unfold noSets
    rw [word_zero]; rfl
  · rw [Array.getElem?_setIfInBounds, if_neg (by omega), Array.getElem?_setIfInBounds, if_neg (by omega), show 178 + k * 16 + q = 2 + (176 + k * 16 + q) by omega, zero_at _ (by omega)]
    unfold noSets
    rw [word_zero]; rfl

/-- The free blocks at the beginning. -/
def newFree (N : Nat) : Nat → Nat → Bool := upd noSets N (sadd (noSets N) 0)

set_option maxRecDepth 100000 in
set_option maxHeartbeats 2000000 in
theorem new_ok (w : World) (N : Nat) (hN : N ≤ 10) :
    Calls Try.prog 26 #[.int .i64 N] w fun e w' => e = .returned (.tuple #[.pointer (some ⟨w.heap.size, 0, none⟩), .int .i64 0]) ∧ Bu w' w.heap.size N (newFree N) noSets ∧ Below w.heap.size w w' := by
  have hB := zero_bu w N
  have hP := Lib.hid (put_ok _ w.heap.size (2 + N * 16) 0 (noSets N) (hB.free (by omega)) (by decide))
  have hF := Lib.hid (hB.putF (k := N) (p := 0) (by omega) (by decide))
  have hbw := Lib.hid (below_box w (.cells ((Try.zeroCells58.setIfInBounds 0 (.bool true)).setIfInBounds 1 (.int .i64 (N : Int))) 58))
  clear hB
  go_enter Try.func26, Try.ntmps26
  go_wp2_with (go_at_call 37; fail)
  generalize (w.alloc (.cells ((Try.zeroCells58.setIfInBounds 0 (.bool true)).setIfInBounds 1 (.int .i64 (N : Int))) 58)) = W at *
  refine hP.out.mono ?_
  rintro e w' ⟨rfl, rfl⟩
  go_wp2
  go_ret2
  exact ⟨rfl, hF.out, (hbw.out.setCell (p := ⟨w.heap.size, _, none⟩) (Nat.le_refl _) _).drew⟩
set_option maxHeartbeats 400000 in
theorem new_bad (w : World) (N : Int) (hN : N < 0 ∨ 10 < N) :
    Calls Try.prog 26 #[.int .i64 N] w fun e w' => e = .returned (.tuple #[.pointer none, .int .i64 7]) ∧ w = w' := by
  have hN2 : N < 0 ∨ (0 ≤ N ∧ 10 < N) := by omega
  clear hN
  rcases hN2 with h | ⟨h, h2⟩
  all_goals
    go_enter Try.func26, Try.ntmps26
    go_wp2
    go_ret2
    exact ⟨rfl, rfl⟩
end Bu
end Go.Proofs.Ytdanhbbdkcbapaa
