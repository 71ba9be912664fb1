/- The comparison of sorted. -/
import Derived.Test.YtdanhbbdkcbapaaSQ
namespace Go.Proofs.Ytdanhbbdkcbapaa
open Go.RowKit
namespace Bu

set_option maxHeartbeats 1000000 in
theorem less_ok (w : World) (p q : Nat) (a c : Int) (hp : p < 1024) (hq : q < 1024) :
    Calls Try.prog 47 #[.agg #[.int .i64 (p : Int), .int .i64 a], .agg #[.int .i64 (q : Int), .int .i64 c]] w fun e w' => e = .returned (.int .i64 ((p : Int) - (q : Int))) ∧ Below w.heap.size w w' := by
  obtain ⟨W1, hW1⟩ : ∃ W1, W1 = (w.alloc (.cells #[.int .i64 (p : Int), .int .i64 a] 39)).alloc (.cells #[.int .i64 (q : Int), .int .i64 c] 39) := ⟨_, rfl⟩
  have hb : Below w.heap.size w W1 := by rw [hW1]; exact ((Below.refl _ _).alloc (Nat.le_refl _) _).alloc (by simp) _
  have x1 : W1.heap[w.heap.size]? = some (.cells #[.int .i64 (p : Int), .int .i64 a] 39 (0, 0)) := by rw [hW1, heapAlloc, if_neg (by simp), heapAlloc, if_pos rfl]
  have x2 : W1.heap[w.heap.size + 1]? = some (.cells #[.int .i64 (q : Int), .int .i64 c] 39 (0, 0)) := by rw [hW1, heapAlloc, if_pos (by simp)]
  obtain ⟨c1, _, _, _⟩ := two_cells x1
  obtain ⟨c2, _, _, _⟩ := two_cells x2
  have hw : IntKind.i64.wrap ((p : Int) - (q : Int)) = (p : Int) - (q : Int) := IntWalk.i64_in _ (by omega)
  have e1 : (p : Int) < 1024 := by omega
  have e2 : (q : Int) < 1024 := by omega
  have HB := Lib.hid hb
  clear hb x1 x2
  go_enter Try.func47, Try.ntmps47
  go_wp2_with (fail)
  rw [← hW1]
  clear hW1
  go_wp2
  go_ret
  exact ⟨rfl, HB.out⟩
end Bu
end Go.Proofs.Ytdanhbbdkcbapaa
