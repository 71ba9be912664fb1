/- New and Load for buddy allocators that are none. -/
import Derived.Test.YtlknhbcambdccaaJYL
import Derived.Test.YtlknhbcambdccaaK8
namespace Go.Proofs.Ytlknhbcambdccaa
open Go.RowKit
namespace Sl
open Bu

set_option maxRecDepth 100000 in
set_option maxHeartbeats 1000000 in
theorem newC_not (w : World) (p : Option Addr) (h : IsNot w p) (size order keep : Int) :
    Calls Try.prog 16 #[.pointer p, .int .i64 size, .int .i64 order, .int .i64 keep] w fun e w' => e = .returned (.tuple #[.pointer none, .int .i64 1]) ∧ w = w' := by
  have HB := Lib.hid (blocks_not w p h)
  clear h
  go_enter Try.func16, Try.ntmps16
  go_wp2_with (go_at_call 45; refine HB.out.mono ?_; rintro _ w' ⟨rfl, rfl⟩)
  go_ret2
  exact ⟨rfl, rfl⟩

set_option maxRecDepth 100000 in
set_option maxHeartbeats 1000000 in
theorem loadC_not (w : World) (p : Option Addr) (h : IsNot w p) (size order keep : Int) (A : Option Addr) (n c : Nat) :
    Calls Try.prog 30 #[.pointer p, stv size order keep A n c] w fun e w' => e = .returned (.tuple #[.pointer none, .int .i64 1]) ∧ Below w.heap.size w w' := by
  obtain ⟨W1, hW1⟩ : ∃ W1, W1 = w.alloc (.cells #[.int .i64 size, .int .i64 order, .int .i64 keep, .slice A n c] 69) := ⟨_, rfl⟩
  have hb1 : Below w.heap.size w W1 := by rw [hW1]; exact below_box w _
  have hR1 : W1.heap[w.heap.size]? = some (.cells #[.int .i64 size, .int .i64 order, .int .i64 keep, .slice A n c] 69 (0, 0)) := by rw [hW1, heapAlloc, if_pos rfl]
  obtain ⟨q0, q1, q2, q3⟩ := four_at hR1
  have HN := Lib.hid (newC_not W1 p (h.below hb1) size order keep)
  have HW := Lib.hid hW1
  have HX := Lib.hid hb1
  clear h hb1 hR1 hW1
  go_enter Try.func30, Try.ntmps30
  go_wp2_with (fail)
  rw [← HW.out]
  go_wp2_with (go_at_call 16; fail)
  refine HN.out.mono ?_
  rintro _ w' ⟨rfl, rfl⟩
  go_wp2
  go_ret2
  exact ⟨rfl, HX.out⟩
end Sl
end Go.Proofs.Ytlknhbcambdccaa
