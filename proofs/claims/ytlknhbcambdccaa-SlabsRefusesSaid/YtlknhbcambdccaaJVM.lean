/- An allocation of a variable, as a step with a letter for the world. -/
import Derived.Test.YtlknhbcambdccaaJVK
namespace Go.Proofs.Ytlknhbcambdccaa
open Go.RowKit
namespace Sl
open Bu

theorem run_alloc_S (w : World) : (Instr.alloc 69 true (.tuple #[])).run Try.prog w = .ok (.pointer (some ⟨w.heap.size, 0, none⟩)) (w.alloc (.cells #[.int .i64 0, .int .i64 0, .int .i64 0, .slice none 0 0] 69)) := by kernel_rfl
theorem run_alloc_B (w : World) : (Instr.alloc 46 true (.tuple #[])).run Try.prog w = .ok (.pointer (some ⟨w.heap.size, 0, none⟩)) (w.alloc (.cells #[.int .i64 0, .slice none 0 0] 46)) := by kernel_rfl

theorem wp_alloc_S {w : World} {o : Oper} {a : Act} {K : Act → World → Prop} {Q : Exit → Act → World → Prop} (ho : o.op = .alloc 69)
    (h : ∀ p W', W'.heap[p]? = some (.cells #[.int .i64 0, .int .i64 0, .int .i64 0, .slice none 0 0] 69 (0, 0)) → w.heap.size ≤ p → Below w.heap.size w W' → K (a.put o.dst (.pointer (some ⟨p, 0, none⟩))) W') : Oper.wp Try.prog o a w K Q := by
  unfold Oper.wp
  simp only [execOp, ho, Sem.run_bind, Sem.run_pure, Result.andThen_ok, run_alloc_S]
  exact h _ _ (by rw [heapAlloc, if_pos rfl]) (Nat.le_refl _) (below_box w _)
theorem wp_alloc_B {w : World} {o : Oper} {a : Act} {K : Act → World → Prop} {Q : Exit → Act → World → Prop} (ho : o.op = .alloc 46)
    (h : ∀ p W', W'.heap[p]? = some (.cells #[.int .i64 0, .slice none 0 0] 46 (0, 0)) → w.heap.size ≤ p → Below w.heap.size w W' → K (a.put o.dst (.pointer (some ⟨p, 0, none⟩))) W') : Oper.wp Try.prog o a w K Q := by
  unfold Oper.wp
  simp only [execOp, ho, Sem.run_bind, Sem.run_pure, Result.andThen_ok, run_alloc_B]
  exact h _ _ (by rw [heapAlloc, if_pos rfl]) (Nat.le_refl _) (below_box w _)
end Sl
end Go.Proofs.Ytlknhbcambdccaa
