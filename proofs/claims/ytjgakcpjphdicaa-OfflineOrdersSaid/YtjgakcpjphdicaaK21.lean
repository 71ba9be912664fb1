/- The example's blocks. Plain: the document's example. -/
import Derived.Test.YtjgakcpjphdicaaK20
import Derived.Test.YtjgakcpjphdicaaK13
import Derived.Test.YtjgakcpjphdicaaK14
namespace Go.Proofs.Ytjgakcpjphdicaa
open Go.RowKit
namespace Of
def exL : List OB := [⟨10, 1, 0, 2⟩, ⟨20, 1, 1, 3⟩, ⟨10, 1, 2, 4⟩, ⟨20, 16, 3, 5⟩]
theorem exL_ok : OkL exL := (checkV_ok exL).1 (by decide)
abbrev exC : Obj := .cells #[.int .i64 10, .int .i64 1, .int .i64 0, .int .i64 2, .int .i64 20, .int .i64 1, .int .i64 1, .int .i64 3, .int .i64 10, .int .i64 1, .int .i64 2, .int .i64 4, .int .i64 20, .int .i64 16, .int .i64 3, .int .i64 5] 42
theorem ex_at (w : World) : OBAt (w.alloc exC) (some ⟨w.heap.size, 0, none⟩) 4 exL := by
  have h : (w.alloc exC).heap[w.heap.size]? = some exC := by rw [heapAlloc, if_pos rfl]
  have hc : ∀ j, (w.alloc exC).cell? ⟨w.heap.size, j, none⟩ = (#[.int .i64 10, .int .i64 1, .int .i64 0, .int .i64 2, .int .i64 20, .int .i64 1, .int .i64 1, .int .i64 3, .int .i64 10, .int .i64 1, .int .i64 2, .int .i64 4, .int .i64 20, .int .i64 16, .int .i64 3, .int .i64 5] : Array Value)[j]? := fun j => cell_of_row _ _ _ _ _ _ h
  refine ⟨Nat.le_refl _, by unfold maxLen; omega, fun j b hb => ⟨w.heap.size, 0, rfl, by simp, ?_, ?_, ?_, ?_⟩⟩ <;>
  · have hj : j < 4 := by have := (List.getElem?_eq_some_iff.1 hb).1; simpa [exL] using this
    rw [hc]
    match j, hj with
    | 0, _ => simp [exL] at hb; subst hb; rfl
    | 1, _ => simp [exL] at hb; subst hb; rfl
    | 2, _ => simp [exL] at hb; subst hb; rfl
    | 3, _ => simp [exL] at hb; subst hb; rfl
set_option maxRecDepth 100000 in
set_option maxHeartbeats 2000000 in
theorem example_ok (w : World) : Calls Try.prog 32 #[] w fun e w' => ∃ g, e = .returned (.slice (some ⟨g, 0, none⟩) 4 4) ∧ OBAt w' (some ⟨g, 0, none⟩) 4 exL ∧ w.heap.size ≤ g ∧ Below w.heap.size w w' := by
  go_enter Try.func32, Try.ntmps32
  go_wp2
  go_ret
  refine ⟨w.heap.size, rfl, ?_, Nat.le_refl _, ?_⟩
  · exact ex_at w
  · exact below_box w exC
end Of
end Go.Proofs.Ytjgakcpjphdicaa
namespace Go.Proofs.Ytjgakcpjphdicaa
open Go.RowKit
namespace Of
theorem ex_check : checkV exL = 0 := by decide
theorem pk_pos (f : Nat → Int) : ∀ n, 0 ≤ (pk f n).1
  | 0 => Int.le_refl _
  | n + 1 => by
    unfold pk
    have := pk_pos f n
    split
    · dsimp only; omega
    · exact this
theorem pk_tail {f : Nat → Int} {m : Nat} (h : ∀ t, m ≤ t → f t ≤ 0) : ∀ n, pk f (m + n) = pk f m
  | 0 => rfl
  | n + 1 => by
    rw [← Nat.add_assoc]
    show (if f (m + n) > (pk f (m + n)).1 then _ else _) = _
    rw [pk_tail h n, if_neg]
    have h1 := h (m + n) (by omega)
    have h2 : 0 ≤ (pk f m).1 := pk_pos f m
    omega
theorem ex_load (t : Nat) (h : 5 ≤ t) : loadV exL t ≤ 0 := by
  unfold loadV exL ld
  simp
  omega
theorem ex_peakV : peakV exL = (30, 1) := by
  unfold peakV
  rw [show 1001 = 5 + 996 from rfl, pk_tail ex_load]
  kernel_rfl
theorem ex_peak : peakRes exL = (30, 1, 0) := by
  unfold peakRes
  rw [if_neg (by rw [ex_check]; simp), ex_peakV]
  rfl
theorem ex_quick : qord exL 4 = [0, 1, 2, 3] ∧ (lays exL [0, 1, 2, 3]).A = [0, 10, 0, 16] ∧ (lays exL [0, 1, 2, 3]).T = 36 := by
  refine ⟨?_, ?_, ?_⟩ <;> kernel_rfl
theorem ex_best : bestV exL = [1, 0, 2, 3] := by kernel_rfl
theorem ex_best2 : (lays exL [1, 0, 2, 3]).A = [20, 0, 20, 0] ∧ topOf exL [1, 0, 2, 3] = 30 := by
  refine ⟨?_, ?_⟩ <;> kernel_rfl
theorem ex_valid : validRes exL [0, 10, 0, 16] = (true, 36, 0) := by kernel_rfl
theorem ex_waste : wasteRes exL [0, 10, 0, 16] = (6, 0) := by
  unfold wasteRes
  rw [ex_valid, ex_peak]
  rfl
end Of
end Go.Proofs.Ytjgakcpjphdicaa
