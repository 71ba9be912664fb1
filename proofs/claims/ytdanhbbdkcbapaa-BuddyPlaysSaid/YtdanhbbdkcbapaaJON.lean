/- The arguments, once more: a nil slice has no capacity. -/
import Derived.Test.YtdanhbbdkcbapaaK17
namespace Go.Proofs.Ytdanhbbdkcbapaa
namespace Bu
open Go.ChangeShapes Go.WideShapes Go.ChangeAt Go.RowKit Go.Deep Go.Joins
section
variable {H : Type} {enc : TypeId × Value → H} {W : World} {v : Value} {d : DataW H} {p : List MemPlace}
theorem open_blocks2 {fuel : Nat} {cs : List Value} {x : DataW H × List MemPlace} (hf : DataW.trod enc Try.prog W 0 (fun _ => true) true fuel 22 cs = some x) :
    ∃ (A : Option Addr) (c : Nat) (l : List (Int × Int)), cs = [.slice A l.length c] ∧ ZAt W A c l ∧ (A = none → c = 0) := by
  obtain ⟨A, c, l, h1, h2⟩ := open_blocks hf
  refine ⟨A, c, l, h1, h2, ?_⟩
  rintro rfl
  rcases open_slice_fields Try.underlying22 Try.underlying39 (by kernel_rfl) (by kernel_rfl) hf with ⟨hcs, _⟩ | ⟨a, len, cap, m, D, Pl, hcs, _⟩
  · rw [h1] at hcs
    injection hcs with hcs
    injection hcs
  · rw [h1] at hcs
    injection hcs with hcs
    injection hcs with hcs
    cases hcs

set_option maxRecDepth 100000 in
theorem open_state2 {r : Reach} {b0 : Nat} (hv : Value.okWide Try.prog W r b0 24 v) (h : DataW.Trod enc Try.prog W 0 (fun _ => true) true 24 v d p) :
    ∃ (N : Int) (A : Option Addr) (c : Nat) (l : List (Int × Int)), v = sv N A l.length c ∧ ZAt W A c l ∧ (A = none → c = 0) := by
  obtain ⟨v0, v1, y0, y1, n, rfl, t0, t1⟩ := open_agg2f Try.underlying24 (by kernel_rfl) (by kernel_rfl) hv h
  obtain ⟨N, e0, _, _⟩ := DataW.trod_int Try.underlying3 t0
  obtain ⟨A, c, l, e1, hl, hn⟩ := open_blocks2 t1
  simp only [List.cons.injEq, and_true] at e0 e1
  subst e0 e1
  exact ⟨N, A, c, l, rfl, hl, hn⟩
end
end Bu
end Go.Proofs.Ytdanhbbdkcbapaa
