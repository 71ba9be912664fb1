/- Acts; any call of step. -/
import Derived.Test.YtdanhbbdkcbapaaJOV
import Derived.Test.YtdanhbbdkcbapaaJOW
import Derived.Test.YtdanhbbdkcbapaaJON
namespace Go.Proofs.Ytdanhbbdkcbapaa
open Go.RowKit
namespace Bu

structure Act where
  what : Int
  page : Int
  order : Int

def ActsAt (w : World) (A : Option Addr) (c : Nat) (l : List Act) : Prop :=
  l.length ≤ c ∧ c ≤ maxLen ∧ ∀ (j : Nat) (x : Act), l[j]? = some x → ∃ g o, A = some ⟨g, o, none⟩ ∧ g < w.heap.size ∧ 0 ≤ x.what ∧ x.what < 256 ∧
    w.cell? ⟨g, o + j * 3, none⟩ = some (.int .u8 x.what) ∧ w.cell? ⟨g, o + j * 3 + 1, none⟩ = some (.int .i64 x.page) ∧ w.cell? ⟨g, o + j * 3 + 2, none⟩ = some (.int .i64 x.order)

theorem step_any (w : World) (b N : Nat) (A : Option Addr) (c : Nat) (L : List Blk) (x : Act) (hw0 : 0 ≤ x.what) (hw1 : x.what < 256) (hB : BuL w b N L) (hA : BlkAt w A c L) (hne : Lies w b A) :
    Calls Try.prog 27 #[.pointer (some ⟨b, 0, none⟩), sv N A L.length c, .agg #[.int .u8 x.what, .int .i64 x.page, .int .i64 x.order]] w fun e w' => StepR N w b A e w' := by
  have h : x.what % 10 = 0 ∨ x.what % 10 = 1 ∨ x.what % 10 = 2 ∨ x.what % 10 = 3 ∨ x.what % 10 = 4 ∨ x.what % 10 = 5 ∨ x.what % 10 = 6 ∨ x.what % 10 = 7 ∨ x.what % 10 = 8 ∨ x.what % 10 = 9 := by omega
  rcases h with h | h | h | h | h | h | h | h | h | h
  · exact step0 w b N A c L _ _ _ h hw0 hw1 hB hA hne
  · exact step1 w b N A c L _ _ _ h hw0 hw1 hB hA hne
  · exact step2 w b N A c L _ _ _ h hw0 hw1 hB hA hne
  · exact step3 w b N A c L _ _ _ h hw0 hw1 hB hA hne
  · exact step4 w b N A c L _ _ _ h hw0 hw1 hB hA hne
  · exact step5 w b N A c L _ _ _ h hw0 hw1 hB hA hne
  · exact step6 w b N A c L _ _ _ h hw0 hw1 hB hA hne
  · exact step7 w b N A c L _ _ _ h hw0 hw1 hB hA hne
  · exact step8 w b N A c L _ _ _ h hw0 hw1 hB hA hne
  · exact step9 w b N A c L _ _ _ h hw0 hw1 hB hA hne

section
variable {H : Type} {enc : TypeId × Value → H} {W : World} {v : Value} {d : DataW H} {p : List MemPlace}
open Go.ChangeShapes Go.WideShapes Go.ChangeAt Go.RowKit Go.Deep Go.Joins
theorem wf_u8 {n : Int} (h : (Lit.int .u8 n).wf = true) : 0 ≤ n ∧ n < 256 := by
  simp only [Lit.wf, IntKind.min, IntKind.max, IntKind.signed, IntKind.bits, Bool.and_eq_true, decide_eq_true_eq, if_true, Bool.false_eq_true, if_false] at h
  omega
set_option maxRecDepth 100000 in
theorem open_acts {r : Reach} {b0 : Nat} (hv : Value.okWide Try.prog W r b0 61 v) (h : DataW.Trod enc Try.prog W 0 (fun _ => true) true 61 v d p) :
    ∃ (A : Option Addr) (c : Nat) (l : List Act), v = .slice A l.length c ∧ ActsAt W A c l := by
  obtain ⟨A, len, cap, rfl⟩ := okWide_slice Try.underlying61 hv
  obtain ⟨fuel, hf⟩ := h
  rcases open_slice_fields Try.underlying61 Try.underlying66 (by kernel_rfl) (by kernel_rfl) hf with ⟨hcs, _⟩ | ⟨a, l, c, m, D, Pl, hcs, _, hl, hm, hmm, _, hi⟩
  · simp only [Value.cells, List.cons.injEq, Value.slice.injEq, and_true] at hcs
    obtain ⟨rfl, rfl, rfl⟩ := hcs
    exact ⟨none, 0, [], rfl, Nat.le_refl _, Nat.zero_le _, fun j x hx => by simp at hx⟩
  · simp only [Value.cells, List.cons.injEq, Value.slice.injEq, and_true] at hcs
    obtain ⟨rfl, rfl, rfl⟩ := hcs
    have hlm : len ≤ m := by rw [hmm]; split <;> omega
    have hspot : 0 < len → a.spot = none := by
      intro h0
      obtain ⟨ys, n, _, _, _, hfl⟩ := hi 0 (by omega)
      obtain ⟨v0, y0, c0, _, t0⟩ := hfl 0 _ rfl
      have := World.cell?_spot c0
      rwa [Nat.zero_mul, Addr.add, if_pos rfl] at this
    have key : ∀ j : Nat, j < len → ∃ x : Act, ∃ g o, some a = some ⟨g, o, none⟩ ∧ g < W.heap.size ∧ 0 ≤ x.what ∧ x.what < 256 ∧
        W.cell? ⟨g, o + j * 3, none⟩ = some (.int .u8 x.what) ∧ W.cell? ⟨g, o + j * 3 + 1, none⟩ = some (.int .i64 x.page) ∧ W.cell? ⟨g, o + j * 3 + 2, none⟩ = some (.int .i64 x.order) := by
      intro j hj
      obtain ⟨ys, n, _, _, _, hfl⟩ := hi j (by omega)
      obtain ⟨v0, y0, c0, _, t0⟩ := hfl 0 _ rfl
      obtain ⟨v1, y1, c1, _, t1⟩ := hfl 1 _ rfl
      obtain ⟨v2, y2, c2, _, t2⟩ := hfl 2 _ rfl
      obtain ⟨n0, e0, _, w0⟩ := DataW.trod_int Try.underlying5 t0
      obtain ⟨n1, e1, _, _⟩ := DataW.trod_int Try.underlying3 t1
      obtain ⟨n2, e2, _, _⟩ := DataW.trod_int Try.underlying3 t2
      simp only [List.cons.injEq, and_true] at e0 e1 e2
      subst e0 e1 e2
      obtain ⟨g, o, spot⟩ := a
      obtain rfl : spot = none := hspot (by omega)
      obtain ⟨w1, w2⟩ := wf_u8 w0
      rw [add_plain] at c0 c1 c2
      have hg : g < W.heap.size := World.block_lt_of_cell? _ (a := ⟨g, _, none⟩) c0
      exact ⟨⟨n0, n1, n2⟩, g, o, rfl, hg, w1, w2, by simpa [Nat.add_assoc] using c0, by simpa [Nat.add_assoc] using c1, by simpa [Nat.add_assoc] using c2⟩
    obtain ⟨l, rfl, hp⟩ := list_of _ len key
    exact ⟨some a, cap, l, rfl, hl, hm, hp⟩
end
end Bu
end Go.Proofs.Ytdanhbbdkcbapaa
