/- Slices of blocks that are appended to a slice of the call's own; rows of integers that are written in place. -/
import Derived.Test.YtdanhbbdkcbapaaK17
import Derived.Test.YtdanhbbdkcbapaaJOH
import Derived.Test.YtdanhbbdkcbapaaJBT
import Derived.Deep.AppendLies
import Derived.Laws.AppendOwn
import Derived.Laws.AppendOwnNone
import Derived.Laws.MakeOwn
import Derived.OwnWalk
namespace Go.Proofs.Ytdanhbbdkcbapaa
open Go.RowKit
namespace Bu

theorem blk_addr {w : World} {ad : Addr} {c : Nat} {L : List Blk} (h : BlkAt w (some ad) c L) : ∀ (j : Nat) (u : Value), (cellsL L)[j]? = some u → w.cell? (ad.add j) = some u := by
  intro j u hu
  have hj := (List.getElem?_eq_some_iff.1 hu).1
  rw [cellsL_len] at hj
  obtain ⟨x, hx⟩ : ∃ x, L[j / 2]? = some x := ⟨_, List.getElem?_eq_getElem (by omega)⟩
  obtain ⟨g, o, hA, hg, d1, d2⟩ := h.at hx
  obtain ⟨e1, e2⟩ := cellsL_get L (j / 2) x hx
  injection hA with hA
  subst hA
  rw [add_plain]
  rcases Nat.mod_two_eq_zero_or_one j with hm | hm
  · have hjj : j / 2 * 2 = j := by omega
    rw [hjj] at e1 d1
    rw [e1] at hu
    injection hu with hu
    rw [← hu]; exact d1
  · have hjj : j / 2 * 2 + 1 = j := by omega
    have hoj : o + j / 2 * 2 + 1 = o + j := by omega
    rw [hjj] at e2
    rw [hoj] at d2
    rw [e2] at hu
    injection hu with hu
    rw [← hu]; exact d2

theorem grown_refl (w : World) (row : Option Nat) : w.grownBy w row := ⟨rfl, rfl, rfl, Nat.le_refl _, fun _ _ _ => rfl⟩

set_option maxRecDepth 100000 in
theorem wpList_append_blk {w : World} {ops : Array Oper} {rest : List Oper} {o : Oper} {a : Act} {Q : Exit → Act → World → Prop} (hgd : o.guard = none) (s x : Operand)
    (ho : o.op = .call { callee := .builtin .append, args := #[s, x], argTypes := #[22, 22] })
    (base : Nat) (v : Value) (X : List Blk) (hs : a.eval s = v) (hown : w.ownsRow base 39 2 v X.length (cellsL X))
    (A : Option Addr) (c : Nat) (M : List Blk) (hx : a.eval x = .slice A M.length c) (hM : BlkAt w A c M) (hn : A = none → c = 0) (hlen : X.length + M.length ≤ 100000) (hbase : base ≤ w.heap.size)
    (h : ∀ A' c' w', w'.ownsRow base 39 2 (.slice A' (X ++ M).length c') (X ++ M).length (cellsL (X ++ M)) → w.grownBy w' v.ownBlock → wpList Try.prog ops Q rest (a.put o.dst (.slice A' (X ++ M).length c')) w') : wpList Try.prog ops Q (o :: rest) a w := by
  obtain ⟨i0, z0, hi0, hz0, hz1, hz2, hz3⟩ := info_open block_info
  have hcl : cellsL (X ++ M) = cellsL X ++ cellsL M := by simp [cellsL]
  cases A with
  | none =>
    obtain rfl := hn rfl
    have hM0 : M = [] := by
      have := hM.len.1
      exact List.length_eq_zero_iff.1 (by omega)
    subst hM0
    refine wpList_append_own_none hgd s x 22 ho base 39 i0 2 Try.underlying22 hi0 v X.length (cellsL X) hs hown hx ?_
    obtain ⟨A', c', rfl⟩ := own_value hown
    have := h A' c' w (by rw [List.append_nil]; exact hown) (grown_refl _ _)
    rw [List.append_nil] at this
    exact this
  | some ad =>
    refine wpList_append_own w hgd s x 22 ho base 39 i0 z0 2 16 Try.underlying22 hi0 hz0 hz1 hz2 hz3 (by omega) v X.length (cellsL X) hs hown ad M.length c (cellsL M) hx (cellsL_len M) (blk_addr hM) (cellsL_one M) (by unfold maxLen; omega) (by omega) hbase ?_
    intro v' w' hown' hgrow _
    rw [← List.length_append, ← hcl] at hown'
    obtain ⟨A', c', rfl⟩ := own_value hown'
    exact h A' c' w' hown' hgrow

theorem own_nc {w : World} {B c : Nat} {A : Option Addr} {L : List Blk} (h : Own w B A c L) : A = none → c = 0 := by
  rintro rfl
  rcases h.2 with ⟨hn, _⟩ | ⟨g, cap, cur, hv, _⟩
  · injection hn
  · injection hv with h1; cases h1
theorem row_empty (w : World) (b : Nat) (h : b ≤ w.heap.size) : (w.alloc (.cells #[] 39)).ownsRow b 39 2 (.slice (some ⟨w.heap.size, 0, none⟩) 0 0) 0 (cellsL []) :=
  ⟨rfl, .inr ⟨w.heap.size, 0, #[], rfl, h, by rw [heapAlloc, if_pos rfl], Nat.le_refl _, Nat.zero_le _, rfl, rfl⟩⟩
theorem row_blk {w : World} {b c : Nat} {A : Option Addr} {L : List Blk} (h : w.ownsRow b 39 2 (.slice A L.length c) L.length (cellsL L)) : Own w b A c L := h
theorem row_ne {w : World} {b c : Nat} {A : Option Addr} {L : List Blk} (h : Own w b A c L) {g : Nat} (hg : g < b) : A.map (·.block) ≠ some g := fun e => by have := (h.at.2 g e).1; omega

/-! Rows of integers. -/
def IntsAt (w : World) (g N : Nat) (f : Nat → Int) : Prop := ∃ cs, w.heap[g]? = some (.cells cs 3 (0, 0)) ∧ cs.size = N ∧ ∀ p, p < N → cs[p]? = some (.int .i64 (f p))

theorem IntsAt.cell {w : World} {g N : Nat} {f : Nat → Int} (h : IntsAt w g N f) {p : Nat} (hp : p < N) : w.cell? ⟨g, p, none⟩ = some (.int .i64 (f p)) := by
  obtain ⟨cs, h1, h2, h3⟩ := h
  simp [World.cell?, h1, h3 p hp]
theorem IntsAt.frozen {w : World} {g N : Nat} {f : Nat → Int} (h : IntsAt w g N f) (p : Nat) : w.frozen? ⟨g, p, none⟩ = false := by
  obtain ⟨cs, h1, h2, h3⟩ := h
  simp [World.frozen?, h1]
theorem IntsAt.lt {w : World} {g N : Nat} {f : Nat → Int} (h : IntsAt w g N f) : g < w.heap.size := by
  obtain ⟨cs, h1, _⟩ := h
  exact lt_of_heap h1
theorem IntsAt.keep {w w' : World} {g N : Nat} {f : Nat → Int} (h : IntsAt w g N f) (hk : w'.heap[g]? = w.heap[g]?) : IntsAt w' g N f := by
  obtain ⟨cs, h1, h2⟩ := h
  exact ⟨cs, hk.trans h1, h2⟩
theorem IntsAt.set {w : World} {g N : Nat} {f f' : Nat → Int} (h : IntsAt w g N f) {p : Nat} {v : Int} (hp : p < N) (h1 : f' p = v) (h2 : ∀ q, q ≠ p → f' q = f q) : IntsAt (w.setCell ⟨g, p, none⟩ (.int .i64 v)) g N f' := by
  obtain ⟨cs, a1, a2, a3⟩ := h
  refine ⟨cs.setIfInBounds p (.int .i64 v), setCell_at _ _ _ _ _ _ a1, by simpa using a2, fun q hq => ?_⟩
  by_cases e : q = p
  · subst e
    rw [Array.getElem?_setIfInBounds]
    simp [a2, hp, h1]
  · rw [Array.getElem?_setIfInBounds, if_neg (Ne.symm e), a3 q hq, h2 q e]
theorem IntsAt.congr {w : World} {g N : Nat} {f f' : Nat → Int} (h : IntsAt w g N f) (he : ∀ p, p < N → f' p = f p) : IntsAt w g N f' := by
  obtain ⟨cs, a1, a2, a3⟩ := h
  exact ⟨cs, a1, a2, fun p hp => by rw [a3 p hp, he p hp]⟩

theorem int_row : (Try.prog.info? 3).map (fun i => (i.zero, i.size, i.bytes)) = some (some (.int .i64 0), 1, 8) := by kernel_rfl
theorem make_ints (w : World) (z : Nat) (hz : z ≤ 3000) : (Instr.makeSlice 49 (.int .i64 (z : Int)) (.int .i64 (z : Int))).run Try.prog w = .ok (.slice (some ⟨w.heap.size, 0, none⟩) z z) (w.alloc (.cells (Array.replicate z (.int .i64 0)) 3)) := by
  obtain ⟨i0, hi, h0, h1, h2⟩ := info_parts int_row
  have := run_make (P := Try.prog) w 49 3 i0 (.int .i64 0) Try.underlying49 hi h0 .i64 .i64 z z (by omega) (Int.le_refl _) (by rw [h2]; omega) (by omega)
  rw [this]
  have hm : madeCells (Value.int .i64 0).cells (z * i0.size) = Array.replicate z (.int .i64 0) := by
    rw [h1, Nat.mul_one]
    apply Array.ext
    · simp [size_madeCells]
    · intro j h3 h4
      simp [madeCells, Value.cells]
      rw [Nat.mod_one]; rfl
  simp only [Int.toNat_natCast]
  rw [hm]
theorem ints_new (w : World) (z : Nat) : IntsAt (w.alloc (.cells (Array.replicate z (.int .i64 0)) 3)) w.heap.size z (fun _ => 0) :=
  ⟨Array.replicate z (.int .i64 0), by rw [heapAlloc, if_pos rfl], by simp, fun p hp => by simp [hp]⟩
end Bu
end Go.Proofs.Ytdanhbbdkcbapaa
