/- The row that sorted collects. -/
import Derived.Test.YtdanhbbdkcbapaaSS
import Derived.Maps.OwnIn
namespace Go.Proofs.Ytdanhbbdkcbapaa
open Go.RowKit Go.Shelf
namespace Bu
attribute [local go_sem] Oper.semAt_some

def cellsB (L : List PB) : List Value := L.flatMap encB
theorem cellsB_add (L : List PB) (x : PB) : cellsB (L ++ [x]) = cellsB L ++ encB x := by simp [cellsB]

/-- The caller's variable, and its row. -/
def Out (bo : Nat) (own : Ow) (L : List PB) (V : World) : Prop :=
  ∃ A c, Boxed V bo 22 (.slice A L.length c) ∧ V.ownsRow bo 39 2 (.slice A L.length c) L.length (cellsB L) ∧ own bo ≠ none ∧ ∀ g, (Value.slice A L.length c).ownBlock = some g → own g ≠ none

theorem out_keep {bo : Nat} {own : Ow} {L : List PB} {V V' : World} (h : Out bo own L V) (hk : ∀ x, own x ≠ none → x < V.heap.size → V'.heap[x]? = V.heap[x]?) : Out bo own L V' := by
  obtain ⟨A, c, hb, hr, ho, hg⟩ := h
  refine ⟨A, c, (hk _ ho hb.lt).trans hb, ⟨hr.1, ?_⟩, ho, hg⟩
  rcases hr.2 with hn | ⟨g, cap, cur, e, hB, hgg, rest⟩
  · exact .inl hn
  · exact .inr ⟨g, cap, cur, e, hB, by rw [hk g (hg g (by rw [e]; rfl)) (lt_of_heap hgg)]; exact hgg, rest⟩

theorem out_step {bo : Nat} {own : Ow} {L : List PB} {V w1 : World} {x : PB} {A : Option Addr} {c : Nat} {ob : Obj} {v' : Value}
    (hb : Boxed V bo 22 (.slice A L.length c)) (hr : V.ownsRow bo 39 2 (.slice A L.length c) L.length (cellsB L)) (ho : own bo ≠ none) (hg : ∀ g, (Value.slice A L.length c).ownBlock = some g → own g ≠ none)
    (hown : w1.ownsRow bo 39 2 v' (L.length + 1) (cellsB L ++ encB x)) (hgrow : (V.alloc ob).grownBy w1 (Value.slice A L.length c).ownBlock)
    (hat : v'.ownBlock = (Value.slice A L.length c).ownBlock ∨ v'.ownBlock = some (V.alloc ob).heap.size) :
    ∃ own', Keeps own own' V (w1.setCell ⟨bo, 0, none⟩ v') ∧ Out bo own' (L ++ [x]) (w1.setCell ⟨bo, 0, none⟩ v') := by
  have hbl := hb.lt
  obtain ⟨h1, h2, h3, _, h5⟩ := hb.appended (by decide) hr (Nat.le_of_lt hbl) (Nat.le_refl bo) hown hgrow
  obtain ⟨gg, cap, rfl⟩ := ownsRow_succ hown
  have hgs := hgrow.size
  simp at hgs
  refine ⟨fun y => if V.heap.size ≤ y ∧ y = gg then some 0 else own y, ⟨h5.os, h5.tape, h5.output, ?_, fun y hy hn => ?_, fun y hy => ?_, fun y hy => ?_⟩, some ⟨gg, 0, none⟩, cap, by simpa using h2, ?_, ?_, fun g hg' => ?_⟩
  · rw [setCell_size]; omega
  · rw [setCell_far _ _ _ _ (fun e => by rw [e] at hn; exact ho hn), hgrow.block y (by simp; omega) (fun e => hg y e.symm hn)]
    exact Below.heap_alloc _ _ _ hy
  · show (if V.heap.size ≤ y ∧ y = gg then some 0 else own y) = own y
    rw [if_neg (by omega)]
  · by_cases e : V.heap.size ≤ y ∧ y = gg
    · right
      refine ⟨e.1, ?_⟩
      rw [setCell_size, e.2]
      exact (hown.lt gg rfl).2
    · left
      rwa [if_neg e] at hy
  · rw [cellsB_add]; simpa using h3
  · show (if V.heap.size ≤ bo ∧ bo = gg then some 0 else own bo) ≠ none
    rw [if_neg (by omega)]; exact ho
  · obtain rfl : gg = g := by simpa [Value.ownBlock] using hg'
    show (if V.heap.size ≤ gg ∧ gg = gg then some 0 else own gg) ≠ none
    by_cases e : V.heap.size ≤ gg
    · rw [if_pos ⟨e, rfl⟩]; simp
    · rw [if_neg (by omega)]
      rcases hat with hat | hat
      · exact hg gg hat.symm
      · simp [Value.ownBlock] at hat; omega
end Bu
end Go.Proofs.Ytdanhbbdkcbapaa
