/- A range over a function that appends elements of some cells to the caller's variable. -/
import Derived.Test.YtionocafkaemiaaDoorK2
import Derived.Test.YtionocafkaemiaaDoorJB2
import Derived.Maps.OwnIn
import Derived.Maps.AppendAt
namespace Go.Proofs.YtionocafkaemiaaDoor
open Go.RowKit Go.Shelf
namespace Sx
section
variable {α : Type} {enc : α → List Value} {k : Nat} {ts te : TypeId}
/-- The caller's variable, and its row. -/
def OutE (enc : α → List Value) (k : Nat) (ts te : TypeId) (bo : Nat) (own : Ow) (pre : List α) (V : World) : Prop :=
  ∃ A c, Boxed V bo ts (.slice A pre.length c) ∧ OwnE enc k V bo te A c pre ∧ own bo ≠ none ∧ ∀ g, (Value.slice A pre.length c).ownBlock = some g → own g ≠ none
theorem outE_keep {bo : Nat} {own : Ow} {L : List α} {V V' : World} (h : OutE enc k ts te bo own L V) (hk : ∀ x, own x ≠ none → x < V.heap.size → V'.heap[x]? = V.heap[x]?) : OutE enc k ts te bo own L V' := by
  obtain ⟨A, c, hb, hr, ho, hg⟩ := h
  refine ⟨A, c, (hk _ ho hb.lt).trans hb, ⟨hr.1, ?_⟩, ho, hg⟩
  rcases hr.2 with hn | ⟨g, cap, cur, e, hB, hgg, rest⟩
  · exact .inl hn
  · exact .inr ⟨g, cap, cur, e, hB, by rw [hk g (hg g (by rw [e]; rfl)) (lt_of_heap hgg)]; exact hgg, rest⟩
theorem outE_step {bo : Nat} {own : Ow} {pre : List α} {V w1 : World} {x : α} {A : Option Addr} {c : Nat} {ob : Obj} {v' : Value} (hte : ts ≠ te)
    (hb : Boxed V bo ts (.slice A pre.length c)) (hr : OwnE enc k V bo te A c pre) (ho : own bo ≠ none) (hg : ∀ g, (Value.slice A pre.length c).ownBlock = some g → own g ≠ none)
    (hown : w1.ownsRow bo te k v' (pre.length + 1) (ce enc pre ++ enc x)) (hgrow : (V.alloc ob).grownBy w1 (Value.slice A pre.length c).ownBlock)
    (hat : v'.ownBlock = (Value.slice A pre.length c).ownBlock ∨ v'.ownBlock = some (V.alloc ob).heap.size) :
    ∃ own', Keeps own own' V (w1.setCell ⟨bo, 0, none⟩ v') ∧ OutE enc k ts te bo own' (pre ++ [x]) (w1.setCell ⟨bo, 0, none⟩ v') := by
  have hbl := hb.lt
  obtain ⟨h1, h2, h3, _, h5⟩ := hb.appended hte hr (Nat.le_of_lt hbl) (Nat.le_refl bo) hown hgrow
  obtain ⟨gg, cap, rfl⟩ := ownsRow_succ hown
  have hgs := hgrow.size
  simp at hgs
  refine ⟨fun y => if V.heap.size ≤ y ∧ y = gg then some 0 else own y, ⟨h5.os, h5.tape, h5.output, ?_, fun y hy hn => ?_, fun y hy => ?_, fun y hy => ?_⟩, some ⟨gg, 0, none⟩, cap, by simpa using h2, ?_, ?_, fun g hg' => ?_⟩
  · rw [setCell_size]; omega
  · rw [setCell_far _ _ _ _ (fun e => by rw [e] at hn; exact ho hn), hgrow.block y (by simp; omega) (fun e => hg y e.symm hn)]
    exact Below.heap_alloc _ _ _ hy
  · show (if V.heap.size ≤ y ∧ y = gg then some 0 else own y) = own y
    rw [if_neg (by omega)]
  · by_cases e : V.heap.size ≤ y ∧ y = gg
    · right
      refine ⟨e.1, ?_⟩
      rw [setCell_size, e.2]
      exact (hown.lt gg rfl).2
    · left
      rwa [if_neg e] at hy
  · have : ce enc (pre ++ [x]) = ce enc pre ++ enc x := by rw [ce_add]; simp [ce]
    show (w1.setCell _ _).ownsRow bo te k _ (pre ++ [x]).length (ce enc (pre ++ [x]))
    rw [this]; simpa using h3
  · show (if V.heap.size ≤ bo ∧ bo = gg then some 0 else own bo) ≠ none
    rw [if_neg (by omega)]; exact ho
  · obtain rfl : gg = g := by simpa [Value.ownBlock] using hg'
    show (if V.heap.size ≤ gg ∧ gg = gg then some 0 else own gg) ≠ none
    by_cases e : V.heap.size ≤ gg
    · rw [if_pos ⟨e, rfl⟩]; simp
    · rw [if_neg (by omega)]
      rcases hat with hat | hat
      · exact hg gg hat.symm
      · simp [Value.ownBlock] at hat; omega
end
end Sx
end Go.Proofs.YtionocafkaemiaaDoor
