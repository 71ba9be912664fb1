/- A range over a function that appends elements of some cells to the caller's variable. Appending in a region that draws: what stays. -/
import Derived.Test.YtionocafkaemiaaDoorK2
import Derived.Test.YtionocafkaemiaaDoorJB2
import Derived.Maps.OwnIn
import Derived.Maps.AppendAt
namespace Go.Proofs.YtionocafkaemiaaDoor
open Go.RowKit Go.Shelf
namespace Sx
section
variable {α : Type} {enc : α → List Value} {k : Nat} {ts te : TypeId}
/-- The caller's variable, and its row. -/
def OutE (enc : α → List Value) (k : Nat) (ts te : TypeId) (bo : Nat) (own : Ow) (pre : List α) (V : World) : Prop :=
  ∃ A c, Boxed V bo ts (.slice A pre.length c) ∧ OwnE enc k V bo te A c pre ∧ own bo ≠ none ∧ ∀ g, (Value.slice A pre.length c).ownBlock = some g → own g ≠ none
theorem outE_keep {bo : Nat} {own : Ow} {L : List α} {V V' : World} (h : OutE enc k ts te bo own L V) (hk : ∀ x, own x ≠ none → x < V.heap.size → V'.heap[x]? = V.heap[x]?) : OutE enc k ts te bo own L V' := by
  obtain ⟨A, c, hb, hr, ho, hg⟩ := h
  refine ⟨A, c, (hk _ ho hb.lt).trans hb, ⟨hr.1, ?_⟩, ho, hg⟩
  rcases hr.2 with hn | ⟨g, cap, cur, e, hB, hgg, rest⟩
  · exact .inl hn
  · exact .inr ⟨g, cap, cur, e, hB, by rw [hk g (hg g (by rw [e]; rfl)) (lt_of_heap hgg)]; exact hgg, rest⟩
theorem outE_step {bo : Nat} {own : Ow} {pre : List α} {V w1 : World} {x : α} {A : Option Addr} {c : Nat} {ob : Obj} {v' : Value} (hte : ts ≠ te)
    (hb : Boxed V bo ts (.slice A pre.length c)) (hr : OwnE enc k V bo te A c pre) (ho : own bo ≠ none) (hg : ∀ g, (Value.slice A pre.length c).ownBlock = some g → own g ≠ none)
    (hown : w1.ownsRow bo te k v' (pre.length + 1) (ce enc pre ++ enc x)) (hgrow : (V.alloc ob).grownBy w1 (Value.slice A pre.length c).ownBlock)
    (hat : v'.ownBlock = (Value.slice A pre.length c).ownBlock ∨ v'.ownBlock = some (V.alloc ob).heap.size) :
    ∃ own', Keeps own own' V (w1.setCell ⟨bo, 0, none⟩ v') ∧ OutE enc k ts te bo own' (pre ++ [x]) (w1.setCell ⟨bo, 0, none⟩ v') := by
  have hbl := hb.lt
  obtain ⟨h1, h2, h3, _, h5⟩ := hb.appended hte hr (Nat.le_of_lt hbl) (Nat.le_refl bo) hown hgrow
  obtain ⟨gg, cap, rfl⟩ := ownsRow_succ hown
  have hgs := hgrow.size
  simp at hgs
  refine ⟨fun y => if V.heap.size ≤ y ∧ y = gg then some 0 else own y, ⟨h5.os, h5.tape, h5.output, ?_, fun y hy hn => ?_, fun y hy => ?_, fun y hy => ?_⟩, some ⟨gg, 0, none⟩, cap, by simpa using h2, ?_, ?_, fun g hg' => ?_⟩
  · rw [setCell_size]; omega
  · rw [setCell_far _ _ _ _ (fun e => by rw [e] at hn; exact ho hn), hgrow.block y (by simp; omega) (fun e => hg y e.symm hn)]
    exact Below.heap_alloc _ _ _ hy
  · show (if V.heap.size ≤ y ∧ y = gg then some 0 else own y) = own y
    rw [if_neg (by omega)]
  · by_cases e : V.heap.size ≤ y ∧ y = gg
    · right
      refine ⟨e.1, ?_⟩
      rw [setCell_size, e.2]
      exact (hown.lt gg rfl).2
    · left
      rwa [if_neg e] at hy
  · have : ce enc (pre ++ [x]) = ce enc pre ++ enc x := by rw [ce_add]; simp [ce]
    show (w1.setCell _ _).ownsRow bo te k _ (pre ++ [x]).length (ce enc (pre ++ [x]))
    rw [this]; simpa using h3
  · show (if V.heap.size ≤ bo ∧ bo = gg then some 0 else own bo) ≠ none
    rw [if_neg (by omega)]; exact ho
  · obtain rfl : gg = g := by simpa [Value.ownBlock] using hg'
    show (if V.heap.size ≤ gg ∧ gg = gg then some 0 else own gg) ≠ none
    by_cases e : V.heap.size ≤ gg
    · rw [if_pos ⟨e, rfl⟩]; simp
    · rw [if_neg (by omega)]
      rcases hat with hat | hat
      · exact hg gg hat.symm
      · simp [Value.ownBlock] at hat; omega
end
end Sx
end Go.Proofs.YtionocafkaemiaaDoor
namespace Go.Proofs.YtionocafkaemiaaDoor
open Go.RowKit
namespace Sx
section
variable {α : Type} {enc : α → List Value} {k : Nat}
set_option maxRecDepth 100000 in
theorem step_e2 (E : Enc enc k) {ts te : TypeId} {by_ : Nat} (hts : Tryd.prog.underlying ts = some (.slice te)) (hte : (Tryd.prog.info? te).map (fun i => (i.zero.isSome, i.zero.map (fun z => z.cells.size), i.size, i.bytes)) = some (true, some k, k, by_)) (hby : by_ ≤ 1000000)
    {w : World} {ops : Array Oper} {o : Oper} {a : Act} {K : Act → World → Prop} {Q : Exit → Act → World → Prop} {F : Prop} (hgd : o.guard = none) (s x : Operand) (ho : o.op = .call { callee := .builtin .append, args := #[s, x], argTypes := #[ts, ts] })
    (n : Nat) (A0 : Option Addr) (c0 : Nat) (X : List α) (hs : a.eval s = .slice A0 X.length c0) (ht : OwnE enc k w n te A0 c0 X)
    (A : Option Addr) (c : Nat) (M : List α) (hx : a.eval x = .slice A M.length c) (hM : EAt enc k w A c M) (hn : A = none → c = 0) (hlen : X.length + M.length ≤ 100000) (hb : n ≤ w.heap.size)
    (h : ∀ A' c' w', OwnE enc k w' n te A' c' (X ++ M) → Below n w w' → (∀ g, g < w.heap.size → A0.map (·.block) ≠ some g → w'.heap[g]? = w.heap[g]?) → K (a.put o.dst (.slice A' (X ++ M).length c')) w') :
    if Region.wanted o (yielded ops a.tmps) = true then Oper.wp Tryd.prog o a w K Q else F := by
  obtain ⟨A', c', w', hrun, h1, h2, _⟩ := run_append_e E hts hte hby w o.type n A0 c0 X ht A c M hM hn hlen hb
  have hbel : Below n w w' := below_grown h2 hb fun g e => ((OwnE.at E ht).2 g (own_blk e)).1
  exact step_of hgd (wp_append_run s x ho _ _ _ hs hx w' hrun (h A' c' w' h1 hbel fun g hg hne => h2.block g hg fun e => hne (own_blk e.symm)))
end
theorem oneS (w : World) (T : TypeId) (x : Sm) : EAt Sx.es 2 (w.alloc (.cells #[.int .i64 x.a, .int .i64 x.v] T)) (some ⟨w.heap.size, 0, none⟩) 1 [x] := (OwnE.at ES (owne_one ES w T x _ rfl)).1
theorem not_row' {W : World} {B t e : Nat} {v : Value} {n0 k : Nat} {A : Option Addr} {n c : Nat} {xs : List Value} (h : Boxed W B t v) (hte : t ≠ e) (hr : W.ownsRow n0 e k (.slice A n c) n xs) : A.map (·.block) ≠ some B := by
  intro e'
  refine h.not_row hte hr ?_
  cases A with
  | none => cases e'
  | some ad => injection e' with e'; rw [← e']; rfl
end Sx
end Go.Proofs.YtionocafkaemiaaDoor
