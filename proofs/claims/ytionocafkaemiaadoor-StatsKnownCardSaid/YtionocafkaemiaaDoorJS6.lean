/- Appending in a region that draws: what stays. -/
import Derived.Test.YtionocafkaemiaaDoorK2
import Derived.Test.YtionocafkaemiaaDoorJS2
namespace Go.Proofs.YtionocafkaemiaaDoor
open Go.RowKit
namespace Sx
section
variable {α : Type} {enc : α → List Value} {k : Nat}
set_option maxRecDepth 100000 in
theorem step_e2 (E : Enc enc k) {ts te : TypeId} {by_ : Nat} (hts : Tryd.prog.underlying ts = some (.slice te)) (hte : (Tryd.prog.info? te).map (fun i => (i.zero.isSome, i.zero.map (fun z => z.cells.size), i.size, i.bytes)) = some (true, some k, k, by_)) (hby : by_ ≤ 1000000)
    {w : World} {ops : Array Oper} {o : Oper} {a : Act} {K : Act → World → Prop} {Q : Exit → Act → World → Prop} {F : Prop} (hgd : o.guard = none) (s x : Operand) (ho : o.op = .call { callee := .builtin .append, args := #[s, x], argTypes := #[ts, ts] })
    (n : Nat) (A0 : Option Addr) (c0 : Nat) (X : List α) (hs : a.eval s = .slice A0 X.length c0) (ht : OwnE enc k w n te A0 c0 X)
    (A : Option Addr) (c : Nat) (M : List α) (hx : a.eval x = .slice A M.length c) (hM : EAt enc k w A c M) (hn : A = none → c = 0) (hlen : X.length + M.length ≤ 100000) (hb : n ≤ w.heap.size)
    (h : ∀ A' c' w', OwnE enc k w' n te A' c' (X ++ M) → Below n w w' → (∀ g, g < w.heap.size → A0.map (·.block) ≠ some g → w'.heap[g]? = w.heap[g]?) → K (a.put o.dst (.slice A' (X ++ M).length c')) w') :
    if Region.wanted o (yielded ops a.tmps) = true then Oper.wp Tryd.prog o a w K Q else F := by
  obtain ⟨A', c', w', hrun, h1, h2, _⟩ := run_append_e E hts hte hby w o.type n A0 c0 X ht A c M hM hn hlen hb
  have hbel : Below n w w' := below_grown h2 hb fun g e => ((OwnE.at E ht).2 g (own_blk e)).1
  exact step_of hgd (wp_append_run s x ho _ _ _ hs hx w' hrun (h A' c' w' h1 hbel fun g hg hne => h2.block g hg fun e => hne (own_blk e.symm)))
end
theorem oneS (w : World) (T : TypeId) (x : Sm) : EAt Sx.es 2 (w.alloc (.cells #[.int .i64 x.a, .int .i64 x.v] T)) (some ⟨w.heap.size, 0, none⟩) 1 [x] := (OwnE.at ES (owne_one ES w T x _ rfl)).1
theorem not_row' {W : World} {B t e : Nat} {v : Value} {n0 k : Nat} {A : Option Addr} {n c : Nat} {xs : List Value} (h : Boxed W B t v) (hte : t ≠ e) (hr : W.ownsRow n0 e k (.slice A n c) n xs) : A.map (·.block) ≠ some B := by
  intro e'
  refine h.not_row hte hr ?_
  cases A with
  | none => cases e'
  | some ad => injection e' with e'; rw [← e']; rfl
end Sx
end Go.Proofs.YtionocafkaemiaaDoor
