/- symMerge, whole. -/
import Derived.Test.YtjgakcpjphdicaaJQ5
namespace Go.Proofs.Ytjgakcpjphdicaa
open Go.Shelf Go.RowKit Go.Lib Go.Sort Go.Proofs
namespace Of

theorem symM_ok {α : Type} [Inhabited α] (enc : α → Value) (lt : α → α → Bool) (hS : SWO lt) (cf : α → α → Int) (g : Nat) (cb : Array Value) (blk cap : Nat) (d0 : Array α) (w0 : World)
    (eg : ∀ args w, (callFunc g args).run Try.prog w = .ok (.enter g args) w) (hcmp : CmpLays1 Try.prog g cb enc cf blk 0 d0.size w0) (R : Row1 enc w0 blk 0 d0) (hsz : d0.size ≤ 100000) : ∀ N, SymM enc lt cf g cb blk cap d0.size w0 N
  | 0 => fun a m b d w hd S h1 h2 h3 h4 => by omega
  | N + 1 => fun a m b d w hd S h1 h2 h3 h4 h5 h6 h7 => by
    by_cases c1 : m = a + 1
    · have := symA_ok enc lt hS cf g cb blk cap a m b d0 d w0 w eg hcmp R hd.symm S c1 h2 h3 (by omega) h6 (fun x q1 q2 => h7 x a q1 q2 (Nat.le_refl _) h1)
      rw [hd] at this
      exact this
    · by_cases c2 : b = m + 1
      · have := symB_ok enc lt hS cf g cb blk cap a m b d0 d w0 w eg hcmp R hd.symm S (by omega) c2 h3 (by omega) h5 (fun y q1 q2 => h7 m y (Nat.le_refl _) h2 q1 q2)
        rw [hd] at this
        exact this
      · have ih := symM_ok enc lt hS cf g cb blk cap d0 w0 eg hcmp R hsz N
        rw [← hd] at ih
        have := symC_ok enc lt hS cf g cb blk cap N a m b d0 d w0 w eg hcmp R hd.symm S (by omega) (by omega) h3 (by omega) h4 h5 h6 h7 ih
        rw [hd] at this
        exact this
end Of
end Go.Proofs.Ytjgakcpjphdicaa
