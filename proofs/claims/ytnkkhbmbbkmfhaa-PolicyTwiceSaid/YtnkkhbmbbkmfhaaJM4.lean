/- Rows of pages that wait. -/
import Derived.Test.YtnkkhbmbbkmfhaaJM3
import Derived.Test.YtnkkhbmbbkmfhaaK0
namespace Go.Proofs.Ytnkkhbmbbkmfhaa
open Go.RowKit
namespace Py

abbrev eid (x : Wt) : List Value := [.int .i64 x.p, .int .i64 x.s]
abbrev ewt (x : Wt) : List Value := [.int .i64 x.s, .int .i64 x.p]
theorem EID : Enc eid 2 := ⟨by omega, fun _ => rfl, fun x u h => by
  simp only [List.mem_cons, List.not_mem_nil, or_false] at h
  rcases h with rfl | rfl <;> rfl⟩
theorem EWT : Enc ewt 2 := ⟨by omega, fun _ => rfl, fun x u h => by
  simp only [List.mem_cons, List.not_mem_nil, or_false] at h
  rcases h with rfl | rfl <;> rfl⟩
theorem idle_info : (Try.prog.info? 112).map (fun i => (i.zero.isSome, i.zero.map (fun z => z.cells.size), i.size, i.bytes)) = some (true, some 2, 2, 16) := by kernel_rfl
theorem EAt.id2 {w : World} {A : Option Addr} {c : Nat} {H : List Wt} (h : EAt eid 2 w A c H) {j : Nat} (hj : j < H.length) : ∃ g o, A = some ⟨g, o, none⟩ ∧ g < w.heap.size ∧ w.cell? ⟨g, o + j * 2, none⟩ = some (.int .i64 (wt H j).p) ∧ w.cell? ⟨g, o + j * 2 + 1, none⟩ = some (.int .i64 (wt H j).s) := by
  obtain ⟨g, o, hA, hg, d⟩ := h.2.2 j _ (wt_get hj)
  exact ⟨g, o, hA, hg, d 0 _ (by omega) rfl, d 1 _ (by omega) rfl⟩
theorem EAt.wt2 {w : World} {A : Option Addr} {c : Nat} {H : List Wt} (h : EAt ewt 2 w A c H) {j : Nat} (hj : j < H.length) : ∃ g o, A = some ⟨g, o, none⟩ ∧ g < w.heap.size ∧ w.cell? ⟨g, o + j * 2, none⟩ = some (.int .i64 (wt H j).s) ∧ w.cell? ⟨g, o + j * 2 + 1, none⟩ = some (.int .i64 (wt H j).p) := by
  obtain ⟨g, o, hA, hg, d⟩ := h.2.2 j _ (wt_get hj)
  exact ⟨g, o, hA, hg, d 0 _ (by omega) rfl, d 1 _ (by omega) rfl⟩
theorem oneId (w : World) (T : TypeId) (x : Wt) : EAt eid 2 (w.alloc (.cells #[.int .i64 x.p, .int .i64 x.s] T)) (some ⟨w.heap.size, 0, none⟩) 1 [x] := (OwnE.at EID (owne_one EID w T x _ rfl)).1
theorem oneWt (w : World) (T : TypeId) (x : Wt) : EAt ewt 2 (w.alloc (.cells #[.int .i64 x.s, .int .i64 x.p] T)) (some ⟨w.heap.size, 0, none⟩) 1 [x] := (OwnE.at EWT (owne_one EWT w T x _ rfl)).1
/-- The index of a page that waits. -/
def fdI (p : Int) : List Wt → Nat → Int
  | [], _ => -1
  | x :: H, k => if x.p = p then (k : Int) else fdI p H (k + 1)
theorem fdI_cons (p : Int) (x : Wt) (H : List Wt) (k : Nat) : fdI p (x :: H) k = if x.p = p then (k : Int) else fdI p H (k + 1) := rfl
theorem fdI_spec (p : Int) : ∀ (H : List Wt) (k : Nat), (findW p H = none ∧ fdI p H k = -1) ∨ ∃ d x, H[d]? = some x ∧ x.p = p ∧ findW p H = some x ∧ fdI p H k = ((k + d : Nat) : Int)
  | [], k => .inl ⟨rfl, rfl⟩
  | x :: H, k => by
    rw [fdI_cons]
    by_cases h : x.p = p
    · rw [if_pos h]
      exact .inr ⟨0, x, rfl, h, by unfold findW; rw [List.find?_cons_of_pos (by simpa using h)], rfl⟩
    · rw [if_neg h]
      have e : findW p (x :: H) = findW p H := by unfold findW; rw [List.find?_cons_of_neg (by simpa using h)]
      rw [e]
      rcases fdI_spec p H (k + 1) with h1 | ⟨d, y, h1, h2, h3, h4⟩
      · exact .inl h1
      · exact .inr ⟨d + 1, y, h1, h2, h3, by rw [h4]; omega⟩
end Py
end Go.Proofs.Ytnkkhbmbbkmfhaa
