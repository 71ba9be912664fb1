/- The program: finding a page that waits, ordering the steps. -/
import Derived.Test.YtnkkhbmbbkmfhaaJA13
import Derived.Test.YtnkkhbmbbkmfhaaK2
namespace Go.Proofs.Ytnkkhbmbbkmfhaa
open Go.Shelf Go.RowKit Go.Sort Go.Lib
namespace Py

set_option maxHeartbeats 2000000 in
theorem page_ok (x : Wt) (b : Nat) (p : Int) (w : World) (hp : w.cell? ⟨b, 2, none⟩ = some (.int .i64 p)) : Calls Try.prog 61 #[.agg #[.int .i64 x.s, .int .i64 x.p], .pointer (some ⟨b, 0, none⟩)] w fun e w' => e = .returned (.bool (decide (x.p = p))) ∧ Below w.heap.size w w' := by
  have hb := below_box w (.cells #[.int .i64 x.s, .int .i64 x.p] 103)
  have hp2 := cell_keep2 hb hp
  have HB := Lib.hid hb
  clear hb
  have hd : (x.p == p) = decide (x.p = p) := by rw [Bool.eq_iff_iff, beq_iff_eq, decide_eq_true_eq]
  have HD := Lib.hid hd
  clear hd
  obtain ⟨xs, xp⟩ := x
  dsimp only at hp2 HB HD ⊢
  go_enter Try.func61, Try.ntmps61
  go_wp2
  go_ret
  exact ⟨by rw [← HD.out]; first | done | rfl, HB.out⟩
theorem idx_fd (p : Int) : ∀ (H : List Wt) (k : Nat), Lib.idxByFrom (fun _ y : Wt => decide (y.p = p)) default H k = fdI p H k
  | [], _ => rfl
  | x :: H, k => by
    rw [fdI_cons]
    show (if decide (x.p = p) = true then (k : Int) else Lib.idxByFrom _ default H (k + 1)) = _
    rw [idx_fd p H (k + 1)]
    simp only [decide_eq_true_eq]
set_option maxHeartbeats 2000000 in
theorem idxW_nil (A : Option Addr) (c : Nat) (fv : Value) (w : World) : Calls Try.prog 60 #[.slice A 0 c, fv] w fun e w' => e = .returned (.int .i64 (-1)) ∧ w' = w := by
  go_enter Try.func60, Try.ntmps60
  go_wp2
  refine wp_loop_rounds 1 ?_
  rw [rounds_succ]
  go_wp2
  go_ret
  exact ⟨rfl, rfl⟩
theorem get_wt {L : List Wt} {j : Nat} (h : j < L.length) : L[j]! = wt L j := by
  rw [getElem!_pos L j h]; unfold wt; rw [List.getD_eq_getElem?_getD, List.getElem?_eq_getElem h]; rfl
/-- Where a page waits. -/
theorem idxW_ok (A : Option Addr) (c : Nat) (H : List Wt) (b : Nat) (p : Int) (w : World) (h : EAt ewt 2 w A c H) (hl : H.length ≤ 100000) (hp : w.cell? ⟨b, 2, none⟩ = some (.int .i64 p)) :
    Calls Try.prog 60 #[.slice A H.length c, .func (.func 61) #[] #[.pointer (some ⟨b, 0, none⟩)]] w fun e w' => e = .returned (.int .i64 (fdI p H 0)) ∧ Below w.heap.size w w' := by
  rcases Nat.eq_zero_or_pos H.length with h0 | h0
  · have hL : H = [] := List.length_eq_zero_iff.1 h0
    subst hL
    refine (idxW_nil A c _ w).mono ?_
    rintro e w' ⟨rfl, rfl⟩
    exact ⟨rfl, Below.refl _ _⟩
  · obtain ⟨g, o, rfl, hg, _⟩ := h.wt2 h0
    have eg : ∀ args w, (callFunc 61 args).run Try.prog w = .ok (.enter 61 args) w := enters_of Try.func61 (by kernel_rfl) rfl
    have := AnyQ.slices_IndexFunc Try.idxW 2 Try.isAgg103 Try.sizeOf103 ewt EWT.len (fun y => decide (y.p = p)) 61 #[.pointer (some ⟨b, 0, none⟩)] eg g o H.length c H w (fun W x hb => (page_ok x b p W (cell_keep2 hb hp)).mono fun e w' hh => ⟨hh.1, hb.trans (hh.2.mono hb.size)⟩) (Nat.le_refl _) (by omega) hg (fun j hj i v hi => by
      rw [get_wt hj] at hi
      obtain ⟨g', o', e, _, d⟩ := h.2.2 j _ (wt_get hj)
      injection e with e; injection e with e1 e2 _
      subst e1; subst e2
      exact d i v (List.getElem?_eq_some_iff.1 hi).1 hi)
    rw [List.take_length] at this
    unfold Lib.idxBy at this
    rw [idx_fd] at this
    exact this
end Py
end Go.Proofs.Ytnkkhbmbbkmfhaa
