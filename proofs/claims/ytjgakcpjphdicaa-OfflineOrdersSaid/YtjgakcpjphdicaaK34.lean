/- What Best leans on. Best. -/
import Derived.Test.YtjgakcpjphdicaaK33
import Derived.Test.YtjgakcpjphdicaaK19
import Derived.Shelf.Slices.Clone
import Derived.Test.YtjgakcpjphdicaaK20
import Derived.Test.YtjgakcpjphdicaaK27
namespace Go.Proofs.Ytjgakcpjphdicaa
open Go.RowKit Go.Shelf
namespace Of

theorem orders_ok (w : World) (lA : Option Addr) (lc n bb : Nat) :
    Calls Try.prog 33 #[.slice lA n lc, .pointer (some ⟨bb, 0, none⟩)] w fun e w' => e = .returned (.func (.func 59) #[] #[.pointer (some ⟨w.heap.size, 0, none⟩), .pointer (some ⟨w.heap.size + 1, 0, none⟩)]) ∧
      w' = (w.alloc (.cells #[.slice lA n lc] 22)).alloc (.cells #[.pointer (some ⟨bb, 0, none⟩)] 55) := by
  go_enter Try.func33, Try.ntmps33
  go_wp2
  go_ret
  exact ⟨rfl, rfl⟩
theorem clone_ok (w : World) (g c : Nat) (o : List Nat) (h : IAt w (some ⟨g, 0, none⟩) c (zsP o)) (hl : o.length ≤ 1000) :
    Calls Try.prog 34 #[.slice (some ⟨g, 0, none⟩) o.length c] w fun e w' => ∃ A' c', e = .returned (.slice A' o.length c') ∧ OwnI w' w.heap.size 3 A' c' (zsP o) ∧ Below w.heap.size w w' := by
  have hlen : (zsP o).length = o.length := List.length_map _
  refine (Any.slices_Clone_int Try.cloneI g 0 o.length c (zsP o) w (by omega) (by omega) (fun j hj => ?_)).mono ?_
  · obtain ⟨g', o', e, _, hc⟩ := h.at hj
    injection e with e; injection e with e1 e2
    subst e1; subst e2
    exact hc
  · rintro e w' ⟨v', rfl, h1, _, h2⟩
    rw [← hlen, List.take_length] at h1
    obtain ⟨A', c', rfl⟩ := row_own h1
    exact ⟨A', c', by rw [hlen], h1, h2⟩
theorem results_best {fn : Func} {a p b c : Tmp} {ty : TypeId} (h : fn.results = #[.tmp a, .cell p ty, .tmp b, .tmp c]) (tmps : Array Value) (P : Program) (w : World) (ad : Addr) (v : Value) (hp : tmps.getD p undef = .pointer (some ad)) (hl : (loadVar ty ad).run P w = .ok v w) :
    (results fn tmps).run P w = .ok (.tuple #[tmps.getD a undef, v, tmps.getD b undef, tmps.getD c undef]) w := by
  have hp' : tmps[p]?.getD undef = .pointer (some ad) := by simpa using hp
  simp [results, h, hp', asAddr, hl]
theorem load_one (w : World) (k : Nat) (v : Value) (h : w.cell? ⟨k, 0, none⟩ = some v) : (loadVar 25 ⟨k, 0, none⟩).run Try.prog w = .ok v w := by
  have ha : (isAgg 25).run Try.prog w = .ok false w := by kernel_rfl
  simp [loadVar, Sem.run_bind, ha, go_sem, h]
end Of
end Go.Proofs.Ytjgakcpjphdicaa
namespace Go.Proofs.Ytjgakcpjphdicaa
open Go.RowKit Go.Shelf
namespace Of
attribute [local go_sem] Oper.semAt_some

theorem cell_of_below {w w1 w2 : World} {k : Nat} {v : Value} (hb : Below w1.heap.size w1 w2) (h : w1.cell? ⟨k, 0, none⟩ = some v ∧ w1.frozen? ⟨k, 0, none⟩ = false) : w2.cell? ⟨k, 0, none⟩ = some v ∧ w2.frozen? ⟨k, 0, none⟩ = false := by
  have hk : k < w1.heap.size := World.block_lt_of_cell? w1 (a := ⟨k, 0, none⟩) h.1
  exact ⟨cell_keep hb h.1, (hb.frozen (p := ⟨k, 0, none⟩) hk).trans h.2⟩
theorem below_set {n : Nat} {w w1 : World} (h : Below n w w1) {k : Nat} (hk : n ≤ k) (v : Value) : Below n w (w1.setCell ⟨k, 0, none⟩ v) :=
  ⟨h.os, h.tape, h.output, by rw [setCell_size]; exact h.size, fun q hq => (setCell_far _ _ _ _ (by show q ≠ k; omega)).trans (h.block q hq)⟩
theorem best_ret {w w1 : World} {x : Int} (hb : Below w.heap.size w w1) (h1 : w1.heap[w.heap.size]? = some (.cells #[.slice none 0 0] 25 (0, 0))) {tmps : Array Value}
    (h2 : tmps.getD 2 undef = .slice none 0 0) (h3 : tmps.getD 3 undef = .pointer (some ⟨w.heap.size, 0, none⟩)) (h4 : tmps.getD 4 undef = .int .i64 0) (h5 : tmps.getD 5 undef = .int .i64 x) :
    bodyPost Try.prog Try.f12 (BestNo w x) .ret { tmps := tmps, defers := [] } (w1.setCell ⟨w.heap.size, 0, none⟩ (.slice none 0 0)) := by
  have h6 := setCell_at w1 w.heap.size 0 #[.slice none 0 0] 25 (.slice none 0 0) h1
  refine bodyPost_ret (results_best rfl _ _ _ _ (.slice none 0 0) h3 (load_one _ _ _ (one_cell h6).1)) rfl ?_
  rw [h2, h4, h5]
  exact ⟨rfl, below_set hb (Nat.le_refl _) _⟩
set_option maxRecDepth 100000 in
set_option maxHeartbeats 4000000 in
theorem best_no (w : World) (lA : Option Addr) (lc : Nat) (L : List OB) (hl : OBAt w lA lc L) (hv : checkV L ≠ 0 ∨ 8 < L.length) :
    Calls Try.prog 12 #[.slice lA L.length lc] w (BestNo w (if checkV L ≠ 0 then checkV L else 3)) := by
  have hcap := hl.2.1
  have hlc := hl.1
  unfold maxLen at hcap
  have hb0 : Below w.heap.size w (w.alloc (.cells #[.slice none 0 0] 25)) := below_box _ _
  have hck := check_ok lA lc L _ (hl.below hb0 (Nat.le_refl _))
  have hc0 := one_cell (show (w.alloc (.cells #[.slice none 0 0] 25)).heap[w.heap.size]? = some (.cells #[.slice none 0 0] 25 (0, 0)) by rw [heapAlloc, if_pos rfl])
  have hs0 : (w.alloc (.cells #[.slice none 0 0] 25)).heap.size = w.heap.size + 1 := by simp
  have hh0 : (w.alloc (.cells #[.slice none 0 0] 25)).heap[w.heap.size]? = some (.cells #[.slice none 0 0] 25 (0, 0)) := by rw [heapAlloc, if_pos rfl]
  have HC := Lib.hid hck
  have H0 := Lib.hid (And.intro hb0 (And.intro hc0 (And.intro hs0 hh0)))
  have hcv := checkV_cases L
  clear hl hb0 hck hc0 hs0 hh0
  generalize checkV L = e0 at *
  by_cases h0 : e0 = 0
  · subst h0
    have h8 : 8 < L.length := by rcases hv with h | h; exact absurd rfl h; exact h
    rw [if_neg (by simp)]
    go_enter Try.func12, Try.ntmps12
    go_upto_region 1 with (fail)
    generalize w.alloc (.cells #[.slice none 0 0] 25) = W0 at *
    go_upto_region 5 with (go_at_call 27; refine HC.out.mono ?_; rintro e w1 ⟨rfl, hb1⟩; have HB1 := Lib.hid hb1; clear hb1)
    obtain ⟨c1, f1⟩ := cell_of_below (w := w) HB1.out H0.out.2.1
    go_wp2
    exact best_ret (H0.out.1.trans (HB1.out.mono H0.out.1.size)) ((HB1.out.block _ (by have := H0.out.2.2.1; omega)).trans H0.out.2.2.2) rfl rfl rfl rfl
  · rw [if_pos h0]
    go_enter Try.func12, Try.ntmps12
    go_upto_region 1 with (fail)
    generalize w.alloc (.cells #[.slice none 0 0] 25) = W0 at *
    go_upto_region 3 with (go_at_call 27; refine HC.out.mono ?_; rintro e w1 ⟨rfl, hb1⟩; have HB1 := Lib.hid hb1; clear hb1)
    obtain ⟨c1, f1⟩ := cell_of_below (w := w) HB1.out H0.out.2.1
    go_wp2
    exact best_ret (H0.out.1.trans (HB1.out.mono H0.out.1.size)) ((HB1.out.block _ (by have := H0.out.2.2.1; omega)).trans H0.out.2.2.2) rfl rfl rfl rfl
end Of
end Go.Proofs.Ytjgakcpjphdicaa
