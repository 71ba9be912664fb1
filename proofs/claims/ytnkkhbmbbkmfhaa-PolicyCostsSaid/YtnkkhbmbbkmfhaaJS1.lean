/- PolicyCosts, PolicyChecks: the walks. -/
import Derived.Test.YtnkkhbmbbkmfhaaJL2
namespace Go.Proofs.Ytnkkhbmbbkmfhaa
open Go.RowKit Go.Sort Go.Lib
namespace Py

set_option maxRecDepth 100000 in
set_option maxHeartbeats 8000000 in
theorem costs_walk (W : World) (A : Option Addr) (c : Nat) (L : List PU) (hL : UAt W A c L) (h w k a m : Int) : Calls Try.prog 3 #[.slice A L.length c, cbx h w, pb k a m] W fun e w' => e = .returned (.bool true) ∧ Below W.heap.size W w' := by
  have hb1 : Below W.heap.size W (W.alloc (.cells #[.int .i64 h, .int .i64 w] 24)) := below_box _ _
  have hb2 : Below W.heap.size W ((W.alloc (.cells #[.int .i64 h, .int .i64 w] 24)).alloc (.cells #[.int .i64 k, .int .i64 a, .int .i64 m] 26)) := hb1.alloc (by simp) _
  have hn1 : ((W.alloc (.cells #[.int .i64 h, .int .i64 w] 24)).alloc (.cells #[.int .i64 k, .int .i64 a, .int .i64 m] 26)).heap[W.heap.size]? = some (.cells #[.int .i64 h, .int .i64 w] 24 (0, 0)) := by rw [alloc_old _ _ _ (by simp), heapAlloc, if_pos rfl]
  have hn2 : ((W.alloc (.cells #[.int .i64 h, .int .i64 w] 24)).alloc (.cells #[.int .i64 k, .int .i64 a, .int .i64 m] 26)).heap[W.heap.size + 1]? = some (.cells #[.int .i64 k, .int .i64 a, .int .i64 m] 26 (0, 0)) := by rw [heapAlloc, if_pos (by simp)]
  have hA := fun V (hV : Below W.heap.size W V) => Cost_ok A c L h w k a m V (hL.below hV (Nat.le_refl _))
  have hB := fun V (hV : Below W.heap.size W V) => costFR_ok A c L h w k a m V (hL.below hV (Nat.le_refl _))
  generalize (costX L h w k a m (askV L h w)).1 = x at *
  generalize (costX L h w k a m (askV L h w)).2 = y at *
  have hxx : (x == x) = true := by simp
  have hyy : (y == y) = true := by simp
  have hcm := hL.2.1
  unfold maxLen at hcm
  have hlc := hL.1
  have HX := Lib.hid (And.intro hb2 (And.intro hn1 (And.intro hn2 (And.intro hA hB))))
  have HFA := Lib.hid (fun V => far_ok V A c L.length 60)
  clear hb1 hb2 hn1 hn2 hA hB hL
  generalize L.length = n at *
  go_enter Try.func3, Try.ntmps3
  go_upto_region 1 with (fail)
  generalize hV : (W.alloc (.cells #[.int .i64 h, .int .i64 w] 24)).alloc (.cells #[.int .i64 k, .int .i64 a, .int .i64 m] 26) = V at *
  have x0 : V.cell? ⟨W.heap.size, 0, none⟩ = some (.int .i64 h) := by rw [cell_of_row _ _ _ _ _ _ HX.out.2.1]; rfl
  have x1 : V.cell? ⟨W.heap.size, 1, none⟩ = some (.int .i64 w) := by rw [cell_of_row _ _ _ _ _ _ HX.out.2.1]; rfl
  obtain ⟨p0, p1, p2⟩ := three_at HX.out.2.2.1
  clear hV
  have HV := Lib.hid HX.out.1
  cases hf : farB n 60 with
  | true =>
    rw [hf] at HFA
    clear hf
    go_wp2_with (first | (go_at_call 11; refine (HFA.out _).mono ?_; rintro e w1 ⟨rfl, hw⟩; have hw := hw.symm; subst hw) | (go_at_call 12; refine (awake_ok _).mono ?_; rintro e w2 ⟨rfl, hb⟩; have HB := Lib.hid hb; clear hb))
    go_ret
    exact ⟨rfl, HV.out.trans (HB.out.mono HV.out.size)⟩
  | false =>
    rw [hf] at HFA
    clear hf
    go_upto_region 3 with (go_at_call 11; refine (HFA.out _).mono ?_; rintro e w1 ⟨rfl, hw⟩; have hw := hw.symm; subst hw)
    go_upto_region 4 with (go_at_call 13; refine (HX.out.2.2.2.1 _ HV.out).mono ?_; rintro e w2 ⟨rfl, hb2⟩)
    have y0 := cell_keep2 hb2 x0
    have y1 := cell_keep2 hb2 x1
    have q0 := cell_keep2 hb2 p0
    have q1 := cell_keep2 hb2 p1
    have q2 := cell_keep2 hb2 p2
    have H2 := Lib.hid (HV.out.trans (hb2.mono HV.out.size))
    clear hb2 x0 x1 p0 p1 p2
    go_wp2_with (first | (go_at_call 14; refine (HX.out.2.2.2.2 _ H2.out).mono ?_; rintro e w3 ⟨rfl, hb3⟩; have H3 := Lib.hid (H2.out.trans (hb3.mono H2.out.size)); clear hb3) | (go_at_call 12; refine (awake_ok _).mono ?_; rintro e w4 ⟨rfl, hb4⟩; have H4 := Lib.hid (H3.out.trans (hb4.mono H3.out.size)); clear hb4))
    go_ret
    exact ⟨rfl, H4.out⟩
end Py
end Go.Proofs.Ytnkkhbmbbkmfhaa
