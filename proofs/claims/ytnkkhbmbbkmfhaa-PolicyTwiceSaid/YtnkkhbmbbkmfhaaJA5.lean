/- The program: Check, Gaps, both, saved, dropped. -/
import Derived.Test.YtnkkhbmbbkmfhaaJA4
import Derived.Test.YtnkkhbmbbkmfhaaJR6
namespace Go.Proofs.Ytnkkhbmbbkmfhaa
open Go.RowKit Go.Sort Go.Lib
namespace Py

theorem open_good (A : Option Addr) (c : Nat) (L : List PU) (w : World) (h : UAt w A c L) (hv : checkV L = 0) : Calls Try.prog 48 #[.slice A L.length c] w fun e w' => ∃ t, e = .returned (.tuple #[.pointer (some ⟨t, 0, none⟩), .int .i64 0]) ∧ TrAt w' t A c L ∧ Below w.heap.size w w' :=
  (open_ok A c L w h).mono fun e w' ⟨_, h2, hb⟩ => by
    obtain ⟨t, he, ht⟩ := h2 hv
    exact ⟨t, he, ht, hb⟩
theorem open_bad (A : Option Addr) (c : Nat) (L : List PU) (w : World) (h : UAt w A c L) (hv : checkV L ≠ 0) : Calls Try.prog 48 #[.slice A L.length c] w fun e w' => e = .returned (.tuple #[.pointer none, .int .i64 (checkV L)]) ∧ Below w.heap.size w w' :=
  (open_ok A c L w h).mono fun _e _w' ⟨h1, _, hb⟩ => ⟨h1 hv, hb⟩
set_option maxHeartbeats 2000000 in
theorem Check_ok (A : Option Addr) (c : Nat) (L : List PU) (w : World) (h : UAt w A c L) : Calls Try.prog 21 #[.slice A L.length c] w fun e w' => e = .returned (.int .i64 (checkV L)) ∧ Below w.heap.size w w' := by
  by_cases hv : checkV L = 0
  · have HO := Lib.hid (open_good A c L w h hv)
    rw [hv]
    clear hv h
    go_enter Try.func21, Try.ntmps21
    go_wp2_with (go_at_call 48; refine HO.out.mono ?_; rintro e w1 ⟨t, rfl, _, hb⟩; have HB := Lib.hid hb; clear hb)
    go_ret
    exact ⟨rfl, HB.out⟩
  · have HO := Lib.hid (open_bad A c L w h hv)
    clear hv h
    generalize checkV L = cv at *
    go_enter Try.func21, Try.ntmps21
    go_wp2_with (go_at_call 48; refine HO.out.mono ?_; rintro e w1 ⟨rfl, hb⟩; have HB := Lib.hid hb; clear hb)
    go_ret
    exact ⟨rfl, HB.out⟩
set_option maxHeartbeats 2000000 in
theorem Gaps_ok (A : Option Addr) (c : Nat) (L : List PU) (w : World) (h : UAt w A c L) : Calls Try.prog 19 #[.slice A L.length c] w (GapsOut w L) := by
  by_cases hv : checkV L = 0
  · have HO := Lib.hid (open_good A c L w h hv)
    have HV := Lib.hid hv
    clear hv h
    go_enter Try.func19, Try.ntmps19
    go_upto_region 2 with (go_at_call 48; refine HO.out.mono ?_; rintro e w1 ⟨t, rfl, htr, hb⟩)
    obtain ⟨B, d, mb, n, D, h1, h3, _⟩ := htr.ex
    have t1 : w1.cell? ⟨t, 1, none⟩ = some (.slice B (gapsV L).length d) := by rw [cell_of_row _ _ _ _ _ _ h1]; rfl
    have HB := Lib.hid (And.intro hb h3)
    clear hb htr h1 h3
    go_wp2
    go_ret2
    exact ⟨fun e => absurd HV.out e, fun _ => ⟨B, d, rfl, HB.out.2⟩, HB.out.1⟩
  · have HO := Lib.hid (And.intro (open_bad A c L w h hv) hv)
    have hne : (checkV L != 0) = true := by simp [hv]
    clear hv h
    unfold GapsOut
    generalize checkV L = cv at *
    go_enter Try.func19, Try.ntmps19
    go_wp2_with (go_at_call 48; refine HO.out.1.mono ?_; rintro e w1 ⟨rfl, hb⟩; have HB := Lib.hid hb; clear hb)
    go_ret2
    exact ⟨fun _ => rfl, fun e => absurd e HO.out.2, HB.out⟩
theorem cost_out (h w : Int) : costV h w = if (outV h 1000 || outV w 1000000000) = true then 7 else 0 := by
  rw [← costR_val, out_in, out_in]
set_option maxHeartbeats 4000000 in
theorem both_good (A : Option Addr) (c : Nat) (L : List PU) (h w : Int) (W : World) (hU : UAt W A c L) (hv : askV L h w = 0) : Calls Try.prog 35 #[.slice A L.length c, cbx h w] W fun e w' => ∃ t, e = .returned (.tuple #[.pointer (some ⟨t, 0, none⟩), .int .i64 0]) ∧ TrAt w' t A c L ∧ Below W.heap.size W w' := by
  obtain ⟨hL, hc⟩ := ask_ok.1 hv
  have hb := below_box W (.cells #[.int .i64 h, .int .i64 w] 24)
  have hnb : (W.alloc (.cells #[.int .i64 h, .int .i64 w] 24)).heap[W.heap.size]? = some (.cells #[.int .i64 h, .int .i64 w] 24 (0, 0)) := by rw [heapAlloc, if_pos rfl]
  have HO := Lib.hid (open_good A c L _ (hU.below hb (Nat.le_refl _)) ((checkV_ok L).2 hL))
  have hcv := (costV_ok h w).2 hc
  have hof : (outV h 1000 || outV w 1000000000) = false := by
    cases e : (outV h 1000 || outV w 1000000000) with
    | false => rfl
    | true => rw [cost_out, e] at hcv; simp at hcv
  rw [Bool.or_eq_false_iff] at hof
  have HF := Lib.hid (fun V => outside_ok h 1000 V)
  have HT := Lib.hid (fun V => outside_ok w 1000000000 V)
  rw [hof.1] at HF
  rw [hof.2] at HT
  have HX := Lib.hid (And.intro hb hnb)
  clear hb hnb hcv hof hv hL hc hU
  go_enter Try.func35, Try.ntmps35
  go_upto_region 1 with (fail)
  generalize W.alloc (.cells #[.int .i64 h, .int .i64 w] 24) = V at *
  have x0 : V.cell? ⟨W.heap.size, 0, none⟩ = some (.int .i64 h) := by rw [cell_of_row _ _ _ _ _ _ HX.out.2]; rfl
  have x1 : V.cell? ⟨W.heap.size, 1, none⟩ = some (.int .i64 w) := by rw [cell_of_row _ _ _ _ _ _ HX.out.2]; rfl
  go_upto_region 2 with (go_at_call 48; refine HO.out.mono ?_; rintro e w1 ⟨t, rfl, htr, hb⟩)
  have y0 := cell_keep2 hb x0
  have y1 := cell_keep2 hb x1
  have HB := Lib.hid (And.intro htr hb)
  clear htr hb x0 x1
  go_wp2_with (first | (go_at_call 38; with_reducible refine (HF.out _).mono ?_; rintro e w' ⟨rfl, rfl⟩) | (go_at_call 38; with_reducible refine (HT.out _).mono ?_; rintro e w' ⟨rfl, rfl⟩))
  go_ret2
  exact ⟨t, rfl, HB.out.1, HX.out.1.trans (HB.out.2.mono HX.out.1.size)⟩
set_option maxHeartbeats 4000000 in
theorem both_bad (A : Option Addr) (c : Nat) (L : List PU) (h w : Int) (W : World) (hU : UAt W A c L) (hv : askV L h w ≠ 0) : Calls Try.prog 35 #[.slice A L.length c, cbx h w] W fun e w' => ∃ p, e = .returned (.tuple #[.pointer p, .int .i64 (askV L h w)]) ∧ Below W.heap.size W w' := by
  have hb := below_box W (.cells #[.int .i64 h, .int .i64 w] 24)
  have hnb : (W.alloc (.cells #[.int .i64 h, .int .i64 w] 24)).heap[W.heap.size]? = some (.cells #[.int .i64 h, .int .i64 w] 24 (0, 0)) := by rw [heapAlloc, if_pos rfl]
  by_cases hcv : checkV L = 0
  · have HO := Lib.hid (open_good A c L _ (hU.below hb (Nat.le_refl _)) hcv)
    have ha : askV L h w = costV h w := by unfold askV; rw [if_pos hcv]
    rw [ha] at hv ⊢
    have hco := cost_out h w
    have hof : (outV h 1000 || outV w 1000000000) = true := by
      cases e : (outV h 1000 || outV w 1000000000) with
      | true => rfl
      | false => rw [e] at hco; exact absurd hco hv
    rw [hof, if_pos rfl] at hco
    rw [hco]
    have HF := Lib.hid (fun V => outside_ok h 1000 V)
    have HT := Lib.hid (fun V => outside_ok w 1000000000 V)
    generalize outV h 1000 = b1 at *
    generalize outV w 1000000000 = b2 at *
    have HX := Lib.hid (And.intro hb hnb)
    clear hb hnb hcv ha hv hco hU
    go_enter Try.func35, Try.ntmps35
    go_upto_region 1 with (fail)
    generalize W.alloc (.cells #[.int .i64 h, .int .i64 w] 24) = V at *
    have x0 : V.cell? ⟨W.heap.size, 0, none⟩ = some (.int .i64 h) := by rw [cell_of_row _ _ _ _ _ _ HX.out.2]; rfl
    have x1 : V.cell? ⟨W.heap.size, 1, none⟩ = some (.int .i64 w) := by rw [cell_of_row _ _ _ _ _ _ HX.out.2]; rfl
    go_upto_region 2 with (go_at_call 48; refine HO.out.mono ?_; rintro e w1 ⟨t, rfl, htr, hb⟩)
    have y0 := cell_keep2 hb x0
    have y1 := cell_keep2 hb x1
    have HB := Lib.hid hb
    clear htr hb x0 x1
    cases b1 with
    | true =>
      clear hof
      go_wp2_with (first | (go_at_call 38; with_reducible refine (HF.out _).mono ?_; rintro e w' ⟨rfl, rfl⟩) | (go_at_call 38; with_reducible refine (HT.out _).mono ?_; rintro e w' ⟨rfl, rfl⟩))
      go_ret2
      exact ⟨_, rfl, HX.out.1.trans (HB.out.mono HX.out.1.size)⟩
    | false =>
      rw [Bool.false_or] at hof
      subst hof
      go_wp2_with (first | (go_at_call 38; with_reducible refine (HF.out _).mono ?_; rintro e w' ⟨rfl, rfl⟩) | (go_at_call 38; with_reducible refine (HT.out _).mono ?_; rintro e w' ⟨rfl, rfl⟩))
      go_ret2
      exact ⟨_, rfl, HX.out.1.trans (HB.out.mono HX.out.1.size)⟩
  · have HO := Lib.hid (open_bad A c L _ (hU.below hb (Nat.le_refl _)) hcv)
    have ha : askV L h w = checkV L := by unfold askV; rw [if_neg hcv]
    rw [ha]
    have hne : (checkV L == 0) = false := by simp [hcv]
    have HX := Lib.hid (And.intro hb hnb)
    clear hb hnb hcv ha hv hU
    generalize checkV L = cv at *
    go_enter Try.func35, Try.ntmps35
    go_wp2_with (go_at_call 48; refine HO.out.mono ?_; rintro e w1 ⟨rfl, hb⟩; have HB := Lib.hid hb; clear hb)
    go_ret2
    exact ⟨_, rfl, HX.out.1.trans (HB.out.mono HX.out.1.size)⟩
set_option maxHeartbeats 4000000 in
theorem saved_ok (h w : Int) (g : PU) (hc : OkC h w) (hg : OkG g) (W : World) : Calls Try.prog 45 #[cbx h w, ub g] W fun e w' => e = .returned (.int .i64 (saved h w g)) ∧ Below W.heap.size W w' := by
  obtain ⟨h1, h2⟩ := two_boxes W #[.int .i64 h, .int .i64 w] #[.int .i64 g.p, .int .i64 g.f, .int .i64 g.t] 24 66
  have hb : Below W.heap.size W ((W.alloc (.cells #[.int .i64 h, .int .i64 w] 24)).alloc (.cells #[.int .i64 g.p, .int .i64 g.f, .int .i64 g.t] 66)) := (below_box W _).alloc (by simp) _
  have hs := saved_bd hc hg
  have w0 := hc.w0; have w1 := hc.w1; have g0 := hg.f0; have g1 := hg.ft; have g2 := hg.t1
  have hsv : saved h w g = w - (g.t - g.f) * h := rfl
  rw [hsv] at hs ⊢
  have HX := Lib.hid (And.intro h1 (And.intro h2 hb))
  clear h1 h2 hb hc hg hsv
  obtain ⟨gp, gf, gt⟩ := g
  dsimp only at hs g0 g1 g2 HX ⊢
  obtain ⟨x, hx⟩ : ∃ x, x = (gt - gf) * h := ⟨_, rfl⟩
  rw [← hx] at hs ⊢
  have q3 : (gt - gf) * h = x := hx.symm
  clear hx
  go_enter Try.func45, Try.ntmps45
  go_wp2
  go_ret
  exact ⟨rfl, HX.out.2.2⟩
attribute [local irreducible] wpQuiet
set_option maxHeartbeats 4000000 in
theorem dropped_ok (t : Nat) (A : Option Addr) (c : Nat) (L : List PU) (h w : Int) (hc : OkC h w) (hl : L.length ≤ 200) (W : World) (ht : TrAt W t A c L) : Calls Try.prog 44 #[.pointer (some ⟨t, 0, none⟩), cbx h w] W fun e w' => e = .returned (.int .i64 ((L.length : Int) * w)) ∧ Below W.heap.size W w' := by
  obtain ⟨B, d, mb, n, D, h1, _⟩ := ht.ex
  have hb := below_box W (.cells #[.int .i64 h, .int .i64 w] 24)
  have hnb : (W.alloc (.cells #[.int .i64 h, .int .i64 w] 24)).heap[W.heap.size]? = some (.cells #[.int .i64 h, .int .i64 w] 24 (0, 0)) := by rw [heapAlloc, if_pos rfl]
  have ht1 : (W.alloc (.cells #[.int .i64 h, .int .i64 w] 24)).heap[t]? = _ := (alloc_old W _ t (lt_of_heap h1)).trans h1
  have w0 := hc.w0; have w1 := hc.w1
  obtain ⟨x, hx⟩ : ∃ x, x = (L.length : Int) * w := ⟨_, rfl⟩
  have hxb : 0 ≤ x ∧ x ≤ 200000000000 := by rw [hx]; have := mul_bd (a := (L.length : Int)) (b := w) (A := 200) (B := 1000000000) (by omega) w0 (by omega) w1; omega
  rw [← hx]
  have q : (L.length : Int) * w = x := hx.symm
  have HX := Lib.hid (And.intro hb (And.intro hnb ht1))
  clear hx hb hnb ht1 h1 ht hc
  go_enter Try.func44, Try.ntmps44
  go_upto_region 1 with (fail)
  generalize W.alloc (.cells #[.int .i64 h, .int .i64 w] 24) = V at *
  have x1 : V.cell? ⟨W.heap.size, 1, none⟩ = some (.int .i64 w) := by rw [cell_of_row _ _ _ _ _ _ HX.out.2.1]; rfl
  have t0 : V.cell? ⟨t, 0, none⟩ = some (.slice A L.length c) := by rw [cell_of_row _ _ _ _ _ _ HX.out.2.2]; rfl
  go_quiet (fail)
  go_wp2
  go_ret
  exact ⟨rfl, below_drewN HX.out.1 _⟩
end Py
end Go.Proofs.Ytnkkhbmbbkmfhaa
