/- Save of the reference. -/
import Derived.Test.YtlknhbcambdccaaJZH
namespace Go.Proofs.Ytlknhbcambdccaa
open Go.RowKit
namespace Sl
open Bu

theorem ref_sb {w : World} {own : Own?} {r : Nat} {Bp : Addr} {s o kp : Nat} {q : List RS} {A : Option Addr} {cap : Nat} (hr : RowAt w A cap q) (hu : ∀ (j : Nat) (x : RS), q[j]? = some x → own x.2.1 = some (x.1.pg + 10) ∧ w.ownsRow 0 4 1 (.slice (some ⟨x.2.1, 0, none⟩) x.1.us.length x.2.2) x.1.us.length (bcells x.1.us)) : SbAt 0 w A cap (saveS (q.map (·.1))) := by
  refine ⟨by rw [saveS_len, List.length_map]; exact hr.len, hr.cap, fun j y hy => ?_⟩
  unfold saveS at hy
  rw [List.map_map, List.getElem?_map] at hy
  obtain ⟨x, hx, rfl⟩ := Option.map_eq_some_iff.1 hy
  obtain ⟨g, oo, h1, h2, h3, h4⟩ := hr.at_ j x hx
  exact ⟨g, oo, _, _, h1, Nat.zero_le _, h2, h3, h4, bool_row (hu j x hx).2⟩
theorem cop_sb {W : World} {B : Nat} {s o kp : Int} {sl : List Slb} {e : Ending} (h : CopR B s o kp sl e W) : ∃ A cp, e = .returned (stv s o kp A sl.length cp) ∧ SbAt B W A cp (saveS sl) := by
  obtain ⟨A, cp, q, he, hq, hu, _, hr⟩ := h
  refine ⟨A, cp, he, ?_⟩
  obtain ⟨h1, h2⟩ := hr.at
  refine ⟨by rw [saveS_len, ← hq, List.length_map]; exact h1.len, h1.cap, fun j y hy => ?_⟩
  rw [← hq] at hy
  unfold saveS at hy
  rw [List.map_map, List.getElem?_map] at hy
  obtain ⟨x, hx, rfl⟩ := Option.map_eq_some_iff.1 hy
  obtain ⟨g, oo, k1, k2, k3, k4⟩ := h1.at_ j x hx
  exact ⟨g, oo, _, _, k1, (h2 g (by rw [k1]; rfl)).1, k2, k3, k4, bool_row (hu j x hx).1⟩

set_option maxRecDepth 100000 in
set_option maxHeartbeats 2000000 in
theorem saveR_ok (w : World) (own : Own?) (r : Nat) (Bp : Addr) (s o kp N : Nat) (L : List Blk) (q : List RS) (h : RefAt w own r Bp s o kp q) (H : CaOk (refC s o kp q) N L) :
    Calls Try.prog 65 #[.pointer (some ⟨r, 0, none⟩)] w fun e w' => (∃ A cp, e = .returned (stv (s : Int) (o : Int) (kp : Int) A q.length cp) ∧ SbAt w.heap.size w' A cp (saveS (q.map (·.1)))) ∧ Below w.heap.size w w' := by
  obtain ⟨A0, c0, hcell, hrow, _⟩ := h.cell
  obtain ⟨n, hn⟩ : ∃ n, n = q.length := ⟨_, rfl⟩
  obtain ⟨W1, hW1⟩ : ∃ W1, W1 = w.alloc (.cells #[.int .i64 0, .int .i64 0, .int .i64 0, .slice none 0 0] 69) := ⟨_, rfl⟩
  have hb1 : Below w.heap.size w W1 := by rw [hW1]; exact below_box w _
  have hs1 : W1.heap.size = w.heap.size + 1 := by rw [hW1]; simp
  have hx1 : W1.heap[w.heap.size]? = some (.cells #[.int .i64 0, .int .i64 0, .int .i64 0, .slice none 0 0] 69 (0, 0)) := by rw [hW1, heapAlloc, if_pos rfl]
  have hsb : SbAt 0 W1 A0 c0 (saveS (q.map (·.1))) := (ref_sb (own := own) (r := r) (Bp := Bp) (s := s) (o := o) (kp := kp) hrow h.used).below hb1
  have hlen := ok_len H
  have hcp := copied_ok W1 (s : Int) (o : Int) (kp : Int) A0 c0 (q.map (·.1)) hsb (fun x hx => by have := ok_bounds H hx; omega) (by have h1 : (q.map (·.1)).length ≤ 1024 := hlen; omega)
  obtain ⟨_, c1, c2, c3, c4, _⟩ := five_cells ((hb1.block r (lt_of_heap hcell)).trans hcell)
  rw [List.length_map, ← hn] at hcp
  rw [← hn] at c4 ⊢
  have HC := Lib.hid hcp
  have HX := Lib.hid (And.intro hb1 (And.intro hs1 (And.intro hx1 hn)))
  have HW := Lib.hid hW1
  clear h H hcell hrow hb1 hs1 hx1 hsb hlen hcp hn hW1
  go_enter Try.func65, Try.ntmps65
  go_upto_region 1 with (fail)
  rw [← HW.out]
  go_wp2_with (go_at_call 69; fail)
  refine HC.out.mono ?_
  rintro e2 W2 ⟨hcr, hb2⟩
  obtain ⟨A, cp, rfl, hsb⟩ := cop_sb hcr
  rw [List.length_map, ← HX.out.2.2.2]
  have hRc := (hb2.block w.heap.size (by have := HX.out.2.1; omega)).trans HX.out.2.2.1
  obtain ⟨_, _, _, _⟩ := four_at hRc
  have qf : ∀ o, W2.frozen? ⟨w.heap.size, o, none⟩ = false := fun o => by simp [World.frozen?, hRc]
  have qf0 := qf 0
  have qf1 := qf 1
  have qf2 := qf 2
  have qf3 := qf 3
  have HJ := Lib.hid (And.intro hsb (And.intro hb2 hRc))
  clear hsb hb2 hRc qf hcr
  go_wp2_with (fail)
  obtain ⟨hsb, hb2, hRc⟩ := HJ.out
  have hfin := four_set hRc (.int .i64 (s : Int)) (.int .i64 (o : Int)) (.int .i64 (kp : Int)) (.slice A n cp)
  obtain ⟨q4, q5, q6, q7⟩ := four_at hfin
  refine bodyPost_ret (v := stv (s : Int) (o : Int) (kp : Int) A n cp) (by simp [results, Try.results65, go_sem, q4, q5, q6, q7]) rfl ⟨⟨A, cp, rfl, ?_⟩, ?_⟩
  · refine SbAt.low (B := w.heap.size + 1) (Nat.le_succ _) ?_
    rw [HX.out.2.1] at hsb
    refine hsb.keep (by rw [setCell_size, setCell_size, setCell_size, setCell_size]; exact Nat.le_refl _) fun z h1 h2 => ?_
    exact (setCell_far _ _ _ _ (by show z ≠ w.heap.size; omega)).trans ((setCell_far _ _ _ _ (by show z ≠ w.heap.size; omega)).trans ((setCell_far _ _ _ _ (by show z ≠ w.heap.size; omega)).trans (setCell_far _ _ _ _ (by show z ≠ w.heap.size; omega))))
  · have hb := below_step HX.out.1 hb2 (Nat.le_refl _)
    exact ((((hb.setCell (p := ⟨w.heap.size, 0, none⟩) (Nat.le_refl _) _).setCell (p := ⟨w.heap.size, 1, none⟩) (Nat.le_refl _) _).setCell (p := ⟨w.heap.size, 2, none⟩) (Nat.le_refl _) _).setCell (p := ⟨w.heap.size, 3, none⟩) (Nat.le_refl _) _)
end Sl
end Go.Proofs.Ytlknhbcambdccaa
