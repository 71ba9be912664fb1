/- Slabs, Capacity and Save of the reference. -/
import Derived.Test.YtlknhbcambdccaaJZG
namespace Go.Proofs.Ytlknhbcambdccaa
open Go.RowKit
namespace Sl
open Bu

theorem slabs_grow {w wr W5 w6 : World} {k cp : Nat} {A : Option Addr} {V : List Value} {ob : Obj} {e : TypeId} (hb : Below w.heap.size w wr) (h5 : Below (World.drew wr).heap.size (World.drew wr) W5) (hr : wr.ownsRow w.heap.size e 2 (.slice A k cp) k V) (hg : (W5.alloc ob).grownBy w6 (Value.slice A k cp).ownBlock) :
    Below w.heap.size w w6 := by
  have h5' : Below wr.heap.size wr W5 := ⟨h5.os, h5.tape, h5.output, h5.size, h5.block⟩
  have h1 : Below w.heap.size w W5 := below_step hb h5' (Nat.le_refl _)
  exact (h1.alloc h1.size _).grown hg (by have := h1.size; simp; omega) (fun z hz => (hr.lt z hz).1)

set_option maxRecDepth 100000 in
set_option maxHeartbeats 8000000 in
theorem slabsR_ok (w : World) (own : Own?) (r : Nat) (Bp : Addr) (s o kp N : Nat) (L : List Blk) (q : List RS) (h : RefAt w own r Bp s o kp q) (hf : Fresh own w) (H : CaOk (refC s o kp q) N L) :
    Calls Try.prog 62 #[.pointer (some ⟨r, 0, none⟩)] w fun e w' => (∃ A cp, e = .returned (.slice A q.length cp) ∧ w'.ownsRow w.heap.size 39 2 (.slice A q.length cp) q.length (viewS (q.map (·.1)))) ∧ Below w.heap.size w w' := by
  obtain ⟨n, hn⟩ : ∃ n, n = q.length := ⟨_, rfl⟩
  have hlen := ok_len H
  rw [show (refC s o kp q).sl.length = n by show (q.map (·.1)).length = n; rw [List.length_map, hn]] at hlen
  obtain ⟨A0, c0, hcell, hrow, hG⟩ := h.cell
  have hrl := lt_of_heap hcell
  have hn0 := hrow.len
  have hc0 := hrow.cap
  unfold maxLen at hc0
  rw [← hn] at hcell hn0 ⊢
  obtain ⟨i0, z0, hi0, hz0, hz1, hz2, hz3⟩ := info_open slslab_info
  have HX := Lib.hid (And.intro h (And.intro hf (And.intro H (And.intro hn hcell))))
  clear h hf H hn hcell hrow
  go_enter Try.func62, Try.ntmps62
  go_wp2_with (fail)
  go_loopw [3, 4] (fun v i wr => ∃ (k : Nat) (A : Option Addr) (cp : Nat), k ≤ n ∧ i = .int .i64 (k : Int) ∧ v = .slice A k cp ∧ wr.ownsRow w.heap.size 39 2 (.slice A k cp) k (viewS ((q.map (·.1)).take k)) ∧ Below w.heap.size w wr) (fun _ i _ => n - (intOf i).toNat)
  case atStart => exact ⟨0, none, 0, Nat.zero_le _, rfl, rfl, World.ownsRow_nil _ _ _ _, Below.refl _ _⟩
  case round =>
    obtain ⟨k, A, cp, hk, rfl, rfl, hr, hb⟩ := hrel
    have e0 : (0 : Int) ≤ (k : Int) := by omega
    obtain ⟨_, _, _, _, c4, _⟩ := five_cells ((hb.block r hrl).trans HX.out.2.2.2.2)
    by_cases hlt : k < n
    · have e1 : (k : Int) < (n : Int) := by omega
      have hkk : IntKind.i64.wrap ((k : Int) + 1) = ((k + 1 : Nat) : Int) := by rw [IntWalk.i64_in _ (by omega)]; rfl
      obtain ⟨x, hx⟩ : ∃ x, q[k]? = some x := ⟨_, List.getElem?_eq_getElem (by have := HX.out.2.2.2.1; omega)⟩
      have hq1 := HX.out.1.below HX.out.2.1 hb
      obtain ⟨g, oo, cap, hc, hl1, hcm, hg, d0, d1⟩ := ref_row hq1 hx
      obtain ⟨_, _, _, _, c4', _⟩ := five_cells hc
      rw [← HX.out.2.2.2.1] at c4' hl1
      rw [c4] at c4'
      injection c4' with c4'
      injection c4' with e5 e6 e7
      subst e5
      have hus := usedR_ok (World.drew wr) (x.1.pg : Int) (some ⟨x.2.1, 0, none⟩) x.2.2 x.1.us (bool_row (row_keep (hq1.used k x hx).2 fun _ _ _ => rfl))
      obtain ⟨p, hp⟩ : ∃ p, p = x.1.us.length := ⟨_, rfl⟩
      obtain ⟨m, hm⟩ : ∃ m, m = x.1.us.count true := ⟨_, rfl⟩
      rw [← hp] at d1
      rw [← hp, ← hm] at hus
      have hv1 : viewS ((q.map (·.1)).take (k + 1)) = viewS ((q.map (·.1)).take k) ++ [.int .i64 (x.1.pg : Int), .int .i64 (m : Int)] := by
        rw [take_snocX (refC_get (s := s) (o := o) (kp := kp) hx), viewS_add, hm]; rfl
      obtain ⟨V, hV⟩ : ∃ V, V = viewS ((q.map (·.1)).take k) := ⟨_, rfl⟩
      rw [← hV] at hr hv1
      have hgw : g < w.heap.size := (hG g rfl).2
      have HW0 := Lib.hid (And.intro ((hb.cell (p := ⟨r, 4, none⟩) hrl).symm.trans c4) (And.intro ((hb.cell (p := ⟨g, oo + k * 2, none⟩) hgw).symm.trans d0) ((hb.cell (p := ⟨g, oo + k * 2 + 1, none⟩) hgw).symm.trans d1)))
      have hrlw : r < wr.heap.size := by have := hb.size; omega
      have HU := Lib.hid hus
      have HR := Lib.hid (And.intro hr (And.intro hb hv1))
      clear hr hb hv1 hus hx hq1 hc hp hm hV
      go_wp2_with (fail)
      go_region_held3 (fun w' => w'.cell? ⟨r, 4, none⟩ = some (.slice (some ⟨g, oo, none⟩) n c0) ∧ w'.cell? ⟨g, oo + k * 2, none⟩ = some (.int .i64 (x.1.pg : Int)) ∧ w'.cell? ⟨g, oo + k * 2 + 1, none⟩ = some (.slice (some ⟨x.2.1, 0, none⟩) p x.2.2)) (first | exact ⟨c4, d0, d1⟩ | exact ⟨f0, f1, f2⟩ | exact ⟨a0, a1, a2⟩ | exact ⟨b0, b1, b2⟩) (first
        | (go_at_call 80
           refine HU.out.mono ?_
           rintro _ W5 ⟨rfl, hb5⟩
           have f0 := cell_keep2 hb5 c4
           have f1 := cell_keep2 hb5 d0
           have f2 := cell_keep2 hb5 d1
           have hg5 : g < W5.heap.size := Nat.lt_of_lt_of_le hg hb5.size
           have hr5 : r < W5.heap.size := Nat.lt_of_lt_of_le hrlw hb5.size
           have a0 : (W5.alloc (.cells #[.int .i64 (x.1.pg : Int), .int .i64 (m : Int)] 39)).cell? ⟨r, 4, none⟩ = some (.slice (some ⟨g, oo, none⟩) n c0) := (World.cell?_alloc_lt W5 _ _ hr5).trans f0
           have a1 : (W5.alloc (.cells #[.int .i64 (x.1.pg : Int), .int .i64 (m : Int)] 39)).cell? ⟨g, oo + k * 2, none⟩ = some (.int .i64 (x.1.pg : Int)) := (World.cell?_alloc_lt W5 _ _ hg5).trans f1
           have a2 : (W5.alloc (.cells #[.int .i64 (x.1.pg : Int), .int .i64 (m : Int)] 39)).cell? ⟨g, oo + k * 2 + 1, none⟩ = some (.slice (some ⟨x.2.1, 0, none⟩) p x.2.2) := (World.cell?_alloc_lt W5 _ _ hg5).trans f2
           have H5 := Lib.hid hb5
           clear hb5)
        | (refine step_append_lies _ (by rfl) (.tmp 15) (.tmp 35) _ (by rfl) w.heap.size 39 i0 z0 2 16 Try.underlying30 hi0 hz0 hz1 hz2 hz3 (by omega) (.slice A k cp) k V (by rfl) ((row_keep (w' := W5) HR.out.1 (fun z _ hz => H5.out.block z hz)).alloc _) ⟨W5.heap.size, 0, none⟩ 1 1 [.int .i64 (x.1.pg : Int), .int .i64 (m : Int)] (by rfl) (by rfl) (two_new _ _ _ _) (by simp [Value.oneCell']) (by omega) (by unfold maxLen; omega) (by omega) (by have := HR.out.2.1.size; have h2 : wr.heap.size ≤ W5.heap.size := H5.out.size; rw [World.size_alloc]; omega) (W5.heap.size + 1) (by simp) ?_
           intro g6 cap6 w6 hown6 hgrow6 hat6 hlt6
           have hb6 : Below w.heap.size w w6 := slabs_grow HR.out.2.1 H5.out HR.out.1 hgrow6
           have b0 : w6.cell? ⟨r, 4, none⟩ = some (.slice (some ⟨g, oo, none⟩) n c0) := (hb6.cell (p := ⟨r, 4, none⟩) hrl).trans HW0.out.1
           have b1 : w6.cell? ⟨g, oo + k * 2, none⟩ = some (.int .i64 (x.1.pg : Int)) := (hb6.cell (p := ⟨g, oo + k * 2, none⟩) hgw).trans HW0.out.2.1
           have b2 : w6.cell? ⟨g, oo + k * 2 + 1, none⟩ = some (.slice (some ⟨x.2.1, 0, none⟩) p x.2.2) := (hb6.cell (p := ⟨g, oo + k * 2 + 1, none⟩) hgw).trans HW0.out.2.2
           have H6 := Lib.hid (And.intro hown6 hb6)
           clear hown6 hgrow6 hat6 hb6))
      all_goals
        go_wp2_with (fail)
        go_roundw
        case rel => exact ⟨k + 1, some ⟨g6, 0, none⟩, cap6, by omega, by go_num, rfl, by rw [HR.out.2.2]; exact H6.out.1, H6.out.2⟩
        case measure => simp [intOf]; omega
    · obtain rfl : k = n := by omega
      have e1 : ¬ ((k : Nat) : Int) < (k : Int) := by omega
      have hall : (q.map (·.1)).take k = q.map (·.1) := by rw [HX.out.2.2.2.1, show q.length = (q.map (·.1)).length by rw [List.length_map], List.take_length]
      rw [hall] at hr
      have HR := Lib.hid (And.intro hr hb)
      clear hr hb hall
      go_wp2_with (fail)
      go_ret
      exact ⟨⟨A, cp, rfl, HR.out.1⟩, HR.out.2⟩
end Sl
end Go.Proofs.Ytlknhbcambdccaa
