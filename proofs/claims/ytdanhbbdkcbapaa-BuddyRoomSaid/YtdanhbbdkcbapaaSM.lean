/- The calls that are refused. -/
import Derived.Test.YtdanhbbdkcbapaaSL
namespace Go.Proofs.Ytdanhbbdkcbapaa
open Go.RowKit
namespace Bu

set_option maxRecDepth 100000 in
set_option maxHeartbeats 1000000 in
theorem owner_bad (w : World) (b N : Nat) (page : Int) (Fr Gv : Nat → Nat → Bool) (hB : Bu w b N Fr Gv) (hN : N ≤ 10) (hp : page < 0 ∨ 2 ^ N ≤ page) :
    Calls Try.prog 23 #[.pointer (some ⟨b, 0, none⟩), .int .i64 page] w fun e w' => e = .returned (.tuple #[.agg #[.int .i64 0, .int .i64 0], .int .i64 7]) ∧ Below w.heap.size w w' := by
  have hbl := hB.lt
  obtain ⟨W1, hW1⟩ : ∃ W1, W1 = w.alloc (.cells #[.int .i64 0, .int .i64 0] 39) := ⟨_, rfl⟩
  have hbW : Below w.heap.size w W1 := by rw [hW1]; exact below_box w _
  have hcell : W1.heap[w.heap.size]? = some (.cells #[.int .i64 0, .int .i64 0] 39 (0, 0)) := by rw [hW1]; exact heap_alloc_new _ _
  obtain ⟨y0, y1, z0, z1⟩ := two_cells hcell
  have hB1 : Bu W1 b N Fr Gv := hB.keep (hbW.block b hbl)
  have hc1 := hB1.head.2
  have HIs := Lib.hid (is_ok W1 b N Fr Gv hB1)
  obtain ⟨M, hM⟩ : ∃ M : Nat, M = 2 ^ N := ⟨_, rfl⟩
  have hpw := pow_w64 N (by omega)
  have hpz : ((2 : Int) ^ N) = (M : Int) := by rw [hM, Int.natCast_pow]; rfl
  rw [← hM] at hpw
  rw [hpz] at hp
  have e5 : (0 : Int) ≤ (N : Int) := by omega
  have HB := Lib.hid hbW
  clear hB hB1 hbW hM hpz
  have hcase : page < 0 ∨ (0 ≤ page ∧ (M : Int) ≤ page) := by omega
  clear hp
  rcases hcase with hc | ⟨hc, hd⟩
  all_goals
    go_enter Try.func23, Try.ntmps23
    go_wp2_with (fail)
    rw [← hW1]
    clear hW1
    go_wp2_with (go_at_call 29; refine HIs.out.mono ?_; rintro e w' ⟨rfl, rfl⟩)
    have hq := two_cells (w := (W1.setCell ⟨w.heap.size, 0, none⟩ (.int .i64 0)).setCell ⟨w.heap.size, 1, none⟩ (.int .i64 0)) (setCell_at _ _ _ _ _ _ (setCell_at _ _ _ _ _ _ hcell))
    obtain ⟨q0, q1, _, _⟩ := hq
    exact bodyPost_ret (v := .tuple #[.agg #[.int .i64 0, .int .i64 0], .int .i64 7]) (by simp [results, Try.results23, go_sem, q0, q1]) rfl ⟨rfl, (HB.out.setCell (p := ⟨w.heap.size, 0, none⟩) (Nat.le_refl _) _).setCell (p := ⟨w.heap.size, 1, none⟩) (Nat.le_refl _) _⟩

set_option maxHeartbeats 1000000 in
theorem room_bad (w : World) (b N : Nat) (order : Int) (Fr Gv : Nat → Nat → Bool) (hB : Bu w b N Fr Gv) (ho : order < 0 ∨ 10 < order) :
    Calls Try.prog 18 #[.pointer (some ⟨b, 0, none⟩), .int .i64 order] w fun e w' => e = .returned (.tuple #[.int .i64 0, .int .i64 7]) ∧ Below w.heap.size w w' := by
  have hbl := hB.lt
  obtain ⟨W0, hW0⟩ : ∃ W0, W0 = w.alloc (.cells #[.int .i64 order] 3) := ⟨_, rfl⟩
  have hb0 : Below w.heap.size w W0 := by rw [hW0]; exact (Below.refl _ _).alloc (Nat.le_refl _) _
  have hx0 : W0.heap[w.heap.size]? = some (.cells #[.int .i64 order] 3 (0, 0)) := by rw [hW0, heapAlloc, if_pos rfl]
  obtain ⟨c3, _⟩ := one_cell hx0
  have HIs := Lib.hid (is_ok W0 b N Fr Gv (hB.keep (hb0.block b hbl)))
  have H0 := Lib.hid hb0
  clear hB hb0 hx0
  have hcase : order < 0 ∨ (0 ≤ order ∧ 10 < order) := by omega
  clear ho
  rcases hcase with hc | ⟨hc, hd⟩
  all_goals
    go_enter Try.func18, Try.ntmps18
    go_wp2_with (fail)
    rw [← hW0]
    clear hW0
    go_wp2_with (go_at_call 29; refine HIs.out.mono ?_; rintro e w' ⟨rfl, rfl⟩)
    go_ret2
    exact ⟨rfl, H0.out⟩
end Bu
end Go.Proofs.Ytdanhbbdkcbapaa
