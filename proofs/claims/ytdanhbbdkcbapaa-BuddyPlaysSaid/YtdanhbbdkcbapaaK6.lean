/- The calls that are refused. Allocators that are none. Alloc refused. -/
import Derived.Test.YtdanhbbdkcbapaaK5
namespace Go.Proofs.Ytdanhbbdkcbapaa
open Go.RowKit
namespace Bu

set_option maxRecDepth 100000 in
set_option maxHeartbeats 1000000 in
theorem owner_bad (w : World) (b N : Nat) (page : Int) (Fr Gv : Nat → Nat → Bool) (hB : Bu w b N Fr Gv) (hN : N ≤ 10) (hp : page < 0 ∨ 2 ^ N ≤ page) :
    Calls Try.prog 23 #[.pointer (some ⟨b, 0, none⟩), .int .i64 page] w fun e w' => e = .returned (.tuple #[.agg #[.int .i64 0, .int .i64 0], .int .i64 7]) ∧ Below w.heap.size w w' := by
  have hbl := hB.lt
  obtain ⟨W1, hW1⟩ : ∃ W1, W1 = w.alloc (.cells #[.int .i64 0, .int .i64 0] 39) := ⟨_, rfl⟩
  have hbW : Below w.heap.size w W1 := by rw [hW1]; exact below_box w _
  have hcell : W1.heap[w.heap.size]? = some (.cells #[.int .i64 0, .int .i64 0] 39 (0, 0)) := by rw [hW1]; exact heap_alloc_new _ _
  obtain ⟨y0, y1, z0, z1⟩ := two_cells hcell
  have hB1 : Bu W1 b N Fr Gv := hB.keep (hbW.block b hbl)
  have hc1 := hB1.head.2
  have HIs := Lib.hid (is_ok W1 b N Fr Gv hB1)
  obtain ⟨M, hM⟩ : ∃ M : Nat, M = 2 ^ N := ⟨_, rfl⟩
  have hpw := pow_w64 N (by omega)
  have hpz : ((2 : Int) ^ N) = (M : Int) := by rw [hM, Int.natCast_pow]; rfl
  rw [← hM] at hpw
  rw [hpz] at hp
  have e5 : (0 : Int) ≤ (N : Int) := by omega
  have HB := Lib.hid hbW
  clear hB hB1 hbW hM hpz
  have hcase : page < 0 ∨ (0 ≤ page ∧ (M : Int) ≤ page) := by omega
  clear hp
  rcases hcase with hc | ⟨hc, hd⟩
  all_goals
    go_enter Try.func23, Try.ntmps23
    go_wp2_with (fail)
    rw [← hW1]
    clear hW1
    go_wp2_with (go_at_call 29; refine HIs.out.mono ?_; rintro e w' ⟨rfl, rfl⟩)
    have hq := two_cells (w := (W1.setCell ⟨w.heap.size, 0, none⟩ (.int .i64 0)).setCell ⟨w.heap.size, 1, none⟩ (.int .i64 0)) (setCell_at _ _ _ _ _ _ (setCell_at _ _ _ _ _ _ hcell))
    obtain ⟨q0, q1, _, _⟩ := hq
    exact bodyPost_ret (v := .tuple #[.agg #[.int .i64 0, .int .i64 0], .int .i64 7]) (by simp [results, Try.results23, go_sem, q0, q1]) rfl ⟨rfl, (HB.out.setCell (p := ⟨w.heap.size, 0, none⟩) (Nat.le_refl _) _).setCell (p := ⟨w.heap.size, 1, none⟩) (Nat.le_refl _) _⟩

set_option maxHeartbeats 1000000 in
theorem room_bad (w : World) (b N : Nat) (order : Int) (Fr Gv : Nat → Nat → Bool) (hB : Bu w b N Fr Gv) (ho : order < 0 ∨ 10 < order) :
    Calls Try.prog 18 #[.pointer (some ⟨b, 0, none⟩), .int .i64 order] w fun e w' => e = .returned (.tuple #[.int .i64 0, .int .i64 7]) ∧ Below w.heap.size w w' := by
  have hbl := hB.lt
  obtain ⟨W0, hW0⟩ : ∃ W0, W0 = w.alloc (.cells #[.int .i64 order] 3) := ⟨_, rfl⟩
  have hb0 : Below w.heap.size w W0 := by rw [hW0]; exact (Below.refl _ _).alloc (Nat.le_refl _) _
  have hx0 : W0.heap[w.heap.size]? = some (.cells #[.int .i64 order] 3 (0, 0)) := by rw [hW0, heapAlloc, if_pos rfl]
  obtain ⟨c3, _⟩ := one_cell hx0
  have HIs := Lib.hid (is_ok W0 b N Fr Gv (hB.keep (hb0.block b hbl)))
  have H0 := Lib.hid hb0
  clear hB hb0 hx0
  have hcase : order < 0 ∨ (0 ≤ order ∧ 10 < order) := by omega
  clear ho
  rcases hcase with hc | ⟨hc, hd⟩
  all_goals
    go_enter Try.func18, Try.ntmps18
    go_wp2_with (fail)
    rw [← hW0]
    clear hW0
    go_wp2_with (go_at_call 29; refine HIs.out.mono ?_; rintro e w' ⟨rfl, rfl⟩)
    go_ret2
    exact ⟨rfl, H0.out⟩
end Bu
end Go.Proofs.Ytdanhbbdkcbapaa
namespace Go.Proofs.Ytdanhbbdkcbapaa
open Go.RowKit
namespace Bu

/-- A pointer that is nil, or leads to an allocator that nobody made. -/
def IsNot (w : World) (p : Option Addr) : Prop := ∀ W, Below w.heap.size w W → Calls Try.prog 29 #[.pointer p] W fun e w' => e = .returned (.bool false) ∧ W = w'
theorem isNot_nil (w : World) : IsNot w none := fun W _ => is_nil W
theorem isNot_zero (w : World) (b : Nat) (hb : b < w.heap.size) (h : w.cell? ⟨b, 0, none⟩ = some (.bool false)) : IsNot w (some ⟨b, 0, none⟩) := fun W hW => by
  have h0 := (hW.cell (p := ⟨b, 0, none⟩) hb).trans h
  clear h hW
  go_enter Try.func29, Try.ntmps29
  go_wp2
  go_ret
  exact ⟨rfl, rfl⟩
theorem IsNot.below {w w' : World} {p : Option Addr} (h : IsNot w p) (hb : Below w.heap.size w w') : IsNot w' p := fun W hW => h W (hb.trans (hW.mono hb.size))

set_option maxHeartbeats 1000000 in
theorem allocAt_not (w : World) (p : Option Addr) (page order : Int) (h : IsNot w p) :
    Calls Try.prog 25 #[.pointer p, .int .i64 page, .int .i64 order] w fun e w' => e = .returned (.int .i64 1) ∧ w = w' := by
  have HI := Lib.hid (h w (Below.refl _ _))
  clear h
  go_enter Try.func25, Try.ntmps25
  go_wp2_with (go_at_call 29; refine HI.out.mono ?_; rintro e w' ⟨rfl, rfl⟩)
  go_ret
  exact ⟨rfl, rfl⟩
set_option maxHeartbeats 1000000 in
theorem free_nil (w : World) (p : Option Addr) (page order : Int) (h : IsNot w p) :
    Calls Try.prog 21 #[.pointer p, .int .i64 page, .int .i64 order] w fun e w' => e = .returned (.int .i64 1) ∧ w = w' := by
  have HI := Lib.hid (h w (Below.refl _ _))
  clear h
  go_enter Try.func21, Try.ntmps21
  go_wp2_with (go_at_call 29; refine HI.out.mono ?_; rintro e w' ⟨rfl, rfl⟩)
  go_ret
  exact ⟨rfl, rfl⟩
set_option maxHeartbeats 1000000 in
theorem blocks_not (w : World) (p : Option Addr) (h : IsNot w p) :
    Calls Try.prog 13 #[.pointer p] w fun e w' => e = .returned (.tuple #[.slice none 0 0, .int .i64 1]) ∧ w = w' := by
  have HI := Lib.hid (h w (Below.refl _ _))
  clear h
  go_enter Try.func13, Try.ntmps13
  go_wp2_with (go_at_call 29; refine HI.out.mono ?_; rintro e w' ⟨rfl, rfl⟩)
  go_ret2
  exact ⟨rfl, rfl⟩
set_option maxHeartbeats 1000000 in
theorem largest_not (w : World) (p : Option Addr) (h : IsNot w p) :
    Calls Try.prog 24 #[.pointer p] w fun e w' => e = .returned (.tuple #[.int .i64 0, .int .i64 1]) ∧ w = w' := by
  have HI := Lib.hid (h w (Below.refl _ _))
  clear h
  go_enter Try.func24, Try.ntmps24
  go_wp2_with (go_at_call 29; refine HI.out.mono ?_; rintro e w' ⟨rfl, rfl⟩)
  go_ret2
  exact ⟨rfl, rfl⟩
set_option maxHeartbeats 1000000 in
theorem room_not (w : World) (p : Option Addr) (order : Int) (h : IsNot w p) :
    Calls Try.prog 18 #[.pointer p, .int .i64 order] w fun e w' => e = .returned (.tuple #[.int .i64 0, .int .i64 1]) ∧ Below w.heap.size w w' := by
  obtain ⟨W0, hW0⟩ : ∃ W0, W0 = w.alloc (.cells #[.int .i64 order] 3) := ⟨_, rfl⟩
  have hb0 : Below w.heap.size w W0 := by rw [hW0]; exact (Below.refl _ _).alloc (Nat.le_refl _) _
  have HI := Lib.hid (h W0 hb0)
  have H0 := Lib.hid hb0
  clear h hb0
  go_enter Try.func18, Try.ntmps18
  go_wp2_with (fail)
  rw [← hW0]
  clear hW0
  go_wp2_with (go_at_call 29; refine HI.out.mono ?_; rintro e w' ⟨rfl, rfl⟩)
  go_ret2
  exact ⟨rfl, H0.out⟩
set_option maxRecDepth 100000 in
set_option maxHeartbeats 1000000 in
theorem owner_not (w : World) (p : Option Addr) (page : Int) (h : IsNot w p) :
    Calls Try.prog 23 #[.pointer p, .int .i64 page] w fun e w' => e = .returned (.tuple #[.agg #[.int .i64 0, .int .i64 0], .int .i64 1]) ∧ Below w.heap.size w w' := by
  obtain ⟨W1, hW1⟩ : ∃ W1, W1 = w.alloc (.cells #[.int .i64 0, .int .i64 0] 39) := ⟨_, rfl⟩
  have hbW : Below w.heap.size w W1 := by rw [hW1]; exact below_box w _
  have hcell : W1.heap[w.heap.size]? = some (.cells #[.int .i64 0, .int .i64 0] 39 (0, 0)) := by rw [hW1]; exact heap_alloc_new _ _
  obtain ⟨y0, y1, z0, z1⟩ := two_cells hcell
  have HIs := Lib.hid (h W1 hbW)
  have HB := Lib.hid hbW
  clear h hbW
  go_enter Try.func23, Try.ntmps23
  go_wp2_with (fail)
  rw [← hW1]
  clear hW1
  go_wp2_with (go_at_call 29; refine HIs.out.mono ?_; rintro e w' ⟨rfl, rfl⟩)
  have hq := two_cells (w := (W1.setCell ⟨w.heap.size, 0, none⟩ (.int .i64 0)).setCell ⟨w.heap.size, 1, none⟩ (.int .i64 0)) (setCell_at _ _ _ _ _ _ (setCell_at _ _ _ _ _ _ hcell))
  obtain ⟨q0, q1, _, _⟩ := hq
  exact bodyPost_ret (v := .tuple #[.agg #[.int .i64 0, .int .i64 0], .int .i64 1]) (by simp [results, Try.results23, go_sem, q0, q1]) rfl ⟨rfl, (HB.out.setCell (p := ⟨w.heap.size, 0, none⟩) (Nat.le_refl _) _).setCell (p := ⟨w.heap.size, 1, none⟩) (Nat.le_refl _) _⟩
set_option maxRecDepth 100000 in
set_option maxHeartbeats 1000000 in
theorem alloc_not (w : World) (p : Option Addr) (order : Int) (h : IsNot w p) :
    Calls Try.prog 14 #[.pointer p, .int .i64 order] w fun e w' => e = .returned (.tuple #[.int .i64 0, .int .i64 1]) ∧ Below w.heap.size w w' := by
  obtain ⟨W0, hW0⟩ : ∃ W0, W0 = ((((w.alloc (.cells #[.pointer p] 28)).alloc (.cells #[.int .i64 order] 3)).alloc (.cells #[.int .i64 0] 3)).alloc (.cells #[.int .i64 0] 25)) := ⟨_, rfl⟩
  have hs0 : W0.heap.size = w.heap.size + 4 := by rw [hW0]; simp
  have hb0 : Below w.heap.size w W0 := by rw [hW0]; exact ((((Below.refl _ _).alloc (Nat.le_refl _) _).alloc (by simp) _).alloc (by simp; omega) _).alloc (by simp; omega) _
  have x2 : W0.heap[w.heap.size]? = some (.cells #[.pointer p] 28 (0, 0)) := by
    rw [hW0, heapAlloc, if_neg (by simp <;> omega), heapAlloc, if_neg (by simp <;> omega), heapAlloc, if_neg (by simp), heapAlloc, if_pos rfl]
  have x4 : W0.heap[w.heap.size + 1 + 1]? = some (.cells #[.int .i64 0] 3 (0, 0)) := by
    rw [hW0, heapAlloc, if_neg (by simp), heapAlloc, if_pos (by simp)]
  have x5 : W0.heap[w.heap.size + 1 + 1 + 1]? = some (.cells #[.int .i64 0] 25 (0, 0)) := by
    rw [hW0, heapAlloc, if_pos (by simp)]
  have h4 := one_cell x4
  have h5 := one_cell x5
  obtain ⟨c2, _⟩ := one_cell x2
  obtain ⟨c4, f4⟩ := h4
  obtain ⟨c5, f5⟩ := h5
  have HIs := Lib.hid (h W0 hb0)
  have H0 := Lib.hid (And.intro hb0 (And.intro x4 x5))
  clear h hb0 x2 x4 x5
  go_enter Try.func14, Try.ntmps14
  go_wp2_with (fail)
  rw [← hW0]
  clear hW0
  go_wp2_with (go_at_call 29; refine HIs.out.mono ?_; rintro e w' ⟨rfl, rfl⟩)
  have hq5 := one_cell (w := (W0.setCell ⟨w.heap.size + 1 + 1, 0, none⟩ (.int .i64 0)).setCell ⟨w.heap.size + 1 + 1 + 1, 0, none⟩ (.int .i64 1)) (b := w.heap.size + 1 + 1 + 1) (setCell_at _ _ _ _ _ _ ((setCell_far _ _ _ _ (by show w.heap.size + 1 + 1 + 1 ≠ w.heap.size + 1 + 1; omega)).trans H0.out.2.2))
  have hq4 := one_cell (w := (W0.setCell ⟨w.heap.size + 1 + 1, 0, none⟩ (.int .i64 0)).setCell ⟨w.heap.size + 1 + 1 + 1, 0, none⟩ (.int .i64 1)) (b := w.heap.size + 1 + 1) ((setCell_far _ _ _ _ (by show w.heap.size + 1 + 1 ≠ w.heap.size + 1 + 1 + 1; omega)).trans (setCell_at _ _ _ _ _ _ H0.out.2.1))
  refine bodyPost_ret (alloc_results _ w.heap.size 0 1 _ rfl rfl hq4.1 hq5.1) rfl ⟨rfl, (H0.out.1.setCell (p := ⟨w.heap.size + 1 + 1, 0, none⟩) (by show w.heap.size ≤ w.heap.size + 1 + 1; omega) _).setCell (p := ⟨w.heap.size + 1 + 1 + 1, 0, none⟩) (by show w.heap.size ≤ w.heap.size + 1 + 1 + 1; omega) _⟩
end Bu
end Go.Proofs.Ytdanhbbdkcbapaa
namespace Go.Proofs.Ytdanhbbdkcbapaa
open Go.RowKit
namespace Bu

set_option maxRecDepth 100000 in
set_option maxHeartbeats 1000000 in
theorem alloc_bad (w : World) (b N : Nat) (order : Int) (Fr Gv : Nat → Nat → Bool) (hB : Bu w b N Fr Gv) (ho : order < 0 ∨ 10 < order) :
    Calls Try.prog 14 #[.pointer (some ⟨b, 0, none⟩), .int .i64 order] w fun e w' => e = .returned (.tuple #[.int .i64 0, .int .i64 7]) ∧ Below w.heap.size w w' := by
  have hbl := hB.lt
  obtain ⟨W0, hW0⟩ : ∃ W0, W0 = ((((w.alloc (.cells #[.pointer (some ⟨b, 0, none⟩)] 28)).alloc (.cells #[.int .i64 order] 3)).alloc (.cells #[.int .i64 0] 3)).alloc (.cells #[.int .i64 0] 25)) := ⟨_, rfl⟩
  have hs0 : W0.heap.size = w.heap.size + 4 := by rw [hW0]; simp
  have hb0 : Below w.heap.size w W0 := by rw [hW0]; exact ((((Below.refl _ _).alloc (Nat.le_refl _) _).alloc (by simp) _).alloc (by simp; omega) _).alloc (by simp; omega) _
  have x2 : W0.heap[w.heap.size]? = some (.cells #[.pointer (some ⟨b, 0, none⟩)] 28 (0, 0)) := by
    rw [hW0, heapAlloc, if_neg (by simp <;> omega), heapAlloc, if_neg (by simp <;> omega), heapAlloc, if_neg (by simp), heapAlloc, if_pos rfl]
  have x3 : W0.heap[w.heap.size + 1]? = some (.cells #[.int .i64 order] 3 (0, 0)) := by
    rw [hW0, heapAlloc, if_neg (by simp <;> omega), heapAlloc, if_neg (by simp), heapAlloc, if_pos (by simp)]
  have x4 : W0.heap[w.heap.size + 1 + 1]? = some (.cells #[.int .i64 0] 3 (0, 0)) := by
    rw [hW0, heapAlloc, if_neg (by simp), heapAlloc, if_pos (by simp)]
  have x5 : W0.heap[w.heap.size + 1 + 1 + 1]? = some (.cells #[.int .i64 0] 25 (0, 0)) := by
    rw [hW0, heapAlloc, if_pos (by simp)]
  have h4 := one_cell x4
  have h5 := one_cell x5
  obtain ⟨c2, _⟩ := one_cell x2
  obtain ⟨c3, _⟩ := one_cell x3
  obtain ⟨c4, f4⟩ := h4
  obtain ⟨c5, f5⟩ := h5
  have HIs := Lib.hid (is_ok W0 b N Fr Gv (hB.keep (hb0.block b hbl)))
  have H0 := Lib.hid (And.intro hb0 (And.intro x4 x5))
  clear hB hb0 x2 x3 x4 x5
  have hcase : order < 0 ∨ (0 ≤ order ∧ 10 < order) := by omega
  clear ho
  rcases hcase with hc | ⟨hc, hd⟩
  all_goals
    go_enter Try.func14, Try.ntmps14
    go_wp2_with (fail)
    rw [← hW0]
    clear hW0
    go_wp2_with (go_at_call 29; refine HIs.out.mono ?_; rintro e w' ⟨rfl, rfl⟩)
    have hq5 := one_cell (w := (W0.setCell ⟨w.heap.size + 1 + 1, 0, none⟩ (.int .i64 0)).setCell ⟨w.heap.size + 1 + 1 + 1, 0, none⟩ (.int .i64 7)) (b := w.heap.size + 1 + 1 + 1) (setCell_at _ _ _ _ _ _ ((setCell_far _ _ _ _ (by show w.heap.size + 1 + 1 + 1 ≠ w.heap.size + 1 + 1; omega)).trans H0.out.2.2))
    have hq4 := one_cell (w := (W0.setCell ⟨w.heap.size + 1 + 1, 0, none⟩ (.int .i64 0)).setCell ⟨w.heap.size + 1 + 1 + 1, 0, none⟩ (.int .i64 7)) (b := w.heap.size + 1 + 1) ((setCell_far _ _ _ _ (by show w.heap.size + 1 + 1 ≠ w.heap.size + 1 + 1 + 1; omega)).trans (setCell_at _ _ _ _ _ _ H0.out.2.1))
    refine bodyPost_ret (alloc_results _ w.heap.size 0 7 _ rfl rfl hq4.1 hq5.1) rfl ⟨rfl, (H0.out.1.setCell (p := ⟨w.heap.size + 1 + 1, 0, none⟩) (by show w.heap.size ≤ w.heap.size + 1 + 1; omega) _).setCell (p := ⟨w.heap.size + 1 + 1 + 1, 0, none⟩) (by show w.heap.size ≤ w.heap.size + 1 + 1 + 1; omega) _⟩

end Bu
end Go.Proofs.Ytdanhbbdkcbapaa
