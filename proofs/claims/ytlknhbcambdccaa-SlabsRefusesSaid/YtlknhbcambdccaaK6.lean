/- Allocators that are none. Alloc refused. A set compared with the empty one. Largest. -/
import Derived.Test.YtlknhbcambdccaaK5
import Derived.ChangeKeysEq
namespace Go.Proofs.Ytlknhbcambdccaa
open Go.RowKit
namespace Bu

/-- A pointer that is nil, or leads to an allocator that nobody made. -/
def IsNot (w : World) (p : Option Addr) : Prop := ∀ W, Below w.heap.size w W → Calls Try.prog 47 #[.pointer p] W fun e w' => e = .returned (.bool false) ∧ W = w'
theorem isNot_nil (w : World) : IsNot w none := fun W _ => is_nil W
theorem isNot_zero (w : World) (b : Nat) (hb : b < w.heap.size) (h : w.cell? ⟨b, 0, none⟩ = some (.bool false)) : IsNot w (some ⟨b, 0, none⟩) := fun W hW => by
  have h0 := (hW.cell (p := ⟨b, 0, none⟩) hb).trans h
  clear h hW
  go_enter Try.func47, Try.ntmps47
  go_wp2
  go_ret
  exact ⟨rfl, rfl⟩
theorem IsNot.below {w w' : World} {p : Option Addr} (h : IsNot w p) (hb : Below w.heap.size w w') : IsNot w' p := fun W hW => h W (hb.trans (hW.mono hb.size))

set_option maxHeartbeats 1000000 in
theorem allocAt_not (w : World) (p : Option Addr) (page order : Int) (h : IsNot w p) :
    Calls Try.prog 66 #[.pointer p, .int .i64 page, .int .i64 order] w fun e w' => e = .returned (.int .i64 1) ∧ w = w' := by
  have HI := Lib.hid (h w (Below.refl _ _))
  clear h
  go_enter Try.func66, Try.ntmps66
  go_wp2_with (go_at_call 47; refine HI.out.mono ?_; rintro e w' ⟨rfl, rfl⟩)
  go_ret
  exact ⟨rfl, rfl⟩
set_option maxHeartbeats 1000000 in
theorem free_nil (w : World) (p : Option Addr) (page order : Int) (h : IsNot w p) :
    Calls Try.prog 71 #[.pointer p, .int .i64 page, .int .i64 order] w fun e w' => e = .returned (.int .i64 1) ∧ w = w' := by
  have HI := Lib.hid (h w (Below.refl _ _))
  clear h
  go_enter Try.func71, Try.ntmps71
  go_wp2_with (go_at_call 47; refine HI.out.mono ?_; rintro e w' ⟨rfl, rfl⟩)
  go_ret
  exact ⟨rfl, rfl⟩
set_option maxHeartbeats 1000000 in
theorem blocks_not (w : World) (p : Option Addr) (h : IsNot w p) :
    Calls Try.prog 45 #[.pointer p] w fun e w' => e = .returned (.tuple #[.slice none 0 0, .int .i64 1]) ∧ w = w' := by
  have HI := Lib.hid (h w (Below.refl _ _))
  clear h
  go_enter Try.func45, Try.ntmps45
  go_wp2_with (go_at_call 47; refine HI.out.mono ?_; rintro e w' ⟨rfl, rfl⟩)
  go_ret2
  exact ⟨rfl, rfl⟩
set_option maxHeartbeats 1000000 in
theorem room_not (w : World) (p : Option Addr) (order : Int) (h : IsNot w p) :
    Calls Try.prog 51 #[.pointer p, .int .i64 order] w fun e w' => e = .returned (.tuple #[.int .i64 0, .int .i64 1]) ∧ Below w.heap.size w w' := by
  obtain ⟨W0, hW0⟩ : ∃ W0, W0 = w.alloc (.cells #[.int .i64 order] 3) := ⟨_, rfl⟩
  have hb0 : Below w.heap.size w W0 := by rw [hW0]; exact (Below.refl _ _).alloc (Nat.le_refl _) _
  have HI := Lib.hid (h W0 hb0)
  have H0 := Lib.hid hb0
  clear h hb0
  go_enter Try.func51, Try.ntmps51
  go_wp2_with (fail)
  rw [← hW0]
  clear hW0
  go_wp2_with (go_at_call 47; refine HI.out.mono ?_; rintro e w' ⟨rfl, rfl⟩)
  go_ret2
  exact ⟨rfl, H0.out⟩
set_option maxRecDepth 100000 in
set_option maxHeartbeats 1000000 in
theorem owner_not (w : World) (p : Option Addr) (page : Int) (h : IsNot w p) :
    Calls Try.prog 61 #[.pointer p, .int .i64 page] w fun e w' => e = .returned (.tuple #[.agg #[.int .i64 0, .int .i64 0], .int .i64 1]) ∧ Below w.heap.size w w' := by
  obtain ⟨W1, hW1⟩ : ∃ W1, W1 = w.alloc (.cells #[.int .i64 0, .int .i64 0] 126) := ⟨_, rfl⟩
  have hbW : Below w.heap.size w W1 := by rw [hW1]; exact below_box w _
  have hcell : W1.heap[w.heap.size]? = some (.cells #[.int .i64 0, .int .i64 0] 126 (0, 0)) := by rw [hW1]; exact heap_alloc_new _ _
  obtain ⟨y0, y1, z0, z1⟩ := two_cells hcell
  have HIs := Lib.hid (h W1 hbW)
  have HB := Lib.hid hbW
  clear h hbW
  go_enter Try.func61, Try.ntmps61
  go_wp2_with (fail)
  rw [← hW1]
  clear hW1
  go_wp2_with (go_at_call 47; refine HIs.out.mono ?_; rintro e w' ⟨rfl, rfl⟩)
  have hq := two_cells (w := (W1.setCell ⟨w.heap.size, 0, none⟩ (.int .i64 0)).setCell ⟨w.heap.size, 1, none⟩ (.int .i64 0)) (setCell_at _ _ _ _ _ _ (setCell_at _ _ _ _ _ _ hcell))
  obtain ⟨q0, q1, _, _⟩ := hq
  exact bodyPost_ret (v := .tuple #[.agg #[.int .i64 0, .int .i64 0], .int .i64 1]) (by simp [results, Try.results61, go_sem, q0, q1]) rfl ⟨rfl, (HB.out.setCell (p := ⟨w.heap.size, 0, none⟩) (Nat.le_refl _) _).setCell (p := ⟨w.heap.size, 1, none⟩) (Nat.le_refl _) _⟩
set_option maxRecDepth 100000 in
set_option maxHeartbeats 1000000 in
theorem alloc_not (w : World) (p : Option Addr) (order : Int) (h : IsNot w p) :
    Calls Try.prog 39 #[.pointer p, .int .i64 order] w fun e w' => e = .returned (.tuple #[.int .i64 0, .int .i64 1]) ∧ Below w.heap.size w w' := by
  obtain ⟨W0, hW0⟩ : ∃ W0, W0 = ((((w.alloc (.cells #[.pointer p] 33)).alloc (.cells #[.int .i64 order] 3)).alloc (.cells #[.int .i64 0] 3)).alloc (.cells #[.int .i64 0] 24)) := ⟨_, rfl⟩
  have hs0 : W0.heap.size = w.heap.size + 4 := by rw [hW0]; simp
  have hb0 : Below w.heap.size w W0 := by rw [hW0]; exact ((((Below.refl _ _).alloc (Nat.le_refl _) _).alloc (by simp) _).alloc (by simp; omega) _).alloc (by simp; omega) _
  have x2 : W0.heap[w.heap.size]? = some (.cells #[.pointer p] 33 (0, 0)) := by
    rw [hW0, heapAlloc, if_neg (by simp <;> omega), heapAlloc, if_neg (by simp <;> omega), heapAlloc, if_neg (by simp), heapAlloc, if_pos rfl]
  have x4 : W0.heap[w.heap.size + 1 + 1]? = some (.cells #[.int .i64 0] 3 (0, 0)) := by
    rw [hW0, heapAlloc, if_neg (by simp), heapAlloc, if_pos (by simp)]
  have x5 : W0.heap[w.heap.size + 1 + 1 + 1]? = some (.cells #[.int .i64 0] 24 (0, 0)) := by
    rw [hW0, heapAlloc, if_pos (by simp)]
  have h4 := one_cell x4
  have h5 := one_cell x5
  obtain ⟨c2, _⟩ := one_cell x2
  obtain ⟨c4, f4⟩ := h4
  obtain ⟨c5, f5⟩ := h5
  have HIs := Lib.hid (h W0 hb0)
  have H0 := Lib.hid (And.intro hb0 (And.intro x4 x5))
  clear h hb0 x2 x4 x5
  go_enter Try.func39, Try.ntmps39
  go_wp2_with (fail)
  rw [← hW0]
  clear hW0
  go_wp2_with (go_at_call 47; refine HIs.out.mono ?_; rintro e w' ⟨rfl, rfl⟩)
  have hq5 := one_cell (w := (W0.setCell ⟨w.heap.size + 1 + 1, 0, none⟩ (.int .i64 0)).setCell ⟨w.heap.size + 1 + 1 + 1, 0, none⟩ (.int .i64 1)) (b := w.heap.size + 1 + 1 + 1) (setCell_at _ _ _ _ _ _ ((setCell_far _ _ _ _ (by show w.heap.size + 1 + 1 + 1 ≠ w.heap.size + 1 + 1; omega)).trans H0.out.2.2))
  have hq4 := one_cell (w := (W0.setCell ⟨w.heap.size + 1 + 1, 0, none⟩ (.int .i64 0)).setCell ⟨w.heap.size + 1 + 1 + 1, 0, none⟩ (.int .i64 1)) (b := w.heap.size + 1 + 1) ((setCell_far _ _ _ _ (by show w.heap.size + 1 + 1 ≠ w.heap.size + 1 + 1 + 1; omega)).trans (setCell_at _ _ _ _ _ _ H0.out.2.1))
  refine bodyPost_ret (alloc_results _ w.heap.size 0 1 _ rfl rfl hq4.1 hq5.1) rfl ⟨rfl, (H0.out.1.setCell (p := ⟨w.heap.size + 1 + 1, 0, none⟩) (by show w.heap.size ≤ w.heap.size + 1 + 1; omega) _).setCell (p := ⟨w.heap.size + 1 + 1 + 1, 0, none⟩) (by show w.heap.size ≤ w.heap.size + 1 + 1 + 1; omega) _⟩
end Bu
end Go.Proofs.Ytlknhbcambdccaa
namespace Go.Proofs.Ytlknhbcambdccaa
open Go.RowKit
namespace Bu

set_option maxRecDepth 100000 in
set_option maxHeartbeats 1000000 in
theorem alloc_bad (w : World) (b N : Nat) (order : Int) (Fr Gv : Nat → Nat → Bool) (hB : Bu w b N Fr Gv) (ho : order < 0 ∨ 10 < order) :
    Calls Try.prog 39 #[.pointer (some ⟨b, 0, none⟩), .int .i64 order] w fun e w' => e = .returned (.tuple #[.int .i64 0, .int .i64 7]) ∧ Below w.heap.size w w' := by
  have hbl := hB.lt
  obtain ⟨W0, hW0⟩ : ∃ W0, W0 = ((((w.alloc (.cells #[.pointer (some ⟨b, 0, none⟩)] 33)).alloc (.cells #[.int .i64 order] 3)).alloc (.cells #[.int .i64 0] 3)).alloc (.cells #[.int .i64 0] 24)) := ⟨_, rfl⟩
  have hs0 : W0.heap.size = w.heap.size + 4 := by rw [hW0]; simp
  have hb0 : Below w.heap.size w W0 := by rw [hW0]; exact ((((Below.refl _ _).alloc (Nat.le_refl _) _).alloc (by simp) _).alloc (by simp; omega) _).alloc (by simp; omega) _
  have x2 : W0.heap[w.heap.size]? = some (.cells #[.pointer (some ⟨b, 0, none⟩)] 33 (0, 0)) := by
    rw [hW0, heapAlloc, if_neg (by simp <;> omega), heapAlloc, if_neg (by simp <;> omega), heapAlloc, if_neg (by simp), heapAlloc, if_pos rfl]
  have x3 : W0.heap[w.heap.size + 1]? = some (.cells #[.int .i64 order] 3 (0, 0)) := by
    rw [hW0, heapAlloc, if_neg (by simp <;> omega), heapAlloc, if_neg (by simp), heapAlloc, if_pos (by simp)]
  have x4 : W0.heap[w.heap.size + 1 + 1]? = some (.cells #[.int .i64 0] 3 (0, 0)) := by
    rw [hW0, heapAlloc, if_neg (by simp), heapAlloc, if_pos (by simp)]
  have x5 : W0.heap[w.heap.size + 1 + 1 + 1]? = some (.cells #[.int .i64 0] 24 (0, 0)) := by
    rw [hW0, heapAlloc, if_pos (by simp)]
  have h4 := one_cell x4
  have h5 := one_cell x5
  obtain ⟨c2, _⟩ := one_cell x2
  obtain ⟨c3, _⟩ := one_cell x3
  obtain ⟨c4, f4⟩ := h4
  obtain ⟨c5, f5⟩ := h5
  have HIs := Lib.hid (is_ok W0 b N Fr Gv (hB.keep (hb0.block b hbl)))
  have H0 := Lib.hid (And.intro hb0 (And.intro x4 x5))
  clear hB hb0 x2 x3 x4 x5
  have hcase : order < 0 ∨ (0 ≤ order ∧ 10 < order) := by omega
  clear ho
  rcases hcase with hc | ⟨hc, hd⟩
  all_goals
    go_enter Try.func39, Try.ntmps39
    go_wp2_with (fail)
    rw [← hW0]
    clear hW0
    go_wp2_with (go_at_call 47; refine HIs.out.mono ?_; rintro e w' ⟨rfl, rfl⟩)
    have hq5 := one_cell (w := (W0.setCell ⟨w.heap.size + 1 + 1, 0, none⟩ (.int .i64 0)).setCell ⟨w.heap.size + 1 + 1 + 1, 0, none⟩ (.int .i64 7)) (b := w.heap.size + 1 + 1 + 1) (setCell_at _ _ _ _ _ _ ((setCell_far _ _ _ _ (by show w.heap.size + 1 + 1 + 1 ≠ w.heap.size + 1 + 1; omega)).trans H0.out.2.2))
    have hq4 := one_cell (w := (W0.setCell ⟨w.heap.size + 1 + 1, 0, none⟩ (.int .i64 0)).setCell ⟨w.heap.size + 1 + 1 + 1, 0, none⟩ (.int .i64 7)) (b := w.heap.size + 1 + 1) ((setCell_far _ _ _ _ (by show w.heap.size + 1 + 1 ≠ w.heap.size + 1 + 1 + 1; omega)).trans (setCell_at _ _ _ _ _ _ H0.out.2.1))
    refine bodyPost_ret (alloc_results _ w.heap.size 0 7 _ rfl rfl hq4.1 hq5.1) rfl ⟨rfl, (H0.out.1.setCell (p := ⟨w.heap.size + 1 + 1, 0, none⟩) (by show w.heap.size ≤ w.heap.size + 1 + 1; omega) _).setCell (p := ⟨w.heap.size + 1 + 1 + 1, 0, none⟩) (by show w.heap.size ≤ w.heap.size + 1 + 1 + 1; omega) _⟩

end Bu
end Go.Proofs.Ytlknhbcambdccaa
namespace Go.Proofs.Ytlknhbcambdccaa
open Go.RowKit
namespace Bu

theorem run_items (w : World) (d : Nat) (e : TypeId) (xs ys : Array Value) (f : Nat → Int) (he : Try.prog.plainKey e = true) (hu : Try.prog.underlying e = some (.int .u64)) : ∀ is : List Nat,
    (∀ i ∈ is, xs[i]? = some (.int .u64 (f i)) ∧ ys[i]? = some (.int .u64 0)) → (Op.eqItems (d + 1) e 1 xs ys is).run Try.prog w = .ok (is.all fun i => f i == 0) w := by
  intro is
  induction is with
  | nil => intro _; rfl
  | cons i is ih =>
    intro h
    obtain ⟨h1, h2⟩ := h i (by simp)
    have h3 := ih fun j hj => h j (by simp [hj])
    rw [Op.eqItems]
    simp only [Nat.mul_one, Sem.run_bind, run_part_plain (P := Try.prog) (w := w) he h1, run_part_plain (P := Try.prog) (w := w) he h2, Result.andThen, run_equalIn_int w d e .u64 .u64 _ _ hu, List.all_cons]
    cases hf : (f i == 0) with
    | true => simpa using h3
    | false => rfl

theorem word_empty {S : Nat → Bool} (q : Nat) : word S q = 0 ↔ ∀ r, r < 64 → S (64 * q + r) = false := by
  constructor
  · intro h r hr
    have := word_bit S q r
    rw [h, decide_eq_true hr] at this
    simpa using this.symm
  · intro h
    exact (word_ext (by decide) fun r hr => by rw [h r hr]; simp).symm

theorem least_none {S : Nat → Bool} : least S = none ↔ ∀ p, p < 1024 → S p = false := by
  unfold least
  rw [List.head?_eq_none_iff]
  unfold members
  rw [List.filter_eq_nil_iff]
  constructor
  · intro h p hp
    simpa using h p (List.mem_range.2 hp)
  · intro h p hp
    rw [h p (List.mem_range.1 hp)]; decide

theorem all_zero (S : Nat → Bool) : ((List.range 16).all fun i => ((word S i : Nat) : Int) == 0) = (least S).isNone := by
  rw [Bool.eq_iff_iff, List.all_eq_true, Option.isNone_iff_eq_none, least_none]
  constructor
  · intro h p hp
    have h1 := h (p / 64) (List.mem_range.2 (by omega))
    have h2 : word S (p / 64) = 0 := by
      have := beq_iff_eq.1 h1
      omega
    have := (word_empty (p / 64)).1 h2 (p % 64) (Nat.mod_lt _ (by decide))
    rwa [show 64 * (p / 64) + p % 64 = p by omega] at this
  · intro h i hi
    have := List.mem_range.1 hi
    rw [(word_empty i).2 fun r hr => h _ (by omega)]; rfl

set_option maxRecDepth 100000 in
theorem run_set_eq (w : World) (S : Nat → Bool) :
    (Op.equalIn 10000 82 (.agg #[.int .u64 ((word S 0 : Nat) : Int), .int .u64 ((word S 1 : Nat) : Int), .int .u64 ((word S 2 : Nat) : Int), .int .u64 ((word S 3 : Nat) : Int), .int .u64 ((word S 4 : Nat) : Int), .int .u64 ((word S 5 : Nat) : Int), .int .u64 ((word S 6 : Nat) : Int), .int .u64 ((word S 7 : Nat) : Int), .int .u64 ((word S 8 : Nat) : Int), .int .u64 ((word S 9 : Nat) : Int), .int .u64 ((word S 10 : Nat) : Int), .int .u64 ((word S 11 : Nat) : Int), .int .u64 ((word S 12 : Nat) : Int), .int .u64 ((word S 13 : Nat) : Int), .int .u64 ((word S 14 : Nat) : Int), .int .u64 ((word S 15 : Nat) : Int)]) (.agg #[.int .u64 0, .int .u64 0, .int .u64 0, .int .u64 0, .int .u64 0, .int .u64 0, .int .u64 0, .int .u64 0, .int .u64 0, .int .u64 0, .int .u64 0, .int .u64 0, .int .u64 0, .int .u64 0, .int .u64 0, .int .u64 0])).run Try.prog w = .ok (least S).isNone w := by
  have hu : Try.prog.underlying 82 = some (.array 16 58) := by kernel_rfl
  have hc : Try.prog.cellsOf 58 = 1 := by kernel_rfl
  have he : Try.prog.plainKey 58 = true := by kernel_rfl
  have hu2 : Try.prog.underlying 58 = some (.int .u64) := by kernel_rfl
  obtain ⟨i, hi⟩ := info_of_underlying hu2
  have h := run_equalIn_array (P := Try.prog) (w := w) 9999 #[.int .u64 ((word S 0 : Nat) : Int), .int .u64 ((word S 1 : Nat) : Int), .int .u64 ((word S 2 : Nat) : Int), .int .u64 ((word S 3 : Nat) : Int), .int .u64 ((word S 4 : Nat) : Int), .int .u64 ((word S 5 : Nat) : Int), .int .u64 ((word S 6 : Nat) : Int), .int .u64 ((word S 7 : Nat) : Int), .int .u64 ((word S 8 : Nat) : Int), .int .u64 ((word S 9 : Nat) : Int), .int .u64 ((word S 10 : Nat) : Int), .int .u64 ((word S 11 : Nat) : Int), .int .u64 ((word S 12 : Nat) : Int), .int .u64 ((word S 13 : Nat) : Int), .int .u64 ((word S 14 : Nat) : Int), .int .u64 ((word S 15 : Nat) : Int)] #[.int .u64 0, .int .u64 0, .int .u64 0, .int .u64 0, .int .u64 0, .int .u64 0, .int .u64 0, .int .u64 0, .int .u64 0, .int .u64 0, .int .u64 0, .int .u64 0, .int .u64 0, .int .u64 0, .int .u64 0, .int .u64 0] hu hi
  rw [hc] at h
  refine h.trans ?_
  rw [← all_zero S]
  refine run_items w 9998 58 _ _ (fun i => ((word S i : Nat) : Int)) he hu2 (List.range 16) fun i hi => ?_
  have hlt := List.mem_range.1 hi
  match i, hlt with
  | 0, _ => exact ⟨rfl, rfl⟩
  | 1, _ => exact ⟨rfl, rfl⟩
  | 2, _ => exact ⟨rfl, rfl⟩
  | 3, _ => exact ⟨rfl, rfl⟩
  | 4, _ => exact ⟨rfl, rfl⟩
  | 5, _ => exact ⟨rfl, rfl⟩
  | 6, _ => exact ⟨rfl, rfl⟩
  | 7, _ => exact ⟨rfl, rfl⟩
  | 8, _ => exact ⟨rfl, rfl⟩
  | 9, _ => exact ⟨rfl, rfl⟩
  | 10, _ => exact ⟨rfl, rfl⟩
  | 11, _ => exact ⟨rfl, rfl⟩
  | 12, _ => exact ⟨rfl, rfl⟩
  | 13, _ => exact ⟨rfl, rfl⟩
  | 14, _ => exact ⟨rfl, rfl⟩
  | 15, _ => exact ⟨rfl, rfl⟩
  | n + 16, h => exact absurd h (by omega)
end Bu
end Go.Proofs.Ytlknhbcambdccaa
namespace Go.Proofs.Ytlknhbcambdccaa
open Go.RowKit
namespace Bu

/-- The greatest order below n with a free block. -/
def lastK (Fr : Nat → Nat → Bool) : Nat → Option Nat
  | 0 => none
  | n + 1 => match least (Fr n) with
    | none => lastK Fr n
    | some _ => some n
/-- What Largest hands back. -/
def LargestV : Option Nat → Value
  | some k => .tuple #[.int .i64 (k : Int), .int .i64 0]
  | none => .tuple #[.int .i64 0, .int .i64 4]

end Bu
end Go.Proofs.Ytlknhbcambdccaa
