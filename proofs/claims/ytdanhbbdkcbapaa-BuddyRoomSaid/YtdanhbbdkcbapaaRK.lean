/- AllocAt and Alloc of the specification. -/
import Derived.Test.YtdanhbbdkcbapaaRJ
namespace Go.Proofs.Ytdanhbbdkcbapaa
open Go.RowKit
namespace Bu

set_option maxRecDepth 100000 in
set_option maxHeartbeats 2000000 in
theorem allocAtR_bad (w : World) (N : Nat) (A : Option Addr) (c n : Nat) (p k : Int) (hN : N ≤ 10) (hbad : inZ N p k = false) :
    Calls Try.prog 40 #[sv N A n c, .int .i64 p, .int .i64 k] w fun e w' => e = .returned (.tuple #[sv N A n c, .int .i64 7]) ∧ Below w.heap.size w w' := by
  have hIn := fun W => inR_ok N p k hN W
  rw [hbad] at hIn
  have HI := Lib.hid hIn
  clear hIn hbad
  go_enter Try.func40, Try.ntmps40
  go_wp2_with (go_at_call 17; refine (HI.out _).mono ?_; rintro e w' ⟨rfl, rfl⟩)
  refine bodyPost_ret (v := .tuple #[sv N A n c, .int .i64 7]) (by simp [results, Try.results40, go_sem]) rfl ⟨rfl, ?_⟩
  exact ((below_box w _).alloc (by simp) _)

/-- What AllocAt returns. -/
def PutR (N : Nat) (A : Option Addr) (c : Nat) (L : List Blk) (x : Blk) (B : Nat) (e : Ending) (w' : World) : Prop :=
  (freeB L x.1 x.2 = true ∧ ∃ A' c', e = .returned (.tuple #[sv N A' (putB L x).length c', .int .i64 0]) ∧ Own w' B A' c' (putB L x)) ∨ (freeB L x.1 x.2 = false ∧ e = .returned (.tuple #[sv N A L.length c, .int .i64 8]))

set_option maxRecDepth 100000 in
set_option maxHeartbeats 2000000 in
theorem allocAtR_ok (w : World) (N : Nat) (A : Option Addr) (c : Nat) (L : List Blk) (x : Blk) (h : BlkAt w A c L) (hS : St N L) (hin : InB N x) :
    Calls Try.prog 40 #[sv N A L.length c, .int .i64 (x.1 : Int), .int .i64 (x.2 : Int)] w fun e w' => PutR N A c L x w.heap.size e w' ∧ Below w.heap.size w w' := by
  have hN := hS.n10
  have hlt : 2 ^ N ≤ 1024 := by
    have : 2 ^ N ≤ 2 ^ 10 := Nat.pow_le_pow_right (by omega) hN
    omega
  have hx1 := hin.1
  have hx2 := hin.2.2
  obtain ⟨q, m⟩ := x
  dsimp only at hx1 hx2 ⊢
  have hIn := fun W => inR_ok N (q : Int) (m : Int) hN W
  simp only [inZ_nat hN, decide_eq_true hin] at hIn
  have HI := Lib.hid hIn
  have hb0 := below_box w (.cells #[.int .i64 (N : Int), .slice A L.length c] 24)
  have hg1 := blk_new w (.int .i64 (N : Int)) (.slice A L.length c) 24
  obtain ⟨W1, hW1⟩ : ∃ W1, W1 = w.alloc (.cells #[.int .i64 (N : Int), .slice A L.length c] 24) := ⟨_, rfl⟩
  rw [← hW1] at hb0 hg1
  have hs1 : W1.heap.size = w.heap.size + 1 := by rw [hW1]; simp
  have hg2 := blk_new W1 (.int .i64 0) (.slice none 0 0) 24
  obtain ⟨W2, hW2⟩ : ∃ W2, W2 = W1.alloc (.cells #[.int .i64 0, .slice none 0 0] 24) := ⟨_, rfl⟩
  rw [← hW2, hs1] at hg2
  have hs2 : W2.heap.size = w.heap.size + 2 := by rw [hW2]; simp [hs1]
  have hbx : Below W1.heap.size W1 W2 := by rw [hW2]; exact below_box _ _
  have hb2 : Below w.heap.size w W2 := hb0.trans (hbx.mono (by omega))
  have hg1' := (hbx.block w.heap.size (by omega)).trans hg1
  have hz1 := two_cells hg1'
  have hz2 := two_cells hg2
  obtain ⟨b1, b2, _, _⟩ := hz1
  obtain ⟨c1, c2, f1, f2⟩ := hz2
  have hF := freeR_ok W2 N A c L q m (h.below hb2) (st_le hS) (by omega) (by omega)
  have hP := fun W (hb : Below W2.heap.size W2 W) => putR_ok W N A c L (q, m) ((h.below hb2).below hb) (by have := st_len hS; omega)
  have HP := Lib.hid hP
  have HG := Lib.hid (And.intro hb2 (And.intro hs2 (And.intro hg2 (And.intro hg1' hW1))))
  have HW2 := Lib.hid hW2
  clear hb0 hg1 hW1 hs1 hg2 hW2 hs2 hbx hb2 hg1' hIn hP h hS hin
  cases hf : freeB L q m with
  | false =>
    rw [hf] at hF
    have HF := Lib.hid (And.intro hF hf)
    clear hF hf
    go_enter Try.func40, Try.ntmps40
    go_wp2_with (fail)
    rw [← HG.out.2.2.2.2, ← HW2.out]
    go_wp2_with (first | (go_at_call 17; refine (HI.out _).mono ?_; rintro e w' ⟨rfl, rfl⟩) | (go_at_call 16; refine HF.out.1.mono ?_; rintro e w' ⟨rfl, hbF⟩; have hn3 := (hbF.block (w.heap.size + 1) (by have := HG.out.2.1; omega)).trans HG.out.2.2.1; have hn4 := (hbF.block w.heap.size (by have := HG.out.2.1; omega)).trans HG.out.2.2.2.1; obtain ⟨c3, c4, f3, f4⟩ := two_cells hn3; obtain ⟨c5, c6, _, _⟩ := two_cells hn4; have H5 := Lib.hid (And.intro hbF (two_set hn3 (.int .i64 (N : Int)) (.slice A L.length c))); clear hbF hn3 hn4))
    obtain ⟨q4, q5, _, _⟩ := two_cells H5.out.2
    refine bodyPost_ret (v := .tuple #[sv N A L.length c, .int .i64 8]) (by simp [results, Try.results40, go_sem, q4, q5]) rfl ⟨.inr ⟨HF.out.2, rfl⟩, ?_⟩
    exact (((HG.out.1.trans (H5.out.1.mono (by have := HG.out.2.1; omega))).setCell (p := ⟨w.heap.size + 1, 0, none⟩) (by show w.heap.size ≤ w.heap.size + 1; omega) _).setCell (p := ⟨w.heap.size + 1, 1, none⟩) (by show w.heap.size ≤ w.heap.size + 1; omega) _)
  | true =>
    rw [hf] at hF
    have HF := Lib.hid (And.intro hF hf)
    clear hF hf
    go_enter Try.func40, Try.ntmps40
    go_wp2_with (fail)
    rw [← HG.out.2.2.2.2, ← HW2.out]
    go_wp2_with (first | (go_at_call 17; refine (HI.out _).mono ?_; rintro e w' ⟨rfl, rfl⟩) | (go_at_call 16; refine HF.out.1.mono ?_; rintro e w' ⟨rfl, hbF⟩; have hn4 := (hbF.block w.heap.size (by have := HG.out.2.1; omega)).trans HG.out.2.2.2.1; obtain ⟨c5, c6, _, _⟩ := two_cells hn4; have H5 := Lib.hid hbF; clear hbF hn4) | (go_at_call 50; refine (HP.out _ H5.out).mono ?_; rintro e w5 ⟨⟨A', c', rfl, hown⟩, hb5⟩; have hn3 := (hb5.block (w.heap.size + 1) (by have := HG.out.2.1; have := H5.out.size; omega)).trans ((H5.out.block (w.heap.size + 1) (by have := HG.out.2.1; omega)).trans HG.out.2.2.1); obtain ⟨c3, c4, f3, f4⟩ := two_cells hn3; have H6 := Lib.hid (And.intro hown (And.intro hb5 (two_set hn3 (.int .i64 (N : Int)) (.slice A' (putB L (q, m)).length c')))); clear hown hb5 hn3))
    obtain ⟨q4, q5, _, _⟩ := two_cells H6.out.2.2
    refine bodyPost_ret (v := .tuple #[sv N A' (putB L (q, m)).length c', .int .i64 0]) (by simp [results, Try.results40, go_sem, q4, q5]) rfl ⟨.inl ⟨HF.out.2, A', c', rfl, ?_⟩, ?_⟩
    · refine row_low (row_keep H6.out.1 fun b hb _ => ?_) (by have := H5.out.size; have := HG.out.2.1; omega)
      have := H5.out.size
      have := HG.out.2.1
      exact (setCell_far _ _ _ _ (by show b ≠ w.heap.size + 1; omega)).trans (setCell_far _ _ _ _ (by show b ≠ w.heap.size + 1; omega))
    · have hsz := H5.out.size
      have hsz2 := HG.out.2.1
      exact (((HG.out.1.trans ((H5.out.trans (H6.out.2.1.mono (by omega))).mono (by omega))).setCell (p := ⟨w.heap.size + 1, 0, none⟩) (by show w.heap.size ≤ w.heap.size + 1; omega) _).setCell (p := ⟨w.heap.size + 1, 1, none⟩) (by show w.heap.size ≤ w.heap.size + 1; omega) _)
end Bu
end Go.Proofs.Ytdanhbbdkcbapaa
