/- What the program's calls do to an allocator that has given a list of blocks. -/
import Derived.Test.YtdanhbbdkcbapaaPA
namespace Go.Proofs.Ytdanhbbdkcbapaa
open Go.RowKit
namespace Bu

theorem bu_lists {w : World} {b N : Nat} {Fr Gv : Nat → Nat → Bool} (h : Bu w b N Fr Gv) : ListsAt w b 2 Fr ∧ ListsAt w b 178 Gv := ⟨fun _ hk => h.free hk, fun _ hk => h.given hk⟩

theorem sorted_own {w' : World} {B c : Nat} {A : Option Addr} {M : List PB} {L : List Blk} (h : w'.ownsRow B 39 2 (.slice A M.length c) M.length (cellsB M)) (hm : M.map toBlk = L) : Own w' B A c L ∧ M.length = L.length := by
  subst hm
  rw [cells_blk] at h
  refine ⟨?_, by simp⟩
  unfold Own
  rw [List.length_map]
  exact h

theorem freeS_ok (w : World) (b N : Nat) (L : List Blk) (Fr Gv : Nat → Nat → Bool) (h : Bu w b N Fr Gv) (hs : Sem N Fr Gv (LG L)) (hS : St N L) :
    Calls Try.prog 30 #[.pointer (some ⟨b, 2, none⟩)] w fun e w' => (∃ A c, e = .returned (.slice A (blocksB N L).length c) ∧ Own w' w.heap.size A c (blocksB N L)) ∧ Below w.heap.size w w' := by
  refine (sorted_ok w b 2 Fr h.lt (bu_lists h).1).mono ?_
  rintro e w' ⟨A, c, M, he, hp, ho, hr, hb⟩
  obtain ⟨h1, h2⟩ := sorted_own hr (free_is hs hS hp ho)
  exact ⟨⟨A, c, by rw [he, h2], h1⟩, hb⟩
theorem givenS_ok (w : World) (b N : Nat) (L : List Blk) (Fr Gv : Nat → Nat → Bool) (h : Bu w b N Fr Gv) (hs : Sem N Fr Gv (LG L)) (hS : St N L) :
    Calls Try.prog 30 #[.pointer (some ⟨b, 178, none⟩)] w fun e w' => (∃ A c, e = .returned (.slice A L.length c) ∧ Own w' w.heap.size A c L) ∧ Below w.heap.size w w' := by
  refine (sorted_ok w b 178 Gv h.lt (bu_lists h).2).mono ?_
  rintro e w' ⟨A, c, M, he, hp, ho, hr, hb⟩
  obtain ⟨h1, h2⟩ := sorted_own hr (given_is hs hS hp ho)
  exact ⟨⟨A, c, by rw [he, h2], h1⟩, hb⟩

set_option maxRecDepth 100000 in
set_option maxHeartbeats 1000000 in
theorem blocks_ok (w : World) (b N : Nat) (L : List Blk) (h : BuL w b N L) :
    Calls Try.prog 13 #[.pointer (some ⟨b, 0, none⟩)] w fun e w' => (∃ A c, e = .returned (.tuple #[.slice A (blocksB N L).length c, .int .i64 0]) ∧ Own w' w.heap.size A c (blocksB N L)) ∧ Below w.heap.size w w' := by
  obtain ⟨⟨Fr, Gv, hB, hs⟩, hS⟩ := h
  have HI := Lib.hid (is_ok w b N Fr Gv hB)
  have HS := Lib.hid (freeS_ok w b N L Fr Gv hB hs hS)
  clear hB hs hS
  go_enter Try.func13, Try.ntmps13
  go_wp2_with (first | (go_at_call 29; refine HI.out.mono ?_; rintro e w' ⟨rfl, rfl⟩) | (go_at_call 30; refine HS.out.mono ?_; rintro e w' ⟨⟨A, c, rfl, ho⟩, hb⟩; have H5 := Lib.hid (And.intro ho hb); clear ho hb))
  go_ret2
  exact ⟨⟨A, c, rfl, H5.out.1⟩, H5.out.2⟩

set_option maxRecDepth 100000 in
set_option maxHeartbeats 2000000 in
theorem save_ok (w : World) (b N : Nat) (L : List Blk) (h : BuL w b N L) :
    Calls Try.prog 20 #[.pointer (some ⟨b, 0, none⟩)] w fun e w' => (∃ A c, e = .returned (sv N A L.length c) ∧ Own w' w.heap.size A c L) ∧ Below w.heap.size w w' := by
  obtain ⟨⟨Fr, Gv, hB, hs⟩, hS⟩ := h
  have hg2 := blk_new w (.int .i64 0) (.slice none 0 0) 24
  have hb0 := below_box w (.cells #[.int .i64 0, .slice none 0 0] 24)
  obtain ⟨W1, hW1⟩ : ∃ W1, W1 = w.alloc (.cells #[.int .i64 0, .slice none 0 0] 24) := ⟨_, rfl⟩
  rw [← hW1] at hg2 hb0
  have hs1 : W1.heap.size = w.heap.size + 1 := by rw [hW1]; simp
  have hB1 : Bu W1 b N Fr Gv := hB.keep (hb0.block b hB.lt)
  have n1 := hB1.head.2
  have hz := two_cells hg2
  obtain ⟨c1, c2, f1, f2⟩ := hz
  have HI := Lib.hid (is_ok W1 b N Fr Gv hB1)
  have hSo := fun W (hb : ∀ b : Nat, W.heap[b]? = W1.heap[b]?) => givenS_ok W b N L Fr Gv (hB1.keep (hb b)) hs hS
  have HS := Lib.hid hSo
  have HG := Lib.hid (And.intro hb0 (And.intro hs1 hg2))
  have HW := Lib.hid hW1
  clear hg2 hb0 hW1 hs1 hB1 hB hs hS hSo
  go_enter Try.func20, Try.ntmps20
  go_wp2_with (fail)
  rw [← HW.out]
  go_wp2_with (go_at_call 29; refine HI.out.mono ?_; rintro e w' ⟨rfl, rfl⟩)
  go_region_with (go_at_call 30; refine (HS.out W1.drew (fun _ => rfl)).mono ?_; rintro e w6 ⟨⟨A6, d6, rfl, hown⟩, hb6⟩; have hn3 : w6.heap[w.heap.size]? = some (.cells #[.int .i64 0, .slice none 0 0] 24 (0, 0)) := (hb6.block w.heap.size (lt_of_heap HG.out.2.2)).trans HG.out.2.2; obtain ⟨c3, c4, f3, f4⟩ := two_cells hn3; have n2 : w6.cell? ⟨b, 1, none⟩ = some (.int .i64 (N : Int)) := (hb6.cell (p := ⟨b, 1, none⟩) (World.block_lt_of_cell? _ _ n1)).trans n1; have H6 := Lib.hid (And.intro hown (And.intro hb6 (two_set hn3 (.int .i64 (N : Int)) (.slice A6 L.length d6)))); clear hown hb6 hn3)
  all_goals
    go_wp2_with (fail)
    obtain ⟨q4, q5, _, _⟩ := two_cells H6.out.2.2
    have hsz := HG.out.2.1
    refine bodyPost_ret (v := sv N A6 L.length d6) (by simp [results, Try.results20, go_sem, q4, q5]) rfl ⟨⟨A6, d6, rfl, ?_⟩, ?_⟩
    · refine row_low (row_keep H6.out.1 fun b hb _ => ?_) (show w.heap.size ≤ W1.heap.size by omega)
      have hb : W1.heap.size ≤ b := hb
      exact (setCell_far _ _ _ _ (by show b ≠ w.heap.size; omega)).trans (setCell_far _ _ _ _ (by show b ≠ w.heap.size; omega))
    · have h6 : Below W1.heap.size W1 w6 := ⟨H6.out.2.1.os, H6.out.2.1.tape, H6.out.2.1.output, H6.out.2.1.size, H6.out.2.1.block⟩
      exact (((HG.out.1.trans (h6.mono (by omega))).setCell (p := ⟨w.heap.size, 0, none⟩) (Nat.le_refl _) _).setCell (p := ⟨w.heap.size, 1, none⟩) (Nat.le_refl _) _)
end Bu
end Go.Proofs.Ytdanhbbdkcbapaa
