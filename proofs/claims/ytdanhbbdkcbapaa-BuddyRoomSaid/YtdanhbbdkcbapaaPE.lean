/- The examples of the document. -/
import Derived.Test.YtdanhbbdkcbapaaPD
import Derived.Outline
namespace Go.Proofs.Ytdanhbbdkcbapaa
open Go.RowKit
namespace Bu

theorem newL_ok (w : World) (N : Nat) (hN : N ≤ 10) : Calls Try.prog 26 #[.int .i64 (N : Int)] w fun e w' => e = .returned (.tuple #[.pointer (some ⟨w.heap.size, 0, none⟩), .int .i64 0]) ∧ BuL w' w.heap.size N [] ∧ Below w.heap.size w w' :=
  (new_ok w N hN).mono fun _ _ ⟨he, hB, hb⟩ => ⟨he, ⟨⟨_, _, hB, sem_new hN⟩, st_nil hN⟩, hb⟩

theorem al_some {w : World} {b N n p : Nat} {L L' : List Blk} (h : BuL w b N L) (hn : n ≤ 10) (he : allocB N L n = some (p, L')) :
    Calls Try.prog 14 #[.pointer (some ⟨b, 0, none⟩), .int .i64 (n : Int)] w fun e w' => e = .returned (.tuple #[.int .i64 (p : Int), .int .i64 0]) ∧ BuL w' b N L' ∧ Grow1 b w w' :=
  (allocL_ok w b N L n h hn).mono fun e w' ⟨hg, hm⟩ => by rw [he] at hm; exact ⟨hm.1, hm.2, hg⟩
theorem al_none {w : World} {b N n : Nat} {L : List Blk} (h : BuL w b N L) (hn : n ≤ 10) (he : allocB N L n = none) :
    Calls Try.prog 14 #[.pointer (some ⟨b, 0, none⟩), .int .i64 (n : Int)] w fun e w' => e = .returned (.tuple #[.int .i64 0, .int .i64 5]) ∧ BuL w' b N L ∧ Grow1 b w w' :=
  (allocL_ok w b N L n h hn).mono fun e w' ⟨hg, hm⟩ => by rw [he] at hm; exact ⟨hm.1, hm.2, hg⟩
theorem fr_some {w : World} {b N : Nat} {L L' : List Blk} {x : Blk} (h : BuL w b N L) (hx : InB N x) (hm : x ∈ L) (hL : delB L x = L') :
    Calls Try.prog 21 #[.pointer (some ⟨b, 0, none⟩), .int .i64 (x.1 : Int), .int .i64 (x.2 : Int)] w fun e w' => e = .returned (.int .i64 0) ∧ BuL w' b N L' ∧ Grow1 b w w' :=
  (freeL_ok w b N L x h hx).mono fun e w' ⟨hg, hr⟩ => by
    rcases hr with ⟨_, he, hB⟩ | ⟨hn, _⟩
    · exact ⟨he, by rw [← hL]; exact hB, hg⟩
    · exact absurd hm hn
theorem fr_none {w : World} {b N : Nat} {L : List Blk} {x : Blk} (h : BuL w b N L) (hx : InB N x) (hm : x ∉ L) :
    Calls Try.prog 21 #[.pointer (some ⟨b, 0, none⟩), .int .i64 (x.1 : Int), .int .i64 (x.2 : Int)] w fun e w' => e = .returned (.int .i64 9) ∧ BuL w' b N L ∧ Grow1 b w w' :=
  (freeL_ok w b N L x h hx).mono fun e w' ⟨hg, hr⟩ => by
    rcases hr with ⟨hn, _⟩ | ⟨_, he, hB⟩
    · exact absurd hn hm
    · exact ⟨he, hB, hg⟩

theorem s1 : allocB 3 [] 1 = some (0, [(0, 1)]) := by kernel_rfl
theorem s2 : allocB 3 [(0, 1)] 0 = some (2, [(0, 1), (2, 0)]) := by kernel_rfl
theorem s3 : allocB 3 [(0, 1), (2, 0)] 1 = some (4, [(0, 1), (2, 0), (4, 1)]) := by kernel_rfl
theorem s4 : blocksB 3 [(0, 1), (2, 0), (4, 1)] = [(3, 0), (6, 1)] := by kernel_rfl
theorem s5 : allocB 3 [(0, 1), (2, 0), (4, 1)] 2 = none := by kernel_rfl
theorem s6 : roomB 0 (blocksB 3 [(0, 1), (2, 0), (4, 1)]) = 3 := by kernel_rfl
theorem s7 : delB [(0, 1), (2, 0), (4, 1)] (0, 1) = [(2, 0), (4, 1)] := by kernel_rfl
theorem s8 : delB [(2, 0), (4, 1)] (2, 0) = [(4, 1)] := by kernel_rfl
theorem s9 : allocB 3 [(4, 1)] 2 = some (0, [(0, 2), (4, 1)]) := by kernel_rfl

theorem blk_lit2 (w : World) (a b c d : Nat) : BlkAt (w.alloc (.cells #[.int .i64 (a : Int), .int .i64 (b : Int), .int .i64 (c : Int), .int .i64 (d : Int)] 39)) (some ⟨w.heap.size, 0, none⟩) 2 [(a, b), (c, d)] := by
  have h : (w.alloc (.cells #[.int .i64 (a : Int), .int .i64 (b : Int), .int .i64 (c : Int), .int .i64 (d : Int)] 39)).heap[w.heap.size]? = some (.cells #[.int .i64 (a : Int), .int .i64 (b : Int), .int .i64 (c : Int), .int .i64 (d : Int)] 39 (0, 0)) := by rw [heapAlloc, if_pos rfl]
  refine ⟨Nat.le_refl _, by unfold maxLen; omega, fun j x hx => ⟨w.heap.size, 0, rfl, by simp, ?_⟩⟩
  rw [cell_of_row _ _ _ _ _ _ h, cell_of_row _ _ _ _ _ _ h]
  match j, hx with
  | 0, hx => injection hx with hx; subst hx; exact ⟨rfl, rfl⟩
  | 1, hx => injection hx with hx; subst hx; exact ⟨rfl, rfl⟩
  | j + 2, hx => simp at hx

theorem a1 {w : World} {b : Nat} (h : BuL w b 3 []) : Calls Try.prog 14 #[.pointer (some ⟨b, 0, none⟩), .int .i64 1] w fun e w' => e = .returned (.tuple #[.int .i64 0, .int .i64 0]) ∧ BuL w' b 3 [(0, 1)] ∧ Grow1 b w w' := al_some (n := 1) (p := 0) h (by decide) s1
theorem a2 {w : World} {b : Nat} (h : BuL w b 3 [(0, 1)]) : Calls Try.prog 14 #[.pointer (some ⟨b, 0, none⟩), .int .i64 0] w fun e w' => e = .returned (.tuple #[.int .i64 2, .int .i64 0]) ∧ BuL w' b 3 [(0, 1), (2, 0)] ∧ Grow1 b w w' := al_some (n := 0) (p := 2) h (by decide) s2
theorem a3 {w : World} {b : Nat} (h : BuL w b 3 [(0, 1), (2, 0)]) : Calls Try.prog 14 #[.pointer (some ⟨b, 0, none⟩), .int .i64 1] w fun e w' => e = .returned (.tuple #[.int .i64 4, .int .i64 0]) ∧ BuL w' b 3 [(0, 1), (2, 0), (4, 1)] ∧ Grow1 b w w' := al_some (n := 1) (p := 4) h (by decide) s3
theorem a9 {w : World} {b : Nat} (h : BuL w b 3 [(4, 1)]) : Calls Try.prog 14 #[.pointer (some ⟨b, 0, none⟩), .int .i64 2] w fun e w' => e = .returned (.tuple #[.int .i64 0, .int .i64 0]) ∧ BuL w' b 3 [(0, 2), (4, 1)] ∧ Grow1 b w w' := al_some (n := 2) (p := 0) h (by decide) s9
theorem a4 {w : World} {b : Nat} (h : BuL w b 3 [(0, 1), (2, 0), (4, 1)]) : Calls Try.prog 13 #[.pointer (some ⟨b, 0, none⟩)] w fun e w' => (∃ A c, e = .returned (.tuple #[.slice A 2 c, .int .i64 0]) ∧ BlkAt w' A c [(3, 0), (6, 1)]) ∧ Below w.heap.size w w' := by
  refine (blocks_ok w b 3 _ h).mono ?_
  rintro e w' ⟨⟨A, c, he, ho⟩, hb⟩
  rw [s4] at he ho
  exact ⟨⟨A, c, he, ho.at.1⟩, hb⟩
theorem a5 {w : World} {b : Nat} (h : BuL w b 3 [(0, 1), (2, 0), (4, 1)]) : Calls Try.prog 14 #[.pointer (some ⟨b, 0, none⟩), .int .i64 2] w fun e w' => e = .returned (.tuple #[.int .i64 0, .int .i64 5]) ∧ BuL w' b 3 [(0, 1), (2, 0), (4, 1)] ∧ Grow1 b w w' := al_none (n := 2) h (by decide) s5
theorem a6 {w : World} {b : Nat} (h : BuL w b 3 [(0, 1), (2, 0), (4, 1)]) : Calls Try.prog 18 #[.pointer (some ⟨b, 0, none⟩), .int .i64 0] w fun e w' => e = .returned (.tuple #[.int .i64 3, .int .i64 0]) ∧ Below w.heap.size w w' := by
  have := roomL_ok w b 3 _ 0 h (by decide)
  rw [s6] at this
  exact this
theorem a7 {w : World} {b : Nat} (h : BuL w b 3 [(0, 1), (2, 0), (4, 1)]) : Calls Try.prog 21 #[.pointer (some ⟨b, 0, none⟩), .int .i64 0, .int .i64 0] w fun e w' => e = .returned (.int .i64 9) ∧ BuL w' b 3 [(0, 1), (2, 0), (4, 1)] ∧ Grow1 b w w' := fr_none (x := (0, 0)) h (by decide) (by decide)
theorem a8 {w : World} {b : Nat} (h : BuL w b 3 [(0, 1), (2, 0), (4, 1)]) : Calls Try.prog 21 #[.pointer (some ⟨b, 0, none⟩), .int .i64 0, .int .i64 1] w fun e w' => e = .returned (.int .i64 0) ∧ BuL w' b 3 [(2, 0), (4, 1)] ∧ Grow1 b w w' := fr_some (x := (0, 1)) h (by decide) (by decide) s7
theorem a8b {w : World} {b : Nat} (h : BuL w b 3 [(2, 0), (4, 1)]) : Calls Try.prog 21 #[.pointer (some ⟨b, 0, none⟩), .int .i64 2, .int .i64 0] w fun e w' => e = .returned (.int .i64 0) ∧ BuL w' b 3 [(4, 1)] ∧ Grow1 b w w' := fr_some (x := (2, 0)) h (by decide) (by decide) s8
theorem same22 {w : World} {A B : Option Addr} {c d : Nat} (h1 : BlkAt w A c [(3, 0), (6, 1)]) (h2 : BlkAt w B d [(3, 0), (6, 1)]) : Calls Try.prog 22 #[.slice A 2 c, .slice B 2 d] w fun e w' => e = .returned (.bool true) ∧ ∃ n, w' = w.drewN n := sameB_ok w A B c d _ _ h1 h2

set_option maxRecDepth 100000 in
set_option maxHeartbeats 4000000 in
theorem shown_ok (w : World) : Calls Try.prog 11 #[] w fun e w' => e = .returned (.bool true) ∧ Below w.heap.size w w' := by
  have HN := Lib.hid (show Calls Try.prog 26 #[.int .i64 3] w fun e w' => e = .returned (.tuple #[.pointer (some ⟨w.heap.size, 0, none⟩), .int .i64 0]) ∧ BuL w' w.heap.size 3 [] ∧ Below w.heap.size w w' from newL_ok w 3 (by decide))
  go_enter Try.func11, Try.ntmps11
  go_wp2_with (first | (go_at_call 26; refine HN.out.mono ?_; rintro e w1 ⟨rfl, hB, hb⟩; have H1 := Lib.hid (And.intro hB hb); clear hB hb HN) | (go_at_call 14; refine (a1 H1.out.1).mono ?_; rintro e w2 ⟨rfl, hB, hg⟩; have H2 := Lib.hid (And.intro hB (H1.out.2.trans (grow_below hg (Nat.le_of_lt H1.out.1.lt)))); clear hB hg H1) | (go_at_call 14; refine (a2 H2.out.1).mono ?_; rintro e w3 ⟨rfl, hB, hg⟩; have H3 := Lib.hid (And.intro hB (H2.out.2.trans (grow_below hg (Nat.le_of_lt H2.out.1.lt)))); clear hB hg H2) | (go_at_call 14; refine (a3 H3.out.1).mono ?_; rintro e w4 ⟨rfl, hB, hg⟩; have H4 := Lib.hid (And.intro hB (H3.out.2.trans (grow_below hg (Nat.le_of_lt H3.out.1.lt)))); clear hB hg H3) | (go_at_call 13; refine (a4 H4.out.1).mono ?_; rintro e w5 ⟨⟨A, c, rfl, ha⟩, hb⟩; have H5 := Lib.hid (And.intro (H4.out.1.keep (hb.block _ H4.out.1.lt)) (And.intro (H4.out.2.trans (hb.mono H4.out.2.size)) ha)); clear ha hb H4) | (go_at_call 22; refine (same22 (H5.out.2.2.below (below_box _ _)) (blk_lit2 w5 3 0 6 1)).mono ?_; rintro e w6 ⟨rfl, n, hw6⟩; have H6 := Lib.hid (show BuL w6 w.heap.size 3 [(0, 1), (2, 0), (4, 1)] ∧ Below w.heap.size w w6 from by subst hw6; exact ⟨H5.out.1.keep (alloc_old _ _ _ H5.out.1.lt), below_drewN (H5.out.2.1.alloc H5.out.2.1.size _) _⟩); clear hw6 H5) | (go_at_call 14; refine (a5 H6.out.1).mono ?_; rintro e w7 ⟨rfl, hB, hg⟩; have H7 := Lib.hid (And.intro hB (H6.out.2.trans (grow_below hg (Nat.le_of_lt H6.out.1.lt)))); clear hB hg H6) | (go_at_call 18; refine (a6 H7.out.1).mono ?_; rintro e w8 ⟨rfl, hb⟩; have H8 := Lib.hid (And.intro (H7.out.1.keep (hb.block _ H7.out.1.lt)) (H7.out.2.trans (hb.mono H7.out.2.size))); clear hb H7) | (go_at_call 21; refine (a7 H8.out.1).mono ?_; rintro e w9 ⟨rfl, hB, hg⟩; have H9 := Lib.hid (And.intro hB (H8.out.2.trans (grow_below hg (Nat.le_of_lt H8.out.1.lt)))); clear hB hg H8) | (go_at_call 21; refine (a8 H9.out.1).mono ?_; rintro e w10 ⟨rfl, hB, hg⟩; have H10 := Lib.hid (And.intro hB (H9.out.2.trans (grow_below hg (Nat.le_of_lt H9.out.1.lt)))); clear hB hg H9) | (go_at_call 21; refine (a8b H10.out.1).mono ?_; rintro e w11 ⟨rfl, hB, hg⟩; have H11 := Lib.hid (And.intro hB (H10.out.2.trans (grow_below hg (Nat.le_of_lt H10.out.1.lt)))); clear hB hg H10) | (go_at_call 14; refine (a9 H11.out.1).mono ?_; rintro e w12 ⟨rfl, hB, hg⟩; have H12 := Lib.hid (And.intro hB (H11.out.2.trans (grow_below hg (Nat.le_of_lt H11.out.1.lt)))); clear hB hg H11))
  go_ret
  exact ⟨rfl, H12.out.2⟩
end Bu
end Go.Proofs.Ytdanhbbdkcbapaa
