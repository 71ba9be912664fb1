/- The examples of the document. The walk of BuddyLoads. What step leans on. -/
import Derived.Test.YtdanhbbdkcbapaaK15
import Derived.Outline
namespace Go.Proofs.Ytdanhbbdkcbapaa
open Go.RowKit
namespace Bu

theorem newL_ok (w : World) (N : Nat) (hN : N ≤ 10) : Calls Try.prog 26 #[.int .i64 (N : Int)] w fun e w' => e = .returned (.tuple #[.pointer (some ⟨w.heap.size, 0, none⟩), .int .i64 0]) ∧ BuL w' w.heap.size N [] ∧ Below w.heap.size w w' :=
  (new_ok w N hN).mono fun _ _ ⟨he, hB, hb⟩ => ⟨he, ⟨⟨_, _, hB, sem_new hN⟩, st_nil hN⟩, hb⟩

theorem al_some {w : World} {b N n p : Nat} {L L' : List Blk} (h : BuL w b N L) (hn : n ≤ 10) (he : allocB N L n = some (p, L')) :
    Calls Try.prog 14 #[.pointer (some ⟨b, 0, none⟩), .int .i64 (n : Int)] w fun e w' => e = .returned (.tuple #[.int .i64 (p : Int), .int .i64 0]) ∧ BuL w' b N L' ∧ Grow1 b w w' :=
  (allocL_ok w b N L n h hn).mono fun e w' ⟨hg, hm⟩ => by rw [he] at hm; exact ⟨hm.1, hm.2, hg⟩
theorem al_none {w : World} {b N n : Nat} {L : List Blk} (h : BuL w b N L) (hn : n ≤ 10) (he : allocB N L n = none) :
    Calls Try.prog 14 #[.pointer (some ⟨b, 0, none⟩), .int .i64 (n : Int)] w fun e w' => e = .returned (.tuple #[.int .i64 0, .int .i64 5]) ∧ BuL w' b N L ∧ Grow1 b w w' :=
  (allocL_ok w b N L n h hn).mono fun e w' ⟨hg, hm⟩ => by rw [he] at hm; exact ⟨hm.1, hm.2, hg⟩
theorem fr_some {w : World} {b N : Nat} {L L' : List Blk} {x : Blk} (h : BuL w b N L) (hx : InB N x) (hm : x ∈ L) (hL : delB L x = L') :
    Calls Try.prog 21 #[.pointer (some ⟨b, 0, none⟩), .int .i64 (x.1 : Int), .int .i64 (x.2 : Int)] w fun e w' => e = .returned (.int .i64 0) ∧ BuL w' b N L' ∧ Grow1 b w w' :=
  (freeL_ok w b N L x h hx).mono fun e w' ⟨hg, hr⟩ => by
    rcases hr with ⟨_, he, hB⟩ | ⟨hn, _⟩
    · exact ⟨he, by rw [← hL]; exact hB, hg⟩
    · exact absurd hm hn
theorem fr_none {w : World} {b N : Nat} {L : List Blk} {x : Blk} (h : BuL w b N L) (hx : InB N x) (hm : x ∉ L) :
    Calls Try.prog 21 #[.pointer (some ⟨b, 0, none⟩), .int .i64 (x.1 : Int), .int .i64 (x.2 : Int)] w fun e w' => e = .returned (.int .i64 9) ∧ BuL w' b N L ∧ Grow1 b w w' :=
  (freeL_ok w b N L x h hx).mono fun e w' ⟨hg, hr⟩ => by
    rcases hr with ⟨hn, _⟩ | ⟨_, he, hB⟩
    · exact absurd hn hm
    · exact ⟨he, hB, hg⟩

theorem s1 : allocB 3 [] 1 = some (0, [(0, 1)]) := by kernel_rfl
theorem s2 : allocB 3 [(0, 1)] 0 = some (2, [(0, 1), (2, 0)]) := by kernel_rfl
theorem s3 : allocB 3 [(0, 1), (2, 0)] 1 = some (4, [(0, 1), (2, 0), (4, 1)]) := by kernel_rfl
theorem s4 : blocksB 3 [(0, 1), (2, 0), (4, 1)] = [(3, 0), (6, 1)] := by kernel_rfl
theorem s5 : allocB 3 [(0, 1), (2, 0), (4, 1)] 2 = none := by kernel_rfl
theorem s6 : roomB 0 (blocksB 3 [(0, 1), (2, 0), (4, 1)]) = 3 := by kernel_rfl
theorem s7 : delB [(0, 1), (2, 0), (4, 1)] (0, 1) = [(2, 0), (4, 1)] := by kernel_rfl
theorem s8 : delB [(2, 0), (4, 1)] (2, 0) = [(4, 1)] := by kernel_rfl
theorem s9 : allocB 3 [(4, 1)] 2 = some (0, [(0, 2), (4, 1)]) := by kernel_rfl

theorem blk_lit2 (w : World) (a b c d : Nat) : BlkAt (w.alloc (.cells #[.int .i64 (a : Int), .int .i64 (b : Int), .int .i64 (c : Int), .int .i64 (d : Int)] 39)) (some ⟨w.heap.size, 0, none⟩) 2 [(a, b), (c, d)] := by
  have h : (w.alloc (.cells #[.int .i64 (a : Int), .int .i64 (b : Int), .int .i64 (c : Int), .int .i64 (d : Int)] 39)).heap[w.heap.size]? = some (.cells #[.int .i64 (a : Int), .int .i64 (b : Int), .int .i64 (c : Int), .int .i64 (d : Int)] 39 (0, 0)) := by rw [heapAlloc, if_pos rfl]
  refine ⟨Nat.le_refl _, by unfold maxLen; omega, fun j x hx => ⟨w.heap.size, 0, rfl, by simp, ?_⟩⟩
  rw [cell_of_row _ _ _ _ _ _ h, cell_of_row _ _ _ _ _ _ h]
  match j, hx with
  | 0, hx => injection hx with hx; subst hx; exact ⟨rfl, rfl⟩
  | 1, hx => injection hx with hx; subst hx; exact ⟨rfl, rfl⟩
  | j + 2, hx => simp at hx

theorem a1 {w : World} {b : Nat} (h : BuL w b 3 []) : Calls Try.prog 14 #[.pointer (some ⟨b, 0, none⟩), .int .i64 1] w fun e w' => e = .returned (.tuple #[.int .i64 0, .int .i64 0]) ∧ BuL w' b 3 [(0, 1)] ∧ Grow1 b w w' := al_some (n := 1) (p := 0) h (by decide) s1
theorem a2 {w : World} {b : Nat} (h : BuL w b 3 [(0, 1)]) : Calls Try.prog 14 #[.pointer (some ⟨b, 0, none⟩), .int .i64 0] w fun e w' => e = .returned (.tuple #[.int .i64 2, .int .i64 0]) ∧ BuL w' b 3 [(0, 1), (2, 0)] ∧ Grow1 b w w' := al_some (n := 0) (p := 2) h (by decide) s2
theorem a3 {w : World} {b : Nat} (h : BuL w b 3 [(0, 1), (2, 0)]) : Calls Try.prog 14 #[.pointer (some ⟨b, 0, none⟩), .int .i64 1] w fun e w' => e = .returned (.tuple #[.int .i64 4, .int .i64 0]) ∧ BuL w' b 3 [(0, 1), (2, 0), (4, 1)] ∧ Grow1 b w w' := al_some (n := 1) (p := 4) h (by decide) s3
theorem a9 {w : World} {b : Nat} (h : BuL w b 3 [(4, 1)]) : Calls Try.prog 14 #[.pointer (some ⟨b, 0, none⟩), .int .i64 2] w fun e w' => e = .returned (.tuple #[.int .i64 0, .int .i64 0]) ∧ BuL w' b 3 [(0, 2), (4, 1)] ∧ Grow1 b w w' := al_some (n := 2) (p := 0) h (by decide) s9
theorem a4 {w : World} {b : Nat} (h : BuL w b 3 [(0, 1), (2, 0), (4, 1)]) : Calls Try.prog 13 #[.pointer (some ⟨b, 0, none⟩)] w fun e w' => (∃ A c, e = .returned (.tuple #[.slice A 2 c, .int .i64 0]) ∧ BlkAt w' A c [(3, 0), (6, 1)]) ∧ Below w.heap.size w w' := by
  refine (blocks_ok w b 3 _ h).mono ?_
  rintro e w' ⟨⟨A, c, he, ho⟩, hb⟩
  rw [s4] at he ho
  exact ⟨⟨A, c, he, ho.at.1⟩, hb⟩
theorem a5 {w : World} {b : Nat} (h : BuL w b 3 [(0, 1), (2, 0), (4, 1)]) : Calls Try.prog 14 #[.pointer (some ⟨b, 0, none⟩), .int .i64 2] w fun e w' => e = .returned (.tuple #[.int .i64 0, .int .i64 5]) ∧ BuL w' b 3 [(0, 1), (2, 0), (4, 1)] ∧ Grow1 b w w' := al_none (n := 2) h (by decide) s5
theorem a6 {w : World} {b : Nat} (h : BuL w b 3 [(0, 1), (2, 0), (4, 1)]) : Calls Try.prog 18 #[.pointer (some ⟨b, 0, none⟩), .int .i64 0] w fun e w' => e = .returned (.tuple #[.int .i64 3, .int .i64 0]) ∧ Below w.heap.size w w' := by
  have := roomL_ok w b 3 _ 0 h (by decide)
  rw [s6] at this
  exact this
theorem a7 {w : World} {b : Nat} (h : BuL w b 3 [(0, 1), (2, 0), (4, 1)]) : Calls Try.prog 21 #[.pointer (some ⟨b, 0, none⟩), .int .i64 0, .int .i64 0] w fun e w' => e = .returned (.int .i64 9) ∧ BuL w' b 3 [(0, 1), (2, 0), (4, 1)] ∧ Grow1 b w w' := fr_none (x := (0, 0)) h (by decide) (by decide)
theorem a8 {w : World} {b : Nat} (h : BuL w b 3 [(0, 1), (2, 0), (4, 1)]) : Calls Try.prog 21 #[.pointer (some ⟨b, 0, none⟩), .int .i64 0, .int .i64 1] w fun e w' => e = .returned (.int .i64 0) ∧ BuL w' b 3 [(2, 0), (4, 1)] ∧ Grow1 b w w' := fr_some (x := (0, 1)) h (by decide) (by decide) s7
theorem a8b {w : World} {b : Nat} (h : BuL w b 3 [(2, 0), (4, 1)]) : Calls Try.prog 21 #[.pointer (some ⟨b, 0, none⟩), .int .i64 2, .int .i64 0] w fun e w' => e = .returned (.int .i64 0) ∧ BuL w' b 3 [(4, 1)] ∧ Grow1 b w w' := fr_some (x := (2, 0)) h (by decide) (by decide) s8
theorem same22 {w : World} {A B : Option Addr} {c d : Nat} (h1 : BlkAt w A c [(3, 0), (6, 1)]) (h2 : BlkAt w B d [(3, 0), (6, 1)]) : Calls Try.prog 22 #[.slice A 2 c, .slice B 2 d] w fun e w' => e = .returned (.bool true) ∧ ∃ n, w' = w.drewN n := sameB_ok w A B c d _ _ h1 h2

set_option maxRecDepth 100000 in
set_option maxHeartbeats 4000000 in
theorem shown_ok (w : World) : Calls Try.prog 11 #[] w fun e w' => e = .returned (.bool true) ∧ Below w.heap.size w w' := by
  have HN := Lib.hid (show Calls Try.prog 26 #[.int .i64 3] w fun e w' => e = .returned (.tuple #[.pointer (some ⟨w.heap.size, 0, none⟩), .int .i64 0]) ∧ BuL w' w.heap.size 3 [] ∧ Below w.heap.size w w' from newL_ok w 3 (by decide))
  go_enter Try.func11, Try.ntmps11
  go_wp2_with (first | (go_at_call 26; refine HN.out.mono ?_; rintro e w1 ⟨rfl, hB, hb⟩; have H1 := Lib.hid (And.intro hB hb); clear hB hb HN) | (go_at_call 14; refine (a1 H1.out.1).mono ?_; rintro e w2 ⟨rfl, hB, hg⟩; have H2 := Lib.hid (And.intro hB (H1.out.2.trans (grow_below hg (Nat.le_of_lt H1.out.1.lt)))); clear hB hg H1) | (go_at_call 14; refine (a2 H2.out.1).mono ?_; rintro e w3 ⟨rfl, hB, hg⟩; have H3 := Lib.hid (And.intro hB (H2.out.2.trans (grow_below hg (Nat.le_of_lt H2.out.1.lt)))); clear hB hg H2) | (go_at_call 14; refine (a3 H3.out.1).mono ?_; rintro e w4 ⟨rfl, hB, hg⟩; have H4 := Lib.hid (And.intro hB (H3.out.2.trans (grow_below hg (Nat.le_of_lt H3.out.1.lt)))); clear hB hg H3) | (go_at_call 13; refine (a4 H4.out.1).mono ?_; rintro e w5 ⟨⟨A, c, rfl, ha⟩, hb⟩; have H5 := Lib.hid (And.intro (H4.out.1.keep (hb.block _ H4.out.1.lt)) (And.intro (H4.out.2.trans (hb.mono H4.out.2.size)) ha)); clear ha hb H4) | (go_at_call 22; refine (same22 (H5.out.2.2.below (below_box _ _)) (blk_lit2 w5 3 0 6 1)).mono ?_; rintro e w6 ⟨rfl, n, hw6⟩; have H6 := Lib.hid (show BuL w6 w.heap.size 3 [(0, 1), (2, 0), (4, 1)] ∧ Below w.heap.size w w6 from by subst hw6; exact ⟨H5.out.1.keep (alloc_old _ _ _ H5.out.1.lt), below_drewN (H5.out.2.1.alloc H5.out.2.1.size _) _⟩); clear hw6 H5) | (go_at_call 14; refine (a5 H6.out.1).mono ?_; rintro e w7 ⟨rfl, hB, hg⟩; have H7 := Lib.hid (And.intro hB (H6.out.2.trans (grow_below hg (Nat.le_of_lt H6.out.1.lt)))); clear hB hg H6) | (go_at_call 18; refine (a6 H7.out.1).mono ?_; rintro e w8 ⟨rfl, hb⟩; have H8 := Lib.hid (And.intro (H7.out.1.keep (hb.block _ H7.out.1.lt)) (H7.out.2.trans (hb.mono H7.out.2.size))); clear hb H7) | (go_at_call 21; refine (a7 H8.out.1).mono ?_; rintro e w9 ⟨rfl, hB, hg⟩; have H9 := Lib.hid (And.intro hB (H8.out.2.trans (grow_below hg (Nat.le_of_lt H8.out.1.lt)))); clear hB hg H8) | (go_at_call 21; refine (a8 H9.out.1).mono ?_; rintro e w10 ⟨rfl, hB, hg⟩; have H10 := Lib.hid (And.intro hB (H9.out.2.trans (grow_below hg (Nat.le_of_lt H9.out.1.lt)))); clear hB hg H9) | (go_at_call 21; refine (a8b H10.out.1).mono ?_; rintro e w11 ⟨rfl, hB, hg⟩; have H11 := Lib.hid (And.intro hB (H10.out.2.trans (grow_below hg (Nat.le_of_lt H10.out.1.lt)))); clear hB hg H10) | (go_at_call 14; refine (a9 H11.out.1).mono ?_; rintro e w12 ⟨rfl, hB, hg⟩; have H12 := Lib.hid (And.intro hB (H11.out.2.trans (grow_below hg (Nat.le_of_lt H11.out.1.lt)))); clear hB hg H11))
  go_ret
  exact ⟨rfl, H12.out.2⟩
end Bu
end Go.Proofs.Ytdanhbbdkcbapaa
namespace Go.Proofs.Ytdanhbbdkcbapaa
open Go.RowKit
namespace Bu

theorem zb_map_inj {A B : List Blk} (h : A.map zb = B.map zb) : A = B := by
  induction A generalizing B with
  | nil => cases B with
    | nil => rfl
    | cons y B => cases h
  | cons x A ih =>
    cases B with
    | nil => cases h
    | cons y B =>
      simp only [List.map_cons, List.cons.injEq] at h
      rw [zb_inj h.1, ih h.2]

theorem same_self (w : World) (N : Nat) (A B : Option Addr) (c d : Nat) (L : List Blk) (h1 : BlkAt w A c L) (h2 : BlkAt w B d L) :
    Calls Try.prog 19 #[sv N A L.length c, sv N B L.length d] w fun e w' => e = .returned (.bool true) ∧ Below w.heap.size w w' := by
  have := same_ok w N N A B c d L L h1 h2
  rw [decide_eq_true (show ((N : Int) = (N : Int) ∧ L = L) from ⟨rfl, rfl⟩)] at this
  exact this

/-- Below, step by step. -/
theorem below_step {n : Nat} {a b c : World} (h : Below n a b) (k : Below b.heap.size b c) (hn : n ≤ a.heap.size) : Below n a c := h.trans (k.mono (Nat.le_trans hn h.size))
theorem below_step' {n : Nat} {a b c : World} (h : Below n a b) (k : Below (World.drew b).heap.size (World.drew b) c) (hn : n ≤ a.heap.size) : Below n a c := below_step h ⟨k.os, k.tape, k.output, k.size, k.block⟩ hn

set_option maxRecDepth 100000 in
set_option maxHeartbeats 4000000 in
theorem loads_walk (w : World) (N : Int) (A : Option Addr) (c : Nat) (L : List (Int × Int)) (h : ZAt w A c L) :
    Calls Try.prog 5 #[sv N A L.length c] w fun e w' => e = .returned (.bool true) ∧ Below w.heap.size w w' := by
  have hg1 := blk_new w (.int .i64 N) (.slice A L.length c) 24
  have hb0 := below_box w (.cells #[.int .i64 N, .slice A L.length c] 24)
  obtain ⟨W1, hW1⟩ : ∃ W1, W1 = w.alloc (.cells #[.int .i64 N, .slice A L.length c] 24) := ⟨_, rfl⟩
  rw [← hW1] at hg1 hb0
  have hs1 : W1.heap.size = w.heap.size + 1 := by rw [hW1]; simp
  have hz := two_cells hg1
  obtain ⟨b1, b2, _, _⟩ := hz
  have HX := Lib.hid (And.intro (h.below hb0) (And.intro hb0 hs1))
  have HW := Lib.hid hW1
  clear h hb0 hs1 hg1 hW1
  by_cases h2000 : L.length > 2000
  · have t1 : (L.length : Int) > 2000 := by omega
    have HS := Lib.hid (shown_ok W1)
    go_enter Try.func5, Try.ntmps5
    go_wp2_with (fail)
    rw [← HW.out]
    go_wp2_with (go_at_call 11; refine HS.out.mono ?_; rintro e w' ⟨rfl, hb⟩; have H5 := Lib.hid hb; clear hb)
    go_ret
    exact ⟨rfl, HX.out.2.1.trans (H5.out.mono (by have := HX.out.2.2; omega))⟩
  · have t1 : ¬ (L.length : Int) > 2000 := by omega
    have HL := Lib.hid (load_ok W1 N A c L HX.out.1)
    go_enter Try.func5, Try.ntmps5
    go_wp2_with (fail)
    rw [← HW.out]
    go_wp2_with (go_at_call 12; fail)
    refine HL.out.mono ?_
    rintro e w2 ⟨hb2, ⟨hck, rfl⟩ | ⟨hck, b, M, B, hNM, hLB, rfl, hBL, hbw⟩⟩
    · have c1 := cell_keep2 hb2 b1
      have c2 := cell_keep2 hb2 b2
      have hC := check_ok w2 N A c L (HX.out.1.below hb2)
      obtain ⟨r, hr⟩ : ∃ r, r = checkV N L := ⟨_, rfl⟩
      rw [← hr] at hC hck ⊢
      have HC := Lib.hid hC
      have HB := Lib.hid hb2
      have t2 : (r == r) = true := by simp
      have t3 : (r == 0) = false := by rw [beq_eq_false_iff_ne]; exact hck
      clear hC hb2 hr hck
      go_wp2_with (first | (go_at_call 10; refine HC.out.mono ?_; rintro e w3 ⟨rfl, hb⟩; have H3 := Lib.hid hb; clear hb) | (go_at_call 11; refine (shown_ok _).mono ?_; rintro e w4 ⟨rfl, hb⟩; have H4 := Lib.hid hb; clear hb))
      go_ret
      refine ⟨rfl, HX.out.2.1.trans ((HB.out.trans ((H3.out.trans (H4.out.mono H3.out.size)).mono HB.out.size)).mono (by have := HX.out.2.2; omega))⟩
    · have c1 := cell_keep2 hb2 b1
      have c2 := cell_keep2 hb2 b2
      have hC := check_ok w2 N A c L (HX.out.1.below hb2)
      rw [hck] at hC
      subst hNM
      subst hLB
      have hlen : (B.map zb).length = B.length := List.length_map _
      simp only [hlen] at *
      have hBk : BlkAt w2 A c B := HX.out.1.below hb2
      have HC := Lib.hid hC
      have HB := Lib.hid (And.intro hb2 (And.intro hBL (And.intro hbw hBk)))
      clear hC hb2 hck hBL hbw hBk hlen
      go_wp2_with (go_at_call 10; refine HC.out.mono ?_; rintro e w3 ⟨rfl, hb⟩; have c3 := cell_keep2 hb c1; have c4 := cell_keep2 hb c2; have H3 := Lib.hid hb; clear hb)
      have HS3 := Lib.hid (And.intro (HB.out.2.1.keep (H3.out.block _ HB.out.2.1.lt)) (HB.out.2.2.2.below H3.out))
      go_region_with (first | (go_at_call 20; refine (save_ok (World.drew w3) b M B HS3.out.1).mono ?_; rintro e w4 ⟨⟨A4, d4, rfl, ho⟩, hb⟩; have c5 : w4.cell? ⟨w.heap.size, 0, none⟩ = some (.int .i64 (M : Int)) := cell_keep2 (w1 := World.drew w3) hb c3; have c6 : w4.cell? ⟨w.heap.size, 1, none⟩ = some (.slice A B.length c) := cell_keep2 (w1 := World.drew w3) hb c4; have hB4 : BlkAt w4 A c B := HS3.out.2.keep hb.size (fun g _ hg => hb.block g hg); have H4 := Lib.hid (And.intro ho (And.intro hb hB4)); clear ho hb hB4) | (go_at_call 19; refine (same_self w4 M A4 A d4 c B H4.out.1.at.1 H4.out.2.2).mono ?_; rintro e w5 ⟨rfl, hb⟩; have H5 := Lib.hid hb; clear hb) | (go_at_call 11; refine (shown_ok _).mono ?_; rintro e w6 ⟨rfl, hb⟩; have H6 := Lib.hid hb; clear hb))
      all_goals
        go_wp2_with (fail)
        go_ret
        have hw := Nat.le_refl w.heap.size
        exact ⟨rfl, below_step (below_step (below_step' (below_step (below_step HX.out.2.1 HB.out.1 hw) H3.out hw) H4.out.2.1 hw) H5.out hw) H6.out hw⟩
end Bu
end Go.Proofs.Ytdanhbbdkcbapaa
namespace Go.Proofs.Ytdanhbbdkcbapaa
open Go.RowKit
namespace Bu

theorem next_le {N : Nat} {pre L : List Blk} {x : Blk} (hS : St N (pre ++ x :: L)) : nextB pre ≤ x.1 := by
  rcases List.eq_nil_or_concat pre with rfl | ⟨M, y, rfl⟩
  · exact Nat.zero_le _
  · rw [List.concat_eq_append] at hS ⊢
    rw [nextB_add]
    exact (List.pairwise_append.1 hS.asc).2.2 y (by simp) x (List.mem_cons_self ..)

theorem chkZ_of {N : Nat} (hN : N ≤ 10) : ∀ (L pre : List Blk), St N (pre ++ L) → chkZ N (nextB pre : Int) (L.map zb) = true := by
  intro L
  induction L with
  | nil => intro pre _; rw [List.map_nil, chkZ]
  | cons x L ih =>
    intro pre hS
    have hx := hS.inb x (by simp)
    have hle := next_le hS
    rw [List.map_cons, chkZ_next]
    have e1 : inZ N (zb x).1 (zb x).2 = true := by
      show inZ N (x.1 : Int) (x.2 : Int) = true
      rw [inZ_nat hN, decide_eq_true_eq]; exact hx
    have e2 : decide ((nextB pre : Int) ≤ (zb x).1) = true := by
      rw [decide_eq_true_eq]
      show (nextB pre : Int) ≤ (x.1 : Int)
      omega
    rw [e1, e2]
    have := ih (pre ++ [x]) (by rw [List.append_assoc]; exact hS)
    rw [nextB_add] at this
    have e3 : (zb x).1 + ((2 ^ (zb x).2.toNat : Nat) : Int) = ((x.1 + 2 ^ x.2 : Nat) : Int) := by
      show (x.1 : Int) + ((2 ^ ((x.2 : Nat) : Int).toNat : Nat) : Int) = _
      rw [Int.toNat_natCast]; omega
    rw [e3, this]; rfl

/-- A valid list passes Check. -/
theorem check_of {N : Nat} {L : List Blk} (hS : St N L) : checkV (N : Int) (L.map zb) = 0 := by
  have hn := hS.n10
  unfold checkV
  rw [if_pos (by omega), Int.toNat_natCast]
  have h : chkZ N 0 (L.map zb) = true := chkZ_of hn L [] hS
  rw [if_pos h]

/-- Load of a valid state. -/
theorem load_st {w : World} {N c : Nat} {A : Option Addr} {L : List Blk} (h : BlkAt w A c L) (hS : St N L) :
    Calls Try.prog 12 #[sv N A L.length c] w fun e w' => ∃ b, e = .returned (.tuple #[.pointer (some ⟨b, 0, none⟩), .int .i64 0]) ∧ BuL w' b N L ∧ w.heap.size ≤ b ∧ Below w.heap.size w w' := by
  have hl := load_ok w (N : Int) A c (L.map zb) h
  rw [List.length_map] at hl
  refine hl.mono ?_
  rintro e w' ⟨hb, ⟨h1, _⟩ | ⟨_, b, M, B, hN, hL, he, hB, hbw⟩⟩
  · exact absurd (check_of hS) h1
  · obtain rfl : N = M := by omega
    obtain rfl := zb_map_inj hL
    exact ⟨b, he, hB, hbw, hb⟩
end Bu
end Go.Proofs.Ytdanhbbdkcbapaa
