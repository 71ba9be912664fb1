/- What the program's calls do to an allocator that has given a list of blocks. Alloc, AllocAt, Free, Room, Largest and Owner, said of lists of blocks. Load. The examples of the document. -/
import Derived.Test.YtlknhbcambdccaaK11
import Derived.Deep.RegionWith
import Derived.StillTailTactics
import Derived.Outline
namespace Go.Proofs.Ytlknhbcambdccaa
open Go.RowKit
namespace Bu

theorem bu_lists {w : World} {b N : Nat} {Fr Gv : Nat → Nat → Bool} (h : Bu w b N Fr Gv) : ListsAt w b 2 Fr ∧ ListsAt w b 178 Gv := ⟨fun _ hk => h.free hk, fun _ hk => h.given hk⟩

theorem sorted_own {w' : World} {B c : Nat} {A : Option Addr} {M : List PB} {L : List Blk} (h : w'.ownsRow B 126 2 (.slice A M.length c) M.length (cellsB M)) (hm : M.map toBlk = L) : Own w' B A c L ∧ M.length = L.length := by
  subst hm
  rw [cells_blk] at h
  refine ⟨?_, by simp⟩
  unfold Own
  rw [List.length_map]
  exact h

theorem freeS_ok (w : World) (b N : Nat) (L : List Blk) (Fr Gv : Nat → Nat → Bool) (h : Bu w b N Fr Gv) (hs : Sem N Fr Gv (LG L)) (hS : St N L) :
    Calls Try.prog 48 #[.pointer (some ⟨b, 2, none⟩)] w fun e w' => (∃ A c, e = .returned (.slice A (blocksB N L).length c) ∧ Own w' w.heap.size A c (blocksB N L)) ∧ Below w.heap.size w w' := by
  refine (sorted_ok w b 2 Fr h.lt (bu_lists h).1).mono ?_
  rintro e w' ⟨A, c, M, he, hp, ho, hr, hb⟩
  obtain ⟨h1, h2⟩ := sorted_own hr (free_is hs hS hp ho)
  exact ⟨⟨A, c, by rw [he, h2], h1⟩, hb⟩
theorem givenS_ok (w : World) (b N : Nat) (L : List Blk) (Fr Gv : Nat → Nat → Bool) (h : Bu w b N Fr Gv) (hs : Sem N Fr Gv (LG L)) (hS : St N L) :
    Calls Try.prog 48 #[.pointer (some ⟨b, 178, none⟩)] w fun e w' => (∃ A c, e = .returned (.slice A L.length c) ∧ Own w' w.heap.size A c L) ∧ Below w.heap.size w w' := by
  refine (sorted_ok w b 178 Gv h.lt (bu_lists h).2).mono ?_
  rintro e w' ⟨A, c, M, he, hp, ho, hr, hb⟩
  obtain ⟨h1, h2⟩ := sorted_own hr (given_is hs hS hp ho)
  exact ⟨⟨A, c, by rw [he, h2], h1⟩, hb⟩

set_option maxRecDepth 100000 in
set_option maxHeartbeats 1000000 in
theorem blocks_ok (w : World) (b N : Nat) (L : List Blk) (h : BuL w b N L) :
    Calls Try.prog 45 #[.pointer (some ⟨b, 0, none⟩)] w fun e w' => (∃ A c, e = .returned (.tuple #[.slice A (blocksB N L).length c, .int .i64 0]) ∧ Own w' w.heap.size A c (blocksB N L)) ∧ Below w.heap.size w w' := by
  obtain ⟨⟨Fr, Gv, hB, hs⟩, hS⟩ := h
  have HI := Lib.hid (is_ok w b N Fr Gv hB)
  have HS := Lib.hid (freeS_ok w b N L Fr Gv hB hs hS)
  clear hB hs hS
  go_enter Try.func45, Try.ntmps45
  go_wp2_with (first | (go_at_call 47; refine HI.out.mono ?_; rintro e w' ⟨rfl, rfl⟩) | (go_at_call 48; refine HS.out.mono ?_; rintro e w' ⟨⟨A, c, rfl, ho⟩, hb⟩; have H5 := Lib.hid (And.intro ho hb); clear ho hb))
  go_ret2
  exact ⟨⟨A, c, rfl, H5.out.1⟩, H5.out.2⟩

set_option maxRecDepth 100000 in
set_option maxHeartbeats 2000000 in
theorem save_ok (w : World) (b N : Nat) (L : List Blk) (h : BuL w b N L) :
    Calls Try.prog 18 #[.pointer (some ⟨b, 0, none⟩)] w fun e w' => (∃ A c, e = .returned (sv N A L.length c) ∧ Own w' w.heap.size A c L) ∧ Below w.heap.size w w' := by
  obtain ⟨⟨Fr, Gv, hB, hs⟩, hS⟩ := h
  have hg2 := blk_new w (.int .i64 0) (.slice none 0 0) 46
  have hb0 := below_box w (.cells #[.int .i64 0, .slice none 0 0] 46)
  obtain ⟨W1, hW1⟩ : ∃ W1, W1 = w.alloc (.cells #[.int .i64 0, .slice none 0 0] 46) := ⟨_, rfl⟩
  rw [← hW1] at hg2 hb0
  have hs1 : W1.heap.size = w.heap.size + 1 := by rw [hW1]; simp
  have hB1 : Bu W1 b N Fr Gv := hB.keep (hb0.block b hB.lt)
  have n1 := hB1.head.2
  have hz := two_cells hg2
  obtain ⟨c1, c2, f1, f2⟩ := hz
  have HI := Lib.hid (is_ok W1 b N Fr Gv hB1)
  have hSo := fun W (hb : ∀ b : Nat, W.heap[b]? = W1.heap[b]?) => givenS_ok W b N L Fr Gv (hB1.keep (hb b)) hs hS
  have HS := Lib.hid hSo
  have HG := Lib.hid (And.intro hb0 (And.intro hs1 hg2))
  have HW := Lib.hid hW1
  clear hg2 hb0 hW1 hs1 hB1 hB hs hS hSo
  go_enter Try.func18, Try.ntmps18
  go_wp2_with (fail)
  rw [← HW.out]
  go_wp2_with (go_at_call 47; refine HI.out.mono ?_; rintro e w' ⟨rfl, rfl⟩)
  go_region_with (go_at_call 48; refine (HS.out W1.drew (fun _ => rfl)).mono ?_; rintro e w6 ⟨⟨A6, d6, rfl, hown⟩, hb6⟩; have hn3 : w6.heap[w.heap.size]? = some (.cells #[.int .i64 0, .slice none 0 0] 46 (0, 0)) := (hb6.block w.heap.size (lt_of_heap HG.out.2.2)).trans HG.out.2.2; obtain ⟨c3, c4, f3, f4⟩ := two_cells hn3; have n2 : w6.cell? ⟨b, 1, none⟩ = some (.int .i64 (N : Int)) := (hb6.cell (p := ⟨b, 1, none⟩) (World.block_lt_of_cell? _ _ n1)).trans n1; have H6 := Lib.hid (And.intro hown (And.intro hb6 (two_set hn3 (.int .i64 (N : Int)) (.slice A6 L.length d6)))); clear hown hb6 hn3)
  all_goals
    go_wp2_with (fail)
    obtain ⟨q4, q5, _, _⟩ := two_cells H6.out.2.2
    have hsz := HG.out.2.1
    refine bodyPost_ret (v := sv N A6 L.length d6) (by simp [results, Try.results18, go_sem, q4, q5]) rfl ⟨⟨A6, d6, rfl, ?_⟩, ?_⟩
    · refine row_low (row_keep H6.out.1 fun b hb _ => ?_) (show w.heap.size ≤ W1.heap.size by omega)
      have hb : W1.heap.size ≤ b := hb
      exact (setCell_far _ _ _ _ (by show b ≠ w.heap.size; omega)).trans (setCell_far _ _ _ _ (by show b ≠ w.heap.size; omega))
    · have h6 : Below W1.heap.size W1 w6 := ⟨H6.out.2.1.os, H6.out.2.1.tape, H6.out.2.1.output, H6.out.2.1.size, H6.out.2.1.block⟩
      exact (((HG.out.1.trans (h6.mono (by omega))).setCell (p := ⟨w.heap.size, 0, none⟩) (Nat.le_refl _) _).setCell (p := ⟨w.heap.size, 1, none⟩) (Nat.le_refl _) _)
end Bu
end Go.Proofs.Ytlknhbcambdccaa
namespace Go.Proofs.Ytlknhbcambdccaa
open Go.RowKit
namespace Bu

theorem inZ_iff {N : Nat} (hN : N ≤ 10) (p n : Int) : inZ N p n = true ↔ (0 ≤ n ∧ n ≤ N ∧ 0 ≤ p ∧ p < 2 ^ N ∧ p.toNat % 2 ^ n.toNat = 0) := by
  have e2 : ((2 : Int) ^ N) = ((2 ^ N : Nat) : Int) := by rw [Int.natCast_pow]; rfl
  rw [e2]
  constructor
  · intro h
    obtain ⟨q, k, rfl, rfl, h1, h2, h3⟩ := inZ_true h
    have h1 : k ≤ N := h1
    have h3 : q + 2 ^ k ≤ 2 ^ N := h3
    have := pow_pos2 k
    exact ⟨by omega, by omega, by omega, by omega, by simpa using h2⟩
  · rintro ⟨h1, h2, h3, h4, h5⟩
    obtain ⟨k, rfl⟩ := Int.eq_ofNat_of_zero_le h1
    obtain ⟨q, rfl⟩ := Int.eq_ofNat_of_zero_le h3
    rw [inZ_nat hN, decide_eq_true_eq]
    have h5 : q % 2 ^ k = 0 := by simpa using h5
    refine ⟨by show k ≤ N; omega, h5, ?_⟩
    have := (nested (k := k) (n := N) (q := 0) (x := q) h5 (by simp) (by omega) (Nat.le_refl _) (by have := pow_pos2 k; omega) (Nat.zero_le _) (by omega)).2
    show q + 2 ^ k ≤ 2 ^ N
    omega

theorem inZ_false {N : Nat} (hN : N ≤ 10) {p n : Int} (h : inZ N p n = false) : ¬ (0 ≤ n ∧ n ≤ N ∧ 0 ≤ p ∧ p < 2 ^ N ∧ p.toNat % 2 ^ n.toNat = 0) := fun hn => by
  rw [(inZ_iff hN p n).2 hn] at h; cases h

theorem InB.parts {N : Nat} {x : Blk} (h : InB N x) : x.2 ≤ N ∧ x.1 < 2 ^ N ∧ x.1 % 2 ^ x.2 = 0 := ⟨h.1, by have := pow_pos2 x.2; have := h.2.2; omega, h.2.1⟩

/-- What Alloc does to the list. -/
def AllocL (b N : Nat) (L : List Blk) (n : Nat) (w : World) (e : Ending) (w' : World) : Prop :=
  Grow1 b w w' ∧ match allocB N L n with
  | none => e = .returned (.tuple #[.int .i64 0, .int .i64 5]) ∧ BuL w' b N L
  | some (p, L') => e = .returned (.tuple #[.int .i64 (p : Int), .int .i64 0]) ∧ BuL w' b N L'

theorem allocL_ok (w : World) (b N : Nat) (L : List Blk) (n : Nat) (h : BuL w b N L) (hn : n ≤ 10) :
    Calls Try.prog 39 #[.pointer (some ⟨b, 0, none⟩), .int .i64 (n : Int)] w fun e w' => AllocL b N L n w e w' := by
  obtain ⟨hB, hS⟩ := h
  refine (alloc_sem w b N n (LG L) hB hn).mono ?_
  intro e w' ⟨hG, hR⟩
  refine ⟨hG, ?_⟩
  have hbest := alloc_best hS n
  have hab : allocB N L n = (bestOf n none (blocksB N L)).map fun x => (x.1, putB L (x.1, n)) := rfl
  have hst := fun p L' => alloc_st (n := n) (p := p) (L' := L') hS
  rw [hab] at hst ⊢
  rcases hR with ⟨he, hB', hno⟩ | ⟨k, i, he, hk, hM, hmin, hlow, hB'⟩
  · cases e : bestOf n none (blocksB N L) with
    | none => exact ⟨he, hB', hS⟩
    | some x =>
      rw [e] at hbest
      obtain ⟨h1, h2, _⟩ := hbest
      obtain ⟨g1, g2⟩ := ((mem_blocks hS x).1 h1).sub h2
      have hnN : n ≤ N := g1.1
      refine absurd g2 (hno _ ?_ hnN)
      rw [Nat.div_lt_iff_lt_mul (pow_pos2 n), ← Nat.pow_add, Nat.sub_add_cancel hnN]
      exact g1.parts.2.1
  · have hx : IsFree N L (i * 2 ^ k, k) := ⟨Nat.mul_mod_left _ _, by rw [first]; exact hM⟩
    have hb2 : Best n (blocksB N L) (some (i * 2 ^ k, k)) := by
      refine ⟨(mem_blocks hS _).2 hx, hk, fun y hy hny => ?_⟩
      have hyf := (mem_blocks hS y).1 hy
      rcases Nat.lt_trichotomy y.2 k with h1 | h1 | h1
      · exact absurd hyf.2 (hmin y.2 hny h1 _)
      · refine .inr ⟨h1.symm, ?_⟩
        have := hyf.2
        rw [h1] at this
        have h2 := hlow _ this
        have h3 := mul_div hyf.1
        rw [h1] at h3
        show i * 2 ^ k ≤ y.1
        rw [← h3]
        exact Nat.mul_le_mul_right _ h2
      · exact .inl h1
    have e := best_one (asc_lt (blocks_asc hS)) hbest hb2
    rw [e] at hst ⊢
    refine ⟨he, ?_, hst _ _ rfl⟩
    have hm : i * 2 ^ k % 2 ^ n = 0 := mod_mul_of_le hk (Nat.mul_mod_left _ _)
    rw [LG_put (x := (i * 2 ^ k, n)) hm]
    obtain ⟨m, rfl⟩ := Nat.exists_eq_add_of_le hk
    have : i * 2 ^ (n + m) / 2 ^ n = i * 2 ^ (n + m - n) := by
      rw [Nat.add_sub_cancel_left, Nat.pow_add, Nat.mul_comm (2 ^ n), ← Nat.mul_assoc, Nat.mul_div_cancel _ (pow_pos2 n)]
    show Bud w' b N (add (LG L) n (i * 2 ^ (n + m) / 2 ^ n))
    rw [this]
    exact hB'

theorem allocL_bad (w : World) (b N : Nat) (L : List Blk) (k : Int) (h : BuL w b N L) (hk : ¬ (0 ≤ k ∧ k ≤ 10)) :
    Calls Try.prog 39 #[.pointer (some ⟨b, 0, none⟩), .int .i64 k] w fun e w' => e = .returned (.tuple #[.int .i64 0, .int .i64 7]) ∧ Below w.heap.size w w' := by
  obtain ⟨⟨Fr, Gv, hB, _⟩, _⟩ := h
  exact alloc_bad w b N k Fr Gv hB (by omega)

/-- What AllocAt does. -/
def AtL (b N : Nat) (L : List Blk) (x : Blk) (w : World) (e : Ending) (w' : World) : Prop :=
  Grow1 b w w' ∧ ((freeB L x.1 x.2 = true ∧ e = .returned (.int .i64 0) ∧ BuL w' b N (putB L x)) ∨ (freeB L x.1 x.2 = false ∧ e = .returned (.int .i64 8) ∧ BuL w' b N L))

theorem atL_ok (w : World) (b N : Nat) (L : List Blk) (x : Blk) (h : BuL w b N L) (hx : InB N x) :
    Calls Try.prog 66 #[.pointer (some ⟨b, 0, none⟩), .int .i64 (x.1 : Int), .int .i64 (x.2 : Int)] w fun e w' => AtL b N L x w e w' := by
  obtain ⟨hB, hS⟩ := h
  obtain ⟨h1, h2, h3⟩ := hx.parts
  refine (allocAt_ok w b N x.1 x.2 (LG L) hB h1 h2 h3).mono ?_
  intro e w' ⟨hG, hR⟩
  refine ⟨hG, ?_⟩
  have hf := freeB_iff hS.inb h3
  rcases hR with ⟨g1, g2, g3⟩ | ⟨g1, g2, g3⟩
  · exact .inl ⟨hf.2 g1, g2, by rw [LG_put h3]; exact g3, hS.put hx g1⟩
  · refine .inr ⟨?_, g2, g3, hS⟩
    cases e : freeB L x.1 x.2 with
    | false => rfl
    | true => exact absurd (hf.1 e) g1

theorem atL_bad (w : World) (b N : Nat) (L : List Blk) (p n : Int) (h : BuL w b N L) (hx : inZ N p n = false) :
    Calls Try.prog 66 #[.pointer (some ⟨b, 0, none⟩), .int .i64 p, .int .i64 n] w fun e w' => e = .returned (.int .i64 7) ∧ w = w' :=
  allocAt_bad w b N p n (LG L) h.1 (inZ_false h.2.n10 hx)

/-- What Free does. -/
def FreeL (b N : Nat) (L : List Blk) (x : Blk) (w : World) (e : Ending) (w' : World) : Prop :=
  Grow1 b w w' ∧ ((x ∈ L ∧ e = .returned (.int .i64 0) ∧ BuL w' b N (delB L x)) ∨ (x ∉ L ∧ e = .returned (.int .i64 9) ∧ BuL w' b N L))

theorem freeL_ok (w : World) (b N : Nat) (L : List Blk) (x : Blk) (h : BuL w b N L) (hx : InB N x) :
    Calls Try.prog 71 #[.pointer (some ⟨b, 0, none⟩), .int .i64 (x.1 : Int), .int .i64 (x.2 : Int)] w fun e w' => FreeL b N L x w e w' := by
  obtain ⟨hB, hS⟩ := h
  obtain ⟨h1, h2, h3⟩ := hx.parts
  by_cases hm : x ∈ L
  · refine (free_ok w b N x.1 x.2 (LG L) hB h1 h2 h3 ((mem_LG h3).2 hm)).mono ?_
    rintro e w' ⟨he, hG, hB'⟩
    exact ⟨hG, .inl ⟨hm, he, by rw [LG_del h3]; exact hB', hS.del⟩⟩
  · refine (free_not w b N x.1 x.2 (LG L) hB h1 h2 h3 (fun hg => hm ((mem_LG h3).1 hg))).mono ?_
    rintro e w' ⟨he, rfl⟩
    exact ⟨Grow1.refl _ _, .inr ⟨hm, he, hB, hS⟩⟩

theorem freeL_bad (w : World) (b N : Nat) (L : List Blk) (p n : Int) (h : BuL w b N L) (hx : inZ N p n = false) :
    Calls Try.prog 71 #[.pointer (some ⟨b, 0, none⟩), .int .i64 p, .int .i64 n] w fun e w' => e = .returned (.int .i64 7) ∧ w = w' :=
  free_bad w b N p n (LG L) h.1 (inZ_false h.2.n10 hx)

theorem list_of_perm {N : Nat} {Fr Gv : Nat → Nat → Bool} {L : List Blk} (h : Sem N Fr Gv (LG L)) (hS : St N L) : ∃ M : List PB, M.Perm (collB Fr 11) ∧ M.map toBlk = blocksB N L := by
  obtain ⟨M, hM⟩ : ∃ M, M = (collB Fr 11).mergeSort (fun x y => decide (x.1.val ≤ y.1.val)) := ⟨_, rfl⟩
  refine ⟨M, by rw [hM]; exact List.mergeSort_perm _ _, ?_⟩
  refine free_is h hS (by rw [hM]; exact List.mergeSort_perm _ _) ?_
  have := List.pairwise_mergeSort (le := fun (x y : PB) => decide (x.1.val ≤ y.1.val)) (fun a b c h1 h2 => by simp at *; omega) (fun a b => by simp; omega) (collB Fr 11)
  rw [hM]
  exact this.imp (by simp)

theorem roomL_ok (w : World) (b N : Nat) (L : List Blk) (n : Nat) (h : BuL w b N L) (hn : n ≤ 10) :
    Calls Try.prog 51 #[.pointer (some ⟨b, 0, none⟩), .int .i64 (n : Int)] w fun e w' => e = .returned (.tuple #[.int .i64 ((roomB n (blocksB N L) : Nat) : Int), .int .i64 0]) ∧ Below w.heap.size w w' := by
  obtain ⟨⟨Fr, Gv, hB, hs⟩, hS⟩ := h
  have := room_ok w b N n Fr Gv hB hS.n10 hn
  rw [room_is hs hS n hn (list_of_perm hs hS)] at this
  exact this

theorem roomL_bad (w : World) (b N : Nat) (L : List Blk) (k : Int) (h : BuL w b N L) (hk : ¬ (0 ≤ k ∧ k ≤ 10)) :
    Calls Try.prog 51 #[.pointer (some ⟨b, 0, none⟩), .int .i64 k] w fun e w' => e = .returned (.tuple #[.int .i64 0, .int .i64 7]) ∧ Below w.heap.size w w' := by
  obtain ⟨⟨Fr, Gv, hB, _⟩, _⟩ := h
  exact room_bad w b N k Fr Gv hB (by omega)

theorem largeB_spec : ∀ (l : List Blk) (a : Option Nat), match largeB a l with
    | some m => (∀ x ∈ l, x.2 ≤ m) ∧ (∀ v, a = some v → v ≤ m) ∧ ((∃ x ∈ l, x.2 = m) ∨ a = some m)
    | none => a = none ∧ l = [] := by
  intro l
  induction l with
  | nil =>
    intro a
    rw [largeB]
    cases a with
    | none => exact ⟨rfl, rfl⟩
    | some v => exact ⟨fun x hx => (by cases hx), fun u hu => (by injection hu with hu; omega), .inr rfl⟩
  | cons x l ih =>
    intro a
    rw [largeB]
    have h := ih (some (max (a.getD 0) x.2))
    cases e : largeB (some (max (a.getD 0) x.2)) l with
    | none => rw [e] at h; exact absurd h.1 (by simp)
    | some m =>
      rw [e] at h
      obtain ⟨h1, h2, h3⟩ := h
      have h4 := h2 _ rfl
      refine ⟨fun y hy => ?_, fun v hv => ?_, ?_⟩
      · rcases List.mem_cons.1 hy with rfl | hy
        · omega
        · exact h1 y hy
      · subst hv; simp at h4; omega
      · rcases h3 with ⟨y, hy, he⟩ | h3
        · exact .inl ⟨y, List.mem_cons_of_mem _ hy, he⟩
        · injection h3 with h3
          cases a with
          | none => exact .inl ⟨x, List.mem_cons_self .., by simp at h3; omega⟩
          | some v =>
            simp at h3
            by_cases e : v ≤ x.2
            · exact .inl ⟨x, List.mem_cons_self .., by omega⟩
            · exact .inr (by congr 1; omega)

theorem lastK_some {Fr : Nat → Nat → Bool} : ∀ {n k : Nat}, lastK Fr n = some k → k < n ∧ least (Fr k) ≠ none ∧ ∀ j, k < j → j < n → least (Fr j) = none := by
  intro n
  induction n with
  | zero => intro k h; rw [lastK] at h; cases h
  | succ n ih =>
    intro k h
    rw [lastK] at h
    cases e : least (Fr n) with
    | none =>
      rw [e] at h
      obtain ⟨h1, h2, h3⟩ := ih h
      refine ⟨by omega, h2, fun j g1 g2 => ?_⟩
      by_cases ej : j = n
      · subst ej; exact e
      · exact h3 j g1 (by omega)
    | some p =>
      rw [e] at h
      injection h with h
      subst h
      exact ⟨by omega, by rw [e]; simp, fun j g1 g2 => by omega⟩
theorem lastK_none {Fr : Nat → Nat → Bool} : ∀ {n : Nat}, lastK Fr n = none → ∀ j, j < n → least (Fr j) = none := by
  intro n
  induction n with
  | zero => intro _ j hj; omega
  | succ n ih =>
    intro h j hj
    rw [lastK] at h
    cases e : least (Fr n) with
    | none =>
      rw [e] at h
      by_cases ej : j = n
      · subst ej; exact e
      · exact ih h j (by omega)
    | some p => rw [e] at h; cases h

theorem least_free {N : Nat} {Fr Gv : Nat → Nat → Bool} {L : List Blk} (h : Sem N Fr Gv (LG L)) (hS : St N L) {k : Nat} (hk : k < 11) : least (Fr k) = none ↔ ∀ x ∈ blocksB N L, x.2 ≠ k := by
  rw [least_none]
  constructor
  · intro hn x hx e
    subst e
    have := (sem_free h hS (blocks_small hS x hx).1 hk).2 hx
    rw [hn _ (blocks_small hS x hx).1] at this
    cases this
  · intro hn p hp
    cases e : Fr k p with
    | false => rfl
    | true => exact absurd rfl (hn _ ((sem_free h hS hp hk).1 e))

theorem large_is {N : Nat} {Fr Gv : Nat → Nat → Bool} {L : List Blk} (h : Sem N Fr Gv (LG L)) (hS : St N L) : lastK Fr (N + 1) = largeB none (blocksB N L) := by
  have hn := h.n10
  have hsp := largeB_spec (blocksB N L) none
  cases e : lastK Fr (N + 1) with
  | none =>
    cases e2 : largeB none (blocksB N L) with
    | none => rfl
    | some m =>
      rw [e2] at hsp
      obtain ⟨h1, _, ⟨x, hx, hxm⟩ | h3⟩ := hsp
      · have hxN := ((mem_blocks hS x).1 hx).lt.2
        exact absurd rfl ((least_free h hS (by omega)).1 (lastK_none e x.2 (by omega)) x hx)
      · cases h3
  | some k =>
    obtain ⟨g1, g2, g3⟩ := lastK_some e
    have : ∃ x ∈ blocksB N L, x.2 = k := by
      refine Classical.byContradiction fun hno => g2 ((least_free h hS (by omega)).2 fun x hx he => hno ⟨x, hx, he⟩)
    obtain ⟨x, hx, hxk⟩ := this
    cases e2 : largeB none (blocksB N L) with
    | none => rw [e2] at hsp; rw [hsp.2] at hx; cases hx
    | some m =>
      rw [e2] at hsp
      obtain ⟨h1, _, ⟨y, hy, hym⟩ | h3⟩ := hsp
      · have h4 := h1 x hx
        by_cases em : k = m
        · rw [em]
        · have hyN := ((mem_blocks hS y).1 hy).lt.2
          exact absurd rfl ((least_free h hS (by omega)).1 (g3 y.2 (by omega) (by omega)) y hy)
      · cases h3

theorem ownerL_ok (w : World) (b N : Nat) (L : List Blk) (page : Nat) (h : BuL w b N L) (hp : page < 2 ^ N) :
    Calls Try.prog 61 #[.pointer (some ⟨b, 0, none⟩), .int .i64 (page : Int)] w fun e w' => e = .returned (OwnV (ownerB L page)) ∧ Below w.heap.size w w' := by
  obtain ⟨⟨Fr, Gv, hB, hs⟩, hS⟩ := h
  have h1024 := two_le hS.n10
  refine (owner_ok w b N page Fr Gv hB hS.n10 hp).mono ?_
  rintro e w' ⟨he, hb⟩
  refine ⟨?_, hb⟩
  rw [he]
  have hin : ∀ k, page / 2 ^ k * 2 ^ k ≤ page := fun k => Nat.div_mul_le_self _ _
  cases hk : fromK Gv page 0 11 with
  | none =>
    cases ho : ownerB L page with
    | none => rfl
    | some x =>
      obtain ⟨g1, g2, g3⟩ := ownerB_some ho
      have hx2 := (st_small hS x g1).2
      have := fromK_none _ _ hk x.2 (Nat.zero_le _) (by omega)
      have hal := (hS.inb x g1).2.1
      have e1 := (within hal).1 ⟨g2, g3⟩
      rw [e1, mul_div hal, (sem_given hs hS (st_small hS x g1).1 hx2).2 g1] at this
      cases this
  | some k =>
    obtain ⟨g1, g2, g3⟩ := fromK_some _ _ _ hk
    have hm := (sem_given hs hS (by have := hin k; omega) (by omega)).1 g3
    have hd := (within (k := k) (x := page) (Nat.mul_mod_left (page / 2 ^ k) (2 ^ k))).2 (by rw [first])
    rw [ownerB_of hS hm hd.1 hd.2]
    rfl

theorem ownerL_bad (w : World) (b N : Nat) (L : List Blk) (page : Int) (h : BuL w b N L) (hp : page < 0 ∨ ((2 ^ N : Nat) : Int) ≤ page) :
    Calls Try.prog 61 #[.pointer (some ⟨b, 0, none⟩), .int .i64 page] w fun e w' => e = .returned (.tuple #[.agg #[.int .i64 0, .int .i64 0], .int .i64 7]) ∧ Below w.heap.size w w' := by
  obtain ⟨⟨Fr, Gv, hB, _⟩, hS⟩ := h
  refine owner_bad w b N page Fr Gv hB hS.n10 ?_
  have e2 : ((2 : Int) ^ N) = ((2 ^ N : Nat) : Int) := by rw [Int.natCast_pow]; rfl
  rw [e2]; exact hp
end Bu
end Go.Proofs.Ytlknhbcambdccaa
namespace Go.Proofs.Ytlknhbcambdccaa
open Go.RowKit
namespace Bu

/-- Where the last block ends. -/
def nextB : List Blk → Nat
  | [] => 0
  | [x] => x.1 + 2 ^ x.2
  | _ :: y :: l => nextB (y :: l)
theorem nextB_add : ∀ (L : List Blk) (x : Blk), nextB (L ++ [x]) = x.1 + 2 ^ x.2 := by
  intro L
  induction L with
  | nil => intro x; rfl
  | cons y L ih =>
    intro x
    cases L with
    | nil => rfl
    | cons z L => exact ih x
theorem asc_snoc {L : List Blk} {y : Blk} (h : (L ++ [y]).Pairwise fun a b => a.1 + 2 ^ a.2 ≤ b.1) : ∀ x ∈ L, x.1 + 2 ^ x.2 ≤ y.1 := fun x hx => (List.pairwise_append.1 h).2.2 x hx y (List.mem_singleton.2 rfl)
theorem nextB_le {L : List Blk} (h : L.Pairwise fun a b => a.1 + 2 ^ a.2 ≤ b.1) : ∀ x ∈ L, x.1 + 2 ^ x.2 ≤ nextB L := by
  intro x hx
  rcases List.eq_nil_or_concat L with rfl | ⟨M, y, rfl⟩
  · cases hx
  · rw [List.concat_eq_append] at *
    rw [nextB_add]
    rcases List.mem_append.1 hx with hx | hx
    · have := asc_snoc h x hx; have := pow_pos2 y.2; omega
    · rw [List.mem_singleton] at hx; subst hx; exact Nat.le_refl _

theorem putB_end : ∀ {L : List Blk} {x : Blk}, (∀ y ∈ L, y.1 ≤ x.1) → putB L x = L ++ [x] := by
  intro L
  induction L with
  | nil => intro x _; rfl
  | cons y L ih =>
    intro x h
    rw [putB, if_neg (by have := h y (List.mem_cons_self ..); omega), ih fun z hz => h z (List.mem_cons_of_mem _ hz)]
    rfl

/-- A block is free behind a list just if it begins behind its end. -/
theorem free_next {N : Nat} {L : List Blk} {x : Blk} (hS : St N L) (hx : InB N x) (hlast : ∀ y ∈ L, y.1 < x.1) : freeB L x.1 x.2 = true ↔ nextB L ≤ x.1 := by
  rw [freeB_iff hS.inb hx.2.1]
  constructor
  · intro hf
    rcases List.eq_nil_or_concat L with rfl | ⟨M, y, rfl⟩
    · exact Nat.zero_le _
    · rw [List.concat_eq_append] at *
      rw [nextB_add]
      have hy := hlast y (by simp)
      rcases disj_of hS.inb hx hf (y := y) (by simp) with h | h
      · have := pow_pos2 x.2; omega
      · exact h
  · intro hn q hq hu
    rw [used_LG hS.inb] at hu
    unfold anyP hasP at hu
    obtain ⟨y, hy, h2⟩ := List.any_eq_true.1 hu
    rw [decide_eq_true_eq] at h2
    have := nextB_le hS.asc y hy
    have := (within hx.2.1).2 hq
    omega

/-- What Load returns. -/
def LoadL (w : World) (N : Int) (L : List (Int × Int)) (e : Ending) (w' : World) : Prop :=
  Below w.heap.size w w' ∧
  ((checkV N L ≠ 0 ∧ e = .returned (.tuple #[.pointer none, .int .i64 (checkV N L)])) ∨
   (checkV N L = 0 ∧ ∃ (b M : Nat) (B : List Blk), N = (M : Int) ∧ L = B.map zb ∧ e = .returned (.tuple #[.pointer (some ⟨b, 0, none⟩), .int .i64 0]) ∧ BuL w' b M B ∧ w.heap.size ≤ b))

theorem chkZ_next {N : Nat} {pre : List Blk} {x : Int × Int} {l : List (Int × Int)} :
    chkZ N (nextB pre : Int) (x :: l) = (inZ N x.1 x.2 && decide ((nextB pre : Int) ≤ x.1) && chkZ N (x.1 + ((2 ^ x.2.toNat : Nat) : Int)) l) := by rw [chkZ]

theorem grow_below {b : Nat} {W w' : World} (h : Grow1 b W w') (hb : b ≤ W.heap.size) : Below b W w' := ⟨h.os, h.tape, h.output, h.size, fun k hk => h.block k (by omega) (by omega)⟩
theorem zb_inj {x y : Blk} (h : zb x = zb y) : x = y := by
  have h1 : ((x.1 : Nat) : Int) = (y.1 : Int) := congrArg Prod.fst h
  have h2 : ((x.2 : Nat) : Int) = (y.2 : Int) := congrArg Prod.snd h
  exact Prod.ext (by omega) (by omega)

theorem at_yes {W : World} {b M : Nat} {pre : List Blk} {p n : Int} (h : BuL W b M pre) (hlast : ∀ y ∈ pre, (y.1 : Int) < p) (hok : inZ M p n = true ∧ (nextB pre : Int) ≤ p) :
    ∃ x : Blk, (p, n) = zb x ∧ Calls Try.prog 66 #[.pointer (some ⟨b, 0, none⟩), .int .i64 p, .int .i64 n] W fun e w' => e = .returned (.int .i64 0) ∧ Grow1 b W w' ∧ BuL w' b M (pre ++ [x]) := by
  obtain ⟨q, m, rfl, rfl, hin⟩ := inZ_true hok.1
  refine ⟨(q, m), rfl, ?_⟩
  have hl : ∀ y ∈ pre, y.1 < q := fun y hy => by have := hlast y hy; omega
  have hf := (free_next h.2 hin hl).2 (by have := hok.2; show nextB pre ≤ q; omega)
  refine (atL_ok W b M pre (q, m) h hin).mono ?_
  rintro e w' ⟨hG, ⟨_, he, hB⟩ | ⟨hf2, _⟩⟩
  · exact ⟨he, hG, by rw [putB_end fun y hy => Nat.le_of_lt (hl y hy)] at hB; exact hB⟩
  · rw [hf] at hf2; cases hf2

theorem at_no {W : World} {b M : Nat} {pre : List Blk} {p n : Int} (h : BuL W b M pre) (hlast : ∀ y ∈ pre, (y.1 : Int) < p) (hok : ¬ (inZ M p n = true ∧ (nextB pre : Int) ≤ p)) :
    ∃ r : Int, (r == 0) = false ∧ ∀ W' : World, W'.heap[b]? = W.heap[b]? → Calls Try.prog 66 #[.pointer (some ⟨b, 0, none⟩), .int .i64 p, .int .i64 n] W' fun e w' => e = .returned (.int .i64 r) ∧ Grow1 b W' w' := by
  cases e1 : inZ M p n with
  | false =>
    refine ⟨7, by decide, fun W' hg => ?_⟩
    refine (atL_bad W' b M pre p n (h.keep hg) e1).mono ?_
    rintro e w' ⟨he, rfl⟩
    exact ⟨he, Grow1.refl _ _⟩
  | true =>
    obtain ⟨q, m, rfl, rfl, hin⟩ := inZ_true e1
    have hl : ∀ y ∈ pre, y.1 < q := fun y hy => by have := hlast y hy; omega
    have hf := free_next h.2 hin hl
    refine ⟨8, by decide, fun W' hg => ?_⟩
    refine (atL_ok W' b M pre (q, m) (h.keep hg) hin).mono ?_
    rintro e w' ⟨hG, ⟨hf2, _⟩ | ⟨_, he, _⟩⟩
    · exact absurd ⟨e1, by have := hf.1 hf2; have : nextB pre ≤ q := this; omega⟩ hok
    · exact ⟨he, hG⟩

theorem ite_skip {c : Prop} [Decidable c] {A B : Prop} (hc : ¬ c) (h : B) : if c then A else B := by rw [if_neg hc]; exact h

attribute [local irreducible] wpStill
set_option maxRecDepth 100000 in
set_option maxHeartbeats 4000000 in
theorem load_ok (w : World) (N : Int) (A : Option Addr) (c : Nat) (L : List (Int × Int)) (h : ZAt w A c L) :
    Calls Try.prog 32 #[sv N A L.length c] w fun e w' => LoadL w N L e w' := by
  have hcap := h.2.1
  have hlc := h.1
  unfold maxLen at hcap
  have hg1 := blk_new w (.int .i64 N) (.slice A L.length c) 46
  have hb0 := below_box w (.cells #[.int .i64 N, .slice A L.length c] 46)
  obtain ⟨W1, hW1⟩ : ∃ W1, W1 = w.alloc (.cells #[.int .i64 N, .slice A L.length c] 46) := ⟨_, rfl⟩
  rw [← hW1] at hg1 hb0
  have hs1 : W1.heap.size = w.heap.size + 1 := by rw [hW1]; simp
  have hz := two_cells hg1
  obtain ⟨b1, b2, _, _⟩ := hz
  by_cases hN : 0 ≤ N ∧ N ≤ 10
  · obtain ⟨M, rfl⟩ := Int.eq_ofNat_of_zero_le hN.1
    have hM : M ≤ 10 := by omega
    have hck : checkV (M : Int) L = if chkZ M 0 L = true then 0 else 6 := by unfold checkV; rw [if_pos hN, Int.toNat_natCast]
    have hnew := new_ok W1 M hM
    have HN := Lib.hid hnew
    have hsem := sem_new hM
    have HX := Lib.hid (And.intro hb0 (And.intro hs1 (And.intro hg1 (And.intro hck (And.intro h hsem)))))
    have HW := Lib.hid hW1
    clear hb0 hs1 hg1 hW1 hnew hsem h hN hck
    go_enter Try.func32, Try.ntmps32
    go_wp2_with (fail)
    rw [← HW.out]
    go_wp2_with (go_at_call 15; refine HN.out.mono ?_; rintro e W2 ⟨rfl, hB2, hb2⟩; have c2 := cell_keep2 hb2 b2; have HB2 := Lib.hid (And.intro hB2 hb2); clear hB2 hb2)
    have hb2 := HB2.out.2
    have hs2 := hb2.size
    have hbl := HB2.out.1.lt
    obtain ⟨b, hbn⟩ : ∃ b, b = W1.heap.size := ⟨_, rfl⟩
    rw [← hbn]
    have hst0 : BuL W2 b M [] := by rw [hbn]; exact ⟨⟨_, _, HB2.out.1, HX.out.2.2.2.2.2⟩, st_nil hM⟩
    have HS0 := Lib.hid (And.intro hst0 (And.intro hbn hb2))
    clear hst0 hbn hb2
    go_loopw [20] (fun i wr => ∃ (k : Nat) (pre : List Blk), k ≤ L.length ∧ i = .int .i64 (k : Int) ∧ L.take k = pre.map zb ∧ BuL wr b M pre ∧ Below b W2 wr ∧ chkZ M 0 L = chkZ M (nextB pre : Int) (L.drop k)) (fun i _ => L.length - (intOf i).toNat)
    case atStart => exact ⟨0, [], Nat.zero_le _, rfl, rfl, HS0.out.1, Below.refl _ _, rfl⟩
    case round =>
      obtain ⟨k, pre, hk, rfl, htk, hBw, hbw, hck⟩ := hrel
      have hbW1 : w.heap.size + 1 = b := by have := HX.out.2.1; have := HS0.out.2.1; omega
      have d1 := (hbw.cell (p := ⟨w.heap.size, 0, none⟩) (by show w.heap.size < b; omega)).trans ((cell_keep2 HS0.out.2.2 b1))
      have d2 := (hbw.cell (p := ⟨w.heap.size, 1, none⟩) (by show w.heap.size < b; omega)).trans c2
      have hW1s := HX.out.2.1
      have hZ : ZAt wr A c L := HX.out.2.2.2.2.1.keep (by have := HX.out.1.size; have := HS0.out.2.2.size; have := hbw.size; omega) fun g _ hgl => (hbw.block g (by omega)).trans ((HS0.out.2.2.block g (by omega)).trans (HX.out.1.block g hgl))
      have hbl2 := hBw.lt
      by_cases hlt : k < L.length
      · obtain ⟨y, hy⟩ : ∃ y, L[k]? = some y := ⟨_, List.getElem?_eq_getElem hlt⟩
        have hd : L.drop k = y :: L.drop (k + 1) := by
          rw [List.drop_eq_getElem_cons hlt]
          congr 1
          rw [List.getElem?_eq_getElem hlt] at hy
          injection hy
        obtain ⟨g, o, hA, hg, f1, f2⟩ := hZ.2.2 k y hy
        obtain ⟨p, n⟩ := y
        dsimp only at f1 f2
        have e0 : (0 : Int) ≤ (k : Int) := by omega
        have e1 : (k : Int) < (L.length : Int) := by omega
        have hkk : IntKind.i64.wrap ((k : Int) + 1) = ((k + 1 : Nat) : Int) := by rw [IntWalk.i64_in _ (by omega)]; rfl
        have hwl : w.heap.size < wr.heap.size := by omega
        rcases List.eq_nil_or_concat pre with hnil | ⟨pre0, yl, hpre⟩
        · have hk0 : k = 0 := by
            have := congrArg List.length htk
            rw [hnil, List.length_take, Nat.min_eq_left hk] at this
            simpa using this
          have hlast : ∀ y ∈ pre, (y.1 : Int) < p := fun y hy => by rw [hnil] at hy; cases hy
          subst hA
          subst hk0
          have hz0 : ((0 : Nat) : Int) = 0 := rfl
          simp only [hz0] at *
          simp only [Nat.zero_mul, Nat.add_zero] at f1 f2
          clear hz0
          by_cases hok : inZ M p n = true ∧ (nextB pre : Int) ≤ p
          · obtain ⟨x, hx, hcall0⟩ := at_yes (hBw) hlast hok
            have hcall : ∀ W' : World, (∀ g : Nat, W'.heap[g]? = (wr.alloc (.cells #[.int .i64 p, .int .i64 n] 126)).heap[g]?) → Calls Try.prog 66 #[.pointer (some ⟨b, 0, none⟩), .int .i64 p, .int .i64 n] W' fun e w' => e = .returned (.int .i64 0) ∧ Grow1 b W' w' ∧ BuL w' b M (pre ++ [x]) := fun W' hg' => by
              obtain ⟨x', hx', hc⟩ := at_yes (W := W') (hBw.keep ((hg' b).trans (alloc_old _ _ _ hbl2))) hlast hok
              rw [zb_inj (hx.symm.trans hx')]; exact hc
            clear hcall0 hnil
            have hck2 : chkZ M 0 L = chkZ M (nextB (pre ++ [x]) : Int) (L.drop (0 + 1)) := by
              rw [hck, hd, chkZ_next, hok.1, decide_eq_true hok.2, nextB_add]
              have : (p, n) = zb x := hx
              injection this with e1 e2
              rw [e1, e2, Int.toNat_natCast]
              simp
            have htk2 : L.take (0 + 1) = (pre ++ [x]).map zb := by rw [List.take_succ_eq_append_getElem hlt, htk, List.map_append, List.map_singleton, ← hx]; rw [List.getElem?_eq_getElem hlt] at hy; injection hy with hy; rw [hy]
            have hbx : Below b W2 (wr.alloc (.cells #[.int .i64 p, .int .i64 n] 126)) := hbw.alloc (by omega) _
            have HF := Lib.hid (And.intro hck2 (And.intro htk2 hbx))
            have HC := Lib.hid hcall
            clear hck2 hck hd hbw hZ htk hBw htk2 hbx hcall hy hok hx hlast
            go_wp2_with (fail)
            refine wp_region_still_tail 20 (by kernel_rfl) (by kernel_rfl) ?_
            simp only [List.take_succ_cons, List.take_zero, List.drop_succ_cons, List.drop_zero]
            change wpStill _ _ (World.drew _) (fun a' => wpList _ _ _ _ a' (World.drew _)) _ _
            iterate 3 still_step
            iterate 10 (refine wpStill_step (fun K hK => ?_); refine ite_skip (fun h => absurd (show false = true from h) Bool.false_ne_true) ?_; go_simp; refine hK _ ?_; clear hK K)
            iterate 7 still_step
            refine wpStill_nil ?_
            go_wp2_with (go_at_call 66; refine (HC.out (World.drew (wr.alloc (.cells #[.int .i64 p, .int .i64 n] 126))) (fun _ => rfl)).mono ?_; rintro e w6 ⟨rfl, hg6, hB6⟩; have H6 := Lib.hid (And.intro hg6 hB6); clear hg6 hB6)
            all_goals
              go_wp2_with (fail)
              go_roundw
              case rel =>
                refine ⟨0 + 1, pre ++ [x], by omega, by go_num, HF.out.2.1, H6.out.2, ?_, HF.out.1⟩
                exact HF.out.2.2.trans (grow_below ⟨H6.out.1.os, H6.out.1.tape, H6.out.1.output, H6.out.1.size, H6.out.1.block⟩ (by show b ≤ (wr.alloc _).heap.size; simp; omega))
              case measure => simp [intOf]; omega

          · obtain ⟨r, hr, hcall0⟩ := at_no hBw hlast hok
            have hcall : ∀ W' : World, (∀ g : Nat, W'.heap[g]? = (wr.alloc (.cells #[.int .i64 p, .int .i64 n] 126)).heap[g]?) → Calls Try.prog 66 #[.pointer (some ⟨b, 0, none⟩), .int .i64 p, .int .i64 n] W' fun e w' => e = .returned (.int .i64 r) ∧ Grow1 b W' w' := fun W' hg' => hcall0 W' ((hg' b).trans (alloc_old _ _ _ hbl2))
            clear hcall0 hnil
            have hck2 : chkZ M 0 L = false := by
              rw [hck, hd, chkZ_next]
              cases e1 : inZ M p n with
              | false => rfl
              | true => rw [decide_eq_false (fun e2 => hok ⟨e1, e2⟩)]; rfl
            have hbx : Below b W2 (wr.alloc (.cells #[.int .i64 p, .int .i64 n] 126)) := hbw.alloc (by omega) _
            have HF := Lib.hid (And.intro hck2 hbx)
            have HC := Lib.hid hcall
            clear hck2 hck hd hbw hZ htk hBw hbx hcall hy hok hlast
            go_wp2_with (fail)
            refine wp_region_still_tail 20 (by kernel_rfl) (by kernel_rfl) ?_
            simp only [List.take_succ_cons, List.take_zero, List.drop_succ_cons, List.drop_zero]
            change wpStill _ _ (World.drew _) (fun a' => wpList _ _ _ _ a' (World.drew _)) _ _
            iterate 3 still_step
            iterate 10 (refine wpStill_step (fun K hK => ?_); refine ite_skip (fun h => absurd (show false = true from h) Bool.false_ne_true) ?_; go_simp; refine hK _ ?_; clear hK K)
            iterate 7 still_step
            refine wpStill_nil ?_
            go_wp2_with (go_at_call 66; refine (HC.out (World.drew (wr.alloc (.cells #[.int .i64 p, .int .i64 n] 126))) (fun _ => rfl)).mono ?_; rintro e w6 ⟨rfl, hg6⟩; have H6 := Lib.hid hg6; clear hg6)
            all_goals
              go_wp2_with (fail)
              go_ret2
              refine ⟨HX.out.1.trans (Below.mono (HS0.out.2.2.trans (Below.mono (HF.out.2.trans (grow_below ⟨H6.out.os, H6.out.tape, H6.out.output, H6.out.size, H6.out.block⟩ (by show b ≤ (wr.alloc _).heap.size; simp; omega))) (by have := HS0.out.2.1; omega))) (by have := HX.out.2.1; omega)), .inl ⟨?_, ?_⟩⟩
              · rw [HX.out.2.2.2.1, HF.out.1]; decide
              · rw [HX.out.2.2.2.1, HF.out.1]; rfl

        · rw [List.concat_eq_append] at hpre
          obtain ⟨j, hkj⟩ : ∃ j, k = j + 1 := ⟨pre0.length, by
            have := congrArg List.length htk
            rw [hpre, List.length_take, Nat.min_eq_left hk] at this
            simpa using this⟩
          have hyl : L[j]? = some (zb yl) := by
            have h1 : (L.take k)[j]? = L[j]? := List.getElem?_take_of_lt (by omega)
            have hj : j = pre0.length := by
              have := congrArg List.length htk
              rw [hpre, List.length_take, Nat.min_eq_left hk] at this
              simp at this
              omega
            rw [← h1, htk, hpre, hj]; simp
          obtain ⟨g', o', hA', _, f3, _⟩ := hZ.2.2 j (zb yl) hyl
          obtain ⟨rfl, rfl⟩ : g = g' ∧ o = o' := by rw [hA] at hA'; injection hA' with h1; injection h1 with h2 h3; exact ⟨h2, h3⟩
          replace f3 : wr.cell? ⟨g, o + j * 2, none⟩ = some (.int .i64 (yl.1 : Int)) := f3
          have t0 : (0 : Int) < (k : Int) := by omega
          have t1 : 0 < k := by omega
          have e2 : (0 : Int) ≤ (j : Int) := by omega
          have e3 : (j : Int) < (L.length : Int) := by omega
          have hsub : IntKind.i64.wrap ((k : Int) - 1) = (j : Int) := by rw [IntWalk.i64_in _ (by omega)]; omega
          have hsub2 : (k : Int) - 1 = (j : Int) := by omega
          have hsub3 : IntKind.i64.wrap (j : Int) = (j : Int) := IntWalk.i64_in _ (by omega)
          have hsub4 : wrap64 ((k : Int) - 1) = (j : Int) := by rw [← w64]; exact hsub
          subst hA
          clear hA' hyl hkj
          by_cases hpy : p ≤ (yl.1 : Int)
          · have hck2 : chkZ M 0 L = false := by
              rw [hck, hd, chkZ_next, decide_eq_false (by rw [hpre, nextB_add]; have := pow_pos2 yl.2; omega)]
              cases inZ M p n <;> rfl
            have hbx : Below b W2 (wr.alloc (.cells #[.int .i64 p, .int .i64 n] 126)) := hbw.alloc (by omega) _
            have HF := Lib.hid (And.intro hck2 hbx)
            clear hck2 hck hd hbw hZ htk hBw hbx hy hpre
            go_wp2_with (fail)
            go_quiet (fail)
            go_wp2_with (fail)
            go_ret2
            refine ⟨HX.out.1.trans (Below.mono (HS0.out.2.2.trans (Below.mono (below_drewN HF.out.2 _) (by have := HS0.out.2.1; omega))) (by have := HX.out.2.1; omega)), .inl ⟨?_, ?_⟩⟩
            · rw [HX.out.2.2.2.1, HF.out.1]; decide
            · rw [HX.out.2.2.2.1, HF.out.1]; rfl

          · have hlast : ∀ y ∈ pre, (y.1 : Int) < p := fun y hy => by
              rw [hpre] at hy
              rcases List.mem_append.1 hy with hy | hy
              · have := asc_snoc (by rw [← hpre]; exact hBw.2.asc) y hy
                have := pow_pos2 y.2
                omega
              · rw [List.mem_singleton] at hy; subst hy; omega
            have t5 : decide (p ≤ (yl.1 : Int)) = false := by simp; omega
            clear hpy
            by_cases hok : inZ M p n = true ∧ (nextB pre : Int) ≤ p
            · obtain ⟨x, hx, hcall0⟩ := at_yes (hBw) hlast hok
              have hcall : ∀ W' : World, (∀ g : Nat, W'.heap[g]? = (wr.alloc (.cells #[.int .i64 p, .int .i64 n] 126)).heap[g]?) → Calls Try.prog 66 #[.pointer (some ⟨b, 0, none⟩), .int .i64 p, .int .i64 n] W' fun e w' => e = .returned (.int .i64 0) ∧ Grow1 b W' w' ∧ BuL w' b M (pre ++ [x]) := fun W' hg' => by
                obtain ⟨x', hx', hc⟩ := at_yes (W := W') (hBw.keep ((hg' b).trans (alloc_old _ _ _ hbl2))) hlast hok
                rw [zb_inj (hx.symm.trans hx')]; exact hc
              clear hcall0 hpre
              have hck2 : chkZ M 0 L = chkZ M (nextB (pre ++ [x]) : Int) (L.drop (k + 1)) := by
                rw [hck, hd, chkZ_next, hok.1, decide_eq_true hok.2, nextB_add]
                have : (p, n) = zb x := hx
                injection this with e1 e2
                rw [e1, e2, Int.toNat_natCast]
                simp
              have htk2 : L.take (k + 1) = (pre ++ [x]).map zb := by rw [List.take_succ_eq_append_getElem hlt, htk, List.map_append, List.map_singleton, ← hx]; rw [List.getElem?_eq_getElem hlt] at hy; injection hy with hy; rw [hy]
              have hbx : Below b W2 (wr.alloc (.cells #[.int .i64 p, .int .i64 n] 126)) := hbw.alloc (by omega) _
              have HF := Lib.hid (And.intro hck2 (And.intro htk2 hbx))
              have HC := Lib.hid hcall
              clear hck2 hck hd hbw hZ htk hBw htk2 hbx hcall hy hok hx hlast
              go_wp2_with (fail)
              refine wp_region_still_tail 20 (by kernel_rfl) (by kernel_rfl) ?_
              simp only [List.take_succ_cons, List.take_zero, List.drop_succ_cons, List.drop_zero]
              change wpStill _ _ (World.drew _) (fun a' => wpList _ _ _ _ a' (World.drew _)) _ _
              iterate 20 still_step
              refine wpStill_nil ?_
              go_wp2_with (go_at_call 66; refine (HC.out (World.drew (wr.alloc (.cells #[.int .i64 p, .int .i64 n] 126))) (fun _ => rfl)).mono ?_; rintro e w6 ⟨rfl, hg6, hB6⟩; have H6 := Lib.hid (And.intro hg6 hB6); clear hg6 hB6)
              all_goals
                go_wp2_with (fail)
                go_roundw
                case rel =>
                  refine ⟨k + 1, pre ++ [x], by omega, by go_num, HF.out.2.1, H6.out.2, ?_, HF.out.1⟩
                  exact HF.out.2.2.trans (grow_below ⟨H6.out.1.os, H6.out.1.tape, H6.out.1.output, H6.out.1.size, H6.out.1.block⟩ (by show b ≤ (wr.alloc _).heap.size; simp; omega))
                case measure => simp [intOf]; omega

            · obtain ⟨r, hr, hcall0⟩ := at_no hBw hlast hok
              have hcall : ∀ W' : World, (∀ g : Nat, W'.heap[g]? = (wr.alloc (.cells #[.int .i64 p, .int .i64 n] 126)).heap[g]?) → Calls Try.prog 66 #[.pointer (some ⟨b, 0, none⟩), .int .i64 p, .int .i64 n] W' fun e w' => e = .returned (.int .i64 r) ∧ Grow1 b W' w' := fun W' hg' => hcall0 W' ((hg' b).trans (alloc_old _ _ _ hbl2))
              clear hcall0 hpre
              have hck2 : chkZ M 0 L = false := by
                rw [hck, hd, chkZ_next]
                cases e1 : inZ M p n with
                | false => rfl
                | true => rw [decide_eq_false (fun e2 => hok ⟨e1, e2⟩)]; rfl
              have hbx : Below b W2 (wr.alloc (.cells #[.int .i64 p, .int .i64 n] 126)) := hbw.alloc (by omega) _
              have HF := Lib.hid (And.intro hck2 hbx)
              have HC := Lib.hid hcall
              clear hck2 hck hd hbw hZ htk hBw hbx hcall hy hok hlast
              go_wp2_with (fail)
              refine wp_region_still_tail 20 (by kernel_rfl) (by kernel_rfl) ?_
              simp only [List.take_succ_cons, List.take_zero, List.drop_succ_cons, List.drop_zero]
              change wpStill _ _ (World.drew _) (fun a' => wpList _ _ _ _ a' (World.drew _)) _ _
              iterate 20 still_step
              refine wpStill_nil ?_
              go_wp2_with (go_at_call 66; refine (HC.out (World.drew (wr.alloc (.cells #[.int .i64 p, .int .i64 n] 126))) (fun _ => rfl)).mono ?_; rintro e w6 ⟨rfl, hg6⟩; have H6 := Lib.hid hg6; clear hg6)
              all_goals
                go_wp2_with (fail)
                go_ret2
                refine ⟨HX.out.1.trans (Below.mono (HS0.out.2.2.trans (Below.mono (HF.out.2.trans (grow_below ⟨H6.out.os, H6.out.tape, H6.out.output, H6.out.size, H6.out.block⟩ (by show b ≤ (wr.alloc _).heap.size; simp; omega))) (by have := HS0.out.2.1; omega))) (by have := HX.out.2.1; omega)), .inl ⟨?_, ?_⟩⟩
                · rw [HX.out.2.2.2.1, HF.out.1]; decide
                · rw [HX.out.2.2.2.1, HF.out.1]; rfl

      · obtain rfl : k = L.length := by omega
        rw [List.drop_length, chkZ] at hck
        rw [List.take_length] at htk
        have HF := Lib.hid (And.intro hck (And.intro htk (And.intro hBw hbw)))
        clear hck htk hBw hbw hZ
        have t0 : ¬ ((L.length : Nat) : Int) < (L.length : Int) := by omega
        go_wp2_with (fail)
        go_ret2
        refine ⟨HX.out.1.trans (Below.mono (HS0.out.2.2.trans (Below.mono HF.out.2.2.2 (by have := HS0.out.2.1; omega))) (by have := HX.out.2.1; omega)), .inr ⟨?_, b, M, pre, rfl, HF.out.2.1, rfl, HF.out.2.2.1, by omega⟩⟩
        rw [HX.out.2.2.2.1, HF.out.1]; rfl
  · have hck : checkV N L = 7 := if_neg hN
    have HN := Lib.hid (new_bad W1 N (by omega))
    have HX := Lib.hid (And.intro hb0 hck)
    have HW := Lib.hid hW1
    clear hb0 hs1 hg1 hW1 h hN hck
    go_enter Try.func32, Try.ntmps32
    go_wp2_with (fail)
    rw [← HW.out]
    go_wp2_with (go_at_call 15; refine HN.out.mono ?_; rintro e W2 ⟨rfl, rfl⟩)
    go_ret2
    exact ⟨HX.out.1, .inl ⟨by rw [HX.out.2]; decide, by rw [HX.out.2]; rfl⟩⟩
end Bu
end Go.Proofs.Ytlknhbcambdccaa
namespace Go.Proofs.Ytlknhbcambdccaa
open Go.RowKit
namespace Bu

theorem newL_ok (w : World) (N : Nat) (hN : N ≤ 10) : Calls Try.prog 15 #[.int .i64 (N : Int)] w fun e w' => e = .returned (.tuple #[.pointer (some ⟨w.heap.size, 0, none⟩), .int .i64 0]) ∧ BuL w' w.heap.size N [] ∧ Below w.heap.size w w' :=
  (new_ok w N hN).mono fun _ _ ⟨he, hB, hb⟩ => ⟨he, ⟨⟨_, _, hB, sem_new hN⟩, st_nil hN⟩, hb⟩

theorem al_some {w : World} {b N n p : Nat} {L L' : List Blk} (h : BuL w b N L) (hn : n ≤ 10) (he : allocB N L n = some (p, L')) :
    Calls Try.prog 39 #[.pointer (some ⟨b, 0, none⟩), .int .i64 (n : Int)] w fun e w' => e = .returned (.tuple #[.int .i64 (p : Int), .int .i64 0]) ∧ BuL w' b N L' ∧ Grow1 b w w' :=
  (allocL_ok w b N L n h hn).mono fun e w' ⟨hg, hm⟩ => by rw [he] at hm; exact ⟨hm.1, hm.2, hg⟩
theorem al_none {w : World} {b N n : Nat} {L : List Blk} (h : BuL w b N L) (hn : n ≤ 10) (he : allocB N L n = none) :
    Calls Try.prog 39 #[.pointer (some ⟨b, 0, none⟩), .int .i64 (n : Int)] w fun e w' => e = .returned (.tuple #[.int .i64 0, .int .i64 5]) ∧ BuL w' b N L ∧ Grow1 b w w' :=
  (allocL_ok w b N L n h hn).mono fun e w' ⟨hg, hm⟩ => by rw [he] at hm; exact ⟨hm.1, hm.2, hg⟩
theorem fr_some {w : World} {b N : Nat} {L L' : List Blk} {x : Blk} (h : BuL w b N L) (hx : InB N x) (hm : x ∈ L) (hL : delB L x = L') :
    Calls Try.prog 71 #[.pointer (some ⟨b, 0, none⟩), .int .i64 (x.1 : Int), .int .i64 (x.2 : Int)] w fun e w' => e = .returned (.int .i64 0) ∧ BuL w' b N L' ∧ Grow1 b w w' :=
  (freeL_ok w b N L x h hx).mono fun e w' ⟨hg, hr⟩ => by
    rcases hr with ⟨_, he, hB⟩ | ⟨hn, _⟩
    · exact ⟨he, by rw [← hL]; exact hB, hg⟩
    · exact absurd hm hn
theorem fr_none {w : World} {b N : Nat} {L : List Blk} {x : Blk} (h : BuL w b N L) (hx : InB N x) (hm : x ∉ L) :
    Calls Try.prog 71 #[.pointer (some ⟨b, 0, none⟩), .int .i64 (x.1 : Int), .int .i64 (x.2 : Int)] w fun e w' => e = .returned (.int .i64 9) ∧ BuL w' b N L ∧ Grow1 b w w' :=
  (freeL_ok w b N L x h hx).mono fun e w' ⟨hg, hr⟩ => by
    rcases hr with ⟨hn, _⟩ | ⟨_, he, hB⟩
    · exact absurd hn hm
    · exact ⟨he, hB, hg⟩

theorem s1 : allocB 3 [] 1 = some (0, [(0, 1)]) := by kernel_rfl
theorem s2 : allocB 3 [(0, 1)] 0 = some (2, [(0, 1), (2, 0)]) := by kernel_rfl
theorem s3 : allocB 3 [(0, 1), (2, 0)] 1 = some (4, [(0, 1), (2, 0), (4, 1)]) := by kernel_rfl
theorem s4 : blocksB 3 [(0, 1), (2, 0), (4, 1)] = [(3, 0), (6, 1)] := by kernel_rfl
theorem s5 : allocB 3 [(0, 1), (2, 0), (4, 1)] 2 = none := by kernel_rfl
theorem s6 : roomB 0 (blocksB 3 [(0, 1), (2, 0), (4, 1)]) = 3 := by kernel_rfl
theorem s7 : delB [(0, 1), (2, 0), (4, 1)] (0, 1) = [(2, 0), (4, 1)] := by kernel_rfl
theorem s8 : delB [(2, 0), (4, 1)] (2, 0) = [(4, 1)] := by kernel_rfl
theorem s9 : allocB 3 [(4, 1)] 2 = some (0, [(0, 2), (4, 1)]) := by kernel_rfl

theorem blk_lit2 (w : World) (a b c d : Nat) : BlkAt (w.alloc (.cells #[.int .i64 (a : Int), .int .i64 (b : Int), .int .i64 (c : Int), .int .i64 (d : Int)] 126)) (some ⟨w.heap.size, 0, none⟩) 2 [(a, b), (c, d)] := by
  have h : (w.alloc (.cells #[.int .i64 (a : Int), .int .i64 (b : Int), .int .i64 (c : Int), .int .i64 (d : Int)] 126)).heap[w.heap.size]? = some (.cells #[.int .i64 (a : Int), .int .i64 (b : Int), .int .i64 (c : Int), .int .i64 (d : Int)] 126 (0, 0)) := by rw [heapAlloc, if_pos rfl]
  refine ⟨Nat.le_refl _, by unfold maxLen; omega, fun j x hx => ⟨w.heap.size, 0, rfl, by simp, ?_⟩⟩
  rw [cell_of_row _ _ _ _ _ _ h, cell_of_row _ _ _ _ _ _ h]
  match j, hx with
  | 0, hx => injection hx with hx; subst hx; exact ⟨rfl, rfl⟩
  | 1, hx => injection hx with hx; subst hx; exact ⟨rfl, rfl⟩
  | j + 2, hx => simp at hx

theorem a1 {w : World} {b : Nat} (h : BuL w b 3 []) : Calls Try.prog 39 #[.pointer (some ⟨b, 0, none⟩), .int .i64 1] w fun e w' => e = .returned (.tuple #[.int .i64 0, .int .i64 0]) ∧ BuL w' b 3 [(0, 1)] ∧ Grow1 b w w' := al_some (n := 1) (p := 0) h (by decide) s1
theorem a2 {w : World} {b : Nat} (h : BuL w b 3 [(0, 1)]) : Calls Try.prog 39 #[.pointer (some ⟨b, 0, none⟩), .int .i64 0] w fun e w' => e = .returned (.tuple #[.int .i64 2, .int .i64 0]) ∧ BuL w' b 3 [(0, 1), (2, 0)] ∧ Grow1 b w w' := al_some (n := 0) (p := 2) h (by decide) s2
theorem a3 {w : World} {b : Nat} (h : BuL w b 3 [(0, 1), (2, 0)]) : Calls Try.prog 39 #[.pointer (some ⟨b, 0, none⟩), .int .i64 1] w fun e w' => e = .returned (.tuple #[.int .i64 4, .int .i64 0]) ∧ BuL w' b 3 [(0, 1), (2, 0), (4, 1)] ∧ Grow1 b w w' := al_some (n := 1) (p := 4) h (by decide) s3
theorem a9 {w : World} {b : Nat} (h : BuL w b 3 [(4, 1)]) : Calls Try.prog 39 #[.pointer (some ⟨b, 0, none⟩), .int .i64 2] w fun e w' => e = .returned (.tuple #[.int .i64 0, .int .i64 0]) ∧ BuL w' b 3 [(0, 2), (4, 1)] ∧ Grow1 b w w' := al_some (n := 2) (p := 0) h (by decide) s9
theorem a4 {w : World} {b : Nat} (h : BuL w b 3 [(0, 1), (2, 0), (4, 1)]) : Calls Try.prog 45 #[.pointer (some ⟨b, 0, none⟩)] w fun e w' => (∃ A c, e = .returned (.tuple #[.slice A 2 c, .int .i64 0]) ∧ BlkAt w' A c [(3, 0), (6, 1)]) ∧ Below w.heap.size w w' := by
  refine (blocks_ok w b 3 _ h).mono ?_
  rintro e w' ⟨⟨A, c, he, ho⟩, hb⟩
  rw [s4] at he ho
  exact ⟨⟨A, c, he, ho.at.1⟩, hb⟩
theorem a5 {w : World} {b : Nat} (h : BuL w b 3 [(0, 1), (2, 0), (4, 1)]) : Calls Try.prog 39 #[.pointer (some ⟨b, 0, none⟩), .int .i64 2] w fun e w' => e = .returned (.tuple #[.int .i64 0, .int .i64 5]) ∧ BuL w' b 3 [(0, 1), (2, 0), (4, 1)] ∧ Grow1 b w w' := al_none (n := 2) h (by decide) s5
theorem a6 {w : World} {b : Nat} (h : BuL w b 3 [(0, 1), (2, 0), (4, 1)]) : Calls Try.prog 51 #[.pointer (some ⟨b, 0, none⟩), .int .i64 0] w fun e w' => e = .returned (.tuple #[.int .i64 3, .int .i64 0]) ∧ Below w.heap.size w w' := by
  have := roomL_ok w b 3 _ 0 h (by decide)
  rw [s6] at this
  exact this
theorem a7 {w : World} {b : Nat} (h : BuL w b 3 [(0, 1), (2, 0), (4, 1)]) : Calls Try.prog 71 #[.pointer (some ⟨b, 0, none⟩), .int .i64 0, .int .i64 0] w fun e w' => e = .returned (.int .i64 9) ∧ BuL w' b 3 [(0, 1), (2, 0), (4, 1)] ∧ Grow1 b w w' := fr_none (x := (0, 0)) h (by decide) (by decide)
theorem a8 {w : World} {b : Nat} (h : BuL w b 3 [(0, 1), (2, 0), (4, 1)]) : Calls Try.prog 71 #[.pointer (some ⟨b, 0, none⟩), .int .i64 0, .int .i64 1] w fun e w' => e = .returned (.int .i64 0) ∧ BuL w' b 3 [(2, 0), (4, 1)] ∧ Grow1 b w w' := fr_some (x := (0, 1)) h (by decide) (by decide) s7
theorem a8b {w : World} {b : Nat} (h : BuL w b 3 [(2, 0), (4, 1)]) : Calls Try.prog 71 #[.pointer (some ⟨b, 0, none⟩), .int .i64 2, .int .i64 0] w fun e w' => e = .returned (.int .i64 0) ∧ BuL w' b 3 [(4, 1)] ∧ Grow1 b w w' := fr_some (x := (2, 0)) h (by decide) (by decide) s8
theorem same22 {w : World} {A B : Option Addr} {c d : Nat} (h1 : BlkAt w A c [(3, 0), (6, 1)]) (h2 : BlkAt w B d [(3, 0), (6, 1)]) : Calls Try.prog 50 #[.slice A 2 c, .slice B 2 d] w fun e w' => e = .returned (.bool true) ∧ ∃ n, w' = w.drewN n := sameB_ok w A B c d _ _ h1 h2

end Bu
end Go.Proofs.Ytlknhbcambdccaa
