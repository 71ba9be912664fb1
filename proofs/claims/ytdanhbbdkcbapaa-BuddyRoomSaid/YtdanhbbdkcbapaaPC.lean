/- Alloc, AllocAt, Free, Room, Largest and Owner, said of lists of blocks. -/
import Derived.Test.YtdanhbbdkcbapaaPB
namespace Go.Proofs.Ytdanhbbdkcbapaa
open Go.RowKit
namespace Bu

theorem inZ_iff {N : Nat} (hN : N ≤ 10) (p n : Int) : inZ N p n = true ↔ (0 ≤ n ∧ n ≤ N ∧ 0 ≤ p ∧ p < 2 ^ N ∧ p.toNat % 2 ^ n.toNat = 0) := by
  have e2 : ((2 : Int) ^ N) = ((2 ^ N : Nat) : Int) := by rw [Int.natCast_pow]; rfl
  rw [e2]
  constructor
  · intro h
    obtain ⟨q, k, rfl, rfl, h1, h2, h3⟩ := inZ_true h
    have h1 : k ≤ N := h1
    have h3 : q + 2 ^ k ≤ 2 ^ N := h3
    have := pow_pos2 k
    exact ⟨by omega, by omega, by omega, by omega, by simpa using h2⟩
  · rintro ⟨h1, h2, h3, h4, h5⟩
    obtain ⟨k, rfl⟩ := Int.eq_ofNat_of_zero_le h1
    obtain ⟨q, rfl⟩ := Int.eq_ofNat_of_zero_le h3
    rw [inZ_nat hN, decide_eq_true_eq]
    have h5 : q % 2 ^ k = 0 := by simpa using h5
    refine ⟨by show k ≤ N; omega, h5, ?_⟩
    have := (nested (k := k) (n := N) (q := 0) (x := q) h5 (by simp) (by omega) (Nat.le_refl _) (by have := pow_pos2 k; omega) (Nat.zero_le _) (by omega)).2
    show q + 2 ^ k ≤ 2 ^ N
    omega

theorem inZ_false {N : Nat} (hN : N ≤ 10) {p n : Int} (h : inZ N p n = false) : ¬ (0 ≤ n ∧ n ≤ N ∧ 0 ≤ p ∧ p < 2 ^ N ∧ p.toNat % 2 ^ n.toNat = 0) := fun hn => by
  rw [(inZ_iff hN p n).2 hn] at h; cases h

theorem InB.parts {N : Nat} {x : Blk} (h : InB N x) : x.2 ≤ N ∧ x.1 < 2 ^ N ∧ x.1 % 2 ^ x.2 = 0 := ⟨h.1, by have := pow_pos2 x.2; have := h.2.2; omega, h.2.1⟩

/-- What Alloc does to the list. -/
def AllocL (b N : Nat) (L : List Blk) (n : Nat) (w : World) (e : Ending) (w' : World) : Prop :=
  Grow1 b w w' ∧ match allocB N L n with
  | none => e = .returned (.tuple #[.int .i64 0, .int .i64 5]) ∧ BuL w' b N L
  | some (p, L') => e = .returned (.tuple #[.int .i64 (p : Int), .int .i64 0]) ∧ BuL w' b N L'

theorem allocL_ok (w : World) (b N : Nat) (L : List Blk) (n : Nat) (h : BuL w b N L) (hn : n ≤ 10) :
    Calls Try.prog 14 #[.pointer (some ⟨b, 0, none⟩), .int .i64 (n : Int)] w fun e w' => AllocL b N L n w e w' := by
  obtain ⟨hB, hS⟩ := h
  refine (alloc_sem w b N n (LG L) hB hn).mono ?_
  intro e w' ⟨hG, hR⟩
  refine ⟨hG, ?_⟩
  have hbest := alloc_best hS n
  have hab : allocB N L n = (bestOf n none (blocksB N L)).map fun x => (x.1, putB L (x.1, n)) := rfl
  have hst := fun p L' => alloc_st (n := n) (p := p) (L' := L') hS
  rw [hab] at hst ⊢
  rcases hR with ⟨he, hB', hno⟩ | ⟨k, i, he, hk, hM, hmin, hlow, hB'⟩
  · cases e : bestOf n none (blocksB N L) with
    | none => exact ⟨he, hB', hS⟩
    | some x =>
      rw [e] at hbest
      obtain ⟨h1, h2, _⟩ := hbest
      obtain ⟨g1, g2⟩ := ((mem_blocks hS x).1 h1).sub h2
      have hnN : n ≤ N := g1.1
      refine absurd g2 (hno _ ?_ hnN)
      rw [Nat.div_lt_iff_lt_mul (pow_pos2 n), ← Nat.pow_add, Nat.sub_add_cancel hnN]
      exact g1.parts.2.1
  · have hx : IsFree N L (i * 2 ^ k, k) := ⟨Nat.mul_mod_left _ _, by rw [first]; exact hM⟩
    have hb2 : Best n (blocksB N L) (some (i * 2 ^ k, k)) := by
      refine ⟨(mem_blocks hS _).2 hx, hk, fun y hy hny => ?_⟩
      have hyf := (mem_blocks hS y).1 hy
      rcases Nat.lt_trichotomy y.2 k with h1 | h1 | h1
      · exact absurd hyf.2 (hmin y.2 hny h1 _)
      · refine .inr ⟨h1.symm, ?_⟩
        have := hyf.2
        rw [h1] at this
        have h2 := hlow _ this
        have h3 := mul_div hyf.1
        rw [h1] at h3
        show i * 2 ^ k ≤ y.1
        rw [← h3]
        exact Nat.mul_le_mul_right _ h2
      · exact .inl h1
    have e := best_one (asc_lt (blocks_asc hS)) hbest hb2
    rw [e] at hst ⊢
    refine ⟨he, ?_, hst _ _ rfl⟩
    have hm : i * 2 ^ k % 2 ^ n = 0 := mod_mul_of_le hk (Nat.mul_mod_left _ _)
    rw [LG_put (x := (i * 2 ^ k, n)) hm]
    obtain ⟨m, rfl⟩ := Nat.exists_eq_add_of_le hk
    have : i * 2 ^ (n + m) / 2 ^ n = i * 2 ^ (n + m - n) := by
      rw [Nat.add_sub_cancel_left, Nat.pow_add, Nat.mul_comm (2 ^ n), ← Nat.mul_assoc, Nat.mul_div_cancel _ (pow_pos2 n)]
    show Bud w' b N (add (LG L) n (i * 2 ^ (n + m) / 2 ^ n))
    rw [this]
    exact hB'

theorem allocL_bad (w : World) (b N : Nat) (L : List Blk) (k : Int) (h : BuL w b N L) (hk : ¬ (0 ≤ k ∧ k ≤ 10)) :
    Calls Try.prog 14 #[.pointer (some ⟨b, 0, none⟩), .int .i64 k] w fun e w' => e = .returned (.tuple #[.int .i64 0, .int .i64 7]) ∧ Below w.heap.size w w' := by
  obtain ⟨⟨Fr, Gv, hB, _⟩, _⟩ := h
  exact alloc_bad w b N k Fr Gv hB (by omega)

/-- What AllocAt does. -/
def AtL (b N : Nat) (L : List Blk) (x : Blk) (w : World) (e : Ending) (w' : World) : Prop :=
  Grow1 b w w' ∧ ((freeB L x.1 x.2 = true ∧ e = .returned (.int .i64 0) ∧ BuL w' b N (putB L x)) ∨ (freeB L x.1 x.2 = false ∧ e = .returned (.int .i64 8) ∧ BuL w' b N L))

theorem atL_ok (w : World) (b N : Nat) (L : List Blk) (x : Blk) (h : BuL w b N L) (hx : InB N x) :
    Calls Try.prog 25 #[.pointer (some ⟨b, 0, none⟩), .int .i64 (x.1 : Int), .int .i64 (x.2 : Int)] w fun e w' => AtL b N L x w e w' := by
  obtain ⟨hB, hS⟩ := h
  obtain ⟨h1, h2, h3⟩ := hx.parts
  refine (allocAt_ok w b N x.1 x.2 (LG L) hB h1 h2 h3).mono ?_
  intro e w' ⟨hG, hR⟩
  refine ⟨hG, ?_⟩
  have hf := freeB_iff hS.inb h3
  rcases hR with ⟨g1, g2, g3⟩ | ⟨g1, g2, g3⟩
  · exact .inl ⟨hf.2 g1, g2, by rw [LG_put h3]; exact g3, hS.put hx g1⟩
  · refine .inr ⟨?_, g2, g3, hS⟩
    cases e : freeB L x.1 x.2 with
    | false => rfl
    | true => exact absurd (hf.1 e) g1

theorem atL_bad (w : World) (b N : Nat) (L : List Blk) (p n : Int) (h : BuL w b N L) (hx : inZ N p n = false) :
    Calls Try.prog 25 #[.pointer (some ⟨b, 0, none⟩), .int .i64 p, .int .i64 n] w fun e w' => e = .returned (.int .i64 7) ∧ w = w' :=
  allocAt_bad w b N p n (LG L) h.1 (inZ_false h.2.n10 hx)

/-- What Free does. -/
def FreeL (b N : Nat) (L : List Blk) (x : Blk) (w : World) (e : Ending) (w' : World) : Prop :=
  Grow1 b w w' ∧ ((x ∈ L ∧ e = .returned (.int .i64 0) ∧ BuL w' b N (delB L x)) ∨ (x ∉ L ∧ e = .returned (.int .i64 9) ∧ BuL w' b N L))

theorem freeL_ok (w : World) (b N : Nat) (L : List Blk) (x : Blk) (h : BuL w b N L) (hx : InB N x) :
    Calls Try.prog 21 #[.pointer (some ⟨b, 0, none⟩), .int .i64 (x.1 : Int), .int .i64 (x.2 : Int)] w fun e w' => FreeL b N L x w e w' := by
  obtain ⟨hB, hS⟩ := h
  obtain ⟨h1, h2, h3⟩ := hx.parts
  by_cases hm : x ∈ L
  · refine (free_ok w b N x.1 x.2 (LG L) hB h1 h2 h3 ((mem_LG h3).2 hm)).mono ?_
    rintro e w' ⟨he, hG, hB'⟩
    exact ⟨hG, .inl ⟨hm, he, by rw [LG_del h3]; exact hB', hS.del⟩⟩
  · refine (free_not w b N x.1 x.2 (LG L) hB h1 h2 h3 (fun hg => hm ((mem_LG h3).1 hg))).mono ?_
    rintro e w' ⟨he, rfl⟩
    exact ⟨Grow1.refl _ _, .inr ⟨hm, he, hB, hS⟩⟩

theorem freeL_bad (w : World) (b N : Nat) (L : List Blk) (p n : Int) (h : BuL w b N L) (hx : inZ N p n = false) :
    Calls Try.prog 21 #[.pointer (some ⟨b, 0, none⟩), .int .i64 p, .int .i64 n] w fun e w' => e = .returned (.int .i64 7) ∧ w = w' :=
  free_bad w b N p n (LG L) h.1 (inZ_false h.2.n10 hx)

theorem list_of_perm {N : Nat} {Fr Gv : Nat → Nat → Bool} {L : List Blk} (h : Sem N Fr Gv (LG L)) (hS : St N L) : ∃ M : List PB, M.Perm (collB Fr 11) ∧ M.map toBlk = blocksB N L := by
  obtain ⟨M, hM⟩ : ∃ M, M = (collB Fr 11).mergeSort (fun x y => decide (x.1.val ≤ y.1.val)) := ⟨_, rfl⟩
  refine ⟨M, by rw [hM]; exact List.mergeSort_perm _ _, ?_⟩
  refine free_is h hS (by rw [hM]; exact List.mergeSort_perm _ _) ?_
  have := List.pairwise_mergeSort (le := fun (x y : PB) => decide (x.1.val ≤ y.1.val)) (fun a b c h1 h2 => by simp at *; omega) (fun a b => by simp; omega) (collB Fr 11)
  rw [hM]
  exact this.imp (by simp)

theorem roomL_ok (w : World) (b N : Nat) (L : List Blk) (n : Nat) (h : BuL w b N L) (hn : n ≤ 10) :
    Calls Try.prog 18 #[.pointer (some ⟨b, 0, none⟩), .int .i64 (n : Int)] w fun e w' => e = .returned (.tuple #[.int .i64 ((roomB n (blocksB N L) : Nat) : Int), .int .i64 0]) ∧ Below w.heap.size w w' := by
  obtain ⟨⟨Fr, Gv, hB, hs⟩, hS⟩ := h
  have := room_ok w b N n Fr Gv hB hS.n10 hn
  rw [room_is hs hS n hn (list_of_perm hs hS)] at this
  exact this

theorem roomL_bad (w : World) (b N : Nat) (L : List Blk) (k : Int) (h : BuL w b N L) (hk : ¬ (0 ≤ k ∧ k ≤ 10)) :
    Calls Try.prog 18 #[.pointer (some ⟨b, 0, none⟩), .int .i64 k] w fun e w' => e = .returned (.tuple #[.int .i64 0, .int .i64 7]) ∧ Below w.heap.size w w' := by
  obtain ⟨⟨Fr, Gv, hB, _⟩, _⟩ := h
  exact room_bad w b N k Fr Gv hB (by omega)

theorem largeB_spec : ∀ (l : List Blk) (a : Option Nat), match largeB a l with
    | some m => (∀ x ∈ l, x.2 ≤ m) ∧ (∀ v, a = some v → v ≤ m) ∧ ((∃ x ∈ l, x.2 = m) ∨ a = some m)
    | none => a = none ∧ l = [] := by
  intro l
  induction l with
  | nil =>
    intro a
    rw [largeB]
    cases a with
    | none => exact ⟨rfl, rfl⟩
    | some v => exact ⟨fun x hx => (by cases hx), fun u hu => (by injection hu with hu; omega), .inr rfl⟩
  | cons x l ih =>
    intro a
    rw [largeB]
    have h := ih (some (max (a.getD 0) x.2))
    cases e : largeB (some (max (a.getD 0) x.2)) l with
    | none => rw [e] at h; exact absurd h.1 (by simp)
    | some m =>
      rw [e] at h
      obtain ⟨h1, h2, h3⟩ := h
      have h4 := h2 _ rfl
      refine ⟨fun y hy => ?_, fun v hv => ?_, ?_⟩
      · rcases List.mem_cons.1 hy with rfl | hy
        · omega
        · exact h1 y hy
      · subst hv; simp at h4; omega
      · rcases h3 with ⟨y, hy, he⟩ | h3
        · exact .inl ⟨y, List.mem_cons_of_mem _ hy, he⟩
        · injection h3 with h3
          cases a with
          | none => exact .inl ⟨x, List.mem_cons_self .., by simp at h3; omega⟩
          | some v =>
            simp at h3
            by_cases e : v ≤ x.2
            · exact .inl ⟨x, List.mem_cons_self .., by omega⟩
            · exact .inr (by congr 1; omega)

theorem lastK_some {Fr : Nat → Nat → Bool} : ∀ {n k : Nat}, lastK Fr n = some k → k < n ∧ least (Fr k) ≠ none ∧ ∀ j, k < j → j < n → least (Fr j) = none := by
  intro n
  induction n with
  | zero => intro k h; rw [lastK] at h; cases h
  | succ n ih =>
    intro k h
    rw [lastK] at h
    cases e : least (Fr n) with
    | none =>
      rw [e] at h
      obtain ⟨h1, h2, h3⟩ := ih h
      refine ⟨by omega, h2, fun j g1 g2 => ?_⟩
      by_cases ej : j = n
      · subst ej; exact e
      · exact h3 j g1 (by omega)
    | some p =>
      rw [e] at h
      injection h with h
      subst h
      exact ⟨by omega, by rw [e]; simp, fun j g1 g2 => by omega⟩
theorem lastK_none {Fr : Nat → Nat → Bool} : ∀ {n : Nat}, lastK Fr n = none → ∀ j, j < n → least (Fr j) = none := by
  intro n
  induction n with
  | zero => intro _ j hj; omega
  | succ n ih =>
    intro h j hj
    rw [lastK] at h
    cases e : least (Fr n) with
    | none =>
      rw [e] at h
      by_cases ej : j = n
      · subst ej; exact e
      · exact ih h j (by omega)
    | some p => rw [e] at h; cases h

theorem least_free {N : Nat} {Fr Gv : Nat → Nat → Bool} {L : List Blk} (h : Sem N Fr Gv (LG L)) (hS : St N L) {k : Nat} (hk : k < 11) : least (Fr k) = none ↔ ∀ x ∈ blocksB N L, x.2 ≠ k := by
  rw [least_none]
  constructor
  · intro hn x hx e
    subst e
    have := (sem_free h hS (blocks_small hS x hx).1 hk).2 hx
    rw [hn _ (blocks_small hS x hx).1] at this
    cases this
  · intro hn p hp
    cases e : Fr k p with
    | false => rfl
    | true => exact absurd rfl (hn _ ((sem_free h hS hp hk).1 e))

theorem large_is {N : Nat} {Fr Gv : Nat → Nat → Bool} {L : List Blk} (h : Sem N Fr Gv (LG L)) (hS : St N L) : lastK Fr (N + 1) = largeB none (blocksB N L) := by
  have hn := h.n10
  have hsp := largeB_spec (blocksB N L) none
  cases e : lastK Fr (N + 1) with
  | none =>
    cases e2 : largeB none (blocksB N L) with
    | none => rfl
    | some m =>
      rw [e2] at hsp
      obtain ⟨h1, _, ⟨x, hx, hxm⟩ | h3⟩ := hsp
      · have hxN := ((mem_blocks hS x).1 hx).lt.2
        exact absurd rfl ((least_free h hS (by omega)).1 (lastK_none e x.2 (by omega)) x hx)
      · cases h3
  | some k =>
    obtain ⟨g1, g2, g3⟩ := lastK_some e
    have : ∃ x ∈ blocksB N L, x.2 = k := by
      refine Classical.byContradiction fun hno => g2 ((least_free h hS (by omega)).2 fun x hx he => hno ⟨x, hx, he⟩)
    obtain ⟨x, hx, hxk⟩ := this
    cases e2 : largeB none (blocksB N L) with
    | none => rw [e2] at hsp; rw [hsp.2] at hx; cases hx
    | some m =>
      rw [e2] at hsp
      obtain ⟨h1, _, ⟨y, hy, hym⟩ | h3⟩ := hsp
      · have h4 := h1 x hx
        by_cases em : k = m
        · rw [em]
        · have hyN := ((mem_blocks hS y).1 hy).lt.2
          exact absurd rfl ((least_free h hS (by omega)).1 (g3 y.2 (by omega) (by omega)) y hy)
      · cases h3

theorem largeL_ok (w : World) (b N : Nat) (L : List Blk) (h : BuL w b N L) :
    Calls Try.prog 24 #[.pointer (some ⟨b, 0, none⟩)] w fun e w' => e = .returned (LargeV (largeB none (blocksB N L))) ∧ w = w' := by
  obtain ⟨⟨Fr, Gv, hB, hs⟩, hS⟩ := h
  have := largest_ok w b N Fr Gv hB hS.n10
  rw [large_is hs hS] at this
  refine this.mono ?_
  rintro e w' ⟨he, hw⟩
  refine ⟨?_, hw⟩
  rw [he]
  cases largeB none (blocksB N L) <;> rfl

theorem ownerL_ok (w : World) (b N : Nat) (L : List Blk) (page : Nat) (h : BuL w b N L) (hp : page < 2 ^ N) :
    Calls Try.prog 23 #[.pointer (some ⟨b, 0, none⟩), .int .i64 (page : Int)] w fun e w' => e = .returned (OwnV (ownerB L page)) ∧ Below w.heap.size w w' := by
  obtain ⟨⟨Fr, Gv, hB, hs⟩, hS⟩ := h
  have h1024 := two_le hS.n10
  refine (owner_ok w b N page Fr Gv hB hS.n10 hp).mono ?_
  rintro e w' ⟨he, hb⟩
  refine ⟨?_, hb⟩
  rw [he]
  have hin : ∀ k, page / 2 ^ k * 2 ^ k ≤ page := fun k => Nat.div_mul_le_self _ _
  cases hk : fromK Gv page 0 11 with
  | none =>
    cases ho : ownerB L page with
    | none => rfl
    | some x =>
      obtain ⟨g1, g2, g3⟩ := ownerB_some ho
      have hx2 := (st_small hS x g1).2
      have := fromK_none _ _ hk x.2 (Nat.zero_le _) (by omega)
      have hal := (hS.inb x g1).2.1
      have e1 := (within hal).1 ⟨g2, g3⟩
      rw [e1, mul_div hal, (sem_given hs hS (st_small hS x g1).1 hx2).2 g1] at this
      cases this
  | some k =>
    obtain ⟨g1, g2, g3⟩ := fromK_some _ _ _ hk
    have hm := (sem_given hs hS (by have := hin k; omega) (by omega)).1 g3
    have hd := (within (k := k) (x := page) (Nat.mul_mod_left (page / 2 ^ k) (2 ^ k))).2 (by rw [first])
    rw [ownerB_of hS hm hd.1 hd.2]
    rfl

theorem ownerL_bad (w : World) (b N : Nat) (L : List Blk) (page : Int) (h : BuL w b N L) (hp : page < 0 ∨ ((2 ^ N : Nat) : Int) ≤ page) :
    Calls Try.prog 23 #[.pointer (some ⟨b, 0, none⟩), .int .i64 page] w fun e w' => e = .returned (.tuple #[.agg #[.int .i64 0, .int .i64 0], .int .i64 7]) ∧ Below w.heap.size w w' := by
  obtain ⟨⟨Fr, Gv, hB, _⟩, hS⟩ := h
  refine owner_bad w b N page Fr Gv hB hS.n10 ?_
  have e2 : ((2 : Int) ^ N) = ((2 ^ N : Nat) : Int) := by rw [Int.natCast_pow]; rfl
  rw [e2]; exact hp
end Bu
end Go.Proofs.Ytdanhbbdkcbapaa
