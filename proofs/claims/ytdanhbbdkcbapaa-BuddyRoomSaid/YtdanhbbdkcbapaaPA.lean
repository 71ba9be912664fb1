/- What the program's sets say of lists of blocks. -/
import Derived.Test.YtdanhbbdkcbapaaSU
import Derived.Test.YtdanhbbdkcbapaaRL
namespace Go.Proofs.Ytdanhbbdkcbapaa
open Go.RowKit
namespace Bu

def toBlk (x : PB) : Blk := (x.1.val, x.2.val)
theorem toBlk_inj {x y : PB} (h : toBlk x = toBlk y) : x = y := by
  obtain ⟨⟨a, ha⟩, ⟨b, hb⟩⟩ := x
  obtain ⟨⟨c, hc⟩, ⟨d, hd⟩⟩ := y
  unfold toBlk at h
  injection h with h1 h2
  simp at h1 h2
  subst h1; subst h2; rfl
theorem cells_blk (L : List PB) : cellsB L = cellsL (L.map toBlk) := by
  induction L with
  | nil => rfl
  | cons x L ih => rw [cellsB_cons, List.map_cons, cellsL_cons, ih]; rfl

theorem mem_members {S : Nat → Bool} {n p : Nat} : p ∈ members S n ↔ p < n ∧ S p = true := by
  unfold members; rw [List.mem_filter, List.mem_range]
theorem mem_coll {F : Nat → Nat → Bool} : ∀ {j : Nat} {y : PB}, j ≤ 11 → (y ∈ collB F j ↔ y.2.val < j ∧ F y.2.val y.1.val = true) := by
  intro j
  induction j with
  | zero => intro y _; simp [collB]
  | succ j ih =>
    intro y hj
    rw [collB, List.mem_append, ih (by omega), List.mem_map]
    constructor
    · rintro (⟨h1, h2⟩ | ⟨p, hp, rfl⟩)
      · exact ⟨by omega, h2⟩
      · obtain ⟨h1, h2⟩ := mem_members.1 hp
        simp only [mkB, Nat.mod_eq_of_lt h1, Nat.mod_eq_of_lt (show j < 11 by omega)]
        exact ⟨by omega, h2⟩
    · rintro ⟨h1, h2⟩
      by_cases e : y.2.val = j
      · refine .inr ⟨y.1.val, mem_members.2 ⟨y.1.isLt, by rw [← e]; exact h2⟩, ?_⟩
        refine toBlk_inj ?_
        simp only [toBlk, mkB, Nat.mod_eq_of_lt y.1.isLt, Nat.mod_eq_of_lt (show j < 11 by omega), e]
      · exact .inl ⟨by omega, h2⟩
theorem coll_nodup {F : Nat → Nat → Bool} : ∀ {j : Nat}, j ≤ 11 → (collB F j).Nodup := by
  intro j
  induction j with
  | zero => intro _; exact List.nodup_nil
  | succ j ih =>
    intro hj
    rw [collB, List.nodup_append]
    refine ⟨ih (by omega), ?_, ?_⟩
    · have h1 : (members (F j) 1024).Nodup := (List.nodup_range).filter _
      have h2 : (members (F j) 1024).Pairwise fun a b => mkB a j ≠ mkB b j := by
        refine List.Pairwise.imp_of_mem (R := fun a b => a ≠ b) ?_ h1
        intro a b ha hb hne e
        have ha := (mem_members.1 ha).1
        have hb := (mem_members.1 hb).1
        have := congrArg (fun x : PB => x.1.val) e
        simp only [mkB, Nat.mod_eq_of_lt ha, Nat.mod_eq_of_lt hb] at this
        exact hne this
      exact List.pairwise_map.2 h2
    · intro a ha b hb e
      subst e
      obtain ⟨h1, _⟩ := (mem_coll (by omega)).1 ha
      obtain ⟨p, _, rfl⟩ := List.mem_map.1 hb
      simp only [mkB, Nat.mod_eq_of_lt (show j < 11 by omega)] at h1
      omega

/-- What sorted collects, is the list. -/
theorem sorted_is {F : Nat → Nat → Bool} {M : List Blk} {L : List PB} (hM : M.Pairwise fun a b => a.1 < b.1) (hm : ∀ p k, p < 1024 → k < 11 → (F k p = true ↔ (p, k) ∈ M)) (hs : ∀ x ∈ M, x.1 < 1024 ∧ x.2 < 11)
    (hp : L.Perm (collB F 11)) (ho : L.Pairwise fun x y => x.1.val ≤ y.1.val) : L.map toBlk = M := by
  have hmem : ∀ y : PB, y ∈ L ↔ toBlk y ∈ M := fun y => by
    rw [hp.mem_iff, mem_coll (Nat.le_refl _)]
    have := hm y.1.val y.2.val y.1.isLt y.2.isLt
    exact ⟨fun h => this.1 h.2, fun h => ⟨y.2.isLt, this.2 h⟩⟩
  have hnd : L.Nodup := hp.nodup_iff.2 (coll_nodup (Nat.le_refl _))
  have hboth : L.Pairwise fun x y => x.1.val ≤ y.1.val ∧ x ≠ y := List.pairwise_and_iff.2 ⟨ho, hnd⟩
  refine asc_eq (List.pairwise_map.2 (List.Pairwise.imp_of_mem ?_ hboth)) hM fun z => ?_
  · intro a b ha hb ⟨h1, h2⟩
    refine Nat.lt_of_le_of_ne h1 fun e => h2 (toBlk_inj ?_)
    exact asc_uniq hM _ ((hmem a).1 ha) _ ((hmem b).1 hb) e
  · rw [List.mem_map]
    constructor
    · rintro ⟨y, hy, rfl⟩; exact (hmem y).1 hy
    · intro hz
      obtain ⟨h1, h2⟩ := hs z hz
      exact ⟨(⟨z.1, h1⟩, ⟨z.2, h2⟩), (hmem _).2 hz, rfl⟩

/-- An allocator that has given the blocks of a list. -/
def BuL (w : World) (b N : Nat) (L : List Blk) : Prop := Bud w b N (LG L) ∧ St N L
theorem BuL.lt {w : World} {b N : Nat} {L : List Blk} (h : BuL w b N L) : b < w.heap.size := h.1.lt
theorem BuL.keep {w w' : World} {b N : Nat} {L : List Blk} (h : BuL w b N L) (hk : w'.heap[b]? = w.heap[b]?) : BuL w' b N L := ⟨h.1.keep hk, h.2⟩

theorem two_le {N : Nat} (h : N ≤ 10) : 2 ^ N ≤ 1024 := by
  have : 2 ^ N ≤ 2 ^ 10 := Nat.pow_le_pow_right (by omega) h
  omega

theorem sem_given {N : Nat} {Fr Gv : Nat → Nat → Bool} {L : List Blk} (h : Sem N Fr Gv (LG L)) (hS : St N L) {p k : Nat} (hp : p < 1024) (hk : k < 11) : Gv k p = true ↔ (p, k) ∈ L := by
  rw [h.given k p hk hp]
  constructor
  · rintro ⟨h1, h2⟩; exact (mem_LG h1).1 h2
  · intro hm
    have h1 := (hS.inb _ hm).2.1
    exact ⟨h1, (mem_LG h1).2 hm⟩
theorem sem_free {N : Nat} {Fr Gv : Nat → Nat → Bool} {L : List Blk} (h : Sem N Fr Gv (LG L)) (hS : St N L) {p k : Nat} (hp : p < 1024) (hk : k < 11) : Fr k p = true ↔ (p, k) ∈ blocksB N L := by
  rw [h.free k p hk hp, mem_blocks hS]; rfl
theorem st_small {N : Nat} {L : List Blk} (hS : St N L) : ∀ x ∈ L, x.1 < 1024 ∧ x.2 < 11 := fun x hx => by
  have := st_le hS x hx
  have := pow_pos2 x.2
  omega
theorem blocks_small {N : Nat} {L : List Blk} (hS : St N L) : ∀ x ∈ blocksB N L, x.1 < 1024 ∧ x.2 < 11 := fun x hx => by
  have := small_blocks hS x hx
  have := pow_pos2 x.2
  omega
theorem given_is {N : Nat} {Fr Gv : Nat → Nat → Bool} {L : List Blk} {M : List PB} (h : Sem N Fr Gv (LG L)) (hS : St N L) (hp : M.Perm (collB Gv 11)) (ho : M.Pairwise fun x y => x.1.val ≤ y.1.val) : M.map toBlk = L :=
  sorted_is (asc_lt hS.asc) (fun _ _ h1 h2 => sem_given h hS h1 h2) (st_small hS) hp ho
theorem free_is {N : Nat} {Fr Gv : Nat → Nat → Bool} {L : List Blk} {M : List PB} (h : Sem N Fr Gv (LG L)) (hS : St N L) (hp : M.Perm (collB Fr 11)) (ho : M.Pairwise fun x y => x.1.val ≤ y.1.val) : M.map toBlk = blocksB N L :=
  sorted_is (asc_lt (blocks_asc hS)) (fun _ _ h1 h2 => sem_free h hS h1 h2) (blocks_small hS) hp ho

/-- At the beginning. -/
theorem st_nil {N : Nat} (h : N ≤ 10) : St N [] := ⟨h, fun x hx => (by cases hx), List.Pairwise.nil⟩
theorem sem_new {N : Nat} (hN : N ≤ 10) : Sem N (newFree N) noSets (LG []) := by
  have hnu : ∀ x, ¬ Used (LG []) x := fun x ⟨k, hk⟩ => by cases hk
  have hfr : ∀ k i, Free (LG []) k i := fun k i x _ => hnu x
  refine ⟨(st_nil hN).ok, hN, fun k p hk hp => ?_, fun k p hk hp => ?_⟩
  · unfold newFree
    by_cases e : k = N
    · subst e
      rw [upd_same]
      unfold sadd noSets
      rw [Bool.or_false, beq_iff_eq]
      constructor
      · rintro rfl
        refine ⟨Nat.zero_mod _, Nat.le_refl _, by rw [Nat.zero_div]; exact pow_pos2 _, hfr _ _, .inl rfl⟩
      · rintro ⟨h1, _, h2, _⟩
        rw [Nat.sub_self, Nat.pow_zero] at h2
        have := mul_div h1
        rw [Nat.lt_one_iff.1 h2, Nat.zero_mul] at this
        exact this.symm
    · rw [upd_ne _ _ _ _ e]
      unfold noSets
      constructor
      · intro h; cases h
      · rintro ⟨_, _, _, _, h | h⟩
        · exact absurd h e
        · exact absurd (hfr _ _) h
  · unfold noSets LG
    constructor
    · intro h; cases h
    · rintro ⟨_, h⟩; cases h

/-- Room counts what the list says. -/
theorem roomJ_sum (Fr : Nat → Nat → Bool) (n : Nat) : ∀ j, roomJ Fr n j = ((List.range j).map fun i => cnt (Fr (n + i)) * 2 ^ i).sum := by
  intro j
  induction j with
  | zero => rfl
  | succ j ih => rw [roomJ, ih, List.range_succ, List.map_append, List.sum_append]; simp

theorem sum_perm {α : Type} {f : α → Nat} {A B : List α} (h : A.Perm B) : (A.map f).sum = (B.map f).sum := (h.map f).sum_nat

theorem coll_sum (F : Nat → Nat → Bool) (f : PB → Nat) (g : Nat → Nat) (hfg : ∀ p k, p < 1024 → k < 11 → f (mkB p k) = g k) : ∀ j, j ≤ 11 → ((collB F j).map f).sum = ((List.range j).map fun k => cnt (F k) * g k).sum := by
  intro j
  induction j with
  | zero => intro _; rfl
  | succ j ih =>
    intro hj
    rw [collB, List.map_append, List.sum_append, ih (by omega), List.range_succ, List.map_append, List.sum_append]
    refine Nat.add_left_cancel_iff.2 ?_
    have : ∀ l : List Nat, (∀ p ∈ l, p < 1024) → ((l.map (mkB · j)).map f).sum = l.length * g j := by
      intro l
      induction l with
      | nil => intro _; simp
      | cons p l ih2 =>
        intro hl
        rw [List.map_cons, List.map_cons, List.sum_cons, ih2 fun q hq => hl q (List.mem_cons_of_mem _ hq), hfg p j (hl p (List.mem_cons_self ..)) (by omega), List.length_cons, Nat.add_mul]
        omega
    obtain ⟨l, hl⟩ : ∃ l, l = members (F j) 1024 := ⟨_, rfl⟩
    have h1 : ∀ p ∈ l, p < 1024 := fun p hp => by rw [hl] at hp; exact (mem_members.1 hp).1
    have h2 := cnt_of hl
    rw [← hl, this l h1, h2, List.map_singleton, List.sum_singleton]

theorem sum_range_shift (h : Nat → Nat) (n : Nat) : ∀ m, (∀ k, k < n → h k = 0) → ((List.range (n + m)).map h).sum = ((List.range m).map fun i => h (n + i)).sum := by
  intro m
  induction m with
  | zero =>
    intro h0
    have : ∀ j, j ≤ n → ((List.range j).map h).sum = 0 := by
      intro j
      induction j with
      | zero => intro _; rfl
      | succ j ih => intro hj; rw [List.range_succ, List.map_append, List.sum_append, ih (by omega)]; simp [h0 j (by omega)]
    simpa using this n (Nat.le_refl _)
  | succ m ih =>
    intro h0
    rw [← Nat.add_assoc, List.range_succ, List.range_succ, List.map_append, List.map_append, List.sum_append, List.sum_append, ih h0]
    simp

theorem room_is {N : Nat} {Fr Gv : Nat → Nat → Bool} {L : List Blk} (h : Sem N Fr Gv (LG L)) (hS : St N L) (n : Nat) (hn : n ≤ 10) (hex : ∃ M : List PB, M.Perm (collB Fr 11) ∧ M.map toBlk = blocksB N L) : roomJ Fr n (N + 1 - n) = roomB n (blocksB N L) := by
  have hN := h.n10
  obtain ⟨M, hp, hm⟩ := hex
  unfold roomB
  rw [← hm, List.map_map, sum_perm hp]
  rw [coll_sum Fr _ (fun k => if n ≤ k then 2 ^ (k - n) else 0) (fun p k h1 h2 => by simp only [Function.comp, toBlk, mkB, Nat.mod_eq_of_lt h2]) 11 (Nat.le_refl _)]
  rw [show 11 = n + (11 - n) by omega, sum_range_shift _ n _ (fun k hk => by rw [if_neg (by omega), Nat.mul_zero]), roomJ_sum]
  have hz : ∀ k, N < k → k < 11 → cnt (Fr k) = 0 := by
    intro k h1 h2
    rw [← cnt_of (xs := members (Fr k) 1024) rfl, List.length_eq_zero_iff, List.eq_nil_iff_forall_not_mem]
    intro p hp
    obtain ⟨g1, g2⟩ := mem_members.1 hp
    have := ((mem_blocks hS _).1 ((sem_free h hS g1 h2).1 g2)).lt.2
    have : k ≤ N := this
    omega
  have key : ∀ m, N + 1 - n + m ≤ 11 - n → ((List.range (N + 1 - n + m)).map fun i => cnt (Fr (n + i)) * (if n ≤ n + i then 2 ^ (n + i - n) else 0)).sum = ((List.range (N + 1 - n)).map fun i => cnt (Fr (n + i)) * 2 ^ i).sum := by
    intro m
    induction m with
    | zero =>
      intro _
      congr 1
      refine List.map_congr_left fun i _ => ?_
      rw [if_pos (by omega), Nat.add_sub_cancel_left]
    | succ m ih =>
      intro hm2
      rw [← Nat.add_assoc, List.range_succ, List.map_append, List.sum_append, ih (by omega)]
      have : cnt (Fr (n + (N + 1 - n + m))) = 0 := hz _ (by omega) (by omega)
      simp [this]
  have := key (11 - n - (N + 1 - n)) (by omega)
  rw [show N + 1 - n + (11 - n - (N + 1 - n)) = 11 - n by omega] at this
  exact this.symm
end Bu
end Go.Proofs.Ytdanhbbdkcbapaa
