/- What the operations on the sets of an allocator do to the given blocks that they stand for. -/
import Derived.Test.YtdanhbbdkcbapaaBuPlain
import Derived.Test.YtdanhbbdkcbapaaBMem
namespace Go.Proofs.Ytdanhbbdkcbapaa
namespace Bu

/-- The sets say what is given, and what is free. -/
structure Sem (N : Nat) (Fr Gv : Nat → Nat → Bool) (G : Bl) : Prop where
  ok : Ok G N
  n10 : N ≤ 10
  free : ∀ k p, k < 11 → p < 1024 → (Fr k p = true ↔ p % 2 ^ k = 0 ∧ MaxFree G N k (p / 2 ^ k))
  given : ∀ k p, k < 11 → p < 1024 → (Gv k p = true ↔ p % 2 ^ k = 0 ∧ G k (p / 2 ^ k))

theorem mul_of_mod {p k : Nat} (h : p % 2 ^ k = 0) : p / 2 ^ k * 2 ^ k = p := Nat.div_mul_cancel (Nat.dvd_of_mod_eq_zero h)
theorem eq_page {p k i : Nat} (h : p % 2 ^ k = 0) : p = i * 2 ^ k ↔ p / 2 ^ k = i := by
  constructor
  · rintro rfl; exact first k i
  · rintro rfl; exact (mul_of_mod h).symm

/-- The other halves, put. -/
def halves (F : Nat → Nat → Bool) (lo hi page : Nat) : Nat → Nat → Bool := fun a => if lo ≤ a ∧ a < hi then sadd (F a) (sib (page / 2 ^ a) * 2 ^ a) else F a
theorem halves_none (F : Nat → Nat → Bool) (lo page : Nat) : halves F lo lo page = F := by
  funext a
  unfold halves
  rw [if_neg (by omega)]
theorem halves_next (F : Nat → Nat → Bool) (lo hi page : Nat) (h : lo ≤ hi) : halves (upd F hi (sadd (F hi) (sib (page / 2 ^ hi) * 2 ^ hi))) lo hi page = halves F lo (hi + 1) page := by
  funext a
  unfold halves
  by_cases e : a = hi
  · subst e
    rw [if_neg (by omega), if_pos (by omega), upd_same]
  · rw [upd_ne _ _ _ _ e]
    by_cases e2 : lo ≤ a ∧ a < hi
    · rw [if_pos e2, if_pos (by omega)]
    · rw [if_neg e2, if_neg (by omega)]

theorem sem_carve {N : Nat} {Fr Gv : Nat → Nat → Bool} {G : Bl} (h : Sem N Fr Gv G) {k m i : Nat} (hN : k + m ≤ N) (hB : MaxFree G N (k + m) (i / 2 ^ m)) :
    Sem N (halves (upd Fr (k + m) (sdel (Fr (k + m)) (i / 2 ^ m * 2 ^ (k + m)))) k (k + m) (i * 2 ^ k)) (upd Gv k (sadd (Gv k) (i * 2 ^ k))) (add G k i) := by
  have hn := h.n10
  have hpa : ∀ j, i * 2 ^ k / 2 ^ (k + j) = i / 2 ^ j := fun j => by rw [div_pow, first]
  have hk1 : 2 ^ (N - k) = 2 ^ (N - (k + m)) * 2 ^ m := by rw [← Nat.pow_add, show N - (k + m) + m = N - k by omega]
  have hi : i < 2 ^ (N - k) := by
    rw [hk1]
    exact (Nat.div_lt_iff_lt_mul (Nat.pow_pos (by decide))).1 hB.2.1
  refine ⟨h.ok.add (by omega) hi ?_, hn, fun a p ha hp => ?_, fun a p ha hp => ?_⟩
  · exact Free.mono m hB.2.2.1
  · rw [carve hB a (p / 2 ^ a)]
    unfold halves
    by_cases e : k ≤ a ∧ a < k + m
    · rw [if_pos e]
      obtain ⟨j, rfl⟩ := Nat.exists_eq_add_of_le e.1
      rw [upd_ne _ _ _ _ (by omega), hpa j]
      unfold sadd
      rw [Bool.or_eq_true, beq_iff_eq, h.free _ p ha hp]
      constructor
      · rintro (rfl | ⟨h1, h2⟩)
        · refine ⟨Nat.mul_mod_left _ _, .inr ⟨j, by omega, rfl, first _ _⟩⟩
        · exact ⟨h1, .inl ⟨h2, by omega⟩⟩
      · rintro ⟨h1, ⟨h2, _⟩ | ⟨j', h2, h3, h4⟩⟩
        · exact .inr ⟨h1, h2⟩
        · obtain rfl : j = j' := by omega
          exact .inl ((eq_page h1).2 h4)
    · rw [if_neg e]
      by_cases e2 : a = k + m
      · subst e2
        rw [upd_same]
        unfold sdel
        rw [Bool.and_eq_true, bne_iff_ne, h.free _ p ha hp]
        constructor
        · rintro ⟨h1, h2, h3⟩
          exact ⟨h2, .inl ⟨h3, fun ⟨_, h4⟩ => h1 ((eq_page h2).2 h4)⟩⟩
        · rintro ⟨h1, ⟨h2, h3⟩ | ⟨j', h2, h3, h4⟩⟩
          · exact ⟨fun h4 => h3 ⟨rfl, (eq_page h1).1 h4⟩, h1, h2⟩
          · omega
      · rw [upd_ne _ _ _ _ e2, h.free _ p ha hp]
        constructor
        · rintro ⟨h1, h2⟩
          exact ⟨h1, .inl ⟨h2, fun h3 => e2 h3.1⟩⟩
        · rintro ⟨h1, ⟨h2, _⟩ | ⟨j', h2, h3, h4⟩⟩
          · exact ⟨h1, h2⟩
          · exact absurd ⟨by omega, by omega⟩ e
  · by_cases e : a = k
    · subst e
      rw [upd_same]
      unfold sadd
      rw [Bool.or_eq_true, beq_iff_eq, h.given _ p ha hp]
      constructor
      · rintro (rfl | ⟨h1, h2⟩)
        · exact ⟨Nat.mul_mod_left _ _, .inl ⟨rfl, first _ _⟩⟩
        · exact ⟨h1, .inr h2⟩
      · rintro ⟨h1, ⟨_, h2⟩ | h2⟩
        · exact .inl ((eq_page h1).2 h2)
        · exact .inr ⟨h1, h2⟩
    · rw [upd_ne _ _ _ _ e, h.given _ p ha hp]
      constructor
      · rintro ⟨h1, h2⟩; exact ⟨h1, .inr h2⟩
      · rintro ⟨h1, ⟨h2, _⟩ | h2⟩
        · exact absurd h2 e
        · exact ⟨h1, h2⟩

/-- A block given back, and its halves put together. -/
def unhalves (F : Nat → Nat → Bool) (lo hi page : Nat) : Nat → Nat → Bool := fun a => if lo ≤ a ∧ a < hi then sdel (F a) (sib (page / 2 ^ a) * 2 ^ a) else F a
theorem unhalves_none (F : Nat → Nat → Bool) (lo page : Nat) : unhalves F lo lo page = F := by
  funext a
  unfold unhalves
  rw [if_neg (by omega)]
theorem unhalves_next (F : Nat → Nat → Bool) (lo hi page : Nat) (h : lo ≤ hi) : upd (unhalves F lo hi page) hi (sdel (unhalves F lo hi page hi) (sib (page / 2 ^ hi) * 2 ^ hi)) = unhalves F lo (hi + 1) page := by
  funext a
  by_cases e : a = hi
  · subst e
    rw [upd_same]
    unfold unhalves
    rw [if_neg (by omega), if_pos (by omega)]
  · rw [upd_ne _ _ _ _ e]
    unfold unhalves
    by_cases e2 : lo ≤ a ∧ a < hi
    · rw [if_pos e2, if_pos (by omega)]
    · rw [if_neg e2, if_neg (by omega)]

theorem sem_merge {N : Nat} {Fr Gv : Nat → Nat → Bool} {G : Bl} (h : Sem N Fr Gv G) {k m i : Nat} (hg : G k i) (hB : MaxFree (del G k i) N (k + m) (i / 2 ^ m)) :
    Sem N (upd (unhalves Fr k (k + m) (i * 2 ^ k)) (k + m) (sadd (unhalves Fr k (k + m) (i * 2 ^ k) (k + m)) (i / 2 ^ m * 2 ^ (k + m)))) (upd Gv k (sdel (Gv k) (i * 2 ^ k))) (del G k i) := by
  have hpa : ∀ j, i * 2 ^ k / 2 ^ (k + j) = i / 2 ^ j := fun j => by rw [div_pow, first]
  refine ⟨h.ok.del, h.n10, fun a p ha hp => ?_, fun a p ha hp => ?_⟩
  · rw [merge h.ok hg hB a (p / 2 ^ a)]
    by_cases e2 : a = k + m
    · subst e2
      rw [upd_same]
      unfold sadd unhalves
      rw [if_neg (by omega), Bool.or_eq_true, beq_iff_eq, h.free _ p ha hp]
      constructor
      · rintro (rfl | ⟨h1, h2⟩)
        · exact ⟨Nat.mul_mod_left _ _, .inr ⟨rfl, first _ _⟩⟩
        · exact ⟨h1, .inl ⟨h2, fun ⟨j, h3, h4, _⟩ => by omega⟩⟩
      · rintro ⟨h1, ⟨h2, _⟩ | ⟨_, h2⟩⟩
        · exact .inr ⟨h1, h2⟩
        · exact .inl ((eq_page h1).2 h2)
    · rw [upd_ne _ _ _ _ e2]
      unfold unhalves
      by_cases e : k ≤ a ∧ a < k + m
      · rw [if_pos e]
        obtain ⟨j, rfl⟩ := Nat.exists_eq_add_of_le e.1
        rw [hpa j]
        unfold sdel
        rw [Bool.and_eq_true, bne_iff_ne, h.free _ p ha hp]
        constructor
        · rintro ⟨h1, h2, h3⟩
          refine ⟨h2, .inl ⟨h3, ?_⟩⟩
          rintro ⟨j', h4, h5, h6⟩
          obtain rfl : j = j' := by omega
          exact h1 ((eq_page h2).2 h6)
        · rintro ⟨h1, ⟨h2, h3⟩ | ⟨h2, _⟩⟩
          · exact ⟨fun h4 => h3 ⟨j, by omega, rfl, (eq_page h1).1 h4⟩, h1, h2⟩
          · omega
      · rw [if_neg e, h.free _ p ha hp]
        constructor
        · rintro ⟨h1, h2⟩
          refine ⟨h1, .inl ⟨h2, ?_⟩⟩
          rintro ⟨j', h4, h5, h6⟩
          exact e ⟨by omega, by omega⟩
        · rintro ⟨h1, ⟨h2, _⟩ | ⟨h2, _⟩⟩
          · exact ⟨h1, h2⟩
          · exact absurd h2 e2
  · by_cases e : a = k
    · subst e
      rw [upd_same]
      unfold sdel
      rw [Bool.and_eq_true, bne_iff_ne, h.given _ p ha hp]
      constructor
      · rintro ⟨h1, h2, h3⟩
        exact ⟨h2, fun ⟨_, h4⟩ => h1 ((eq_page h2).2 h4), h3⟩
      · rintro ⟨h1, h2, h3⟩
        exact ⟨fun h4 => h2 ⟨rfl, (eq_page h1).1 h4⟩, h1, h3⟩
    · rw [upd_ne _ _ _ _ e, h.given _ p ha hp]
      constructor
      · rintro ⟨h1, h2⟩; exact ⟨h1, fun h3 => e h3.1, h2⟩
      · rintro ⟨h1, _, h2⟩; exact ⟨h1, h2⟩
end Bu
end Go.Proofs.Ytdanhbbdkcbapaa
