/- How a buddy allocator lies in memory. What the operations on the sets of an allocator do to the given blocks that they stand for. The operations on page numbers. The sets: has, put, take. -/
import Derived.Test.YtlknhbcambdccaaK1
import Derived.Test.YtlknhbcambdccaaK0
import Derived.WalkKit
import Derived.IntWalk
import Derived.Test.YtlknhbcambdccaaProg
namespace Go.Proofs.Ytlknhbcambdccaa
open Go.RowKit
namespace Bu

/-- A set of pages: sixteen words. -/
def SetAt (w : World) (b o : Nat) (S : Nat → Bool) : Prop := ∀ q, q < 16 → w.cell? ⟨b, o + q, none⟩ = some (.int .u64 (word S q)) ∧ w.frozen? ⟨b, o + q, none⟩ = false

/-- An allocator: its block has 354 cells. -/
def BuAt (T : TypeId) (w : World) (b N : Nat) (Fr Gv : Nat → Nat → Bool) : Prop :=
  ∃ cs, w.heap[b]? = some (.cells cs T (0, 0)) ∧ cs.size = 354 ∧ cs[0]? = some (.bool true) ∧ cs[1]? = some (.int .i64 N) ∧
    ∀ k q, k < 11 → q < 16 → cs[2 + k * 16 + q]? = some (.int .u64 (word (Fr k) q)) ∧ cs[178 + k * 16 + q]? = some (.int .u64 (word (Gv k) q))

def upd (F : Nat → Nat → Bool) (k : Nat) (S : Nat → Bool) : Nat → Nat → Bool := fun a => if a = k then S else F a
theorem upd_same (F : Nat → Nat → Bool) (k : Nat) (S : Nat → Bool) : upd F k S k = S := if_pos rfl
theorem upd_ne (F : Nat → Nat → Bool) (k a : Nat) (S : Nat → Bool) (h : a ≠ k) : upd F k S a = F a := if_neg h

variable {T : TypeId} {w w' : World} {b N : Nat} {Fr Gv : Nat → Nat → Bool}

theorem BuAt.lt (h : BuAt T w b N Fr Gv) : b < w.heap.size := by
  obtain ⟨cs, h1, _⟩ := h
  exact lt_of_heap h1
theorem BuAt.keep (h : BuAt T w b N Fr Gv) (hk : w'.heap[b]? = w.heap[b]?) : BuAt T w' b N Fr Gv := by
  obtain ⟨cs, h1, r⟩ := h
  exact ⟨cs, hk.trans h1, r⟩
theorem BuAt.below (h : BuAt T w b N Fr Gv) (hb : Below w.heap.size w w') : BuAt T w' b N Fr Gv := h.keep (hb.block b h.lt)
theorem BuAt.drew (h : BuAt T w b N Fr Gv) : BuAt T w.drew b N Fr Gv := h
theorem BuAt.head (h : BuAt T w b N Fr Gv) : w.cell? ⟨b, 0, none⟩ = some (.bool true) ∧ w.cell? ⟨b, 1, none⟩ = some (.int .i64 N) := by
  obtain ⟨cs, h1, h2, h3, h4, _⟩ := h
  exact ⟨by rw [cell_of_row w b _ cs _ _ h1]; exact h3, by rw [cell_of_row w b _ cs _ _ h1]; exact h4⟩
theorem BuAt.free (h : BuAt T w b N Fr Gv) {k : Nat} (hk : k < 11) : SetAt w b (2 + k * 16) (Fr k) := by
  obtain ⟨cs, h1, h2, h3, h4, h5⟩ := h
  exact fun q hq => ⟨by rw [cell_of_row w b _ cs _ _ h1]; exact (h5 k q hk hq).1, by simp [World.frozen?, h1]⟩
theorem BuAt.given (h : BuAt T w b N Fr Gv) {k : Nat} (hk : k < 11) : SetAt w b (178 + k * 16) (Gv k) := by
  obtain ⟨cs, h1, h2, h3, h4, h5⟩ := h
  exact fun q hq => ⟨by rw [cell_of_row w b _ cs _ _ h1]; exact (h5 k q hk hq).2, by simp [World.frozen?, h1]⟩

theorem BuAt.setF (h : BuAt T w b N Fr Gv) {k q : Nat} {S : Nat → Bool} (hk : k < 11) (hq : q < 16) (hS : ∀ x, x / 64 ≠ q → S x = Fr k x) :
    BuAt T (w.setCell ⟨b, 2 + k * 16 + q, none⟩ (.int .u64 (word S q))) b N (upd Fr k S) Gv := by
  obtain ⟨cs, h1, h2, h3, h4, h5⟩ := h
  refine ⟨_, setCell_at _ _ _ _ _ _ h1, by simpa using h2, ?_, ?_, fun a r ha hr => ⟨?_, ?_⟩⟩
  · rw [Array.getElem?_setIfInBounds, if_neg (by omega)]; exact h3
  · rw [Array.getElem?_setIfInBounds, if_neg (by omega)]; exact h4
  · rw [Array.getElem?_setIfInBounds]
    by_cases e : 2 + k * 16 + q = 2 + a * 16 + r
    · obtain ⟨rfl, rfl⟩ : k = a ∧ q = r := by omega
      rw [if_pos rfl, if_pos (by omega), upd_same]
    · rw [if_neg e, (h5 a r ha hr).1]
      by_cases e2 : a = k
      · subst e2
        rw [upd_same, word_far (S := S) (S' := Fr a) fun x hx => hS x (by omega)]
      · rw [upd_ne _ _ _ _ e2]
  · rw [Array.getElem?_setIfInBounds, if_neg (by omega)]; exact (h5 a r ha hr).2

theorem BuAt.setG (h : BuAt T w b N Fr Gv) {k q : Nat} {S : Nat → Bool} (hk : k < 11) (hq : q < 16) (hS : ∀ x, x / 64 ≠ q → S x = Gv k x) :
    BuAt T (w.setCell ⟨b, 178 + k * 16 + q, none⟩ (.int .u64 (word S q))) b N Fr (upd Gv k S) := by
  obtain ⟨cs, h1, h2, h3, h4, h5⟩ := h
  refine ⟨_, setCell_at _ _ _ _ _ _ h1, by simpa using h2, ?_, ?_, fun a r ha hr => ⟨?_, ?_⟩⟩
  · rw [Array.getElem?_setIfInBounds, if_neg (by omega)]; exact h3
  · rw [Array.getElem?_setIfInBounds, if_neg (by omega)]; exact h4
  · rw [Array.getElem?_setIfInBounds, if_neg (by omega)]; exact (h5 a r ha hr).1
  · rw [Array.getElem?_setIfInBounds]
    by_cases e : 178 + k * 16 + q = 178 + a * 16 + r
    · obtain ⟨rfl, rfl⟩ : k = a ∧ q = r := by omega
      rw [if_pos rfl, if_pos (by omega), upd_same]
    · rw [if_neg e, (h5 a r ha hr).2]
      by_cases e2 : a = k
      · subst e2
        rw [upd_same, word_far (S := S) (S' := Gv a) fun x hx => hS x (by omega)]
      · rw [upd_ne _ _ _ _ e2]

theorem sadd_far (S : Nat → Bool) (p x : Nat) (h : x / 64 ≠ p / 64) : sadd S p x = S x := by
  unfold sadd
  have : (x == p) = false := beq_eq_false_iff_ne.2 (fun e => h (by rw [e]))
  rw [this, Bool.false_or]
theorem sdel_far (S : Nat → Bool) (p x : Nat) (h : x / 64 ≠ p / 64) : sdel S p x = S x := by
  unfold sdel
  have : (x != p) = true := bne_iff_ne.2 (fun e => h (by rw [e]))
  rw [this, Bool.true_and]

/-- The members of a set, ascending. -/
def members (S : Nat → Bool) (n : Nat) : List Nat := (List.range n).filter S
theorem members_next (S : Nat → Bool) (n : Nat) : members S (n + 1) = if S n then members S n ++ [n] else members S n := by
  unfold members
  rw [List.range_succ, List.filter_append]
  by_cases h : S n = true
  · rw [if_pos h]; simp [h]
  · rw [if_neg h]; simp [h]
theorem members_len (S : Nat → Bool) (n : Nat) : (members S n).length ≤ n := by
  have := List.length_filter_le S (List.range n)
  rw [List.length_range] at this
  exact this
end Bu
end Go.Proofs.Ytlknhbcambdccaa
namespace Go.Proofs.Ytlknhbcambdccaa
namespace Bu

/-- The sets say what is given, and what is free. -/
structure Sem (N : Nat) (Fr Gv : Nat → Nat → Bool) (G : Bl) : Prop where
  ok : Ok G N
  n10 : N ≤ 10
  free : ∀ k p, k < 11 → p < 1024 → (Fr k p = true ↔ p % 2 ^ k = 0 ∧ MaxFree G N k (p / 2 ^ k))
  given : ∀ k p, k < 11 → p < 1024 → (Gv k p = true ↔ p % 2 ^ k = 0 ∧ G k (p / 2 ^ k))

theorem mul_of_mod {p k : Nat} (h : p % 2 ^ k = 0) : p / 2 ^ k * 2 ^ k = p := Nat.div_mul_cancel (Nat.dvd_of_mod_eq_zero h)
theorem eq_page {p k i : Nat} (h : p % 2 ^ k = 0) : p = i * 2 ^ k ↔ p / 2 ^ k = i := by
  constructor
  · rintro rfl; exact first k i
  · rintro rfl; exact (mul_of_mod h).symm

/-- The other halves, put. -/
def halves (F : Nat → Nat → Bool) (lo hi page : Nat) : Nat → Nat → Bool := fun a => if lo ≤ a ∧ a < hi then sadd (F a) (sib (page / 2 ^ a) * 2 ^ a) else F a
theorem halves_none (F : Nat → Nat → Bool) (lo page : Nat) : halves F lo lo page = F := by
  funext a
  unfold halves
  rw [if_neg (by omega)]
theorem halves_next (F : Nat → Nat → Bool) (lo hi page : Nat) (h : lo ≤ hi) : halves (upd F hi (sadd (F hi) (sib (page / 2 ^ hi) * 2 ^ hi))) lo hi page = halves F lo (hi + 1) page := by
  funext a
  unfold halves
  by_cases e : a = hi
  · subst e
    rw [if_neg (by omega), if_pos (by omega), upd_same]
  · rw [upd_ne _ _ _ _ e]
    by_cases e2 : lo ≤ a ∧ a < hi
    · rw [if_pos e2, if_pos (by omega)]
    · rw [if_neg e2, if_neg (by omega)]

theorem sem_carve {N : Nat} {Fr Gv : Nat → Nat → Bool} {G : Bl} (h : Sem N Fr Gv G) {k m i : Nat} (hN : k + m ≤ N) (hB : MaxFree G N (k + m) (i / 2 ^ m)) :
    Sem N (halves (upd Fr (k + m) (sdel (Fr (k + m)) (i / 2 ^ m * 2 ^ (k + m)))) k (k + m) (i * 2 ^ k)) (upd Gv k (sadd (Gv k) (i * 2 ^ k))) (add G k i) := by
  have hn := h.n10
  have hpa : ∀ j, i * 2 ^ k / 2 ^ (k + j) = i / 2 ^ j := fun j => by rw [div_pow, first]
  have hk1 : 2 ^ (N - k) = 2 ^ (N - (k + m)) * 2 ^ m := by rw [← Nat.pow_add, show N - (k + m) + m = N - k by omega]
  have hi : i < 2 ^ (N - k) := by
    rw [hk1]
    exact (Nat.div_lt_iff_lt_mul (Nat.pow_pos (by decide))).1 hB.2.1
  refine ⟨h.ok.add (by omega) hi ?_, hn, fun a p ha hp => ?_, fun a p ha hp => ?_⟩
  · exact Free.mono m hB.2.2.1
  · rw [carve hB a (p / 2 ^ a)]
    unfold halves
    by_cases e : k ≤ a ∧ a < k + m
    · rw [if_pos e]
      obtain ⟨j, rfl⟩ := Nat.exists_eq_add_of_le e.1
      rw [upd_ne _ _ _ _ (by omega), hpa j]
      unfold sadd
      rw [Bool.or_eq_true, beq_iff_eq, h.free _ p ha hp]
      constructor
      · rintro (rfl | ⟨h1, h2⟩)
        · refine ⟨Nat.mul_mod_left _ _, .inr ⟨j, by omega, rfl, first _ _⟩⟩
        · exact ⟨h1, .inl ⟨h2, by omega⟩⟩
      · rintro ⟨h1, ⟨h2, _⟩ | ⟨j', h2, h3, h4⟩⟩
        · exact .inr ⟨h1, h2⟩
        · obtain rfl : j = j' := by omega
          exact .inl ((eq_page h1).2 h4)
    · rw [if_neg e]
      by_cases e2 : a = k + m
      · subst e2
        rw [upd_same]
        unfold sdel
        rw [Bool.and_eq_true, bne_iff_ne, h.free _ p ha hp]
        constructor
        · rintro ⟨h1, h2, h3⟩
          exact ⟨h2, .inl ⟨h3, fun ⟨_, h4⟩ => h1 ((eq_page h2).2 h4)⟩⟩
        · rintro ⟨h1, ⟨h2, h3⟩ | ⟨j', h2, h3, h4⟩⟩
          · exact ⟨fun h4 => h3 ⟨rfl, (eq_page h1).1 h4⟩, h1, h2⟩
          · omega
      · rw [upd_ne _ _ _ _ e2, h.free _ p ha hp]
        constructor
        · rintro ⟨h1, h2⟩
          exact ⟨h1, .inl ⟨h2, fun h3 => e2 h3.1⟩⟩
        · rintro ⟨h1, ⟨h2, _⟩ | ⟨j', h2, h3, h4⟩⟩
          · exact ⟨h1, h2⟩
          · exact absurd ⟨by omega, by omega⟩ e
  · by_cases e : a = k
    · subst e
      rw [upd_same]
      unfold sadd
      rw [Bool.or_eq_true, beq_iff_eq, h.given _ p ha hp]
      constructor
      · rintro (rfl | ⟨h1, h2⟩)
        · exact ⟨Nat.mul_mod_left _ _, .inl ⟨rfl, first _ _⟩⟩
        · exact ⟨h1, .inr h2⟩
      · rintro ⟨h1, ⟨_, h2⟩ | h2⟩
        · exact .inl ((eq_page h1).2 h2)
        · exact .inr ⟨h1, h2⟩
    · rw [upd_ne _ _ _ _ e, h.given _ p ha hp]
      constructor
      · rintro ⟨h1, h2⟩; exact ⟨h1, .inr h2⟩
      · rintro ⟨h1, ⟨h2, _⟩ | h2⟩
        · exact absurd h2 e
        · exact ⟨h1, h2⟩

/-- A block given back, and its halves put together. -/
def unhalves (F : Nat → Nat → Bool) (lo hi page : Nat) : Nat → Nat → Bool := fun a => if lo ≤ a ∧ a < hi then sdel (F a) (sib (page / 2 ^ a) * 2 ^ a) else F a
theorem unhalves_none (F : Nat → Nat → Bool) (lo page : Nat) : unhalves F lo lo page = F := by
  funext a
  unfold unhalves
  rw [if_neg (by omega)]
theorem unhalves_next (F : Nat → Nat → Bool) (lo hi page : Nat) (h : lo ≤ hi) : upd (unhalves F lo hi page) hi (sdel (unhalves F lo hi page hi) (sib (page / 2 ^ hi) * 2 ^ hi)) = unhalves F lo (hi + 1) page := by
  funext a
  by_cases e : a = hi
  · subst e
    rw [upd_same]
    unfold unhalves
    rw [if_neg (by omega), if_pos (by omega)]
  · rw [upd_ne _ _ _ _ e]
    unfold unhalves
    by_cases e2 : lo ≤ a ∧ a < hi
    · rw [if_pos e2, if_pos (by omega)]
    · rw [if_neg e2, if_neg (by omega)]

theorem sem_merge {N : Nat} {Fr Gv : Nat → Nat → Bool} {G : Bl} (h : Sem N Fr Gv G) {k m i : Nat} (hg : G k i) (hB : MaxFree (del G k i) N (k + m) (i / 2 ^ m)) :
    Sem N (upd (unhalves Fr k (k + m) (i * 2 ^ k)) (k + m) (sadd (unhalves Fr k (k + m) (i * 2 ^ k) (k + m)) (i / 2 ^ m * 2 ^ (k + m)))) (upd Gv k (sdel (Gv k) (i * 2 ^ k))) (del G k i) := by
  have hpa : ∀ j, i * 2 ^ k / 2 ^ (k + j) = i / 2 ^ j := fun j => by rw [div_pow, first]
  refine ⟨h.ok.del, h.n10, fun a p ha hp => ?_, fun a p ha hp => ?_⟩
  · rw [merge h.ok hg hB a (p / 2 ^ a)]
    by_cases e2 : a = k + m
    · subst e2
      rw [upd_same]
      unfold sadd unhalves
      rw [if_neg (by omega), Bool.or_eq_true, beq_iff_eq, h.free _ p ha hp]
      constructor
      · rintro (rfl | ⟨h1, h2⟩)
        · exact ⟨Nat.mul_mod_left _ _, .inr ⟨rfl, first _ _⟩⟩
        · exact ⟨h1, .inl ⟨h2, fun ⟨j, h3, h4, _⟩ => by omega⟩⟩
      · rintro ⟨h1, ⟨h2, _⟩ | ⟨_, h2⟩⟩
        · exact .inr ⟨h1, h2⟩
        · exact .inl ((eq_page h1).2 h2)
    · rw [upd_ne _ _ _ _ e2]
      unfold unhalves
      by_cases e : k ≤ a ∧ a < k + m
      · rw [if_pos e]
        obtain ⟨j, rfl⟩ := Nat.exists_eq_add_of_le e.1
        rw [hpa j]
        unfold sdel
        rw [Bool.and_eq_true, bne_iff_ne, h.free _ p ha hp]
        constructor
        · rintro ⟨h1, h2, h3⟩
          refine ⟨h2, .inl ⟨h3, ?_⟩⟩
          rintro ⟨j', h4, h5, h6⟩
          obtain rfl : j = j' := by omega
          exact h1 ((eq_page h2).2 h6)
        · rintro ⟨h1, ⟨h2, h3⟩ | ⟨h2, _⟩⟩
          · exact ⟨fun h4 => h3 ⟨j, by omega, rfl, (eq_page h1).1 h4⟩, h1, h2⟩
          · omega
      · rw [if_neg e, h.free _ p ha hp]
        constructor
        · rintro ⟨h1, h2⟩
          refine ⟨h1, .inl ⟨h2, ?_⟩⟩
          rintro ⟨j', h4, h5, h6⟩
          exact e ⟨by omega, by omega⟩
        · rintro ⟨h1, ⟨h2, _⟩ | ⟨h2, _⟩⟩
          · exact ⟨h1, h2⟩
          · exact absurd h2 e2
  · by_cases e : a = k
    · subst e
      rw [upd_same]
      unfold sdel
      rw [Bool.and_eq_true, bne_iff_ne, h.given _ p ha hp]
      constructor
      · rintro ⟨h1, h2, h3⟩
        exact ⟨h2, fun ⟨_, h4⟩ => h1 ((eq_page h2).2 h4), h3⟩
      · rintro ⟨h1, h2, h3⟩
        exact ⟨fun h4 => h2 ⟨rfl, (eq_page h1).1 h4⟩, h1, h3⟩
    · rw [upd_ne _ _ _ _ e, h.given _ p ha hp]
      constructor
      · rintro ⟨h1, h2⟩; exact ⟨h1, fun h3 => e h3.1, h2⟩
      · rintro ⟨h1, _, h2⟩; exact ⟨h1, h2⟩
end Bu
end Go.Proofs.Ytlknhbcambdccaa
namespace Go.Proofs.Ytlknhbcambdccaa
namespace Bu

theorem i64_toNat (n : Nat) (h : n < 9223372036854775808) : (BitVec.ofInt 64 (n : Int)).toNat = n := by
  simp; omega
theorem i64_wrap (n : Nat) (h : n < 9223372036854775808) : IntKind.i64.wrap (n : Int) = n := by
  rw [IntWalk.i64_in]; omega

theorem bits_and (m n : Nat) (hm : m < 9223372036854775808) (hn : n < 9223372036854775808) : bits .and .i64 (m : Int) (n : Int) = ((m &&& n : Nat) : Int) := by
  have h3 : m &&& n ≤ m := Nat.and_le_left
  show IntKind.i64.wrap ((BitVec.ofInt 64 (m : Int) &&& BitVec.ofInt 64 (n : Int)).toNat : Int) = _
  rw [BitVec.toNat_and, i64_toNat m hm, i64_toNat n hn, i64_wrap _ (by omega)]
theorem bits_xor (m n : Nat) (hm : m < 9223372036854775808) (hn : n < 9223372036854775808) : bits .xor .i64 (m : Int) (n : Int) = ((m ^^^ n : Nat) : Int) := by
  have h3 : m ^^^ n < 2 ^ 63 := Nat.xor_lt_two_pow (by omega) (by omega)
  show IntKind.i64.wrap ((BitVec.ofInt 64 (m : Int) ^^^ BitVec.ofInt 64 (n : Int)).toNat : Int) = _
  rw [BitVec.toNat_xor, i64_toNat m hm, i64_toNat n hn, i64_wrap _ (by omega)]
theorem bits_andNot (m n : Nat) (hm : m < 9223372036854775808) (hn : n < 9223372036854775808) (r : Nat) (hr : r < 9223372036854775808) (h : ∀ i, r.testBit i = (m.testBit i && !n.testBit i)) : bits .andNot .i64 (m : Int) (n : Int) = (r : Int) := by
  have key : (BitVec.ofInt 64 (m : Int) &&& ~~~ BitVec.ofInt 64 (n : Int)).toNat = r := by
    apply Nat.eq_of_testBit_eq
    intro i
    rw [BitVec.testBit_toNat, BitVec.getLsbD_and, BitVec.getLsbD_not, ← BitVec.testBit_toNat, ← BitVec.testBit_toNat, i64_toNat m hm, i64_toNat n hn, h i]
    by_cases hi : i < 64
    · simp [hi]
    · have : m.testBit i = false := Nat.testBit_lt_two_pow (Nat.lt_of_lt_of_le hm (by
        have : 2 ^ 63 ≤ 2 ^ i := Nat.pow_le_pow_right (by omega) (by omega)
        omega))
      simp [this]
  show IntKind.i64.wrap ((BitVec.ofInt 64 (m : Int) &&& ~~~ BitVec.ofInt 64 (n : Int)).toNat : Int) = _
  rw [key, i64_wrap _ hr]

theorem pow_small {k : Nat} (hk : k ≤ 11) : 2 ^ k ≤ 2048 := by
  have : 2 ^ k ≤ 2 ^ 11 := Nat.pow_le_pow_right (by omega) hk
  omega

theorem low_bits (p k : Nat) : p % 2 ^ k = p &&& (2 ^ k - 1) := (Nat.and_two_pow_sub_one_eq_mod p k).symm

/-- page & (1<<k - 1) -/
theorem mask_and (p k : Nat) (hp : p < 9223372036854775808) (hk : k ≤ 11) : bits .and .i64 (p : Int) ((2 ^ k : Nat) - 1 : Int) = ((p % 2 ^ k : Nat) : Int) := by
  have h0 := Nat.pow_pos (n := k) (show 0 < 2 by decide)
  have h1 := pow_small hk
  rw [show ((2 ^ k : Nat) - 1 : Int) = ((2 ^ k - 1 : Nat) : Int) by omega, bits_and p _ hp (by omega), low_bits]
/-- page &^ (1<<k - 1) -/
theorem mask_off (p k : Nat) (hp : p < 9223372036854775808) (hk : k ≤ 11) : bits .andNot .i64 (p : Int) ((2 ^ k : Nat) - 1 : Int) = ((p / 2 ^ k * 2 ^ k : Nat) : Int) := by
  have h0 := Nat.pow_pos (n := k) (show 0 < 2 by decide)
  have h1 := pow_small hk
  have h2 := Nat.div_mul_le_self p (2 ^ k)
  rw [show ((2 ^ k : Nat) - 1 : Int) = ((2 ^ k - 1 : Nat) : Int) by omega]
  refine bits_andNot p _ hp (by omega) _ (by omega) fun i => ?_
  rw [← Nat.shiftRight_eq_div_pow, ← Nat.shiftLeft_eq, Nat.testBit_shiftLeft, Nat.testBit_shiftRight, Nat.testBit_two_pow_sub_one]
  by_cases hik : i < k
  · have : ¬ k ≤ i := by omega
    simp [hik, this]
  · have h4 : k + (i - k) = i := by omega
    simp [hik, h4, show k ≤ i by omega]

theorem shl_bit (i k j : Nat) : (i * 2 ^ k).testBit j = (decide (k ≤ j) && i.testBit (j - k)) := by
  rw [← Nat.shiftLeft_eq, Nat.testBit_shiftLeft]

theorem sib_bit (i j : Nat) : (sib i).testBit j = if j = 0 then !i.testBit 0 else i.testBit j := by
  cases j with
  | zero =>
    rw [if_pos rfl, Nat.testBit_zero, Nat.testBit_zero]
    unfold sib
    split
    · have h1 : (i + 1) % 2 = 1 := by omega
      have h2 : i % 2 = 0 := by omega
      simp [h1, h2]
    · have h1 : (i - 1) % 2 = 0 := by omega
      have h2 : i % 2 = 1 := by omega
      simp [h1, h2]
  | succ j =>
    rw [if_neg (by omega), Nat.testBit_succ, Nat.testBit_succ, sib_half]

/-- page ^ 1<<k -/
theorem flip_page (i k : Nat) (hp : i * 2 ^ k < 9223372036854775808) (hk : k ≤ 11) : bits .xor .i64 ((i * 2 ^ k : Nat) : Int) ((2 ^ k : Nat) : Int) = ((sib i * 2 ^ k : Nat) : Int) := by
  have h1 := pow_small hk
  rw [bits_xor _ _ hp (by omega)]
  congr 1
  apply Nat.eq_of_testBit_eq
  intro j
  rw [Nat.testBit_xor, shl_bit, shl_bit, Nat.testBit_two_pow, sib_bit]
  by_cases e : k ≤ j
  · by_cases e2 : j = k
    · subst e2; simp
    · have h3 : j - k ≠ 0 := by omega
      simp [e, h3, show k ≠ j by omega]
  · simp [e, show k ≠ j by omega]
/-- page &^ 1<<k -/
theorem clear_page (i k : Nat) (hp : i * 2 ^ k < 9223372036854775808) (hk : k ≤ 10) : bits .andNot .i64 ((i * 2 ^ k : Nat) : Int) ((2 ^ k : Nat) : Int) = ((i / 2 * 2 ^ (k + 1) : Nat) : Int) := by
  have h1 := pow_small (show k ≤ 11 by omega)
  have h2 : i / 2 * 2 ^ (k + 1) ≤ i * 2 ^ k := by
    rw [Nat.pow_succ, Nat.mul_comm (2 ^ k) 2, ← Nat.mul_assoc]
    exact Nat.mul_le_mul_right _ (by omega)
  refine bits_andNot _ _ hp (by omega) _ (by omega) fun j => ?_
  rw [shl_bit, shl_bit, Nat.testBit_two_pow]
  by_cases e : k + 1 ≤ j
  · have h3 : (i / 2).testBit (j - (k + 1)) = i.testBit (j - k) := by
      rw [show j - k = (j - (k + 1)) + 1 by omega, Nat.testBit_succ]
    simp [e, h3, show k ≤ j by omega, show k ≠ j by omega]
  · by_cases e2 : j = k
    · subst e2
      rw [decide_eq_false e, Bool.false_and]; simp
    · simp [e, show ¬ k ≤ j by omega]
end Bu
end Go.Proofs.Ytlknhbcambdccaa
namespace Go.Proofs.Ytlknhbcambdccaa
open Go.RowKit
namespace Bu

theorem has_int (S : Nat → Bool) (p : Nat) : (bits .and .u64 ((word S (p / 64) : Int) / 2 ^ (p % 64)) 1 == 1) = S p := by
  have h := has_word S p
  have e : ((word S (p / 64) / 2 ^ (p % 64) : Nat) : Int) = (word S (p / 64) : Int) / 2 ^ (p % 64) := by rw [Int.natCast_ediv, Int.natCast_pow]; rfl
  rw [e] at h
  show (bits .and .u64 ((word S (p / 64) : Int) / 2 ^ (p % 64)) ((1 : Nat) : Int) == 1) = S p
  rw [h]
  cases S p <;> rfl

set_option maxHeartbeats 400000 in
theorem has_ok (w : World) (b o p : Nat) (S : Nat → Bool) (h : SetAt w b o S) (hp : p < 1024) :
    Calls Try.prog 86 #[.pointer (some ⟨b, o, none⟩), .int .i64 p] w fun e w' => e = .returned (.bool (S p)) ∧ w = w' := by
  obtain ⟨hc, hf⟩ := h (p / 64) (by omega)
  have hb := has_word S p
  have HS := Lib.hid (And.intro h hb)
  clear h hb
  go_enter Try.func86, Try.ntmps86
  go_wp2
  go_ret
  exact ⟨by rw [← has_int S p]; rfl, rfl⟩

theorem pow_wrap (p : Nat) : IntKind.u64.wrap ((2 : Int) ^ (p % 64)) = ((2 ^ (p % 64) : Nat) : Int) := by
  have e : (2 : Int) ^ (p % 64) = ((2 ^ (p % 64) : Nat) : Int) := by rw [Int.natCast_pow]; rfl
  rw [e, u64_wrap _ (pow_lt_u64 (Nat.mod_lt _ (by decide)))]
theorem put_int (S : Nat → Bool) (p : Nat) : bits .or .u64 (word S (p / 64) : Int) (IntKind.u64.wrap (2 ^ (p % 64))) = (word (sadd S p) (p / 64) : Int) := by
  rw [pow_wrap, put_word]
theorem take_int (S : Nat → Bool) (p : Nat) : bits .andNot .u64 (word S (p / 64) : Int) (IntKind.u64.wrap (2 ^ (p % 64))) = (word (sdel S p) (p / 64) : Int) := by
  rw [pow_wrap, take_word]

/-- The world where a set has turned. -/
def setW (w : World) (b o p : Nat) (S : Nat → Bool) : World := (w.setCell ⟨b, o + p / 64, none⟩ (.int .u64 (word S (p / 64)))).drew

set_option maxHeartbeats 1000000 in
theorem put_ok (w : World) (b o p : Nat) (S : Nat → Bool) (h : SetAt w b o S) (hp : p < 1024) :
    Calls Try.prog 44 #[.pointer (some ⟨b, o, none⟩), .int .i64 p] w fun e w' => e = .returned (.tuple #[]) ∧ w' = setW w b o p (sadd S p) := by
  obtain ⟨hc, hf⟩ := h (p / 64) (by omega)
  clear h
  go_enter Try.func44, Try.ntmps44
  go_wp2
  go_region
  go_end0
  exact ⟨rfl, by rw [put_int]; rfl⟩

set_option maxHeartbeats 1000000 in
theorem take_ok (w : World) (b o p : Nat) (S : Nat → Bool) (h : SetAt w b o S) (hp : p < 1024) :
    Calls Try.prog 91 #[.pointer (some ⟨b, o, none⟩), .int .i64 p] w fun e w' => e = .returned (.tuple #[]) ∧ w' = setW w b o p (sdel S p) := by
  obtain ⟨hc, hf⟩ := h (p / 64) (by omega)
  clear h
  go_enter Try.func91, Try.ntmps91
  go_wp2
  go_region
  go_end0
  exact ⟨rfl, by rw [take_int]; rfl⟩

/-- An allocator of this program. -/
abbrev Bu (w : World) (b N : Nat) (Fr Gv : Nat → Nat → Bool) : Prop := BuAt 86 w b N Fr Gv
theorem Bu.putF {w : World} {b N : Nat} {Fr Gv : Nat → Nat → Bool} (h : Bu w b N Fr Gv) {k p : Nat} (hk : k < 11) (hp : p < 1024) : Bu (setW w b (2 + k * 16) p (sadd (Fr k) p)) b N (upd Fr k (sadd (Fr k) p)) Gv :=
  (h.setF hk (by omega) fun x hx => sadd_far _ _ _ hx).drew
theorem Bu.takeF {w : World} {b N : Nat} {Fr Gv : Nat → Nat → Bool} (h : Bu w b N Fr Gv) {k p : Nat} (hk : k < 11) (hp : p < 1024) : Bu (setW w b (2 + k * 16) p (sdel (Fr k) p)) b N (upd Fr k (sdel (Fr k) p)) Gv :=
  (h.setF hk (by omega) fun x hx => sdel_far _ _ _ hx).drew
theorem Bu.putG {w : World} {b N : Nat} {Fr Gv : Nat → Nat → Bool} (h : Bu w b N Fr Gv) {k p : Nat} (hk : k < 11) (hp : p < 1024) : Bu (setW w b (178 + k * 16) p (sadd (Gv k) p)) b N Fr (upd Gv k (sadd (Gv k) p)) :=
  (h.setG hk (by omega) fun x hx => sadd_far _ _ _ hx).drew
theorem Bu.takeG {w : World} {b N : Nat} {Fr Gv : Nat → Nat → Bool} (h : Bu w b N Fr Gv) {k p : Nat} (hk : k < 11) (hp : p < 1024) : Bu (setW w b (178 + k * 16) p (sdel (Gv k) p)) b N Fr (upd Gv k (sdel (Gv k) p)) :=
  (h.setG hk (by omega) fun x hx => sdel_far _ _ _ hx).drew
theorem setW_far (w : World) (b o p : Nat) (S : Nat → Bool) (k : Nat) (h : k ≠ b) : (setW w b o p S).heap[k]? = w.heap[k]? := setCell_far _ _ _ _ h
theorem setW_grow (w : World) (b o p : Nat) (S : Nat → Bool) : Grow1 b w (setW w b o p S) := ((Grow1.refl b w).setCell _ _).drew
theorem setW_size (w : World) (b o p : Nat) (S : Nat → Bool) : (setW w b o p S).heap.size = w.heap.size := setCell_size _ _ _
end Bu
end Go.Proofs.Ytlknhbcambdccaa
