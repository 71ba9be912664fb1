/- Largest. What Alloc, Largest and Owner say of the blocks given. The comparison of sorted. -/
import Derived.Test.YtlknhbcambdccaaK8
namespace Go.Proofs.Ytlknhbcambdccaa
open Go.RowKit
namespace Bu

/-- The greatest order below n with a free block. -/
def lastK (Fr : Nat → Nat → Bool) : Nat → Option Nat
  | 0 => none
  | n + 1 => match least (Fr n) with
    | none => lastK Fr n
    | some _ => some n
/-- What Largest hands back. -/
def LargestV : Option Nat → Value
  | some k => .tuple #[.int .i64 (k : Int), .int .i64 0]
  | none => .tuple #[.int .i64 0, .int .i64 4]

end Bu
end Go.Proofs.Ytlknhbcambdccaa
namespace Go.Proofs.Ytlknhbcambdccaa
open Go.RowKit
namespace Bu

theorem least_some {S : Nat → Bool} {p : Nat} (h : least S = some p) : p < 1024 ∧ S p = true ∧ ∀ q, q < p → S q = false := by
  unfold least members at h
  rw [List.head?_filter, List.find?_range_eq_some] at h
  obtain ⟨h1, h2, h3⟩ := h
  exact ⟨List.mem_range.1 h2, h1, fun q hq => by simpa using h3 q hq⟩

theorem firstK_some {Fr : Nat → Nat → Bool} {j p : Nat} : ∀ (n k : Nat), firstK Fr k n = some (j, p) → k ≤ j ∧ j < k + n ∧ least (Fr j) = some p ∧ ∀ a, k ≤ a → a < j → least (Fr a) = none := by
  intro n
  induction n with
  | zero => intro k h; rw [firstK_zero] at h; cases h
  | succ n ih =>
    intro k h
    cases hl : least (Fr k) with
    | some q =>
      rw [firstK_cons hl] at h
      injection h with h
      injection h with h1 h2
      subst h1; subst h2
      exact ⟨Nat.le_refl _, by omega, hl, fun a h1 h2 => by omega⟩
    | none =>
      rw [firstK_nil hl] at h
      obtain ⟨h1, h2, h3, h4⟩ := ih _ h
      refine ⟨by omega, by omega, h3, fun a g1 g2 => ?_⟩
      by_cases e : a = k
      · subst e; exact hl
      · exact h4 a (by omega) g2
theorem firstK_none {Fr : Nat → Nat → Bool} : ∀ (n k : Nat), firstK Fr k n = none → ∀ a, k ≤ a → a < k + n → least (Fr a) = none := by
  intro n
  induction n with
  | zero => intro k _ a h1 h2; omega
  | succ n ih =>
    intro k h a h1 h2
    cases hl : least (Fr k) with
    | some q => rw [firstK_cons hl] at h; cases h
    | none =>
      rw [firstK_nil hl] at h
      by_cases e : a = k
      · subst e; exact hl
      · exact ih _ h a (by omega) (by omega)

/-- No set holds a free block: none is free. -/
theorem none_free {N : Nat} {Fr Gv : Nat → Nat → Bool} {G : Bl} (h : Sem N Fr Gv G) {k : Nat} (hk : k ≤ N) (hl : least (Fr k) = none) (i : Nat) : ¬ MaxFree G N k i := fun hM => by
  have hn := h.n10
  have hi : i * 2 ^ k < 1024 := by
    have h1 : i * 2 ^ k < 2 ^ (N - k) * 2 ^ k := Nat.mul_lt_mul_of_pos_right hM.2.1 (Nat.pow_pos (by decide))
    rw [← Nat.pow_add, Nat.sub_add_cancel hk] at h1
    have : 2 ^ N ≤ 2 ^ 10 := Nat.pow_le_pow_right (by omega) hn
    omega
  have h2 := (h.free k (i * 2 ^ k) (by omega) hi).2 ⟨Nat.mul_mod_left _ _, by rw [first]; exact hM⟩
  rw [least_none.1 hl _ hi] at h2
  cases h2

/-- What Alloc does. -/
def AllocG (b N order : Nat) (G : Bl) (w : World) (e : Ending) (w' : World) : Prop :=
  Grow1 b w w' ∧
  ((e = .returned (.tuple #[.int .i64 0, .int .i64 5]) ∧ Bud w' b N G ∧ ∀ i, i < 2 ^ (N - order) → order ≤ N → ¬ Free G order i) ∨
   ∃ k i, e = .returned (.tuple #[.int .i64 ((i * 2 ^ k : Nat) : Int), .int .i64 0]) ∧ order ≤ k ∧ MaxFree G N k i ∧ (∀ a, order ≤ a → a < k → ∀ j, ¬ MaxFree G N a j) ∧ (∀ j, MaxFree G N k j → i ≤ j) ∧
     Bud w' b N (add G order (i * 2 ^ (k - order))))

theorem alloc_sem (w : World) (b N order : Nat) (G : Bl) (h : Bud w b N G) (ho : order ≤ 10) :
    Calls Try.prog 39 #[.pointer (some ⟨b, 0, none⟩), .int .i64 order] w fun e w' => AllocG b N order G w e w' := by
  obtain ⟨Fr, Gv, h1, h2⟩ := h
  have hn := h2.n10
  refine (alloc_ok w b N order Fr Gv h1 hn ho).mono ?_
  intro e w' hR
  cases hk : firstK Fr order (N + 1 - order) with
  | none =>
    rw [hk] at hR
    obtain ⟨he, hG, hB⟩ := hR
    refine ⟨hG, .inl ⟨he, ⟨Fr, Gv, hB, h2⟩, fun i hi hoN hf => ?_⟩⟩
    obtain ⟨m, hm⟩ := around hoN hi hf
    exact none_free h2 hm.1 (firstK_none _ _ hk (order + m) (by omega) (by have := hm.1; omega)) _ hm
  | some r =>
    obtain ⟨k, p⟩ := r
    rw [hk] at hR
    obtain ⟨he, hG, hB, hk1, hk2, hp, hFp⟩ := hR
    obtain ⟨_, _, hl, hmin⟩ := firstK_some _ _ hk
    obtain ⟨_, _, hlow⟩ := least_some hl
    obtain ⟨hmod, hM⟩ := (h2.free k p (by omega) hp).1 hFp
    have hpe : p / 2 ^ k * 2 ^ k = p := mul_of_mod hmod
    obtain ⟨m, rfl⟩ := Nat.exists_eq_add_of_le hk1
    have hmod2 : p % 2 ^ order = 0 := by
      rw [← hpe, Nat.pow_add, Nat.mul_comm (2 ^ order), ← Nat.mul_assoc]
      exact Nat.mul_mod_left _ _
    have hdiv : p / 2 ^ order = p / 2 ^ (order + m) * 2 ^ m := by
      obtain ⟨q, hq⟩ : ∃ q, q = p / 2 ^ (order + m) := ⟨_, rfl⟩
      rw [← hq] at hpe ⊢
      rw [← hpe, Nat.pow_add, Nat.mul_comm (2 ^ order), ← Nat.mul_assoc, first]
    refine ⟨hG, .inr ⟨order + m, p / 2 ^ (order + m), by rw [hpe]; exact he, hk1, hM, fun a g1 g2 j => none_free h2 (by omega) (hmin a g1 g2) j, fun j hj => ?_, ?_⟩⟩
    · refine Nat.le_of_not_lt fun hlt => ?_
      have hjp : j * 2 ^ (order + m) < p := by
        rw [← hpe]
        exact Nat.mul_lt_mul_of_pos_right hlt (Nat.pow_pos (by decide))
      have h3 := (h2.free (order + m) (j * 2 ^ (order + m)) (by omega) (by omega)).2 ⟨Nat.mul_mod_left _ _, by rw [first]; exact hj⟩
      rw [hlow _ hjp] at h3
      cases h3
    · have hS := sem_carved h2 hmod2 hk1 hk2 hM
      rw [hdiv] at hS
      rw [show order + m - order = m by omega]
      exact ⟨_, _, hB, hS⟩
end Bu
end Go.Proofs.Ytlknhbcambdccaa
namespace Go.Proofs.Ytlknhbcambdccaa
open Go.RowKit
namespace Bu

set_option maxHeartbeats 1000000 in
theorem less_ok (w : World) (p q : Nat) (a c : Int) (hp : p < 1024) (hq : q < 1024) :
    Calls Try.prog 77 #[.agg #[.int .i64 (p : Int), .int .i64 a], .agg #[.int .i64 (q : Int), .int .i64 c]] w fun e w' => e = .returned (.int .i64 ((p : Int) - (q : Int))) ∧ Below w.heap.size w w' := by
  obtain ⟨W1, hW1⟩ : ∃ W1, W1 = (w.alloc (.cells #[.int .i64 (p : Int), .int .i64 a] 126)).alloc (.cells #[.int .i64 (q : Int), .int .i64 c] 126) := ⟨_, rfl⟩
  have hb : Below w.heap.size w W1 := by rw [hW1]; exact ((Below.refl _ _).alloc (Nat.le_refl _) _).alloc (by simp) _
  have x1 : W1.heap[w.heap.size]? = some (.cells #[.int .i64 (p : Int), .int .i64 a] 126 (0, 0)) := by rw [hW1, heapAlloc, if_neg (by simp), heapAlloc, if_pos rfl]
  have x2 : W1.heap[w.heap.size + 1]? = some (.cells #[.int .i64 (q : Int), .int .i64 c] 126 (0, 0)) := by rw [hW1, heapAlloc, if_pos (by simp)]
  obtain ⟨c1, _, _, _⟩ := two_cells x1
  obtain ⟨c2, _, _, _⟩ := two_cells x2
  have hw : IntKind.i64.wrap ((p : Int) - (q : Int)) = (p : Int) - (q : Int) := IntWalk.i64_in _ (by omega)
  have e1 : (p : Int) < 1024 := by omega
  have e2 : (q : Int) < 1024 := by omega
  have HB := Lib.hid hb
  clear hb x1 x2
  go_enter Try.func77, Try.ntmps77
  go_wp2_with (fail)
  rw [← hW1]
  clear hW1
  go_wp2
  go_ret
  exact ⟨rfl, HB.out⟩
end Bu
end Go.Proofs.Ytlknhbcambdccaa
