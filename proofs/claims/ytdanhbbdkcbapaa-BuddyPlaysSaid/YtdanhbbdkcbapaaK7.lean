/- A set compared with the empty one. Largest. What Alloc, Largest and Owner say of the blocks given. -/
import Derived.Test.YtdanhbbdkcbapaaK6
import Derived.ChangeKeysEq
namespace Go.Proofs.Ytdanhbbdkcbapaa
open Go.RowKit
namespace Bu

theorem run_items (w : World) (d : Nat) (e : TypeId) (xs ys : Array Value) (f : Nat → Int) (he : Try.prog.plainKey e = true) (hu : Try.prog.underlying e = some (.int .u64)) : ∀ is : List Nat,
    (∀ i ∈ is, xs[i]? = some (.int .u64 (f i)) ∧ ys[i]? = some (.int .u64 0)) → (Op.eqItems (d + 1) e 1 xs ys is).run Try.prog w = .ok (is.all fun i => f i == 0) w := by
  intro is
  induction is with
  | nil => intro _; rfl
  | cons i is ih =>
    intro h
    obtain ⟨h1, h2⟩ := h i (by simp)
    have h3 := ih fun j hj => h j (by simp [hj])
    rw [Op.eqItems]
    simp only [Nat.mul_one, Sem.run_bind, run_part_plain (P := Try.prog) (w := w) he h1, run_part_plain (P := Try.prog) (w := w) he h2, Result.andThen, run_equalIn_int w d e .u64 .u64 _ _ hu, List.all_cons]
    cases hf : (f i == 0) with
    | true => simpa using h3
    | false => rfl

theorem word_empty {S : Nat → Bool} (q : Nat) : word S q = 0 ↔ ∀ r, r < 64 → S (64 * q + r) = false := by
  constructor
  · intro h r hr
    have := word_bit S q r
    rw [h, decide_eq_true hr] at this
    simpa using this.symm
  · intro h
    exact (word_ext (by decide) fun r hr => by rw [h r hr]; simp).symm

theorem least_none {S : Nat → Bool} : least S = none ↔ ∀ p, p < 1024 → S p = false := by
  unfold least
  rw [List.head?_eq_none_iff]
  unfold members
  rw [List.filter_eq_nil_iff]
  constructor
  · intro h p hp
    simpa using h p (List.mem_range.2 hp)
  · intro h p hp
    rw [h p (List.mem_range.1 hp)]; decide

theorem all_zero (S : Nat → Bool) : ((List.range 16).all fun i => ((word S i : Nat) : Int) == 0) = (least S).isNone := by
  rw [Bool.eq_iff_iff, List.all_eq_true, Option.isNone_iff_eq_none, least_none]
  constructor
  · intro h p hp
    have h1 := h (p / 64) (List.mem_range.2 (by omega))
    have h2 : word S (p / 64) = 0 := by
      have := beq_iff_eq.1 h1
      omega
    have := (word_empty (p / 64)).1 h2 (p % 64) (Nat.mod_lt _ (by decide))
    rwa [show 64 * (p / 64) + p % 64 = p by omega] at this
  · intro h i hi
    have := List.mem_range.1 hi
    rw [(word_empty i).2 fun r hr => h _ (by omega)]; rfl

set_option maxRecDepth 100000 in
theorem run_set_eq (w : World) (S : Nat → Bool) :
    (Op.equalIn 10000 54 (.agg #[.int .u64 ((word S 0 : Nat) : Int), .int .u64 ((word S 1 : Nat) : Int), .int .u64 ((word S 2 : Nat) : Int), .int .u64 ((word S 3 : Nat) : Int), .int .u64 ((word S 4 : Nat) : Int), .int .u64 ((word S 5 : Nat) : Int), .int .u64 ((word S 6 : Nat) : Int), .int .u64 ((word S 7 : Nat) : Int), .int .u64 ((word S 8 : Nat) : Int), .int .u64 ((word S 9 : Nat) : Int), .int .u64 ((word S 10 : Nat) : Int), .int .u64 ((word S 11 : Nat) : Int), .int .u64 ((word S 12 : Nat) : Int), .int .u64 ((word S 13 : Nat) : Int), .int .u64 ((word S 14 : Nat) : Int), .int .u64 ((word S 15 : Nat) : Int)]) (.agg #[.int .u64 0, .int .u64 0, .int .u64 0, .int .u64 0, .int .u64 0, .int .u64 0, .int .u64 0, .int .u64 0, .int .u64 0, .int .u64 0, .int .u64 0, .int .u64 0, .int .u64 0, .int .u64 0, .int .u64 0, .int .u64 0])).run Try.prog w = .ok (least S).isNone w := by
  have hu : Try.prog.underlying 54 = some (.array 16 52) := by kernel_rfl
  have hc : Try.prog.cellsOf 52 = 1 := by kernel_rfl
  have he : Try.prog.plainKey 52 = true := by kernel_rfl
  have hu2 : Try.prog.underlying 52 = some (.int .u64) := by kernel_rfl
  obtain ⟨i, hi⟩ := info_of_underlying hu2
  have h := run_equalIn_array (P := Try.prog) (w := w) 9999 #[.int .u64 ((word S 0 : Nat) : Int), .int .u64 ((word S 1 : Nat) : Int), .int .u64 ((word S 2 : Nat) : Int), .int .u64 ((word S 3 : Nat) : Int), .int .u64 ((word S 4 : Nat) : Int), .int .u64 ((word S 5 : Nat) : Int), .int .u64 ((word S 6 : Nat) : Int), .int .u64 ((word S 7 : Nat) : Int), .int .u64 ((word S 8 : Nat) : Int), .int .u64 ((word S 9 : Nat) : Int), .int .u64 ((word S 10 : Nat) : Int), .int .u64 ((word S 11 : Nat) : Int), .int .u64 ((word S 12 : Nat) : Int), .int .u64 ((word S 13 : Nat) : Int), .int .u64 ((word S 14 : Nat) : Int), .int .u64 ((word S 15 : Nat) : Int)] #[.int .u64 0, .int .u64 0, .int .u64 0, .int .u64 0, .int .u64 0, .int .u64 0, .int .u64 0, .int .u64 0, .int .u64 0, .int .u64 0, .int .u64 0, .int .u64 0, .int .u64 0, .int .u64 0, .int .u64 0, .int .u64 0] hu hi
  rw [hc] at h
  refine h.trans ?_
  rw [← all_zero S]
  refine run_items w 9998 52 _ _ (fun i => ((word S i : Nat) : Int)) he hu2 (List.range 16) fun i hi => ?_
  have hlt := List.mem_range.1 hi
  match i, hlt with
  | 0, _ => exact ⟨rfl, rfl⟩
  | 1, _ => exact ⟨rfl, rfl⟩
  | 2, _ => exact ⟨rfl, rfl⟩
  | 3, _ => exact ⟨rfl, rfl⟩
  | 4, _ => exact ⟨rfl, rfl⟩
  | 5, _ => exact ⟨rfl, rfl⟩
  | 6, _ => exact ⟨rfl, rfl⟩
  | 7, _ => exact ⟨rfl, rfl⟩
  | 8, _ => exact ⟨rfl, rfl⟩
  | 9, _ => exact ⟨rfl, rfl⟩
  | 10, _ => exact ⟨rfl, rfl⟩
  | 11, _ => exact ⟨rfl, rfl⟩
  | 12, _ => exact ⟨rfl, rfl⟩
  | 13, _ => exact ⟨rfl, rfl⟩
  | 14, _ => exact ⟨rfl, rfl⟩
  | 15, _ => exact ⟨rfl, rfl⟩
  | n + 16, h => exact absurd h (by omega)
end Bu
end Go.Proofs.Ytdanhbbdkcbapaa
namespace Go.Proofs.Ytdanhbbdkcbapaa
open Go.RowKit
namespace Bu

/-- The greatest order below n with a free block. -/
def lastK (Fr : Nat → Nat → Bool) : Nat → Option Nat
  | 0 => none
  | n + 1 => match least (Fr n) with
    | none => lastK Fr n
    | some _ => some n
/-- What Largest hands back. -/
def LargestV : Option Nat → Value
  | some k => .tuple #[.int .i64 (k : Int), .int .i64 0]
  | none => .tuple #[.int .i64 0, .int .i64 4]

set_option maxRecDepth 100000 in
set_option maxHeartbeats 1000000 in
theorem largest_ok (w : World) (b N : Nat) (Fr Gv : Nat → Nat → Bool) (hB : Bu w b N Fr Gv) (hN : N ≤ 10) :
    Calls Try.prog 24 #[.pointer (some ⟨b, 0, none⟩)] w fun e w' => e = .returned (LargestV (lastK Fr (N + 1))) ∧ w = w' := by
  have hc1 := hB.head.2
  have HIs := Lib.hid (is_ok w b N Fr Gv hB)
  have HB := Lib.hid hB
  obtain ⟨r, hr⟩ : ∃ r, r = lastK Fr (N + 1) := ⟨_, rfl⟩
  rw [← hr]
  have HR := Lib.hid hr
  clear hB hr
  go_enter Try.func24, Try.ntmps24
  go_wp2_with (go_at_call 29; refine HIs.out.mono ?_; rintro e w' ⟨rfl, rfl⟩)
  go_loopw [4] (fun i wr => ∃ k : Nat, k ≤ N + 1 ∧ i = .int .i64 ((k : Int) - 1) ∧ r = lastK Fr k ∧ w = wr) (fun i _ => (intOf i + 1).toNat)
  case atStart => exact ⟨N + 1, by omega, by go_num, HR.out, rfl⟩
  case round =>
    obtain ⟨k, hk, rfl, hr, rfl⟩ := hrel
    cases k with
    | zero =>
      rw [lastK] at hr
      subst hr
      go_wp2
      go_ret2
      exact ⟨rfl, rfl⟩
    | succ k =>
      have e1 : (((k + 1 : Nat) : Int) - 1) = (k : Int) := by omega
      rw [e1]
      have e2 : (0 : Int) ≤ (k : Int) := by omega
      have e3 : (k : Int) < 11 := by omega
      clear e1
      have hQ := run_set_eq w (Fr k)
      rw [lastK] at hr
      have HR1 := Lib.hid hr
      clear hr
      have d0 : w.cell? ⟨b, 2 + k * 16, none⟩ = some (.int .u64 ((word (Fr k) 0 : Nat) : Int)) := (HB.out.free (k := k) (by omega) 0 (by omega)).1
      have d1 : w.cell? ⟨b, 2 + k * 16 + 1, none⟩ = some (.int .u64 ((word (Fr k) 1 : Nat) : Int)) := (HB.out.free (k := k) (by omega) 1 (by omega)).1
      have d2 : w.cell? ⟨b, 2 + k * 16 + 2, none⟩ = some (.int .u64 ((word (Fr k) 2 : Nat) : Int)) := (HB.out.free (k := k) (by omega) 2 (by omega)).1
      have d3 : w.cell? ⟨b, 2 + k * 16 + 3, none⟩ = some (.int .u64 ((word (Fr k) 3 : Nat) : Int)) := (HB.out.free (k := k) (by omega) 3 (by omega)).1
      have d4 : w.cell? ⟨b, 2 + k * 16 + 4, none⟩ = some (.int .u64 ((word (Fr k) 4 : Nat) : Int)) := (HB.out.free (k := k) (by omega) 4 (by omega)).1
      have d5 : w.cell? ⟨b, 2 + k * 16 + 5, none⟩ = some (.int .u64 ((word (Fr k) 5 : Nat) : Int)) := (HB.out.free (k := k) (by omega) 5 (by omega)).1
      have d6 : w.cell? ⟨b, 2 + k * 16 + 6, none⟩ = some (.int .u64 ((word (Fr k) 6 : Nat) : Int)) := (HB.out.free (k := k) (by omega) 6 (by omega)).1
      have d7 : w.cell? ⟨b, 2 + k * 16 + 7, none⟩ = some (.int .u64 ((word (Fr k) 7 : Nat) : Int)) := (HB.out.free (k := k) (by omega) 7 (by omega)).1
      have d8 : w.cell? ⟨b, 2 + k * 16 + 8, none⟩ = some (.int .u64 ((word (Fr k) 8 : Nat) : Int)) := (HB.out.free (k := k) (by omega) 8 (by omega)).1
      have d9 : w.cell? ⟨b, 2 + k * 16 + 9, none⟩ = some (.int .u64 ((word (Fr k) 9 : Nat) : Int)) := (HB.out.free (k := k) (by omega) 9 (by omega)).1
      have d10 : w.cell? ⟨b, 2 + k * 16 + 10, none⟩ = some (.int .u64 ((word (Fr k) 10 : Nat) : Int)) := (HB.out.free (k := k) (by omega) 10 (by omega)).1
      have d11 : w.cell? ⟨b, 2 + k * 16 + 11, none⟩ = some (.int .u64 ((word (Fr k) 11 : Nat) : Int)) := (HB.out.free (k := k) (by omega) 11 (by omega)).1
      have d12 : w.cell? ⟨b, 2 + k * 16 + 12, none⟩ = some (.int .u64 ((word (Fr k) 12 : Nat) : Int)) := (HB.out.free (k := k) (by omega) 12 (by omega)).1
      have d13 : w.cell? ⟨b, 2 + k * 16 + 13, none⟩ = some (.int .u64 ((word (Fr k) 13 : Nat) : Int)) := (HB.out.free (k := k) (by omega) 13 (by omega)).1
      have d14 : w.cell? ⟨b, 2 + k * 16 + 14, none⟩ = some (.int .u64 ((word (Fr k) 14 : Nat) : Int)) := (HB.out.free (k := k) (by omega) 14 (by omega)).1
      have d15 : w.cell? ⟨b, 2 + k * 16 + 15, none⟩ = some (.int .u64 ((word (Fr k) 15 : Nat) : Int)) := (HB.out.free (k := k) (by omega) 15 (by omega)).1
      cases hl : least (Fr k) with
      | none =>
        rw [hl] at hQ HR1
        simp only [Option.isNone] at hQ
        go_wp2
        go_roundw
        case rel => exact ⟨k, by omega, by go_num, HR1.out, trivial⟩
        case measure => simp [intOf] <;> omega
      | some p =>
        rw [hl] at hQ HR1
        simp only [Option.isNone] at hQ
        go_wp2
        go_ret2
        exact ⟨by rw [HR1.out]; rfl, rfl⟩
end Bu
end Go.Proofs.Ytdanhbbdkcbapaa
namespace Go.Proofs.Ytdanhbbdkcbapaa
open Go.RowKit
namespace Bu

theorem least_some {S : Nat → Bool} {p : Nat} (h : least S = some p) : p < 1024 ∧ S p = true ∧ ∀ q, q < p → S q = false := by
  unfold least members at h
  rw [List.head?_filter, List.find?_range_eq_some] at h
  obtain ⟨h1, h2, h3⟩ := h
  exact ⟨List.mem_range.1 h2, h1, fun q hq => by simpa using h3 q hq⟩

theorem firstK_some {Fr : Nat → Nat → Bool} {j p : Nat} : ∀ (n k : Nat), firstK Fr k n = some (j, p) → k ≤ j ∧ j < k + n ∧ least (Fr j) = some p ∧ ∀ a, k ≤ a → a < j → least (Fr a) = none := by
  intro n
  induction n with
  | zero => intro k h; rw [firstK_zero] at h; cases h
  | succ n ih =>
    intro k h
    cases hl : least (Fr k) with
    | some q =>
      rw [firstK_cons hl] at h
      injection h with h
      injection h with h1 h2
      subst h1; subst h2
      exact ⟨Nat.le_refl _, by omega, hl, fun a h1 h2 => by omega⟩
    | none =>
      rw [firstK_nil hl] at h
      obtain ⟨h1, h2, h3, h4⟩ := ih _ h
      refine ⟨by omega, by omega, h3, fun a g1 g2 => ?_⟩
      by_cases e : a = k
      · subst e; exact hl
      · exact h4 a (by omega) g2
theorem firstK_none {Fr : Nat → Nat → Bool} : ∀ (n k : Nat), firstK Fr k n = none → ∀ a, k ≤ a → a < k + n → least (Fr a) = none := by
  intro n
  induction n with
  | zero => intro k _ a h1 h2; omega
  | succ n ih =>
    intro k h a h1 h2
    cases hl : least (Fr k) with
    | some q => rw [firstK_cons hl] at h; cases h
    | none =>
      rw [firstK_nil hl] at h
      by_cases e : a = k
      · subst e; exact hl
      · exact ih _ h a (by omega) (by omega)

/-- No set holds a free block: none is free. -/
theorem none_free {N : Nat} {Fr Gv : Nat → Nat → Bool} {G : Bl} (h : Sem N Fr Gv G) {k : Nat} (hk : k ≤ N) (hl : least (Fr k) = none) (i : Nat) : ¬ MaxFree G N k i := fun hM => by
  have hn := h.n10
  have hi : i * 2 ^ k < 1024 := by
    have h1 : i * 2 ^ k < 2 ^ (N - k) * 2 ^ k := Nat.mul_lt_mul_of_pos_right hM.2.1 (Nat.pow_pos (by decide))
    rw [← Nat.pow_add, Nat.sub_add_cancel hk] at h1
    have : 2 ^ N ≤ 2 ^ 10 := Nat.pow_le_pow_right (by omega) hn
    omega
  have h2 := (h.free k (i * 2 ^ k) (by omega) hi).2 ⟨Nat.mul_mod_left _ _, by rw [first]; exact hM⟩
  rw [least_none.1 hl _ hi] at h2
  cases h2

/-- What Alloc does. -/
def AllocG (b N order : Nat) (G : Bl) (w : World) (e : Ending) (w' : World) : Prop :=
  Grow1 b w w' ∧
  ((e = .returned (.tuple #[.int .i64 0, .int .i64 5]) ∧ Bud w' b N G ∧ ∀ i, i < 2 ^ (N - order) → order ≤ N → ¬ Free G order i) ∨
   ∃ k i, e = .returned (.tuple #[.int .i64 ((i * 2 ^ k : Nat) : Int), .int .i64 0]) ∧ order ≤ k ∧ MaxFree G N k i ∧ (∀ a, order ≤ a → a < k → ∀ j, ¬ MaxFree G N a j) ∧ (∀ j, MaxFree G N k j → i ≤ j) ∧
     Bud w' b N (add G order (i * 2 ^ (k - order))))

theorem alloc_sem (w : World) (b N order : Nat) (G : Bl) (h : Bud w b N G) (ho : order ≤ 10) :
    Calls Try.prog 14 #[.pointer (some ⟨b, 0, none⟩), .int .i64 order] w fun e w' => AllocG b N order G w e w' := by
  obtain ⟨Fr, Gv, h1, h2⟩ := h
  have hn := h2.n10
  refine (alloc_ok w b N order Fr Gv h1 hn ho).mono ?_
  intro e w' hR
  cases hk : firstK Fr order (N + 1 - order) with
  | none =>
    rw [hk] at hR
    obtain ⟨he, hG, hB⟩ := hR
    refine ⟨hG, .inl ⟨he, ⟨Fr, Gv, hB, h2⟩, fun i hi hoN hf => ?_⟩⟩
    obtain ⟨m, hm⟩ := around hoN hi hf
    exact none_free h2 hm.1 (firstK_none _ _ hk (order + m) (by omega) (by have := hm.1; omega)) _ hm
  | some r =>
    obtain ⟨k, p⟩ := r
    rw [hk] at hR
    obtain ⟨he, hG, hB, hk1, hk2, hp, hFp⟩ := hR
    obtain ⟨_, _, hl, hmin⟩ := firstK_some _ _ hk
    obtain ⟨_, _, hlow⟩ := least_some hl
    obtain ⟨hmod, hM⟩ := (h2.free k p (by omega) hp).1 hFp
    have hpe : p / 2 ^ k * 2 ^ k = p := mul_of_mod hmod
    obtain ⟨m, rfl⟩ := Nat.exists_eq_add_of_le hk1
    have hmod2 : p % 2 ^ order = 0 := by
      rw [← hpe, Nat.pow_add, Nat.mul_comm (2 ^ order), ← Nat.mul_assoc]
      exact Nat.mul_mod_left _ _
    have hdiv : p / 2 ^ order = p / 2 ^ (order + m) * 2 ^ m := by
      obtain ⟨q, hq⟩ : ∃ q, q = p / 2 ^ (order + m) := ⟨_, rfl⟩
      rw [← hq] at hpe ⊢
      rw [← hpe, Nat.pow_add, Nat.mul_comm (2 ^ order), ← Nat.mul_assoc, first]
    refine ⟨hG, .inr ⟨order + m, p / 2 ^ (order + m), by rw [hpe]; exact he, hk1, hM, fun a g1 g2 j => none_free h2 (by omega) (hmin a g1 g2) j, fun j hj => ?_, ?_⟩⟩
    · refine Nat.le_of_not_lt fun hlt => ?_
      have hjp : j * 2 ^ (order + m) < p := by
        rw [← hpe]
        exact Nat.mul_lt_mul_of_pos_right hlt (Nat.pow_pos (by decide))
      have h3 := (h2.free (order + m) (j * 2 ^ (order + m)) (by omega) (by omega)).2 ⟨Nat.mul_mod_left _ _, by rw [first]; exact hj⟩
      rw [hlow _ hjp] at h3
      cases h3
    · have hS := sem_carved h2 hmod2 hk1 hk2 hM
      rw [hdiv] at hS
      rw [show order + m - order = m by omega]
      exact ⟨_, _, hB, hS⟩
end Bu
end Go.Proofs.Ytdanhbbdkcbapaa
