/- A set compared with the empty one. -/
import Derived.Test.YtdanhbbdkcbapaaSO
import Derived.ChangeKeysEq
namespace Go.Proofs.Ytdanhbbdkcbapaa
open Go.RowKit
namespace Bu

theorem run_items (w : World) (d : Nat) (e : TypeId) (xs ys : Array Value) (f : Nat → Int) (he : Try.prog.plainKey e = true) (hu : Try.prog.underlying e = some (.int .u64)) : ∀ is : List Nat,
    (∀ i ∈ is, xs[i]? = some (.int .u64 (f i)) ∧ ys[i]? = some (.int .u64 0)) → (Op.eqItems (d + 1) e 1 xs ys is).run Try.prog w = .ok (is.all fun i => f i == 0) w := by
  intro is
  induction is with
  | nil => intro _; rfl
  | cons i is ih =>
    intro h
    obtain ⟨h1, h2⟩ := h i (by simp)
    have h3 := ih fun j hj => h j (by simp [hj])
    rw [Op.eqItems]
    simp only [Nat.mul_one, Sem.run_bind, run_part_plain (P := Try.prog) (w := w) he h1, run_part_plain (P := Try.prog) (w := w) he h2, Result.andThen, run_equalIn_int w d e .u64 .u64 _ _ hu, List.all_cons]
    cases hf : (f i == 0) with
    | true => simpa using h3
    | false => rfl

theorem word_empty {S : Nat → Bool} (q : Nat) : word S q = 0 ↔ ∀ r, r < 64 → S (64 * q + r) = false := by
  constructor
  · intro h r hr
    have := word_bit S q r
    rw [h, decide_eq_true hr] at this
    simpa using this.symm
  · intro h
    exact (word_ext (by decide) fun r hr => by rw [h r hr]; simp).symm

theorem least_none {S : Nat → Bool} : least S = none ↔ ∀ p, p < 1024 → S p = false := by
  unfold least
  rw [List.head?_eq_none_iff]
  unfold members
  rw [List.filter_eq_nil_iff]
  constructor
  · intro h p hp
    simpa using h p (List.mem_range.2 hp)
  · intro h p hp
    rw [h p (List.mem_range.1 hp)]; decide

theorem all_zero (S : Nat → Bool) : ((List.range 16).all fun i => ((word S i : Nat) : Int) == 0) = (least S).isNone := by
  rw [Bool.eq_iff_iff, List.all_eq_true, Option.isNone_iff_eq_none, least_none]
  constructor
  · intro h p hp
    have h1 := h (p / 64) (List.mem_range.2 (by omega))
    have h2 : word S (p / 64) = 0 := by
      have := beq_iff_eq.1 h1
      omega
    have := (word_empty (p / 64)).1 h2 (p % 64) (Nat.mod_lt _ (by decide))
    rwa [show 64 * (p / 64) + p % 64 = p by omega] at this
  · intro h i hi
    have := List.mem_range.1 hi
    rw [(word_empty i).2 fun r hr => h _ (by omega)]; rfl

set_option maxRecDepth 100000 in
theorem run_set_eq (w : World) (S : Nat → Bool) :
    (Op.equalIn 10000 54 (.agg #[.int .u64 ((word S 0 : Nat) : Int), .int .u64 ((word S 1 : Nat) : Int), .int .u64 ((word S 2 : Nat) : Int), .int .u64 ((word S 3 : Nat) : Int), .int .u64 ((word S 4 : Nat) : Int), .int .u64 ((word S 5 : Nat) : Int), .int .u64 ((word S 6 : Nat) : Int), .int .u64 ((word S 7 : Nat) : Int), .int .u64 ((word S 8 : Nat) : Int), .int .u64 ((word S 9 : Nat) : Int), .int .u64 ((word S 10 : Nat) : Int), .int .u64 ((word S 11 : Nat) : Int), .int .u64 ((word S 12 : Nat) : Int), .int .u64 ((word S 13 : Nat) : Int), .int .u64 ((word S 14 : Nat) : Int), .int .u64 ((word S 15 : Nat) : Int)]) (.agg #[.int .u64 0, .int .u64 0, .int .u64 0, .int .u64 0, .int .u64 0, .int .u64 0, .int .u64 0, .int .u64 0, .int .u64 0, .int .u64 0, .int .u64 0, .int .u64 0, .int .u64 0, .int .u64 0, .int .u64 0, .int .u64 0])).run Try.prog w = .ok (least S).isNone w := by
  have hu : Try.prog.underlying 54 = some (.array 16 52) := by kernel_rfl
  have hc : Try.prog.cellsOf 52 = 1 := by kernel_rfl
  have he : Try.prog.plainKey 52 = true := by kernel_rfl
  have hu2 : Try.prog.underlying 52 = some (.int .u64) := by kernel_rfl
  obtain ⟨i, hi⟩ := info_of_underlying hu2
  have h := run_equalIn_array (P := Try.prog) (w := w) 9999 #[.int .u64 ((word S 0 : Nat) : Int), .int .u64 ((word S 1 : Nat) : Int), .int .u64 ((word S 2 : Nat) : Int), .int .u64 ((word S 3 : Nat) : Int), .int .u64 ((word S 4 : Nat) : Int), .int .u64 ((word S 5 : Nat) : Int), .int .u64 ((word S 6 : Nat) : Int), .int .u64 ((word S 7 : Nat) : Int), .int .u64 ((word S 8 : Nat) : Int), .int .u64 ((word S 9 : Nat) : Int), .int .u64 ((word S 10 : Nat) : Int), .int .u64 ((word S 11 : Nat) : Int), .int .u64 ((word S 12 : Nat) : Int), .int .u64 ((word S 13 : Nat) : Int), .int .u64 ((word S 14 : Nat) : Int), .int .u64 ((word S 15 : Nat) : Int)] #[.int .u64 0, .int .u64 0, .int .u64 0, .int .u64 0, .int .u64 0, .int .u64 0, .int .u64 0, .int .u64 0, .int .u64 0, .int .u64 0, .int .u64 0, .int .u64 0, .int .u64 0, .int .u64 0, .int .u64 0, .int .u64 0] hu hi
  rw [hc] at h
  refine h.trans ?_
  rw [← all_zero S]
  refine run_items w 9998 52 _ _ (fun i => ((word S i : Nat) : Int)) he hu2 (List.range 16) fun i hi => ?_
  have hlt := List.mem_range.1 hi
  match i, hlt with
  | 0, _ => exact ⟨rfl, rfl⟩
  | 1, _ => exact ⟨rfl, rfl⟩
  | 2, _ => exact ⟨rfl, rfl⟩
  | 3, _ => exact ⟨rfl, rfl⟩
  | 4, _ => exact ⟨rfl, rfl⟩
  | 5, _ => exact ⟨rfl, rfl⟩
  | 6, _ => exact ⟨rfl, rfl⟩
  | 7, _ => exact ⟨rfl, rfl⟩
  | 8, _ => exact ⟨rfl, rfl⟩
  | 9, _ => exact ⟨rfl, rfl⟩
  | 10, _ => exact ⟨rfl, rfl⟩
  | 11, _ => exact ⟨rfl, rfl⟩
  | 12, _ => exact ⟨rfl, rfl⟩
  | 13, _ => exact ⟨rfl, rfl⟩
  | 14, _ => exact ⟨rfl, rfl⟩
  | 15, _ => exact ⟨rfl, rfl⟩
  | n + 16, h => exact absurd h (by omega)
end Bu
end Go.Proofs.Ytdanhbbdkcbapaa
