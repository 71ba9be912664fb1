/- Plain: loads, the peak. The specification: power, Check, load, Load, Peak. -/
import Derived.Test.YtjgakcpjphdicaaK0
import Derived.Test.YtjgakcpjphdicaaK1
namespace Go.Proofs.Ytjgakcpjphdicaa.Of

/-- What a block adds to the load of a step. -/
def ld (b : OB) (t : Int) : Int := if b.f ≤ t ∧ t < b.t then b.s else 0
def loadV (L : List OB) (t : Int) : Int := (L.map fun b => ld b t).sum
theorem loadV_snoc (L : List OB) (b : OB) (t : Int) : loadV (L ++ [b]) t = loadV L t + ld b t := by simp [loadV]
theorem take_next {α : Type} {L : List α} {k : Nat} {x : α} (h : L[k]? = some x) : L.take (k + 1) = L.take k ++ [x] := by
  rw [List.take_add_one, h]; rfl
theorem blk_get {L : List OB} {k : Nat} (h : k < L.length) : L[k]? = some (blk L k) := by
  unfold blk; rw [List.getD_eq_getElem?_getD, List.getElem?_eq_getElem h]; rfl
theorem ld_bd {b : OB} (h : Ok b) (t : Int) : 0 ≤ ld b t ∧ ld b t ≤ 65536 := by
  have h1 := h.s1
  have h2 := h.s2
  unfold ld; split <;> omega
theorem loadV_bd {L : List OB} (h : ∀ b, b ∈ L → Ok b) (t : Int) : 0 ≤ loadV L t ∧ loadV L t ≤ L.length * 65536 := by
  induction L with
  | nil => simp [loadV]
  | cons b L ih =>
    have h1 := ih fun x hx => h x (List.mem_cons_of_mem _ hx)
    have h2 := ld_bd (h b (List.mem_cons_self ..)) t
    have e : loadV (b :: L) t = ld b t + loadV L t := by simp [loadV]
    rw [e, List.length_cons]
    omega
theorem loadV_take {L : List OB} (h : OkL L) (k : Nat) (t : Int) : 0 ≤ loadV (L.take k) t ∧ loadV (L.take k) t ≤ 32768000 := by
  have h1 := loadV_bd (L := L.take k) (fun b hb => h.2 b (List.mem_of_mem_take hb)) t
  have h2 : (L.take k).length ≤ L.length := by simp; omega
  have h3 := h.1
  omega

/-- The greatest of some numbers, and the first place that has it. -/
def pk (f : Nat → Int) : Nat → Int × Nat
  | 0 => (0, 0)
  | n + 1 => if (pk f n).1 < f n then (f n, n) else pk f n
def peakV (L : List OB) : Int × Nat := pk (fun t => loadV L t) 1001
theorem pk_bd {f : Nat → Int} {B : Int} (hB : 0 ≤ B) (h : ∀ t, f t ≤ B) (n : Nat) : 0 ≤ (pk f n).1 ∧ (pk f n).1 ≤ B ∧ (pk f n).2 ≤ n := by
  induction n with
  | zero => exact ⟨Int.le_refl _, hB, Nat.le_refl _⟩
  | succ n ih =>
    unfold pk
    have := h n
    split
    · exact ⟨by dsimp only; omega, this, by dsimp only; omega⟩
    · exact ⟨ih.1, ih.2.1, by omega⟩
theorem pk_max {f : Nat → Int} (n : Nat) : ∀ t, t < n → f t ≤ (pk f n).1 := by
  induction n with
  | zero => intro t ht; omega
  | succ n ih =>
    intro t ht
    unfold pk
    rcases Nat.lt_or_ge t n with h | h
    · have := ih t h
      split <;> (try dsimp only) <;> omega
    · obtain rfl : t = n := by omega
      split <;> (try dsimp only) <;> omega
theorem pk_at {f : Nat → Int} (n : Nat) : pk f n = (0, 0) ∨ ((pk f n).2 < n ∧ f (pk f n).2 = (pk f n).1 ∧ 0 < (pk f n).1) := by
  induction n with
  | zero => exact .inl rfl
  | succ n ih =>
    unfold pk
    split
    · next h =>
      refine .inr ⟨by dsimp only; omega, rfl, ?_⟩
      dsimp only
      rcases ih with e | ⟨_, _, e⟩
      · rw [e] at h; exact h
      · omega
    · rcases ih with e | ⟨e1, e2, e3⟩
      · exact .inl e
      · exact .inr ⟨by omega, e2, e3⟩
theorem pk_first {f : Nat → Int} (n : Nat) : ∀ t, t < (pk f n).2 → f t < (pk f n).1 := by
  induction n with
  | zero => intro t ht; exact absurd ht (Nat.not_lt_zero _)
  | succ n ih =>
    intro t ht
    unfold pk at ht ⊢
    split
    · next h =>
      rw [if_pos h] at ht
      dsimp only at ht ⊢
      have := pk_max (f := f) n t ht
      omega
    · next h =>
      rw [if_neg h] at ht
      exact ih t ht

/-! The program's way: differences, then sums. -/
def bump (D : List Int) (i : Nat) (v : Int) : List Int := D.set i (addr D i + v)
def diff1 (D : List Int) (b : OB) : List Int := bump (bump D b.f.toNat b.s) b.t.toNat (-b.s)
def diffs (L : List OB) : List Int := L.foldl diff1 (List.replicate 1001 0)
theorem bump_len (D : List Int) (i : Nat) (v : Int) : (bump D i v).length = D.length := List.length_set ..
theorem diff1_len (D : List Int) (b : OB) : (diff1 D b).length = D.length := by unfold diff1; rw [bump_len, bump_len]
theorem diffs_snoc (L : List OB) (b : OB) : diffs (L ++ [b]) = diff1 (diffs L) b := by unfold diffs; rw [List.foldl_append]; rfl
theorem foldl_diff_len : ∀ (L : List OB) (D : List Int), (L.foldl diff1 D).length = D.length
  | [], _ => rfl
  | b :: L, D => by rw [List.foldl_cons, foldl_diff_len L, diff1_len]
theorem diffs_len (L : List OB) : (diffs L).length = 1001 := by unfold diffs; rw [foldl_diff_len]; exact List.length_replicate ..
/-- The sum of the first numbers. -/
def pre (D : List Int) (n : Nat) : Int := (D.take n).sum
theorem pre_succ {D : List Int} {n : Nat} (h : n < D.length) : pre D (n + 1) = pre D n + addr D n := by
  unfold pre addr
  rw [take_next (List.getElem?_eq_getElem h), List.sum_append, List.getD_eq_getElem?_getD, List.getElem?_eq_getElem h]
  simp
theorem pre_bump {D : List Int} {i : Nat} (hi : i < D.length) (v : Int) : ∀ n, n ≤ D.length → pre (bump D i v) n = pre D n + if i < n then v else 0 := by
  intro n
  induction n with
  | zero => intro _; simp [pre]
  | succ n ih =>
    intro hn
    rw [pre_succ (by rw [bump_len]; omega), pre_succ (by omega), ih (by omega)]
    unfold bump
    rw [addr_set hi]
    by_cases e : n = i
    · subst e; simp; omega
    · rw [if_neg e]
      by_cases h : i < n
      · rw [if_pos h, if_pos (by omega)]; omega
      · rw [if_neg h, if_neg (by omega)]; omega
theorem pre_diffs {L : List OB} (h : ∀ b, b ∈ L → Ok b) : ∀ n, n < 1001 → pre (diffs L) (n + 1) = loadV L n := by
  intro n hn
  have key : ∀ (m : Nat), m ≤ L.length → pre (diffs (L.take m)) (n + 1) = loadV (L.take m) n := by
    intro m
    induction m with
    | zero =>
      intro _
      simp only [List.take_zero]
      unfold diffs loadV pre
      simp only [List.foldl_nil, List.map_nil, List.sum_nil, List.take_replicate]
      have : ∀ j : Nat, (List.replicate j (0 : Int)).sum = 0 := fun j => by induction j with
        | zero => rfl
        | succ j ih => rw [List.replicate_succ, List.sum_cons, ih]; rfl
      exact this _
    | succ m ih =>
      intro hm
      have hb := h (blk L m) (by have := blk_get (L := L) (k := m) (by omega); exact List.mem_of_getElem? this)
      rw [take_next (blk_get (by omega)), diffs_snoc, loadV_snoc, ← ih (by omega)]
      unfold diff1
      have hl := diffs_len (L.take m)
      have h1 := hb.f0
      have h2 := hb.ft
      have h3 := hb.t1
      rw [pre_bump (by rw [bump_len, hl]; omega) _ _ (by rw [bump_len, hl]; omega), pre_bump (by rw [hl]; omega) _ _ (by rw [hl]; omega)]
      unfold ld
      by_cases e1 : (blk L m).f ≤ n
      · rw [if_pos (show (blk L m).f.toNat < n + 1 by omega)]
        by_cases e2 : (n : Int) < (blk L m).t
        · rw [if_neg (show ¬ (blk L m).t.toNat < n + 1 by omega), if_pos ⟨e1, e2⟩]; omega
        · rw [if_pos (show (blk L m).t.toNat < n + 1 by omega), if_neg (fun e => e2 e.2)]; omega
      · rw [if_neg (show ¬ (blk L m).f.toNat < n + 1 by omega), if_neg (show ¬ (blk L m).t.toNat < n + 1 by omega), if_neg (fun e => e1 e.1)]; omega
  have := key L.length (Nat.le_refl _)
  rwa [List.take_length] at this
/-- Bounds of the differences. -/
theorem diffs_bd {L : List OB} (h : ∀ b, b ∈ L → Ok b) (i : Nat) : -(L.length * 65536 : Int) ≤ addr (diffs L) i ∧ addr (diffs L) i ≤ L.length * 65536 := by
  have key : ∀ (m : Nat), m ≤ L.length → -(m * 65536 : Int) ≤ addr (diffs (L.take m)) i ∧ addr (diffs (L.take m)) i ≤ m * 65536 := by
    intro m
    induction m with
    | zero =>
      intro _
      have : addr (diffs (L.take 0)) i = 0 := by
        simp only [List.take_zero]
        unfold diffs addr
        simp only [List.foldl_nil]
        rw [List.getD_eq_getElem?_getD, List.getElem?_replicate]
        split <;> rfl
      rw [this]; omega
    | succ m ih =>
      intro hm
      have hb := h (blk L m) (by have := blk_get (L := L) (k := m) (by omega); exact List.mem_of_getElem? this)
      have ihm := ih (by omega)
      rw [take_next (blk_get (by omega)), diffs_snoc]
      unfold diff1
      have hl := diffs_len (L.take m)
      have h1 := hb.f0
      have h2 := hb.ft
      have h3 := hb.t1
      have h4 := hb.s1
      have h5 := hb.s2
      generalize diffs (L.take m) = D at *
      generalize blk L m = b at *
      unfold bump
      rw [addr_set (by rw [List.length_set, hl]; omega), addr_set (by rw [hl]; omega)]
      rw [if_neg (show ¬ b.t.toNat = b.f.toNat by omega)]
      by_cases e1 : i = b.t.toNat
      · rw [if_pos e1]
        have ihx : -(m * 65536 : Int) ≤ addr D b.t.toNat ∧ addr D b.t.toNat ≤ m * 65536 := by rw [← e1]; exact ihm
        omega
      · rw [if_neg e1, addr_set (by rw [hl]; omega)]
        by_cases e2 : i = b.f.toNat
        · rw [if_pos e2]
          have ihx : -(m * 65536 : Int) ≤ addr D b.f.toNat ∧ addr D b.f.toNat ≤ m * 65536 := by rw [← e2]; exact ihm
          omega
        · rw [if_neg e2]; omega
  have := key L.length (Nat.le_refl _)
  rwa [List.take_length] at this
end Go.Proofs.Ytjgakcpjphdicaa.Of
namespace Go.Proofs.Ytjgakcpjphdicaa
open Go.RowKit
namespace Of

theorem pow2_bd (j : Nat) (h : j ≤ 13) : 1 ≤ 2 ^ j ∧ 2 ^ j ≤ 8192 ∧ (j ≤ 12 → 2 ^ j ≤ 4096) ∧ (j = 13 → 2 ^ j = 8192) := by
  have h1 : (1 : Nat) ≤ 2 ^ j := Nat.one_le_two_pow
  have h2 : (2 : Nat) ^ j ≤ 2 ^ 13 := Nat.pow_le_pow_right (by decide) h
  refine ⟨h1, h2, fun h => ?_, fun h => by subst h; rfl⟩
  have : (2 : Nat) ^ j ≤ 2 ^ 12 := Nat.pow_le_pow_right (by decide) h
  exact this

set_option maxHeartbeats 1000000 in
theorem power_ok (n : Int) (w : World) : Calls Try.prog 47 #[.int .i64 n] w fun e w' => e = .returned (.bool (isPow n)) ∧ w = w' := by
  go_enter Try.func47, Try.ntmps47
  go_wp2_with (fail)
  go_loop [3] (fun i => ∃ j M : Nat, j ≤ 13 ∧ M = 2 ^ j ∧ i = .int .i64 M ∧ ∀ x : Nat, x < j → n ≠ 2 ^ x) (fun i => 8193 - (intOf i).toNat)
  case atStart => exact ⟨0, 1, by omega, rfl, rfl, fun x hx => by omega⟩
  case round =>
    obtain ⟨j, M, hj, hM, rfl, hno⟩ := hrel
    have hbd := pow2_bd j hj
    rw [← hM] at hbd
    obtain ⟨b1, b2, b3, b4⟩ := hbd
    by_cases hle : M ≤ 4096
    · have hj12 : j ≤ 12 := by
        rcases Nat.lt_or_ge j 13 with h | h
        · omega
        · have := b4 (by omega); omega
      have e4 : (M : Int) ≤ 4096 := by omega
      by_cases he : (M : Int) = n
      · have hp : isPow n = true := (isPow_iff n).2 ⟨j, by omega, by rw [← he, hM]; norm_cast⟩
        have HP := Lib.hid hp
        have hq : ((M : Int) == n) = true := by simp [he]
        clear hp he hM hno b3 b4
        go_wp2
        go_ret
        exact ⟨by rw [HP.out]; rfl, rfl⟩
      · have hq : ((M : Int) == n) = false := by simp [he]
        have hnext : ∀ x : Nat, x < j + 1 → n ≠ 2 ^ x := fun x hx => by
          rcases Nat.lt_or_ge x j with h | h
          · exact hno x h
          · obtain rfl : x = j := by omega
            intro e; exact he (by rw [e, hM]; norm_cast)
        have hw : IntKind.i64.wrap (2 * (M : Int)) = ((2 * M : Nat) : Int) := by rw [IntWalk.i64_in _ (by omega)]; omega
        have H := Lib.hid (And.intro hM hnext)
        clear hM he hno hnext b3 b4
        go_wp2
        go_round
        case rel => exact ⟨j + 1, 2 * M, by omega, by rw [H.out.1, Nat.pow_succ]; omega, by first | rfl | (rw [← hw]; rfl) | go_num, H.out.2⟩
        case measure => simp [intOf]; omega
    · have hj13 : j = 13 := by
        rcases Nat.lt_or_ge j 13 with h | h
        · have := b3 (by omega); omega
        · omega
      have e4 : ¬ (M : Int) ≤ 4096 := by omega
      have hp : isPow n = false := by
        cases e : isPow n with
        | false => rfl
        | true => obtain ⟨k, hk, e⟩ := (isPow_iff n).1 e; exact absurd e (hno k (by omega))
      have HP := Lib.hid hp
      clear hp hM hno b3 b4
      go_wp2
      go_ret
      exact ⟨by rw [HP.out]; rfl, rfl⟩
end Of
end Go.Proofs.Ytjgakcpjphdicaa
