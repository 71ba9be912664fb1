/- Given and free blocks have each page once; no two free blocks are the halves of a block. -/
import Derived.Test.YtdanhbbdkcbapaaK17
namespace Go.Proofs.Ytdanhbbdkcbapaa

namespace Bu

theorem no_halves {N : Nat} {L : List Blk} {x y : Blk} (hx : IsFree N L x) (hy : IsFree N L y) (hk : x.2 = y.2) (hadj : x.1 + 2 ^ x.2 = y.1) (hal : x.1 % (2 * 2 ^ x.2) = 0) : False := by
  obtain ⟨p, k⟩ := x
  obtain ⟨q, k'⟩ := y
  dsimp only at hk hadj hal
  subst hk
  obtain ⟨h1, h2, h3, h4, h5⟩ := hx
  obtain ⟨g1, g2, g3, g4, g5⟩ := hy
  dsimp only at h1 h2 h3 h4 h5 g1 g2 g3 g4 g5
  have e1 := mul_div h1
  have hp := pow_pos2 k
  obtain ⟨i, hi⟩ : ∃ i, i = p / 2 ^ k := ⟨_, rfl⟩
  rw [← hi] at e1 h3 h4 h5
  have e2 : (i + 1) * 2 ^ k = q := by rw [Nat.add_mul, e1, Nat.one_mul]; exact hadj
  have e3 : q / 2 ^ k = i + 1 := by rw [← e2, Nat.mul_div_cancel _ hp]
  rw [e3] at g3 g4
  have hev : i % 2 = 0 := by
    obtain ⟨t, ht⟩ := Nat.dvd_of_mod_eq_zero hal
    have : i = 2 * t := by
      rw [hi, ht, Nat.mul_comm 2, Nat.mul_assoc, Nat.mul_div_cancel_left _ hp]
    omega
  rcases h5 with h5 | h5
  · subst h5
    rw [Nat.sub_self] at g3
    simp at g3
  · apply h5
    intro z hz hu
    rw [div_pow z k 1, Nat.pow_one] at hz
    have : z / 2 ^ k = i ∨ z / 2 ^ k = i + 1 := by omega
    rcases this with e | e
    · exact h4 z e hu
    · exact g4 z e hu

/-- How many blocks have a page. -/
def cntP (L : List Blk) (p : Nat) : Nat := (L.filter (hasP · p)).length
theorem cntP_add (A B : List Blk) (p : Nat) : cntP (A ++ B) p = cntP A p + cntP B p := by unfold cntP; rw [List.filter_append, List.length_append]
theorem cntP_le (L : List Blk) (p : Nat) : cntP L p ≤ L.length := List.length_filter_le _ _
theorem cntP_take {L : List Blk} {i : Nat} {x : Blk} (h : L[i]? = some x) (p : Nat) : cntP (L.take (i + 1)) p = cntP (L.take i) p + if x.1 ≤ p ∧ p < x.1 + 2 ^ x.2 then 1 else 0 := by
  have hl := (List.getElem?_eq_some_iff.1 h).1
  have he := (List.getElem?_eq_some_iff.1 h).2
  rw [List.take_succ_eq_append_getElem hl, cntP_add, he]
  congr 1
  unfold cntP hasP
  by_cases e : x.1 ≤ p ∧ p < x.1 + 2 ^ x.2
  · rw [if_pos e]; simp [e]
  · rw [if_neg e]; simp; omega

theorem cnt_asc {p : Nat} : ∀ {L : List Blk}, L.Pairwise (fun a b => a.1 + 2 ^ a.2 ≤ b.1) → cntP L p = if anyP L p = true then 1 else 0 := by
  intro L
  induction L with
  | nil => intro _; rfl
  | cons x L ih =>
    intro h
    rw [List.pairwise_cons] at h
    have ih := ih h.2
    by_cases e : hasP x p = true
    · have hno : L.filter (hasP · p) = [] := by
        rw [List.filter_eq_nil_iff]
        intro y hy hh
        unfold hasP at e hh
        rw [decide_eq_true_eq] at e hh
        have := h.1 y hy
        omega
      have h1 : anyP (x :: L) p = true := by unfold anyP; rw [List.any_cons, e]; rfl
      rw [if_pos h1]
      unfold cntP
      rw [List.filter_cons, if_pos e, hno]; rfl
    · have h1 : anyP (x :: L) p = anyP L p := by unfold anyP; rw [List.any_cons]; simp [e]
      rw [h1, ← ih]
      unfold cntP
      rw [List.filter_cons, if_neg e]

theorem any_blocks {N : Nat} {L : List Blk} (hS : St N L) {p : Nat} (hp : p < 2 ^ N) : anyP (blocksB N L) p = !anyP L p := by
  cases e : anyP L p with
  | true =>
    cases e2 : anyP (blocksB N L) p with
    | false => rfl
    | true =>
      unfold anyP at e2
      obtain ⟨x, hx, hh⟩ := List.any_eq_true.1 e2
      unfold hasP at hh
      rw [decide_eq_true_eq] at hh
      obtain ⟨h1, h2, h3, h4, h5⟩ := (mem_blocks hS x).1 hx
      have hm := mul_div h1
      exact absurd ((used_LG hS.inb).2 e) (used_free h4 (by omega) (by omega))
  | false =>
    have hf : freeB L (p * 2 ^ 0) 0 = true := by unfold freeB; rw [List.all_eq_true]; intro d hd; have hd := List.mem_range.1 hd; have : d = 0 := by simpa using hd
                                                 subst this; simp [e]
    have hm : p ∈ freeIdx N L 0 := by unfold freeIdx; rw [List.mem_filter, List.mem_range]; exact ⟨by simpa using hp, hf⟩
    rw [← mem_free_parts hS (Nat.zero_le _), List.mem_flatMap] at hm
    obtain ⟨x, hx, hpx⟩ := hm
    obtain ⟨_, h2, h3⟩ := (mem_parts ((mem_blocks hS x).1 hx).1).1 hpx
    unfold anyP
    rw [Bool.not_false, List.any_eq_true]
    exact ⟨x, hx, by unfold hasP; rw [decide_eq_true_eq]; simpa using ⟨by simpa using h2, by simpa using h3⟩⟩

/-- Each page once. -/
theorem pages_once {N : Nat} {L : List Blk} (hS : St N L) {p : Nat} (hp : p < 2 ^ N) : cntP (L ++ blocksB N L) p = 1 := by
  rw [cntP_add, cnt_asc hS.asc, cnt_asc (blocks_asc hS), any_blocks hS hp]
  cases anyP L p <;> rfl
end Bu
end Go.Proofs.Ytdanhbbdkcbapaa
