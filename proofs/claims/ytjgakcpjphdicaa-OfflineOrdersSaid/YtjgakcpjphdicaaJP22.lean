/- The stable sort, plain: blocks. -/
import Derived.Test.YtjgakcpjphdicaaJP21
import Derived.Sort.LotA
namespace Go.Proofs.Ytjgakcpjphdicaa
open Go.Sort Go.Proofs
namespace Of
section
variable {α : Type} [Inhabited α]
/-- Each block has its own numbers, sorted. -/
structure Bd (lt : α → α → Bool) (num : α → Nat) (n : Nat) (d0 : Array α) (key : Nat → Nat) (d : Array α) : Prop where
  perm : PermIn 0 n d0 d
  num : ∀ x, x < n → num d[x]! < n ∧ key (num d[x]!) = key x
  sorted : ∀ p q, p < q → q < n → key p = key q → lt d[q]! d[p]! = false
theorem Bd.congr {lt : α → α → Bool} {num : α → Nat} {n : Nat} {d0 d : Array α} {key key' : Nat → Nat} (h : Bd lt num n d0 key d) (hk : ∀ x, x < n → key' x = key x) : Bd lt num n d0 key' d :=
  ⟨h.perm, fun x hx => ⟨(h.num x hx).1, by rw [hk _ (h.num x hx).1, hk x hx]; exact (h.num x hx).2⟩, fun p q h1 h2 h3 => h.sorted p q h1 h2 (by rw [← hk p (by omega), ← hk q h2]; exact h3)⟩
theorem Bd.start {lt : α → α → Bool} {num : α → Nat} {n : Nat} {d0 : Array α} (h : ∀ x, x < n → num d0[x]! = x) (key : Nat → Nat) (hk : ∀ p q, p < n → q < n → key p = key q → p = q) : Bd lt num n d0 key d0 :=
  ⟨permIn_refl d0 0 n, fun x hx => ⟨by rw [h x hx]; exact hx, by rw [h x hx]⟩, fun p q h1 h2 h3 => by have := hk p q (by omega) h2 h3; omega⟩
/-- A segment is sorted anew: its blocks are one. -/
theorem Bd.step {lt : α → α → Bool} {num : α → Nat} {n a b : Nat} {d0 d d' : Array α} {key key' : Nat → Nat} (h : Bd lt num n d0 key d) (hb : b ≤ n) (hn : n ≤ d.size) (hp : PermIn a b d d') (hs : SortedIn lt a b d')
    (c1 : ∀ u x, x < n → u < n → (x < a ∨ b ≤ x) → key u = key x → key' u = key' x) (c2 : ∀ u y x, u < n → a ≤ x → x < b → a ≤ y → y < b → key u = key y → key' u = key' x)
    (c3 : ∀ p q, p < n → q < n → (p < a ∨ b ≤ p) → (q < a ∨ b ≤ q) → key' p = key' q → key p = key q) (c4 : ∀ p q, a ≤ p → p < b → q < n → (q < a ∨ b ≤ q) → key' p ≠ key' q) : Bd lt num n d0 key' d' := by
  refine ⟨?_, fun x hx => ?_, fun p q h1 h2 h3 => ?_⟩
  · by_cases hab : a ≤ b
    · exact permIn_trans _ _ _ 0 n h.perm (permIn_mono _ _ a b 0 n (Nat.zero_le _) hb hn hp)
    · refine permIn_trans _ _ _ 0 n h.perm ⟨hp.1, fun i hi => hp.2.1 i (by omega), ?_⟩
      refine List.Perm.of_eq (congrArg Array.toList ?_)
      apply Array.ext
      · simp [hp.1]
      · intro i h1 h2
        simp only [Array.getElem_extract]
        have h3 : 0 + i < d'.size := by simp at h1; omega
        have h4 : 0 + i < d.size := by simp at h2; omega
        have := hp.2.1 (0 + i) (by omega)
        rw [getElem!_pos d' _ h3, getElem!_pos d _ h4] at this
        exact this
  · by_cases hi : a ≤ x ∧ x < b
    · obtain ⟨y, y1, y2, e⟩ := perm_from (by omega) hp hi.1 hi.2
      rw [e]
      exact ⟨(h.num y (by omega)).1, c2 _ y x (h.num y (by omega)).1 hi.1 hi.2 y1 y2 (h.num y (by omega)).2⟩
    · rw [hp.2.1 x (by omega)]
      exact ⟨(h.num x hx).1, c1 _ x hx (h.num x hx).1 (by omega) (h.num x hx).2⟩
  · by_cases hi : a ≤ p ∧ p < b
    · by_cases hj : a ≤ q ∧ q < b
      · exact hs p q hi.1 h1 hj.2
      · exact absurd h3 (c4 p q hi.1 hi.2 h2 (by omega))
    · by_cases hj : a ≤ q ∧ q < b
      · exact absurd h3.symm (c4 q p hj.1 hj.2 (by omega) (by omega))
      · rw [hp.2.1 p (by omega), hp.2.1 q (by omega)]
        exact h.sorted p q h1 h2 (c3 p q (by omega) h2 (by omega) (by omega) h3)
/-- The first pass: k blocks of twenty are done. -/
def key1 (k x : Nat) : Nat := if x / 20 < k then x / 20 else x + k
theorem Bd.step1 {lt : α → α → Bool} {num : α → Nat} {n k b : Nat} {d0 d d' : Array α} (h : Bd lt num n d0 (key1 k) d) (hb : b ≤ n) (hbk : b = 20 * k + 20 ∨ (b = n ∧ n ≤ 20 * k + 20)) (hn : n ≤ d.size) (hp : PermIn (20 * k) b d d') (hs : SortedIn lt (20 * k) b d') : Bd lt num n d0 (key1 (k + 1)) d' := by
  refine h.step hb hn hp hs (fun u x h1 h2 h3 h4 => ?_) (fun u y x h1 h2 h3 h4 h5 h6 => ?_) (fun p q h1 h2 h3 h4 h5 => ?_) (fun p q h1 h2 h3 h4 => ?_)
  · unfold key1 at *
    split at h4 <;> split at h4 <;> split <;> split <;> omega
  · unfold key1 at *
    split at h6 <;> split at h6 <;> split <;> split <;> omega
  · unfold key1 at *
    split at h5 <;> split at h5 <;> split <;> split <;> omega
  · unfold key1 at *
    split <;> split <;> omega
/-- A later pass: of the blocks of size s the first 2k are joined by pairs. -/
def key2 (s k x : Nat) : Nat := if x / s < 2 * k then x / s / 2 else 2 * k + x / s
theorem in_seg {s k x : Nat} (hs : 0 < s) : (2 * k * s ≤ x ↔ 2 * k ≤ x / s) ∧ (x < (2 * k + 2) * s ↔ x / s < 2 * k + 2) := ⟨(Nat.le_div_iff_mul_le hs).symm, (Nat.div_lt_iff_lt_mul hs).symm⟩
theorem Bd.step2 {lt : α → α → Bool} {num : α → Nat} {n s k b : Nat} {d0 d d' : Array α} (hs0 : 0 < s) (h : Bd lt num n d0 (key2 s k) d) (hb : b ≤ n) (hbk : b = (2 * k + 2) * s ∨ (b = n ∧ n ≤ (2 * k + 2) * s)) (hn : n ≤ d.size) (hp : PermIn (2 * k * s) b d d') (hs : SortedIn lt (2 * k * s) b d') : Bd lt num n d0 (key2 s (k + 1)) d' := by
  have hin : ∀ x, x < n → ((2 * k * s ≤ x ∧ x < b) ↔ (2 * k ≤ x / s ∧ x / s < 2 * k + 2)) := fun x hx => by
    obtain ⟨e1, e2⟩ := in_seg (k := k) (x := x) hs0
    rcases hbk with hbk | ⟨hbk, hbn⟩
    · rw [hbk, e1, e2]
    · rw [hbk, e1]
      constructor
      · rintro ⟨q1, _⟩
        exact ⟨q1, e2.1 (by omega)⟩
      · rintro ⟨q1, _⟩
        exact ⟨q1, hx⟩
  have hout : ∀ x, x < n → (x < 2 * k * s ∨ b ≤ x) → ¬ (2 * k ≤ x / s ∧ x / s < 2 * k + 2) := fun x hx ho e => by
    have := (hin x hx).2 e; omega
  refine h.step hb hn hp hs (fun u x h1 h2 h3 h4 => ?_) (fun u y x h1 h2 h3 h4 h5 h6 => ?_) (fun p q h1 h2 h3 h4 h5 => ?_) (fun p q h1 h2 h3 h4 => ?_)
  · have g := hout x h1 h3
    unfold key2 at *
    generalize x / s = X at *
    generalize u / s = U at *
    split at h4 <;> split at h4 <;> split <;> split <;> omega
  · have g := (hin x (by omega)).1 ⟨h2, h3⟩
    have g2 := (hin y (by omega)).1 ⟨h4, h5⟩
    unfold key2 at *
    generalize x / s = X at *
    generalize u / s = U at *
    generalize y / s = Y at *
    split at h6 <;> split at h6 <;> split <;> split <;> omega
  · have g := hout p h1 h3
    have g2 := hout q h2 h4
    unfold key2 at *
    generalize p / s = X at *
    generalize q / s = U at *
    split at h5 <;> split at h5 <;> split <;> split <;> omega
  · have g := (hin p (by omega)).1 ⟨h1, h2⟩
    have g2 := hout q h3 h4
    unfold key2 at *
    generalize p / s = X at *
    generalize q / s = U at *
    split <;> split <;> omega
/-- From the first pass to the later ones. -/
theorem Bd.to2 {lt : α → α → Bool} {num : α → Nat} {n k : Nat} {d0 d : Array α} (h : Bd lt num n d0 (key1 k) d) (hk : n ≤ 20 * k) : Bd lt num n d0 (key2 20 0) d :=
  h.congr fun x hx => by unfold key1 key2; rw [if_neg (by omega), if_pos (by omega)]; omega
theorem Bd.next {lt : α → α → Bool} {num : α → Nat} {n s k : Nat} {d0 d : Array α} (hs0 : 0 < s) (h : Bd lt num n d0 (key2 s k) d) (hk : n ≤ 2 * k * s) : Bd lt num n d0 (key2 (s * 2) 0) d :=
  h.congr fun x hx => by
    have h1 : x / s < 2 * k := (Nat.div_lt_iff_lt_mul hs0).2 (by omega)
    have e1 : key2 (s * 2) 0 x = x / s / 2 := by
      unfold key2
      rw [if_neg (by simp), ← Nat.div_div_eq_div_mul]
      simp
    rw [e1]
    unfold key2
    rw [if_pos h1]
/-- Where the blocks are longer than the row. -/
theorem Bd.done {lt : α → α → Bool} {num : α → Nat} {n s : Nat} {d0 d : Array α} (h : Bd lt num n d0 (key2 s 0) d) (hs : n ≤ s) : SortedIn lt 0 n d := fun i j h1 h2 h3 =>
  h.sorted i j h2 h3 (by
    have e : ∀ x, x < s → key2 s 0 x = 0 := fun x hx => by unfold key2; rw [Nat.div_eq_of_lt hx]; simp
    rw [e i (by omega), e j (by omega)])
/-- What a merge finds. -/
theorem Bd.seg {lt : α → α → Bool} {num : α → Nat} {n s k b : Nat} {d0 d : Array α} (hs0 : 0 < s) (h : Bd lt num n d0 (key2 s k) d) (hb : b ≤ n) (hbk : b ≤ (2 * k + 2) * s) :
    (2 * k * s + s ≤ n → SortedIn lt (2 * k * s) (2 * k * s + s) d) ∧ SortedIn lt (2 * k * s + s) b d ∧ ∀ x y, 2 * k * s + s ≤ x → x < b → 2 * k * s ≤ y → y < 2 * k * s + s → num d[y]! < num d[x]! := by
  have e0 : 2 * k * s + s = (2 * k + 1) * s := by rw [Nat.add_mul, Nat.one_mul]
  have q1 : ∀ x, 2 * k * s ≤ x → x < 2 * k * s + s → x / s = 2 * k := fun x h1 h2 => by
    have a1 := (Nat.le_div_iff_mul_le hs0).2 h1
    have a2 := (Nat.div_lt_iff_lt_mul hs0).2 (show x < (2 * k + 1) * s by rw [← e0]; exact h2)
    omega
  have q2 : ∀ x, 2 * k * s + s ≤ x → x < b → x / s = 2 * k + 1 := fun x h1 h2 => by
    have a1 := (Nat.le_div_iff_mul_le hs0).2 (show (2 * k + 1) * s ≤ x by rw [← e0]; exact h1)
    have a2 := (Nat.div_lt_iff_lt_mul hs0).2 (show x < (2 * k + 2) * s from Nat.lt_of_lt_of_le h2 hbk)
    omega
  have q3 : ∀ X x, key2 s k X = key2 s k x → 2 * k ≤ x / s → X / s = x / s := fun X x h1 h2 => by
    unfold key2 at h1
    generalize X / s = U at *
    generalize x / s = V at *
    split at h1 <;> split at h1 <;> omega
  refine ⟨fun hn i j h1 h2 h3 => h.sorted i j h2 (by omega) (by unfold key2; rw [q1 i h1 (by omega), q1 j (by omega) h3]), fun i j h1 h2 h3 => h.sorted i j h2 (by omega) (by unfold key2; rw [q2 i h1 (by omega), q2 j (by omega) h3]), fun x y h1 h2 h3 h4 => ?_⟩
  have z1 := q3 _ _ (h.num x (by omega)).2 (by rw [q2 x h1 h2]; omega)
  have z2 := q3 _ _ (h.num y (by omega)).2 (by rw [q1 y h3 h4]; omega)
  rw [q2 x h1 h2] at z1
  rw [q1 y h3 h4] at z2
  refine Nat.lt_of_not_le fun hle => ?_
  have := Nat.div_le_div_right (c := s) hle
  omega
theorem Bd.seg1 {lt : α → α → Bool} {num : α → Nat} {n s k : Nat} {d0 d : Array α} (hs0 : 0 < s) (h : Bd lt num n d0 (key2 s k) d) (hn : n ≤ 2 * k * s + s) : SortedIn lt (2 * k * s) n d := by
  have e0 : 2 * k * s + s = (2 * k + 1) * s := by rw [Nat.add_mul, Nat.one_mul]
  have q1 : ∀ x, 2 * k * s ≤ x → x < n → x / s = 2 * k := fun x h1 h2 => by
    have a1 := (Nat.le_div_iff_mul_le hs0).2 h1
    have a2 := (Nat.div_lt_iff_lt_mul hs0).2 (show x < (2 * k + 1) * s by rw [← e0]; omega)
    omega
  exact fun i j h1 h2 h3 => h.sorted i j h2 h3 (by unfold key2; rw [q1 i h1 (by omega), q1 j (by omega) h3])
/-- The numbers that a block of the first pass finds. -/
theorem Bd.own {lt : α → α → Bool} {num : α → Nat} {n k x : Nat} {d0 d : Array α} (h : Bd lt num n d0 (key1 k) d) (h1 : 20 * k ≤ x) (h2 : x < n) : num d[x]! = x := by
  have := (h.num x h2).2
  unfold key1 at this
  split at this <;> split at this <;> omega
end
end Of
end Go.Proofs.Ytjgakcpjphdicaa
