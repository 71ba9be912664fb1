/- Rotating permutes. symMerge: what the rotation leaves. -/
import Derived.Test.YtjgakcpjphdicaaK23
import Derived.Sort.LotA
namespace Go.Proofs.Ytjgakcpjphdicaa
open Go.Sort Go.Proofs
namespace Of

theorem swapR_perm {α : Type} [Inhabited α] (d : Array α) (lo hi a b : Nat) : ∀ k, lo ≤ a → a + k ≤ hi → lo ≤ b → b + k ≤ hi → hi ≤ d.size → PermIn lo hi d (swapR d a b k)
  | 0, _, _, _, _, _ => permIn_refl d lo hi
  | k + 1, h1, h2, h3, h4, h5 => permIn_trans _ _ _ _ _ (swapR_perm d lo hi a b k h1 (by omega) h3 (by omega) h5) (swp_permIn _ lo hi (a + k) (b + k) (by omega) (by omega) (by omega) (by omega) (by rw [swapR_size]; exact h5))
theorem rotGo_perm {α : Type} [Inhabited α] (m lo hi : Nat) : ∀ (f : Nat) (d : Array α) (i j : Nat), i ≤ m → lo ≤ m - i → m + j ≤ hi → hi ≤ d.size → PermIn lo hi d (rotGo m f d i j)
  | 0, d, i, j, _, _, _, _ => permIn_refl d lo hi
  | f + 1, d, i, j, h1, h2, h3, h4 => by
    rw [rotGo]
    by_cases h : i = j
    · rw [if_pos h]
      exact swapR_perm d lo hi _ _ _ h2 (by omega) (by omega) (by omega) h4
    · rw [if_neg h]
      by_cases h6 : j < i
      · rw [if_pos h6]
        exact permIn_trans _ _ _ _ _ (swapR_perm d lo hi _ _ _ h2 (by omega) (by omega) (by omega) h4) (rotGo_perm m lo hi f _ (i - j) j (by omega) (by omega) h3 (by rw [swapR_size]; exact h4))
      · rw [if_neg h6]
        exact permIn_trans _ _ _ _ _ (swapR_perm d lo hi _ _ _ h2 (by omega) (by omega) (by omega) h4) (rotGo_perm m lo hi f _ i (j - i) (by omega) h2 (by omega) (by rw [swapR_size]; exact h4))
end Of
end Go.Proofs.Ytjgakcpjphdicaa
namespace Go.Proofs.Ytjgakcpjphdicaa
open Go.Sort Go.Proofs
namespace Of

/-- Not less, among places in order. -/
theorem SortedIn.le {α : Type} [Inhabited α] {lt : α → α → Bool} (hS : SWO lt) {a b : Nat} {d : Array α} (h : SortedIn lt a b d) {i j : Nat} (h1 : a ≤ i) (h2 : i ≤ j) (h3 : j < b) : lt d[j]! d[i]! = false := by
  rcases Nat.lt_or_ge i j with h4 | h4
  · exact h i j h1 h4 h3
  · obtain rfl : i = j := by omega
    exact hS.irrefl _
theorem sym_rot {α : Type} [Inhabited α] {lt : α → α → Bool} (hS : SWO lt) (d d' : Array α) (a m b mid start e : Nat) (hn : start + e = mid + m) (has : a ≤ start) (hsm : start ≤ m) (hme : m ≤ e) (heb : e ≤ b)
    (h1 : SortedIn lt a m d) (h2 : SortedIn lt m b d) (hA : start = a ∨ e = b ∨ lt d[e]! d[start - 1]! = false) (hB : start = m ∨ e = m ∨ lt d[start]! d[e - 1]! = false)
    (hd : ∀ x, d'[x]! = if start ≤ x ∧ x < mid then d[x + (m - start)]! else if mid ≤ x ∧ x < e then d[x - (e - m)]! else d[x]!) :
    SortedIn lt a start d' ∧ SortedIn lt start mid d' ∧ SortedIn lt mid e d' ∧ SortedIn lt e b d' ∧ ∀ x y, a ≤ x → x < mid → mid ≤ y → y < b → lt d'[y]! d'[x]! = false := by
  refine ⟨fun i j h3 h4 h5 => ?_, fun i j h3 h4 h5 => ?_, fun i j h3 h4 h5 => ?_, fun i j h3 h4 h5 => ?_, fun x y h3 h4 h5 h6 => ?_⟩
  · rw [hd, hd, if_neg (by omega), if_neg (by omega), if_neg (by omega), if_neg (by omega)]
    exact h1 i j h3 h4 (by omega)
  · rw [hd j, hd i, if_pos (by omega), if_pos (by omega)]
    exact h2 _ _ (by omega) (by omega) (by omega)
  · rw [hd j, hd i, if_neg (by omega), if_pos (by omega), if_neg (by omega), if_pos (by omega)]
    exact h1 _ _ (by omega) (by omega) (by omega)
  · rw [hd j, hd i, if_neg (by omega), if_neg (by omega), if_neg (by omega), if_neg (by omega)]
    exact h2 i j (by omega) h4 h5
  · rw [hd y, hd x, if_neg (by omega)]
    by_cases hx : x < start
    · rw [if_neg (by omega : ¬ (start ≤ x ∧ x < mid)), if_neg (by omega : ¬ (mid ≤ x ∧ x < e))]
      by_cases hy : y < e
      · rw [if_pos (by omega)]
        exact h1 _ _ h3 (by omega) (by omega)
      · rw [if_neg (by omega)]
        rcases hA with hA | hA | hA
        · omega
        · omega
        · exact hS.ntrans _ _ _ (hS.ntrans _ _ _ (SortedIn.le hS h2 (by omega) (by omega) h6) hA) (SortedIn.le hS h1 h3 (by omega) (by omega))
    · rw [if_pos (by omega : start ≤ x ∧ x < mid)]
      by_cases hy : y < e
      · rw [if_pos (by omega)]
        rcases hB with hB | hB | hB
        · omega
        · omega
        · exact hS.ntrans _ _ _ (hS.ntrans _ _ _ (SortedIn.le hS h1 has (by omega) (by omega)) hB) (SortedIn.le hS h2 (by omega) (by omega) (by omega))
      · rw [if_neg (by omega)]
        exact h2 _ _ (by omega) (by omega) h6
end Of
end Go.Proofs.Ytjgakcpjphdicaa
