/- symMerge: joining. Plain: the quick order. -/
import Derived.Test.YtjgakcpjphdicaaK24
import Derived.Test.YtjgakcpjphdicaaK22
import Derived.Test.YtjgakcpjphdicaaK12
import Derived.Sort.LotA
namespace Go.Proofs.Ytjgakcpjphdicaa
open Go.Sort Go.Proofs
namespace Of

theorem join_sorted {α : Type} [Inhabited α] {lt : α → α → Bool} {a mid b : Nat} {d : Array α} (h1 : SortedIn lt a mid d) (h2 : SortedIn lt mid b d) (hc : ∀ x y, a ≤ x → x < mid → mid ≤ y → y < b → lt d[y]! d[x]! = false) : SortedIn lt a b d := fun i j h3 h4 h5 => by
  by_cases hi : i < mid
  · by_cases hj : j < mid
    · exact h1 i j h3 h4 hj
    · exact hc i j h3 hi (by omega) h5
  · exact h2 i j (by omega) h4 h5
theorem perm_from {α : Type} [Inhabited α] {a b : Nat} {d d' : Array α} (hb : b ≤ d.size) (h : PermIn a b d d') {x : Nat} (h1 : a ≤ x) (h2 : x < b) : ∃ y, a ≤ y ∧ y < b ∧ d'[x]! = d[y]! := by
  have hm : d'[x]! ∈ (d'.extract a b).toList := by
    have hs := h.1
    rw [getElem!_pos d' x (by omega)]
    refine List.mem_iff_getElem.2 ⟨x - a, by simp; omega, ?_⟩
    simp
    congr 1
    omega
  have hm2 := h.2.2.mem_iff.1 hm
  obtain ⟨k, hk, he⟩ := List.mem_iff_getElem.1 hm2
  simp at hk he
  refine ⟨a + k, by omega, by omega, ?_⟩
  rw [getElem!_pos d (a + k) (by omega)]
  exact he.symm
end Of
end Go.Proofs.Ytjgakcpjphdicaa
namespace Go.Proofs.Ytjgakcpjphdicaa
open Go.Sort Go.Proofs
namespace Of

theorem before_iff (L : List OB) (x y : Nat) : before L x y = true ↔ (blk L x).f < (blk L y).f ∨ ((blk L x).f = (blk L y).f ∧ ((blk L y).s < (blk L x).s ∨ ((blk L x).s = (blk L y).s ∧ x < y))) := by
  unfold before
  split
  · rw [decide_eq_true_eq]; omega
  · split
    · rw [decide_eq_true_eq]; omega
    · rw [decide_eq_true_eq]; omega
theorem before_not (L : List OB) (x y : Nat) : before L x y = false ↔ ¬ ((blk L x).f < (blk L y).f ∨ ((blk L x).f = (blk L y).f ∧ ((blk L y).s < (blk L x).s ∨ ((blk L x).s = (blk L y).s ∧ x < y)))) := by
  rw [← before_iff]; simp
theorem before_swo (L : List OB) : SWO (before L) where
  irrefl x := by rw [before_not]; omega
  trans x y z h1 h2 := by rw [before_iff] at *; omega
  ntrans x y z h1 h2 := by rw [before_not] at *; omega
theorem before_total (L : List OB) {x y : Nat} (h : x ≠ y) (h2 : before L x y = false) : before L y x = true := by
  rw [before_not] at h2; rw [before_iff]; omega
theorem qcmp_before (L : List OB) {x y : Nat} (h : y < x) : qcmp L x y < 0 ↔ before L x y = true := by
  rw [before_iff]
  unfold qcmp orV cmpV
  split <;> (repeat' split) <;> omega
theorem qk_spec (L : List OB) (o : List Nat) (i : Nat) : ∀ k, k ≤ o.length → (∀ j, qk L o i k ≤ j → j < k → before L i (o.getD j 0) = true) ∧ (0 < qk L o i k → before L i (o.getD (qk L o i k - 1) 0) = false)
  | 0, _ => ⟨fun j _ h => by omega, fun h => by simp [qk] at h⟩
  | k + 1, hk => by
    unfold qk
    split
    · next h =>
      obtain ⟨h1, h2⟩ := qk_spec L o i k (by omega)
      refine ⟨fun j hj hjk => ?_, h2⟩
      by_cases e : j = k
      · rw [e]; exact h
      · exact h1 j hj (by omega)
    · next h => exact ⟨fun j hj hjk => by omega, fun _ => by simpa using h⟩
theorem qord_sorted (L : List OB) : ∀ n, (qord L n).Pairwise fun a b => before L a b = true
  | 0 => List.Pairwise.nil
  | n + 1 => by
    have ih := qord_sorted L n
    obtain ⟨hO, hl⟩ := qord_ord L n
    obtain ⟨h1, h2⟩ := qk_spec L (qord L n) n (qord L n).length (Nat.le_refl _)
    have hle := qk_le L (qord L n) n (qord L n).length
    unfold qord insK
    generalize qk L (qord L n) n (qord L n).length = k at *
    generalize qord L n = o at *
    have hbig : ∀ j, k ≤ j → j < o.length → before L n (o.getD j 0) = true := fun j hj hjl => h1 j hj hjl
    have hlow : ∀ j, j < k → before L (o.getD j 0) n = true := fun j hj => by
      have hk1 : k - 1 < o.length := by omega
      have hm : o.getD (k - 1) 0 ≠ n := fun e => by
        have : o.getD (k - 1) 0 ∈ o := by rw [List.getD_eq_getElem?_getD, List.getElem?_eq_getElem hk1]; simp
        have := hO.2 _ this
        omega
      have h3 := before_total L (fun e => hm e.symm) (h2 (by omega))
      by_cases e : j = k - 1
      · rw [e]; exact h3
      · refine (before_swo L).trans _ _ _ ?_ h3
        have := List.pairwise_iff_getElem.1 ih j (k - 1) (by omega) hk1 (by omega)
        rw [List.getD_eq_getElem?_getD, List.getD_eq_getElem?_getD, List.getElem?_eq_getElem (by omega), List.getElem?_eq_getElem hk1]
        exact this
    have ih2 := ih
    rw [← List.take_append_drop k o] at ih2
    obtain ⟨p1, p2, p3⟩ := List.pairwise_append.1 ih2
    have ht : ∀ x, x ∈ o.take k → before L x n = true := fun x hx => by
      obtain ⟨j, hj, e⟩ := List.mem_iff_getElem.1 hx
      rw [List.length_take] at hj
      rw [List.getElem_take] at e
      have := hlow j (by omega)
      rw [List.getD_eq_getElem?_getD, List.getElem?_eq_getElem (by omega)] at this
      rw [← e]; exact this
    have hd : ∀ x, x ∈ o.drop k → before L n x = true := fun x hx => by
      obtain ⟨j, hj, e⟩ := List.mem_iff_getElem.1 hx
      rw [List.length_drop] at hj
      rw [List.getElem_drop] at e
      have := hbig (k + j) (by omega) (by omega)
      rw [List.getD_eq_getElem?_getD, List.getElem?_eq_getElem (by omega)] at this
      rw [← e]; exact this
    rw [List.append_assoc, List.pairwise_append]
    refine ⟨p1, ?_, fun a ha b hb => ?_⟩
    · rw [List.singleton_append, List.pairwise_cons]
      exact ⟨hd, p2⟩
    · rw [List.singleton_append] at hb
      rcases List.mem_cons.1 hb with rfl | hb
      · exact ht a ha
      · exact p3 a ha b hb
theorem qord_uniq (L : List OB) (n : Nat) {o : List Nat} (hp : o.Perm (List.range n)) (hs : o.Pairwise fun a b => before L a b = true) : o = qord L n := by
  obtain ⟨hO, hl⟩ := qord_ord L n
  refine (hp.trans (full_perm hO hl).symm).eq_of_pairwise (le := fun a b => before L a b = true) (fun a b _ _ h1 h2 => ?_) hs (qord_sorted L n)
  have := (before_swo L).trans _ _ _ h1 h2
  rw [(before_swo L).irrefl] at this
  cases this

section
variable {α : Type} [Inhabited α]
theorem insInner_congr (lt1 lt2 : α → α → Bool) (a : Nat) : ∀ (j : Nat) (d : Array α), j < d.size → (∀ x, a ≤ x → x < j → lt1 d[j]! d[x]! = lt2 d[j]! d[x]!) → insInner lt1 a j d = insInner lt2 a j d
  | 0, d, _, _ => rfl
  | j + 1, d, hj, h => by
    unfold insInner
    by_cases hja : j + 1 > a
    · have e := h j (by omega) (by omega)
      rw [e]
      split
      · refine insInner_congr lt1 lt2 a j _ (by rw [size_swp]; omega) fun x hx1 hx2 => ?_
        rw [swp_right d (j + 1) j (by omega), swp_other d (j + 1) j x (by omega) (by omega)]
        exact h x hx1 (by omega)
      · rfl
    · have e : decide (j + 1 > a) = false := decide_eq_false hja
      rw [e, Bool.false_and, Bool.false_and]
      simp
theorem insInner_perm (lt : α → α → Bool) (a : Nat) : ∀ (j b : Nat) (d : Array α), a ≤ j → j < b → b ≤ d.size → PermIn a b d (insInner lt a j d)
  | 0, b, d, _, _, _ => permIn_refl d a b
  | j + 1, b, d, h1, h2, h3 => by
    unfold insInner
    split
    · next hc =>
      have h4 : a ≤ j := by rw [Bool.and_eq_true, decide_eq_true_eq] at hc; omega
      exact permIn_trans _ _ _ a b (swp_permIn d a b (j + 1) j h1 h2 h4 (by omega) h3) (insInner_perm lt a j b _ h4 (by omega) (by rw [size_swp]; exact h3))
    · exact permIn_refl d a b
theorem insOuter_congr (lt1 lt2 : α → α → Bool) (a b : Nat) (d0 : Array α) (hb : b ≤ d0.size) (h : ∀ i j, a ≤ i → i < j → j < b → lt1 d0[j]! d0[i]! = lt2 d0[j]! d0[i]!) :
    ∀ (n i : Nat) (d : Array α), b - i = n → a ≤ i → PermIn a i d0 d → insOuter lt1 a b i d = insOuter lt2 a b i d
  | 0, i, d, hn, _, _ => by rw [insOuter_stop lt1 _ _ _ _ (by omega), insOuter_stop lt2 _ _ _ _ (by omega)]
  | n + 1, i, d, hn, hai, hp => by
    have hib : i < b := by omega
    have hsz := hp.1
    rw [insOuter_go lt1 _ _ _ _ hib, insOuter_go lt2 _ _ _ _ hib]
    rw [insInner_congr lt1 lt2 a i d (by omega) fun x hx1 hx2 => ?_]
    · refine insOuter_congr lt1 lt2 a b d0 hb h n (i + 1) _ (by omega) (by omega) ?_
      exact permIn_trans _ _ _ a (i + 1) (permIn_mono _ _ a i a (i + 1) (Nat.le_refl _) (by omega) (by omega) hp) (insInner_perm lt2 a i (i + 1) d hai (by omega) (by omega))
    · obtain ⟨y, hy1, hy2, e⟩ := perm_from (by omega) hp hx1 hx2
      rw [e, hp.2.1 i (.inr (Nat.le_refl _))]
      exact h y i hy1 hy2 hib
theorem insertion_congr (lt1 lt2 : α → α → Bool) (a b : Nat) (d0 : Array α) (hb : b ≤ d0.size) (h : ∀ i j, a ≤ i → i < j → j < b → lt1 d0[j]! d0[i]! = lt2 d0[j]! d0[i]!) : insertionSort lt1 d0 a b = insertionSort lt2 d0 a b := by
  unfold insertionSort
  by_cases e : a < b
  · refine insOuter_congr lt1 lt2 a b d0 hb h _ (a + 1) d0 rfl (by omega) (permIn_refl _ _ _)
  · rw [insOuter_stop lt1 _ _ _ _ (by omega), insOuter_stop lt2 _ _ _ _ (by omega)]
end
end Of
end Go.Proofs.Ytjgakcpjphdicaa
