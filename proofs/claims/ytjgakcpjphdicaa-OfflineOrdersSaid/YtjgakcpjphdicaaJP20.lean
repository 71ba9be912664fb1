/- symMerge: one element is moved up, or down. -/
import Derived.Test.YtjgakcpjphdicaaK25
namespace Go.Proofs.Ytjgakcpjphdicaa
open Go.Sort Go.Proofs
namespace Of
section
variable {α : Type} [Inhabited α]
/-- The element at a has been moved up to k. -/
structure Up (a b : Nat) (d : Array α) (k : Nat) (dk : Array α) : Prop where
  perm : PermIn a b d dk
  low : ∀ x, a ≤ x → x < k → dk[x]! = d[x + 1]!
  at_ : dk[k]! = d[a]!
  high : ∀ x, k < x → x < b → dk[x]! = d[x]!
theorem Up.start (a b : Nat) (d : Array α) : Up a b d a d := ⟨permIn_refl d a b, fun x h1 h2 => by omega, rfl, fun x _ _ => rfl⟩
theorem Up.step {a b k : Nat} {d dk : Array α} (h : Up a b d k dk) (hak : a ≤ k) (hk : k + 1 < b) (hb : b ≤ d.size) : Up a b d (k + 1) (swp dk k (k + 1)) := by
  have hs := h.perm.1
  refine ⟨permIn_trans _ _ _ a b h.perm (swp_permIn dk a b k (k + 1) hak (by omega) (by omega) hk (by omega)), fun x h1 h2 => ?_, ?_, fun x h1 h2 => ?_⟩
  · by_cases e : x = k
    · subst e
      rw [swp_left dk x (x + 1) (by omega) (by omega)]
      exact h.high (x + 1) (by omega) hk
    · rw [swp_other dk k (k + 1) x e (by omega)]
      exact h.low x h1 (by omega)
  · rw [swp_right dk k (k + 1) (by omega)]
    exact h.at_
  · rw [swp_other dk k (k + 1) x (by omega) (by omega)]
    exact h.high x (by omega) h2
theorem Up.sorted {lt : α → α → Bool} (hS : SWO lt) {a b i : Nat} {d dk : Array α} (h : Up a b d (i - 1) dk) (hai : a + 1 ≤ i) (hib : i ≤ b) (h2 : SortedIn lt (a + 1) b d) (hlo : ∀ x, a + 1 ≤ x → x < i → lt d[x]! d[a]! = true) (hhi : ∀ x, i ≤ x → x < b → lt d[x]! d[a]! = false) : SortedIn lt a b dk := by
  intro p q h3 h4 h5
  have hasym : ∀ x y, lt x y = true → lt y x = false := fun x y e => by
    cases e2 : lt y x with
    | false => rfl
    | true => have := hS.trans _ _ _ e e2; rw [hS.irrefl] at this; cases this
  by_cases hp : p < i - 1
  · rw [h.low p h3 hp]
    by_cases hq : q < i - 1
    · rw [h.low q (by omega) hq]
      exact h2 _ _ (by omega) (by omega) (by omega)
    · by_cases hq2 : q = i - 1
      · rw [hq2, h.at_]
        exact hasym _ _ (hlo _ (by omega) (by omega))
      · rw [h.high q (by omega) h5]
        exact h2 _ _ (by omega) (by omega) h5
  · by_cases hp2 : p = i - 1
    · rw [hp2, h.at_, h.high q (by omega) h5]
      exact hhi q (by omega) h5
    · rw [h.high p (by omega) (by omega), h.high q (by omega) h5]
      exact h2 _ _ (by omega) h4 h5
/-- The element at m (the last) has been moved down to k. -/
structure Dn (a b m : Nat) (d : Array α) (k : Nat) (dk : Array α) : Prop where
  perm : PermIn a b d dk
  high : ∀ x, k < x → x ≤ m → dk[x]! = d[x - 1]!
  at_ : dk[k]! = d[m]!
  low : ∀ x, a ≤ x → x < k → dk[x]! = d[x]!
theorem Dn.start (a b m : Nat) (d : Array α) : Dn a b m d m d := ⟨permIn_refl d a b, fun x h1 h2 => by omega, rfl, fun x _ _ => rfl⟩
theorem Dn.step {a b m k : Nat} {d dk : Array α} (h : Dn a b m d (k + 1) dk) (hak : a ≤ k) (hk : k + 1 < b) (hb : b ≤ d.size) : Dn a b m d k (swp dk (k + 1) k) := by
  have hs := h.perm.1
  refine ⟨permIn_trans _ _ _ a b h.perm (swp_permIn dk a b (k + 1) k (by omega) hk hak (by omega) (by omega)), fun x h1 h2 => ?_, ?_, fun x h1 h2 => ?_⟩
  · by_cases e : x = k + 1
    · subst e
      rw [swp_left dk (k + 1) k (by omega) (by omega)]
      exact h.low k hak (by omega)
    · rw [swp_other dk (k + 1) k x e (by omega)]
      exact h.high x (by omega) h2
  · rw [swp_right dk (k + 1) k (by omega)]
    exact h.at_
  · rw [swp_other dk (k + 1) k x (by omega) (by omega)]
    exact h.low x h1 (by omega)
theorem Dn.sorted {lt : α → α → Bool} (hS : SWO lt) {a m i : Nat} {d dk : Array α} (h : Dn a (m + 1) m d i dk) (hai : a ≤ i) (him : i ≤ m) (h1 : SortedIn lt a m d) (hlo : ∀ x, a ≤ x → x < i → lt d[m]! d[x]! = false) (hhi : ∀ x, i ≤ x → x < m → lt d[m]! d[x]! = true) : SortedIn lt a (m + 1) dk := by
  intro p q h3 h4 h5
  have hasym : ∀ x y, lt x y = true → lt y x = false := fun x y e => by
    cases e2 : lt y x with
    | false => rfl
    | true => have := hS.trans _ _ _ e e2; rw [hS.irrefl] at this; cases this
  by_cases hp : p < i
  · rw [h.low p h3 hp]
    by_cases hq : q < i
    · rw [h.low q (by omega) hq]
      exact h1 _ _ h3 h4 (by omega)
    · by_cases hq2 : q = i
      · rw [hq2, h.at_]
        exact hlo _ h3 hp
      · rw [h.high q (by omega) (by omega)]
        exact h1 _ _ h3 (by omega) (by omega)
  · by_cases hp2 : p = i
    · rw [hp2, h.at_, h.high q (by omega) (by omega)]
      exact hasym _ _ (hhi _ (by omega) (by omega))
    · rw [h.high p (by omega) (by omega), h.high q (by omega) (by omega)]
      exact h1 _ _ (by omega) (by omega) (by omega)
end
end Of
end Go.Proofs.Ytjgakcpjphdicaa
