/- Plain: the best set that fits. -/
import Derived.Test.YtnkkhbmbbkmfhaaK3
import Derived.Test.YtnkkhbmbbkmfhaaK4
namespace Go.Proofs.Ytnkkhbmbbkmfhaa.Py

theorem bit_low {s k j : Nat} (hj : j < k) : bitS (s + 2 ^ k) j = bitS s j := by
  unfold bitS
  have e : 2 ^ k = 2 ^ j * (2 * 2 ^ (k - j - 1)) := by
    rw [← Nat.pow_succ', ← Nat.pow_add]; congr 1; omega
  rw [e, Nat.add_mul_div_left _ _ (Nat.two_pow_pos j), Nat.add_mul_mod_self_left]
theorem bit_top {s k : Nat} (hs : s < 2 ^ k) : bitS (s + 2 ^ k) k = true ∧ bitS s k = false := by
  unfold bitS
  have h2 := Nat.two_pow_pos k
  have e1 : (s + 2 ^ k) / 2 ^ k = 1 := by rw [Nat.add_div_right _ h2, Nat.div_eq_of_lt hs]
  have e2 : s / 2 ^ k = 0 := Nat.div_eq_of_lt hs
  rw [e1, e2]; decide
theorem sel_low (W : List Nat) (s : Nat) {k : Nat} : ∀ j, j ≤ k → selW W (s + 2 ^ k) j = selW W s j
  | 0, _ => rfl
  | j + 1, hj => by
    show selW W (s + 2 ^ k) j ++ (if bitS (s + 2 ^ k) j then [W.getD j 0] else []) = selW W s j ++ (if bitS s j then [W.getD j 0] else [])
    rw [bit_low (by omega), sel_low W s j (by omega)]
theorem sel_any (W : List Nat) (p : Nat → Bool) : ∀ k, k ≤ W.length → ∃ s, s < 2 ^ k ∧ selW W s k = (W.take k).filter p
  | 0, _ => ⟨0, by simp, rfl⟩
  | k + 1, hk => by
    obtain ⟨s, hs, e⟩ := sel_any W p k (by omega)
    have hget : W[k]? = some (W.getD k 0) := kd_get (by omega)
    have ht : W.take (k + 1) = W.take k ++ [W.getD k 0] := take_next hget
    have h2 : 2 ^ (k + 1) = 2 ^ k + 2 ^ k := by rw [Nat.pow_succ]; omega
    obtain ⟨b1, b2⟩ := bit_top hs
    by_cases hp : p (W.getD k 0) = true
    · refine ⟨s + 2 ^ k, by omega, ?_⟩
      show selW W (s + 2 ^ k) k ++ (if bitS (s + 2 ^ k) k then [W.getD k 0] else []) = _
      rw [if_pos b1, sel_low W s k (Nat.le_refl _), e, ht, List.filter_append, List.filter_cons, if_pos hp]; rfl
    · refine ⟨s, by omega, ?_⟩
      show selW W s k ++ (if bitS s k then [W.getD k 0] else []) = _
      rw [if_neg (by rw [b2]; simp), e, ht, List.filter_append, List.filter_cons, if_neg hp, List.filter_nil]
/-- What the search has found. -/
theorem lim_is {L : List PU} (hL : OkL L) {h w : Int} (hc : OkC h w) (W : List Nat) (n : Nat) : ∀ s : Nat,
    ((limR L h w W n s).1 < 0 ∧ ∀ t, t < s → fitV (gapsV L) (selW W t W.length) n = false) ∨
    (∃ t, t < s ∧ fitV (gapsV L) (selW W t W.length) n = true ∧ limR L h w W n s = (keptV L h w (selW W t W.length), selW W t W.length) ∧ ∀ t, t < s → fitV (gapsV L) (selW W t W.length) n = true → (limR L h w W n s).1 ≤ keptV L h w (selW W t W.length))
  | 0 => .inl ⟨by show (-1 : Int) < 0; omega, fun t ht => by omega⟩
  | s + 1 => by
    have ih := lim_is hL hc W n s
    have hnn := kept_nn hL hc (selW W s W.length)
    rw [limR_succ]
    unfold better
    cases hf : fitV (gapsV L) (selW W s W.length) n with
    | false =>
      rw [if_neg (by simp)]
      rcases ih with ⟨h1, h2⟩ | ⟨t, h1, h2, h3, h4⟩
      · exact .inl ⟨h1, fun t ht => by
          rcases Nat.lt_or_ge t s with h5 | h5
          · exact h2 t h5
          · obtain rfl : t = s := by omega
            exact hf⟩
      · exact .inr ⟨t, by omega, h2, h3, fun t ht e => by
          rcases Nat.lt_or_ge t s with h5 | h5
          · exact h4 t h5 e
          · obtain rfl : t = s := by omega
            rw [hf] at e; cases e⟩
    | true =>
      right
      by_cases hb : (true && (decide ((limR L h w W n s).1 < 0) || decide (keptV L h w (selW W s W.length) < (limR L h w W n s).1) || (decide (keptV L h w (selW W s W.length) = (limR L h w W n s).1) && lessV (selW W s W.length) (limR L h w W n s).2))) = true
      · rw [if_pos hb]
        refine ⟨s, by omega, hf, rfl, fun t ht e => ?_⟩
        simp only [Bool.true_and, Bool.or_eq_true, Bool.and_eq_true, decide_eq_true_eq] at hb
        show keptV L h w (selW W s W.length) ≤ _
        rcases Nat.lt_or_ge t s with h5 | h5
        · rcases ih with ⟨h1, h2⟩ | ⟨t0, h1, h2, h3, h4⟩
          · rw [h2 t h5] at e; cases e
          · have h6 := h4 t h5 e
            have h7 : 0 ≤ (limR L h w W n s).1 := by rw [h3]; exact kept_nn hL hc _
            rcases hb with (hb | hb) | hb <;> omega
        · obtain rfl : t = s := by omega
          exact Int.le_refl _
      · rw [if_neg hb]
        simp only [Bool.true_and, Bool.or_eq_true, Bool.and_eq_true, decide_eq_true_eq, not_or] at hb
        rcases ih with ⟨h1, h2⟩ | ⟨t0, h1, h2, h3, h4⟩
        · exact absurd h1 hb.1.1
        · refine ⟨t0, by omega, h2, h3, fun t ht e => ?_⟩
          rcases Nat.lt_or_ge t s with h5 | h5
          · exact h4 t h5 e
          · obtain rfl : t = s := by omega
            have := hb.1.2
            omega
theorem many_sub {G : List PU} {K K0 : List Nat} (hK : K.Nodup) (hs : ∀ k, k ∈ K → k ∈ K0) (t : Int) : many G K t ≤ many G K0 t := by
  unfold many
  rw [List.countP_eq_length_filter, List.countP_eq_length_filter]
  refine nodup_len (List.Pairwise.filter _ hK) fun x hx => ?_
  obtain ⟨h1, h2⟩ := List.mem_filter.1 hx
  exact List.mem_filter.2 ⟨hs x h1, h2⟩
theorem kept_mono {h w : Int} {G : List PU} {K K0 : List Nat} (hk : ∀ k, k ∈ K ↔ (0 < saved h w (use G k) ∧ k < G.length ∧ k ∈ K0)) : ∀ j, j ≤ G.length → keptS h w G K j ≤ keptS h w G K0 j
  | 0, _ => Int.le_refl _
  | j + 1, hj => by
    have ih := kept_mono hk j (by omega)
    show keptS h w G K j + _ ≤ keptS h w G K0 j + _
    have : (if j ∈ K then ((use G j).t - (use G j).f) * h else w) ≤ (if j ∈ K0 then ((use G j).t - (use G j).f) * h else w) := by
      by_cases h1 : j ∈ K
      · rw [if_pos h1, if_pos ((hk j).1 h1).2.2]; exact Int.le_refl _
      · rw [if_neg h1]
        by_cases h2 : j ∈ K0
        · rw [if_pos h2]
          have h3 : ¬ 0 < saved h w (use G j) := fun e => h1 ((hk j).2 ⟨e, by omega, h2⟩)
          unfold saved at h3
          omega
        · rw [if_neg h2]; exact Int.le_refl _
    omega
theorem fit_nil (G : List PU) (n : Nat) : fitV G [] n = true := rfl
theorem lim_laws {L : List PU} (hL : OkL L) {h w : Int} (hc : OkC h w) (n : Nat) :
    fitV (gapsV L) (limV L h w n).2 n = true ∧ Asc (limV L h w n).2 ∧ (∀ k, k ∈ (limV L h w n).2 → k < (gapsV L).length) ∧ keptV L h w (limV L h w n).2 = (limV L h w n).1 ∧
    ∀ K0 : List Nat, fitV (gapsV L) K0 n = true → (limV L h w n).1 ≤ keptV L h w K0 := by
  have hW : ∀ k, k ∈ limWorth L h w ↔ k < (gapsV L).length ∧ 0 < saved h w (use (gapsV L) k) := fun k => mem_worthL
  have hWa : Asc (limWorth L h w) := worthL_asc h w (gapsV L) _
  have hi := lim_is hL hc (limWorth L h w) n (2 ^ (limWorth L h w).length)
  unfold limV
  generalize limWorth L h w = W at *
  have h2 := Nat.two_pow_pos W.length
  rcases hi with ⟨_, h1⟩ | ⟨t, h1, h3, h4, h5⟩
  · have := h1 0 h2
    rw [selW_0, fit_nil] at this; cases this
  · have hsa := selW_asc hWa t W.length (Nat.le_refl _)
    have hmem : ∀ {s x}, x ∈ selW W s W.length → x ∈ W := fun {s x} hx => by
      obtain ⟨j, _, _, hj⟩ := selW_mem (Nat.le_refl _) hx
      exact List.mem_of_getElem? hj
    rw [h4]
    rw [h4] at h5
    refine ⟨h3, hsa, fun k hk => ((hW k).1 (hmem hk)).1, rfl, fun K0 hf => ?_⟩
    obtain ⟨s, hs, he⟩ := sel_any W (fun k => decide (k ∈ K0)) W.length (Nat.le_refl _)
    rw [List.take_length] at he
    have hk1 : ∀ k, k ∈ selW W s W.length ↔ (0 < saved h w (use (gapsV L) k) ∧ k < (gapsV L).length ∧ k ∈ K0) := fun k => by
      rw [he, List.mem_filter, hW]; simp only [decide_eq_true_eq]
      constructor
      · rintro ⟨⟨a, b⟩, c⟩; exact ⟨b, a, c⟩
      · rintro ⟨a, b, c⟩; exact ⟨⟨b, a⟩, c⟩
    have hnd : (selW W s W.length).Nodup := by rw [he]; exact List.Pairwise.filter _ (asc_nodup hWa)
    have hfit : fitV (gapsV L) (selW W s W.length) n = true := by
      unfold fitV at *
      rw [List.all_eq_true] at *
      intro i hi
      have h6 := hf i ((hk1 i).1 hi).2.2
      rw [decide_eq_true_eq] at h6 ⊢
      exact Nat.le_trans (many_sub hnd (fun k hk => ((hk1 k).1 hk).2.2) _) h6
    refine Int.le_trans (h5 s hs hfit) ?_
    unfold keptV
    have := kept_mono hk1 _ (Nat.le_refl _)
    omega
/-- What PolicyBest asks of the limited cost. -/
theorem best_laws {L : List PU} (hL : OkL L) {h w : Int} (hc : OkC h w) (n : Nat) :
    leastV L h w ≤ (limV L h w n).1 ∧ (limV L h w n).1 ≤ mostV L (stepsV L) h w n ∧ (L.length ≤ n → (limV L h w n).1 = leastV L h w) := by
  obtain ⟨h1, h2, h3, h4, h5⟩ := lim_laws hL hc n
  have hge : leastV L h w ≤ (limV L h w n).1 := by rw [← h4]; exact kept_least L h w _
  refine ⟨hge, ?_, fun hn => ?_⟩
  · obtain ⟨K, k1, k2, k3, k4⟩ := most_keeps hL (stepsV_is hL) hc n
    exact Int.le_trans (h5 K k3) k4
  · have hfit : fitV (gapsV L) (leastL h w (gapsV L) (gapsV L).length) n = true := by
      unfold fitV
      rw [List.all_eq_true]
      intro i _
      rw [decide_eq_true_eq]
      have e1 : many (gapsV L) (leastL h w (gapsV L) (gapsV L).length) (use (gapsV L) i).f ≤ (leastL h w (gapsV L) (gapsV L).length).length := List.countP_le_length
      have e2 : (leastL h w (gapsV L) (gapsV L).length).length ≤ (gapsV L).length := by
        unfold leastL
        have := List.length_filter_le (fun i => decide (0 ≤ saved h w (use (gapsV L) i))) (List.range (gapsV L).length)
        rwa [List.length_range] at this
      have e3 := firsts_gaps L
      omega
    have := h5 _ hfit
    rw [least_kept] at this
    omega
theorem cost_least {L : List PU} (hL : OkL L) {h w : Int} (hc : OkC h w) {k a m : Int} (hp : polB k a m = true) : leastV L h w ≤ costN L h w k a m := by
  unfold costN
  split
  · exact least_le_aged hL hc (by omega)
  · split
    · exact least_le_aged hL hc (by omega)
    · split
      · next h3 =>
        subst h3
        unfold polB at hp
        rw [if_neg (by omega), if_pos rfl] at hp
        simp at hp
        exact least_le_aged hL hc hp.1.1
      · obtain ⟨K, k1, k2, k3, k4⟩ := most_keeps hL (stepsV_is hL) hc m.toNat
        exact Int.le_trans (kept_least L h w K) k4
end Go.Proofs.Ytnkkhbmbbkmfhaa.Py
