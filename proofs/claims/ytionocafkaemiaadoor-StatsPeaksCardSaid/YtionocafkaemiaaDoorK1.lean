/- Envelopes: runs of samples, the least area by a table. Envelopes: which one is preferred; all of them are tried. Weighted sums over the steps: additive in the interval. The area under the steps. -/
import Derived.Test.YtionocafkaemiaaDoorK0
namespace Go.Proofs.YtionocafkaemiaaDoor.Sx

/-- What cannot be had: less than any area. -/
abbrev nonE : Int := -1000000000000
/-- The greatest one of so many values. -/
def hiV (L : List Sm) (i : Nat) : Nat → Int
  | 0 => 0
  | d + 1 => max (hiV L i d) (sm L (i + d)).v
/-- The time at which a run ends that reaches up to a place. -/
def endT (L : List Sm) (u : Int) (e : Nat) : Int := if e < L.length then (sm L e).a else u
/-- A run's area. -/
def costV (L : List Sm) (u : Int) (i e : Nat) : Int := hiV L i (e - i) * (endT L u e - (sm L i).a)
/-- The least area from a place on, where so many ends have been tried. -/
def lvK (L : List Sm) (u : Int) (prev : Nat → Int) (i : Nat) : Nat → Int
  | 0 => nonE
  | d + 1 => if prev (i + d + 1) = nonE then lvK L u prev i d else
      if lvK L u prev i d = nonE ∨ costV L u i (i + d + 1) + prev (i + d + 1) < lvK L u prev i d then costV L u i (i + d + 1) + prev (i + d + 1) else lvK L u prev i d
/-- The least area from a place on in just so many runs. -/
def lv (L : List Sm) (u : Int) : Nat → Nat → Int
  | 0, i => if i = L.length then 0 else nonE
  | m + 1, i => lvK L u (lv L u m) i (L.length - i)
/-- What a series and its end must be. -/
structure OkE (L : List Sm) (u : Int) : Prop where
  ok : OkS L
  last : ∀ x, x ∈ L → x.a < u
  u1 : u ≤ 1000000000000
theorem hiV_bd {L : List Sm} (h : ∀ x, x ∈ L → OkM x) (i : Nat) : ∀ d, i + d ≤ L.length → 0 ≤ hiV L i d ∧ hiV L i d ≤ 1000000000000
  | 0, _ => by simp [hiV]
  | d + 1, hd => by
    have := hiV_bd h i d (by omega)
    have hx := h _ (sm_mem (show i + d < L.length by omega))
    have := hx.v0; have := hx.v1
    unfold hiV; omega
theorem hiV_ge (L : List Sm) (i : Nat) : ∀ d k, k < d → (sm L (i + k)).v ≤ hiV L i d
  | 0, k, h => absurd h (Nat.not_lt_zero _)
  | d + 1, k, h => by
    unfold hiV
    by_cases e : k = d
    · subst e; omega
    · have := hiV_ge L i d k (by omega); omega
theorem hiV_le (L : List Sm) (i : Nat) {B : Int} (h0 : 0 ≤ B) : ∀ d, (∀ k, k < d → (sm L (i + k)).v ≤ B) → hiV L i d ≤ B
  | 0, _ => h0
  | d + 1, h => by
    have := hiV_le L i h0 d fun k hk => h k (by omega)
    have := h d (by omega)
    unfold hiV; omega
theorem OkE.end_at {L : List Sm} {u : Int} (h : OkE L u) {i e : Nat} (hi : i < e) (he : e ≤ L.length) : (sm L i).a < endT L u e := by
  unfold endT
  split
  · exact h.ok.lt hi (by assumption)
  · exact h.last _ (sm_mem (by omega))
theorem OkE.end_le {L : List Sm} {u : Int} (h : OkE L u) (e : Nat) : 0 ≤ endT L u e ∨ L.length = 0 := by
  by_cases h0 : L.length = 0
  · exact .inr h0
  · left
    unfold endT
    split
    · next he => exact (h.ok.ok _ (sm_mem he)).a0
    · have h1 := h.last _ (sm_mem (show 0 < L.length by omega))
      have h2 := (h.ok.ok _ (sm_mem (show 0 < L.length by omega))).a0
      omega
theorem OkE.end_u {L : List Sm} {u : Int} (h : OkE L u) (e : Nat) : endT L u e ≤ u := by
  unfold endT
  split
  · next he => exact Int.le_of_lt (h.last _ (sm_mem he))
  · exact Int.le_refl _
theorem cost_bd {L : List Sm} {u : Int} (h : OkE L u) {i e : Nat} (hi : i < e) (he : e ≤ L.length) : 0 ≤ costV L u i e ∧ costV L u i e ≤ 1000000000000 * (endT L u e - (sm L i).a) := by
  have h1 := h.end_at hi he
  obtain ⟨h2, h3⟩ := hiV_bd h.ok.ok i (e - i) (by omega)
  unfold costV
  exact ⟨Int.mul_nonneg h2 (by omega), Int.mul_le_mul_of_nonneg_right h3 (by omega)⟩
theorem end_self {L : List Sm} (u : Int) {i : Nat} (h : i < L.length) : endT L u i = (sm L i).a := by unfold endT; rw [if_pos h]
theorem lvK_bd {L : List Sm} {u : Int} (h : OkE L u) {prev : Nat → Int} (hp : ∀ e, e ≤ L.length → prev e = nonE ∨ (0 ≤ prev e ∧ prev e ≤ 1000000000000 * (u - endT L u e))) {i : Nat} (hi : i < L.length) :
    ∀ d, i + d ≤ L.length → lvK L u prev i d = nonE ∨ (0 ≤ lvK L u prev i d ∧ lvK L u prev i d ≤ 1000000000000 * (u - endT L u i))
  | 0, _ => .inl rfl
  | d + 1, hd => by
    have ih := lvK_bd h hp hi d (by omega)
    unfold lvK
    split
    · exact ih
    · next hne =>
      split
      · right
        have h1 := hp (i + d + 1) (by omega)
        obtain ⟨h2, h3⟩ := cost_bd h (show i < i + d + 1 by omega) (by omega)
        rw [end_self u hi]
        rcases h1 with h1 | ⟨h1, h4⟩
        · exact absurd h1 hne
        · rw [Int.mul_sub] at h3 h4 ⊢
          omega
      · exact ih
theorem lv_bd {L : List Sm} {u : Int} (h : OkE L u) : ∀ m i, i ≤ L.length → lv L u m i = nonE ∨ (0 ≤ lv L u m i ∧ lv L u m i ≤ 1000000000000 * (u - endT L u i))
  | 0, i, hi => by
    unfold lv
    split
    · right
      have := h.end_u i
      exact ⟨Int.le_refl _, Int.mul_nonneg (by omega) (by omega)⟩
    · exact .inl rfl
  | m + 1, i, hi => by
    show lvK L u (lv L u m) i (L.length - i) = nonE ∨ _
    by_cases e : i = L.length
    · left; rw [e, Nat.sub_self]; rfl
    · exact lvK_bd h (lv_bd h m) (by omega) _ (by omega)
/-! Paths: the ends of runs. -/
def Vp (L : List Sm) : Nat → List Nat → Prop
  | i, [] => i = L.length
  | i, e :: es => i < e ∧ e ≤ L.length ∧ Vp L e es
def pathC (L : List Sm) (u : Int) : Nat → List Nat → Int
  | _, [] => 0
  | i, e :: es => costV L u i e + pathC L u e es
theorem lvK_le {L : List Sm} {u : Int} {prev : Nat → Int} {i : Nat} (hp : ∀ e, prev e = nonE ∨ 0 ≤ prev e) (hc : ∀ e, i < e → e ≤ L.length → 0 ≤ costV L u i e) :
    ∀ d, i + d ≤ L.length → ∀ k, k < d → prev (i + k + 1) ≠ nonE → lvK L u prev i d ≠ nonE ∧ lvK L u prev i d ≤ costV L u i (i + k + 1) + prev (i + k + 1)
  | 0, _, k, hk, _ => absurd hk (Nat.not_lt_zero _)
  | d + 1, hd, k, hk, hne => by
    have ih := lvK_le (L := L) (u := u) hp hc d (by omega) k
    have h1 := hp (i + k + 1)
    have h2 := hc (i + k + 1) (by omega) (by omega)
    have h3 := hp (i + d + 1)
    have h4 := hc (i + d + 1) (by omega) (by omega)
    have hN : nonE = -1000000000000 := rfl
    unfold lvK
    by_cases e : k = d
    · subst e
      rw [if_neg hne]
      split
      · exact ⟨by omega, Int.le_refl _⟩
      · next hx => exact ⟨fun hh => hx (.inl hh), by omega⟩
    · obtain ⟨i1, i2⟩ := ih (by omega) hne
      split
      · exact ⟨i1, i2⟩
      · split
        · next hx => exact ⟨by omega, by omega⟩
        · exact ⟨i1, i2⟩
theorem lvK_ex {L : List Sm} {u : Int} {prev : Nat → Int} {i : Nat} : ∀ d, lvK L u prev i d ≠ nonE → ∃ k, k < d ∧ prev (i + k + 1) ≠ nonE ∧ lvK L u prev i d = costV L u i (i + k + 1) + prev (i + k + 1)
  | 0, h => absurd rfl h
  | d + 1, h => by
    unfold lvK at h ⊢
    split at h
    · next h1 =>
      obtain ⟨k, h2, h3, h4⟩ := lvK_ex d h
      rw [if_pos h1]
      exact ⟨k, by omega, h3, h4⟩
    · next h1 =>
      rw [if_neg h1]
      split
      · exact ⟨d, by omega, h1, rfl⟩
      · next h5 =>
        rw [if_neg h5] at h
        obtain ⟨k, h2, h3, h4⟩ := lvK_ex d h
        exact ⟨k, by omega, h3, h4⟩
theorem lv_nn {L : List Sm} {u : Int} (h : OkE L u) (m : Nat) (e : Nat) : lv L u m e = nonE ∨ 0 ≤ lv L u m e := by
  by_cases he : e ≤ L.length
  · rcases lv_bd h m e he with h1 | h1
    · exact .inl h1
    · exact .inr h1.1
  · cases m with
    | zero => left; show (if e = L.length then _ else _) = _; rw [if_neg (by omega)]
    | succ m => left; show lvK L u (lv L u m) e (L.length - e) = _; rw [show L.length - e = 0 by omega]; rfl
/-- No path has less. -/
theorem lv_least {L : List Sm} {u : Int} (h : OkE L u) : ∀ (es : List Nat) (i : Nat), Vp L i es → lv L u es.length i ≠ nonE ∧ lv L u es.length i ≤ pathC L u i es
  | [], i, hv => by
    have e : lv L u 0 i = 0 := by unfold lv; rw [if_pos (show i = L.length from hv)]
    rw [List.length_nil, e]
    exact ⟨by decide, Int.le_refl _⟩
  | e :: es, i, ⟨h1, h2, h3⟩ => by
    obtain ⟨h4, h5⟩ := lv_least h es e h3
    obtain ⟨k, rfl⟩ : ∃ k, e = i + k + 1 := ⟨e - i - 1, by omega⟩
    obtain ⟨h6, h7⟩ := lvK_le (L := L) (u := u) (lv_nn h es.length) (fun e h1 h2 => (cost_bd h h1 h2).1) (L.length - i) (by omega) k (by omega) h4
    exact ⟨h6, by show lvK _ _ _ _ _ ≤ costV L u i (i + k + 1) + pathC L u (i + k + 1) es; omega⟩
/-- The first end by which the least is reached. -/
structure Fst (L : List Sm) (u : Int) (m i e : Nat) : Prop where
  lt : i < e
  le : e ≤ L.length
  ne : lv L u m e ≠ nonE
  eq : costV L u i e + lv L u m e = lv L u (m + 1) i
  first : ∀ k, i < k → k < e → lv L u m k = nonE ∨ costV L u i k + lv L u m k ≠ lv L u (m + 1) i
theorem fst_ex {L : List Sm} {u : Int} {m i : Nat} (h : lv L u (m + 1) i ≠ nonE) : ∃ e, Fst L u m i e := by
  obtain ⟨k, h1, h2, h3⟩ := lvK_ex (L := L) (u := u) (prev := lv L u m) (i := i) (L.length - i) h
  have hk : ∃ e, i < e ∧ e ≤ L.length ∧ lv L u m e ≠ nonE ∧ costV L u i e + lv L u m e = lv L u (m + 1) i := ⟨i + k + 1, by omega, by omega, h2, h3.symm⟩
  have hs : ∀ n, (∃ e, e < n ∧ i < e ∧ e ≤ L.length ∧ lv L u m e ≠ nonE ∧ costV L u i e + lv L u m e = lv L u (m + 1) i) → ∃ e, Fst L u m i e := by
    intro n
    induction n with
    | zero => rintro ⟨e, h, _⟩; omega
    | succ n ih =>
      rintro ⟨e, he, a1, a2, a3, a4⟩
      by_cases hx : ∃ e, e < n ∧ i < e ∧ e ≤ L.length ∧ lv L u m e ≠ nonE ∧ costV L u i e + lv L u m e = lv L u (m + 1) i
      · exact ih hx
      · refine ⟨e, a1, a2, a3, a4, fun k h1 h2 => ?_⟩
        by_cases h5 : lv L u m k = nonE
        · exact .inl h5
        · exact .inr fun h6 => hx ⟨k, by omega, h1, by omega, h5, h6⟩
  obtain ⟨e, a1, a2⟩ := hk
  exact hs (e + 1) ⟨e, by omega, a1, a2⟩
theorem fst_unique {L : List Sm} {u : Int} {m i e f : Nat} (h : Fst L u m i e) (g : Fst L u m i f) : e = f := by
  rcases Nat.lt_trichotomy e f with h1 | h1 | h1
  · rcases g.first e h.lt h1 with h2 | h2
    · exact absurd h2 h.ne
    · exact absurd h.eq h2
  · exact h1
  · rcases h.first f g.lt h1 with h2 | h2
    · exact absurd h2 g.ne
    · exact absurd g.eq h2
/-- The path that the program takes. -/
def Gp (L : List Sm) (u : Int) : Nat → Nat → List Nat → Prop
  | 0, i, es => es = [] ∧ i = L.length
  | m + 1, i, es => ∃ e t, es = e :: t ∧ Fst L u m i e ∧ Gp L u m e t
theorem gp_ex {L : List Sm} {u : Int} : ∀ m i, lv L u m i ≠ nonE → ∃ es, Gp L u m i es
  | 0, i, h => by
    refine ⟨[], rfl, ?_⟩
    unfold lv at h
    exact Classical.byContradiction fun hn => h (by rw [if_neg hn])
  | m + 1, i, h => by
    obtain ⟨e, he⟩ := fst_ex h
    obtain ⟨t, ht⟩ := gp_ex m e he.ne
    exact ⟨e :: t, e, t, rfl, he, ht⟩
theorem gp_len {L : List Sm} {u : Int} : ∀ {m i : Nat} {es : List Nat}, Gp L u m i es → es.length = m ∧ Vp L i es ∧ pathC L u i es = lv L u m i
  | 0, i, es, h => by
    obtain ⟨rfl, rfl⟩ := h
    exact ⟨rfl, rfl, by unfold pathC lv; rw [if_pos rfl]⟩
  | m + 1, i, es, h => by
    obtain ⟨e, t, rfl, he, ht⟩ := h
    obtain ⟨h1, h2, h3⟩ := gp_len ht
    refine ⟨by rw [List.length_cons, h1], ⟨he.lt, he.le, h2⟩, ?_⟩
    show costV L u i e + pathC L u e t = _
    rw [h3, he.eq]
/-- One list stands ahead of another one. -/
def lexL : List Nat → List Nat → Bool
  | x :: l, y :: m => decide (x < y) || (x == y && lexL l m)
  | _, _ => false
theorem lexL_refl : ∀ l, lexL l l = false
  | [] => rfl
  | x :: l => by simp [lexL, lexL_refl l]
/-- Of the paths with the least area it is the first one. -/
theorem gp_first {L : List Sm} {u : Int} (h : OkE L u) : ∀ {m i : Nat} {es fs : List Nat}, Gp L u m i es → Vp L i fs → fs.length = m → pathC L u i fs = lv L u m i → fs = es ∨ lexL es fs = true
  | 0, i, es, fs, hg, _, hl, _ => by
    obtain ⟨rfl, _⟩ := hg
    exact .inl (List.length_eq_zero_iff.1 hl)
  | m + 1, i, es, fs, hg, hv, hl, hc => by
    obtain ⟨e, t, rfl, he, ht⟩ := hg
    cases fs with
    | nil => simp at hl
    | cons f fs =>
      obtain ⟨h1, h2, h3⟩ := hv
      have hlm : fs.length = m := by simpa using hl
      have h4 := lv_least h fs f h3
      rw [hlm] at h4
      have hc : costV L u i f + pathC L u f fs = lv L u (m + 1) i := hc
      obtain ⟨k, rfl⟩ : ∃ k, f = i + k + 1 := ⟨f - i - 1, by omega⟩
      have h5 := (lvK_le (L := L) (u := u) (lv_nn h m) (fun e h1 h2 => (cost_bd h h1 h2).1) (L.length - i) (by omega) k (by omega) h4.1).2
      have h6 : lv L u (m + 1) i ≤ costV L u i (i + k + 1) + lv L u m (i + k + 1) := h5
      have h7 : pathC L u (i + k + 1) fs = lv L u m (i + k + 1) := by omega
      rcases Nat.lt_trichotomy e (i + k + 1) with h8 | h8 | h8
      · right; unfold lexL; rw [decide_eq_true h8]; rfl
      · subst h8
        rcases gp_first h ht h3 hlm h7 with h9 | h9
        · left; rw [h9]
        · right; unfold lexL; rw [h9]; simp
      · rcases he.first _ h1 h8 with h9 | h9
        · exact absurd h9 h4.1
        · exact absurd (by omega) h9
/-! More runs need no more. -/
theorem hiV_split (L : List Sm) (i : Nat) : ∀ d, hiV L (i + 1) d ≤ hiV L i (d + 1)
  | 0 => by unfold hiV; unfold hiV; omega
  | d + 1 => by
    have := hiV_split L i d
    have e : hiV L i (d + 1 + 1) = max (hiV L i (d + 1)) (sm L (i + (d + 1))).v := rfl
    have e2 : hiV L (i + 1) (d + 1) = max (hiV L (i + 1) d) (sm L (i + 1 + d)).v := rfl
    rw [e, e2, show i + (d + 1) = i + 1 + d by omega]
    omega
theorem hiV_mono (L : List Sm) (i : Nat) : ∀ d, hiV L i 1 ≤ hiV L i (d + 1)
  | 0 => Int.le_refl _
  | d + 1 => by
    have := hiV_mono L i d
    have e : hiV L i (d + 1 + 1) = max (hiV L i (d + 1)) (sm L (i + (d + 1))).v := rfl
    rw [e]; omega
theorem cost_split {L : List Sm} {u : Int} (h : OkE L u) {i e : Nat} (h1 : i + 1 < e) (h2 : e ≤ L.length) : costV L u i (i + 1) + costV L u (i + 1) e ≤ costV L u i e := by
  unfold costV
  obtain ⟨d, rfl⟩ : ∃ d, e = i + 1 + (d + 1) := ⟨e - i - 2, by omega⟩
  have a1 := hiV_mono L i (d + 1)
  have a2 := hiV_split L i (d + 1)
  have a3 := h.end_at (show i < i + 1 by omega) (show i + 1 ≤ L.length by omega)
  have a4 := h.end_at (show i + 1 < i + 1 + (d + 1) by omega) h2
  rw [show i + 1 - i = 1 by omega, show i + 1 + (d + 1) - (i + 1) = d + 1 by omega, show i + 1 + (d + 1) - i = d + 1 + 1 by omega]
  rw [end_self u (show i + 1 < L.length by omega)] at a3 ⊢
  have b1 := Int.mul_le_mul_of_nonneg_right a1 (show 0 ≤ (sm L (i + 1)).a - (sm L i).a by omega)
  have b2 := Int.mul_le_mul_of_nonneg_right a2 (show 0 ≤ endT L u (i + 1 + (d + 1)) - (sm L (i + 1)).a by omega)
  have e : hiV L i (d + 1 + 1) * (endT L u (i + 1 + (d + 1)) - (sm L i).a) = hiV L i (d + 1 + 1) * ((sm L (i + 1)).a - (sm L i).a) + hiV L i (d + 1 + 1) * (endT L u (i + 1 + (d + 1)) - (sm L (i + 1)).a) := by
    rw [← Int.mul_add]; congr 1; omega
  rw [e]
  omega
theorem path_more {L : List Sm} {u : Int} (h : OkE L u) : ∀ (es : List Nat) (i : Nat), Vp L i es → es.length < L.length - i → ∃ fs, Vp L i fs ∧ fs.length = es.length + 1 ∧ pathC L u i fs ≤ pathC L u i es
  | [], i, hv, hl => by
    have : i = L.length := hv
    simp at hl; omega
  | e :: es, i, ⟨h1, h2, h3⟩, hl => by
    by_cases he : i + 1 < e
    · have := cost_split h he h2
      exact ⟨(i + 1) :: e :: es, ⟨by omega, by omega, he, h2, h3⟩, rfl, by
        show costV L u i (i + 1) + (costV L u (i + 1) e + pathC L u e es) ≤ costV L u i e + pathC L u e es
        omega⟩
    · obtain rfl : e = i + 1 := by omega
      rw [List.length_cons] at hl
      obtain ⟨fs, a1, a2, a3⟩ := path_more h es (i + 1) h3 (by omega)
      exact ⟨(i + 1) :: fs, ⟨h1, h2, a1⟩, by rw [List.length_cons, List.length_cons, a2], by
        show costV L u i (i + 1) + _ ≤ costV L u i (i + 1) + _
        omega⟩
theorem vp_len {L : List Sm} : ∀ {es : List Nat} {i : Nat}, Vp L i es → es.length ≤ L.length - i ∧ (i < L.length → 0 < es.length)
  | [], i, h => ⟨Nat.zero_le _, fun h1 => by have : i = L.length := h; omega⟩
  | e :: es, i, ⟨h1, h2, h3⟩ => by
    have := (vp_len h3).1
    rw [List.length_cons]
    exact ⟨by omega, fun _ => by omega⟩
theorem lv_mono {L : List Sm} {u : Int} (h : OkE L u) {m : Nat} (hm : m < L.length) (hne : lv L u m 0 ≠ nonE) : lv L u (m + 1) 0 ≠ nonE ∧ lv L u (m + 1) 0 ≤ lv L u m 0 := by
  obtain ⟨es, hg⟩ := gp_ex m 0 hne
  obtain ⟨h1, h2, h3⟩ := gp_len hg
  obtain ⟨fs, a1, a2, a3⟩ := path_more h es 0 h2 (by omega)
  have := lv_least h fs 0 a1
  rw [a2, h1] at this
  exact ⟨this.1, by omega⟩
theorem lv_monos {L : List Sm} {u : Int} (h : OkE L u) {m : Nat} (hne : lv L u m 0 ≠ nonE) : ∀ d, m + d ≤ L.length → lv L u (m + d) 0 ≠ nonE ∧ lv L u (m + d) 0 ≤ lv L u m 0
  | 0, _ => ⟨hne, Int.le_refl _⟩
  | d + 1, hd => by
    obtain ⟨h1, h2⟩ := lv_monos h hne d (by omega)
    obtain ⟨h3, h4⟩ := lv_mono h (show m + d < L.length by omega) h1
    exact ⟨h3, by show lv L u (m + d + 1) 0 ≤ _; omega⟩
theorem lv_one {L : List Sm} {u : Int} (h : OkE L u) (hn : 0 < L.length) : lv L u 1 0 ≠ nonE :=
  (lv_least h [L.length] 0 ⟨hn, Nat.le_refl _, rfl⟩).1
end Go.Proofs.YtionocafkaemiaaDoor.Sx
namespace Go.Proofs.YtionocafkaemiaaDoor.Sx

theorem lexL_trans : ∀ {a b c : List Nat}, lexL a b = true → lexL b c = true → lexL a c = true
  | x :: a, y :: b, z :: c, h1, h2 => by
    unfold lexL at *
    simp only [Bool.or_eq_true, decide_eq_true_eq, Bool.and_eq_true, beq_iff_eq] at *
    rcases h1 with h1 | ⟨rfl, h1⟩
    · rcases h2 with h2 | ⟨rfl, h2⟩
      · left; omega
      · left; exact h1
    · rcases h2 with h2 | ⟨rfl, h2⟩
      · left; exact h2
      · exact .inr ⟨rfl, lexL_trans h1 h2⟩
  | [], _, _, h1, _ => by simp [lexL] at h1
  | _ :: _, [], _, h1, _ => by simp [lexL] at h1
  | _ :: _, _ :: _, [], _, h2 => by simp [lexL] at h2
theorem lexL_tri : ∀ {a b : List Nat}, a.length = b.length → lexL a b = false → lexL b a = false → a = b
  | [], [], _, _, _ => rfl
  | x :: a, y :: b, hl, h1, h2 => by
    unfold lexL at h1 h2
    simp only [Bool.or_eq_false_iff, decide_eq_false_iff_not, Bool.and_eq_false_iff, beq_eq_false_iff_ne] at h1 h2
    have hxy : x = y := by omega
    subst hxy
    simp at h1 h2
    rw [lexL_tri (by simpa using hl) h1 h2]
  | [], _ :: _, hl, _, _ => by simp at hl
  | _ :: _, [], hl, _, _ => by simp at hl
/-- One of two is preferred: less area, fewer runs, earlier times. -/
def pref (c : List Nat → Int) (a b : List Nat) : Bool := decide (c a < c b) || (decide (c a = c b) && (decide (a.length < b.length) || (decide (a.length = b.length) && lexL a b)))
theorem pref_iff {c : List Nat → Int} {a b : List Nat} : pref c a b = true ↔ c a < c b ∨ (c a = c b ∧ (a.length < b.length ∨ (a.length = b.length ∧ lexL a b = true))) := by
  unfold pref; simp
theorem pref_not {c : List Nat → Int} {a b : List Nat} : pref c a b = false ↔ ¬ (c a < c b ∨ (c a = c b ∧ (a.length < b.length ∨ (a.length = b.length ∧ lexL a b = true)))) := by
  rw [← pref_iff]; simp
theorem pref_trans {c : List Nat → Int} {a b d : List Nat} (h1 : pref c a b = true) (h2 : pref c b d = true) : pref c a d = true := by
  rw [pref_iff] at *
  rcases h1 with h1 | ⟨h1, h3⟩
  · rcases h2 with h2 | ⟨h2, _⟩ <;> (left; omega)
  · rcases h2 with h2 | ⟨h2, h4⟩
    · left; omega
    · refine .inr ⟨by omega, ?_⟩
      rcases h3 with h3 | ⟨h3, h5⟩
      · rcases h4 with h4 | ⟨h4, _⟩ <;> (left; omega)
      · rcases h4 with h4 | ⟨h4, h6⟩
        · left; omega
        · exact .inr ⟨by omega, lexL_trans h5 h6⟩
theorem pref_tri {c : List Nat → Int} {a b : List Nat} (h1 : pref c a b = false) (h2 : pref c b a = false) : a = b := by
  rw [pref_not] at h1 h2
  have e1 : c a = c b := by
    rcases Int.lt_trichotomy (c a) (c b) with h | h | h
    · exact absurd (.inl h) h1
    · exact h
    · exact absurd (.inl h) h2
  have e2 : a.length = b.length := by
    rcases Nat.lt_trichotomy a.length b.length with h | h | h
    · exact absurd (.inr ⟨e1, .inl h⟩) h1
    · exact h
    · exact absurd (.inr ⟨e1.symm, .inl h⟩) h2
  refine lexL_tri e2 ?_ ?_
  · cases h : lexL a b with
    | false => rfl
    | true => exact absurd (.inr ⟨e1, .inr ⟨e2, h⟩⟩) h1
  · cases h : lexL b a with
    | false => rfl
    | true => exact absurd (.inr ⟨e1.symm, .inr ⟨e2.symm, h⟩⟩) h2
theorem pref_irr {c : List Nat → Int} (a : List Nat) : pref c a a = false := by rw [pref_not, lexL_refl]; simp
/-- What does not beat something that is not beaten. -/
theorem npref_trans {c : List Nat → Int} {a b d : List Nat} (h1 : pref c a b = false) (h2 : pref c b d = false) : pref c a d = false := by
  cases h : pref c a d with
  | false => rfl
  | true =>
    by_cases e : b = d
    · subst e; rw [h1] at h; cases h
    · cases h3 : pref c d b with
      | true => rw [pref_trans h h3] at h1; cases h1
      | false => exact absurd (pref_tri h2 h3) e
/-- The best one of those that are allowed. -/
structure BestE (c : List Nat → Int) (P : List Nat → Prop) (r : List Nat) : Prop where
  ok : P r
  best : ∀ x, P x → pref c x r = false
theorem BestE.unique {c : List Nat → Int} {P : List Nat → Prop} {r s : List Nat} (h : BestE c P r) (g : BestE c P s) : r = s := pref_tri (g.best r h.ok) (h.best s g.ok)

/-! All choices of places, as the reference tries them. -/
def chooseV (c : List Nat → Int) (n most : Nat) : Nat → List Nat → Option (List Nat) → Option (List Nat)
  | 0, l, best => if most < l.length then best else match best with
    | none => some l
    | some b => if pref c l b = true then some l else some b
  | k + 1, l, best => if most < l.length then best else chooseV c n most k l (chooseV c n most k (l ++ [n - (k + 1)]) best)
/-- Those that begin so and go on with places among the last k. -/
def Ext (n k : Nat) (l x : List Nat) : Prop := ∃ t, x = l ++ t ∧ t.Pairwise (· < ·) ∧ ∀ e, e ∈ t → n - k ≤ e ∧ e < n
theorem ext_zero {n : Nat} {l x : List Nat} (h : Ext n 0 l x) : x = l := by
  obtain ⟨t, rfl, _, h⟩ := h
  cases t with
  | nil => simp
  | cons e t => have := h e (List.mem_cons_self ..); omega
theorem ext_next {n k : Nat} (hk : k + 1 ≤ n) {l x : List Nat} : Ext n (k + 1) l x ↔ Ext n k (l ++ [n - (k + 1)]) x ∨ Ext n k l x := by
  constructor
  · rintro ⟨t, rfl, hp, h⟩
    cases t with
    | nil => exact .inr ⟨[], rfl, hp, fun e he => by cases he⟩
    | cons e t =>
      obtain ⟨h1, h2⟩ := List.pairwise_cons.1 hp
      have he := h e (List.mem_cons_self ..)
      by_cases hx : e = n - (k + 1)
      · left
        refine ⟨t, by rw [hx]; simp, h2, fun f hf => ?_⟩
        have := h1 f hf
        have := h f (List.mem_cons_of_mem _ hf)
        omega
      · right
        refine ⟨e :: t, rfl, hp, fun f hf => ?_⟩
        have hf2 := h f hf
        rcases List.mem_cons.1 hf with rfl | hf
        · omega
        · have := h1 f hf; omega
  · rintro (⟨t, rfl, hp, h⟩ | ⟨t, rfl, hp, h⟩)
    · refine ⟨(n - (k + 1)) :: t, by simp, List.pairwise_cons.2 ⟨fun f hf => ?_, hp⟩, fun f hf => ?_⟩
      · have := h f hf; omega
      · rcases List.mem_cons.1 hf with rfl | hf
        · omega
        · have := h f hf; omega
    · exact ⟨t, rfl, hp, fun f hf => by have := h f hf; omega⟩
theorem choose_spec {c : List Nat → Int} {n most : Nat} : ∀ {k : Nat} {l : List Nat} {best : Option (List Nat)}, k ≤ n →
    (∀ b, best = some b → ∃ r, chooseV c n most k l best = some r ∧ pref c b r = false) ∧
    (chooseV c n most k l best = best ∨ ∃ r, chooseV c n most k l best = some r ∧ Ext n k l r ∧ r.length ≤ most) ∧
    (∀ x, Ext n k l x → x.length ≤ most → ∃ r, chooseV c n most k l best = some r ∧ pref c x r = false)
  | 0, l, best, _ => by
    have hE : Ext n 0 l l := ⟨[], by simp, by simp, fun e he => by cases he⟩
    unfold chooseV
    split
    · next hm =>
      refine ⟨fun b hb => ⟨b, hb, pref_irr b⟩, .inl rfl, fun x hx hl => ?_⟩
      rw [ext_zero hx] at hl; omega
    · next hm =>
      cases best with
      | none => exact ⟨fun b hb => (by cases hb), .inr ⟨l, rfl, hE, by omega⟩, fun x hx _ => ⟨l, rfl, by rw [ext_zero hx]; exact pref_irr l⟩⟩
      | some b =>
        dsimp only
        split
        · next hp =>
          refine ⟨fun b' hb => ?_, .inr ⟨l, rfl, hE, by omega⟩, fun x hx _ => ⟨l, rfl, by rw [ext_zero hx]; exact pref_irr l⟩⟩
          injection hb with hb
          subst hb
          refine ⟨l, rfl, ?_⟩
          cases h : pref c b l with
          | false => rfl
          | true => have := pref_trans hp h; rw [pref_irr] at this; cases this
        · next hp =>
          have hp : pref c l b = false := by simpa using hp
          exact ⟨fun b' hb => by injection hb with hb; subst hb; exact ⟨b, rfl, pref_irr b⟩, .inl rfl, fun x hx _ => ⟨b, rfl, by rw [ext_zero hx]; exact hp⟩⟩
  | k + 1, l, best, hk => by
    unfold chooseV
    split
    · next hm =>
      refine ⟨fun b hb => ⟨b, hb, pref_irr b⟩, .inl rfl, fun x hx hl => ?_⟩
      obtain ⟨t, rfl, _⟩ := hx
      rw [List.length_append] at hl; omega
    · next hm =>
      obtain ⟨a1, a2, a3⟩ := choose_spec (c := c) (n := n) (most := most) (k := k) (l := l ++ [n - (k + 1)]) (best := best) (by omega)
      generalize chooseV c n most k (l ++ [n - (k + 1)]) best = b1 at *
      obtain ⟨c1, c2, c3⟩ := choose_spec (c := c) (n := n) (most := most) (k := k) (l := l) (best := b1) (by omega)
      generalize chooseV c n most k l b1 = b2 at *
      refine ⟨fun b hb => ?_, ?_, fun x hx hl => ?_⟩
      · obtain ⟨r, h1, h2⟩ := a1 b hb
        obtain ⟨s, h3, h4⟩ := c1 r h1
        exact ⟨s, h3, npref_trans h2 h4⟩
      · rcases c2 with h1 | ⟨r, h1, h2, h3⟩
        · rcases a2 with h4 | ⟨r, h4, h5, h6⟩
          · left; rw [h1, h4]
          · exact .inr ⟨r, by rw [h1, h4], (ext_next hk).2 (.inl h5), h6⟩
        · exact .inr ⟨r, h1, (ext_next hk).2 (.inr h2), h3⟩
      · rcases (ext_next hk).1 hx with h1 | h1
        · obtain ⟨r, h2, h3⟩ := a3 x h1 hl
          obtain ⟨s, h4, h5⟩ := c1 r h2
          exact ⟨s, h4, npref_trans h3 h5⟩
        · exact c3 x h1 hl
/-- The choice of the reference is the best one. -/
theorem choose_best {c : List Nat → Int} {n most : Nat} (hn : 0 < n) (hm : 0 < most) : ∃ r, chooseV c n most (n - 1) [0] none = some r ∧ BestE c (fun x => Ext n (n - 1) [0] x ∧ x.length ≤ most) r := by
  obtain ⟨_, a2, a3⟩ := choose_spec (c := c) (n := n) (most := most) (k := n - 1) (l := [0]) (best := none) (by omega)
  obtain ⟨r, h1, h2⟩ := a3 [0] ⟨[], by simp, by simp, fun e he => by cases he⟩ (by simp; omega)
  refine ⟨r, h1, ?_, fun x hx => ?_⟩
  · rcases a2 with h3 | ⟨s, h3, h4, h5⟩
    · rw [h1] at h3; cases h3
    · rw [h1] at h3; injection h3 with h3; subst h3; exact ⟨h4, h5⟩
  · obtain ⟨s, h3, h4⟩ := a3 x hx.1 hx.2
    rw [h1] at h3; injection h3 with h3; subst h3; exact h4

/-! Starts and ends of runs. -/
/-- The ends of the runs that start so. -/
def endsOf (n : Nat) (l : List Nat) : List Nat := l.tail ++ [n]
theorem vp_of {L : List Sm} : ∀ (t : List Nat) (i : Nat), i < L.length → t.Pairwise (· < ·) → (∀ e, e ∈ t → i < e ∧ e < L.length) → Vp L i (t ++ [L.length])
  | [], i, h, _, _ => ⟨h, Nat.le_refl _, rfl⟩
  | e :: t, i, h, hp, hb => by
    obtain ⟨h1, h2⟩ := List.pairwise_cons.1 hp
    have he := hb e (List.mem_cons_self ..)
    exact ⟨he.1, by omega, vp_of t e he.2 h2 fun f hf => ⟨h1 f hf, (hb f (List.mem_cons_of_mem _ hf)).2⟩⟩
theorem of_vp {L : List Sm} : ∀ {es : List Nat} {i : Nat}, Vp L i es → i < L.length → ∃ t, es = t ++ [L.length] ∧ t.Pairwise (· < ·) ∧ ∀ e, e ∈ t → i < e ∧ e < L.length
  | [], i, h, hi => by have : i = L.length := h; omega
  | e :: es, i, ⟨h1, h2, h3⟩, hi => by
    by_cases he : e = L.length
    · subst he
      have := (vp_len h3).1
      have : es = [] := List.length_eq_zero_iff.1 (by omega)
      subst this
      exact ⟨[], rfl, by simp, fun e he => by cases he⟩
    · obtain ⟨t, rfl, h4, h5⟩ := of_vp h3 (by omega)
      exact ⟨e :: t, rfl, List.pairwise_cons.2 ⟨fun f hf => (h5 f hf).1, h4⟩, fun f hf => by
        rcases List.mem_cons.1 hf with rfl | hf
        · exact ⟨h1, by omega⟩
        · have := h5 f hf; omega⟩
theorem ext_vp {L : List Sm} (hn : 0 < L.length) {x : List Nat} (h : Ext L.length (L.length - 1) [0] x) : Vp L 0 (endsOf L.length x) := by
  obtain ⟨t, rfl, h1, h2⟩ := h
  show Vp L 0 (t ++ [L.length])
  exact vp_of t 0 hn h1 fun e he => by have := h2 e he; omega
theorem vp_ext {L : List Sm} (hn : 0 < L.length) {es : List Nat} (h : Vp L 0 es) : ∃ x, Ext L.length (L.length - 1) [0] x ∧ es = endsOf L.length x := by
  obtain ⟨t, rfl, h1, h2⟩ := of_vp h hn
  exact ⟨0 :: t, ⟨t, rfl, h1, fun e he => by have := h2 e he; omega⟩, rfl⟩
theorem ends_len {n k : Nat} {x : List Nat} (h : Ext n k [0] x) : (endsOf n x).length = x.length := by
  obtain ⟨t, rfl, _⟩ := h
  show (t ++ [n]).length = (0 :: t).length
  simp
theorem lexL_app : ∀ {a b : List Nat} (n : Nat), a.length = b.length → lexL (a ++ [n]) (b ++ [n]) = lexL a b
  | [], [], n, _ => by simp [lexL]
  | x :: a, y :: b, n, h => by
    show (decide (x < y) || (x == y && lexL (a ++ [n]) (b ++ [n]))) = _
    rw [lexL_app n (by simpa using h)]; rfl
  | [], _ :: _, _, h => by simp at h
  | _ :: _, [], _, h => by simp at h
theorem ends_lex {n k k2 : Nat} {x y : List Nat} (hx : Ext n k [0] x) (hy : Ext n k2 [0] y) (h : x.length = y.length) : lexL (endsOf n x) (endsOf n y) = lexL x y := by
  obtain ⟨t, rfl, _⟩ := hx
  obtain ⟨s, rfl, _⟩ := hy
  show lexL (t ++ [n]) (s ++ [n]) = lexL (0 :: t) (0 :: s)
  rw [lexL_app n (by simpa using h)]
  simp [lexL]
/-- The area of the runs that start so. -/
def areaL (L : List Sm) (u : Int) (l : List Nat) : Int := pathC L u 0 (endsOf L.length l)
/-- How many runs the program takes. -/
structure Few (L : List Sm) (u : Int) (most m : Nat) : Prop where
  m1 : 1 ≤ m
  le : m ≤ min most L.length
  eq : lv L u m 0 = lv L u (min most L.length) 0
  min : m = 1 ∨ lv L u (m - 1) 0 ≠ lv L u (min most L.length) 0
theorem least_all {L : List Sm} {u : Int} (h : OkE L u) {most : Nat} {es : List Nat} (hv : Vp L 0 es) (hl : es.length ≤ most) : lv L u (min most L.length) 0 ≤ pathC L u 0 es := by
  obtain ⟨h1, h2⟩ := lv_least h es 0 hv
  have h3 := (vp_len hv).1
  have := lv_monos h h1 (min most L.length - es.length) (by omega)
  rw [show es.length + (min most L.length - es.length) = min most L.length by omega] at this
  omega
/-- The program's path is the best one. -/
theorem gp_best {L : List Sm} {u : Int} (h : OkE L u) (hn : 0 < L.length) {most m : Nat} (_hm : 0 < most) (hf : Few L u most m) {x : List Nat} (hx : Ext L.length (L.length - 1) [0] x) (hg : Gp L u m 0 (endsOf L.length x)) :
    BestE (areaL L u) (fun x => Ext L.length (L.length - 1) [0] x ∧ x.length ≤ most) x := by
  obtain ⟨h1, h2, h3⟩ := gp_len hg
  have hxl := ends_len hx
  have hle := hf.le
  have h3 : areaL L u x = lv L u m 0 := h3
  refine ⟨⟨hx, by omega⟩, ?_⟩
  rintro y ⟨hy, hyl⟩
  have hvy := ext_vp hn hy
  have hyn := ends_len hy
  have h4 : lv L u (min most L.length) 0 ≤ areaL L u y := least_all h hvy (by omega)
  have he := hf.eq
  rw [pref_not]
  rintro (h5 | ⟨h5, h6⟩)
  · omega
  · have hlen : m ≤ y.length := by
      rcases hf.min with h7 | h7
      · have := (vp_len hvy).2 hn; omega
      · refine Classical.byContradiction fun hlt => h7 ?_
        have h8 := lv_least h _ 0 hvy
        have h9 := lv_monos h h8.1 (m - 1 - y.length) (by omega)
        rw [hyn, show y.length + (m - 1 - y.length) = m - 1 by omega] at h9
        have h10 := lv_monos h h9.1 (min most L.length - (m - 1)) (by omega)
        rw [show m - 1 + (min most L.length - (m - 1)) = min most L.length by omega] at h10
        have h11 : lv L u (endsOf L.length y).length 0 ≤ areaL L u y := h8.2
        rw [hyn] at h11
        omega
    rcases h6 with h6 | ⟨h6, h7⟩
    · omega
    · have h8 := gp_first h hg hvy (by omega) (show areaL L u y = _ by omega)
      have h9 := ends_lex hy hx h6
      have h10 := ends_lex hx hy h6.symm
      rcases h8 with h8 | h8
      · rw [h8, lexL_refl] at h9
        rw [← h9] at h7; cases h7
      · rw [h10] at h8
        have := lexL_trans h7 h8
        rw [lexL_refl] at this; cases this
theorem few_ex {L : List Sm} {u : Int} (h : OkE L u) (hn : 0 < L.length) {most m : Nat} (hf : Few L u most m) : lv L u m 0 ≠ nonE := by
  have := lv_monos h (lv_one h hn) (m - 1) (by have := hf.le; have := hf.m1; omega)
  rw [show 1 + (m - 1) = m by have := hf.m1; omega] at this
  exact this.1
end Go.Proofs.YtionocafkaemiaaDoor.Sx
namespace Go.Proofs.YtionocafkaemiaaDoor.Sx

/-- A sum over the steps: a weight of the value times the length. -/
def wS (g : Int → Int) (M : List Sp) : Int := (M.map fun x => g x.v * (x.t - x.f)).sum
theorem wS_nil (g : Int → Int) : wS g [] = 0 := rfl
theorem wS_cons (g : Int → Int) (x : Sp) (M : List Sp) : wS g (x :: M) = g x.v * (x.t - x.f) + wS g M := by unfold wS; rw [List.map_cons, List.sum_cons]
theorem wS_app (g : Int → Int) (M N : List Sp) : wS g (M ++ N) = wS g M + wS g N := by unfold wS; rw [List.map_append, List.sum_append]
theorem wS_perm (g : Int → Int) {M N : List Sp} (h : M.Perm N) : wS g M = wS g N := by
  induction h with
  | nil => rfl
  | cons x _ ih => rw [wS_cons, wS_cons, ih]
  | swap x y l => rw [wS_cons, wS_cons, wS_cons, wS_cons]; omega
  | trans _ _ h1 h2 => rw [h1, h2]
def conS (g : Int → Int) (f t : Int) : List Sm → Int
  | [] => 0
  | x :: L => g x.v * max 0 (nxtA t L - max f x.a) + conS g f t L
theorem wS_ref (g : Int → Int) (f t : Int) : ∀ L, wS g (refSteps f t L) = conS g f t L
  | [] => rfl
  | x :: L => by
    show wS g ((if max f x.a < nxtA t L then [⟨max f x.a, nxtA t L, x.v⟩] else []) ++ refSteps f t L) = _
    rw [wS_app, wS_ref g f t L, show conS g f t (x :: L) = g x.v * max 0 (nxtA t L - max f x.a) + conS g f t L from rfl]
    split
    · rw [wS_cons, wS_nil, show max 0 (nxtA t L - max f x.a) = nxtA t L - max f x.a by omega]; simp
    · rw [show max 0 (nxtA t L - max f x.a) = 0 by omega, wS_nil]; simp
theorem con_split (g : Int → Int) {f m t : Int} (h1 : f ≤ m) (h2 : m ≤ t) : ∀ L, conS g f t L = conS g f m L + conS g m t L
  | [] => rfl
  | x :: L => by
    have hc : ∀ f t, conS g f t (x :: L) = g x.v * max 0 (nxtA t L - max f x.a) + conS g f t L := fun _ _ => rfl
    rw [hc, hc, hc, con_split g h1 h2 L]
    have e : max 0 (nxtA t L - max f x.a) = max 0 (nxtA m L - max f x.a) + max 0 (nxtA t L - max m x.a) := by
      cases L with
      | nil => show max 0 (t - max f x.a) = max 0 (m - max f x.a) + max 0 (t - max m x.a); omega
      | cons y L => show max 0 (min t y.a - max f x.a) = max 0 (min m y.a - max f x.a) + max 0 (min t y.a - max m x.a); omega
    rw [e, Int.mul_add]
    omega
theorem wS_split (g : Int → Int) {f m t : Int} (h1 : f ≤ m) (h2 : m ≤ t) (L : List Sm) : wS g (stepsV L f t) = wS g (stepsV L f m) + wS g (stepsV L m t) := by
  unfold stepsV
  rw [wS_ref, wS_ref, wS_ref, con_split g h1 h2]
theorem run_len {f t : Int} : ∀ {x : Sm} {L : List Sm}, x.a < t → (∀ y, y ∈ L → f < y.a) → wS (fun _ => 1) (runSteps f t (x :: L)) = t - max x.a f
  | x, [], hx, _ => by
    unfold runSteps
    rw [if_pos hx, wS_cons, runSteps, wS_nil]
    show 1 * (t - max x.a f) + 0 = _
    omega
  | x, y :: L, hx, hf => by
    have hy := hf y (List.mem_cons_self ..)
    rw [runSteps, if_pos hx, wS_cons]
    show 1 * (min t y.a - max x.a f) + _ = _
    by_cases h : y.a < t
    · rw [run_len h fun z hz => hf z (List.mem_cons_of_mem _ hz)]; omega
    · rw [runSteps, if_neg h, wS_nil]; omega
/-- The steps of a covered interval fill it. -/
theorem steps_len1 {L : List Sm} {f t : Int} (h : Cov L f t) : wS (fun _ => 1) (stepsV L f t) = t - f := by
  rw [← steps_run h]
  obtain ⟨u1, u2⟩ := upto_at h.ok.asc f
  have hc := h.cov
  have hl := upto_le L f
  have hft := h.ft
  have hne : upto L f - 1 < L.length := by omega
  have h0 := u1 (upto L f - 1) (by omega)
  rw [drop_next (sm_get hne), run_len (by omega) fun y hy => ?_]
  · omega
  · obtain ⟨i, hi, rfl⟩ := List.mem_iff_getElem.1 hy
    rw [List.length_drop] at hi
    have := u2 (upto L f - 1 + 1 + i) (by omega) (by omega)
    rw [sm_el (show upto L f - 1 + 1 + i < L.length by omega)] at this
    rw [List.getElem_drop]; exact this
theorem wS_le {g h : Int → Int} : ∀ {M : List Sp}, (∀ x, x ∈ M → x.f ≤ x.t ∧ g x.v ≤ h x.v) → wS g M ≤ wS h M
  | [], _ => Int.le_refl _
  | x :: M, hx => by
    rw [wS_cons, wS_cons]
    have h1 := hx x (List.mem_cons_self ..)
    have h2 := wS_le fun y hy => hx y (List.mem_cons_of_mem _ hy)
    have h3 := Int.mul_le_mul_of_nonneg_right h1.2 (show 0 ≤ x.t - x.f by omega)
    omega
theorem wS_congr {g h : Int → Int} : ∀ {M : List Sp}, (∀ x, x ∈ M → g x.v = h x.v) → wS g M = wS h M
  | [], _ => rfl
  | x :: M, hx => by
    rw [wS_cons, wS_cons, hx x (List.mem_cons_self ..), wS_congr fun y hy => hx y (List.mem_cons_of_mem _ hy)]
theorem wS_add (g h : Int → Int) : ∀ M : List Sp, wS (fun v => g v + h v) M = wS g M + wS h M
  | [] => rfl
  | x :: M => by
    rw [wS_cons, wS_cons, wS_cons, wS_add g h M, Int.add_mul]; omega
theorem wS_mul (c : Int) (g : Int → Int) : ∀ M : List Sp, wS (fun v => c * g v) M = c * wS g M
  | [] => by rw [wS_nil, wS_nil, Int.mul_zero]
  | x :: M => by
    rw [wS_cons, wS_cons, wS_mul c g M, Int.mul_add, Int.mul_assoc]
theorem share_w (bd : Int) : ∀ M : List Sp, shareV bd M = wS (fun v => if bd ≤ v then 1 else 0) M
  | [] => rfl
  | x :: M => by
    have e : shareV bd (x :: M) = (if bd ≤ x.v then x.t - x.f else 0) + shareV bd M := by unfold shareV; rw [List.map_cons, List.sum_cons]
    rw [e, wS_cons, share_w bd M]
    split <;> simp
end Go.Proofs.YtionocafkaemiaaDoor.Sx
namespace Go.Proofs.YtionocafkaemiaaDoor.Sx

def areaV (M : List Sp) : Ar := M.foldl (fun a x => plusV a (prodV x.v (x.t - x.f))) ⟨0, 0⟩
theorem prod_okV {v n : Int} (hv0 : 0 ≤ v) (hv1 : v ≤ 1000000000000) (hn0 : 0 ≤ n) (hn1 : n ≤ 1000000000000) : (prodV v n).Ok 1000000000000 := by
  obtain ⟨p0, p1⟩ := mul_bd hv0 hn0 hv1 hn1
  unfold prodV
  generalize v * n = p at *
  exact ⟨by dsimp only; omega, by dsimp only; omega, by dsimp only; omega, by dsimp only; omega⟩
theorem area_take {M : List Sp} {k : Nat} (h : k < M.length) : areaV (M.take (k + 1)) = plusV (areaV (M.take k)) (prodV (sp M k).v ((sp M k).t - (sp M k).f)) := by
  unfold areaV
  rw [List.take_add_one, sp_get h, List.foldl_append]
  rfl
theorem area_snoc (M : List Sp) (x : Sp) : areaV (M ++ [x]) = plusV (areaV M) (prodV x.v (x.t - x.f)) := by
  unfold areaV
  rw [List.foldl_append]
  rfl
theorem area_all {M : List Sp} {k : Nat} (h : k = M.length) : areaV (M.take k) = areaV M := by rw [h, List.take_length]
theorem area_okK {f t : Int} {M : List Sp} (h : ∀ x, x ∈ M → OkP f t x) (hf : 0 ≤ f) (ht : t ≤ 1000000000000) : ∀ k, k ≤ M.length → (areaV (M.take k)).Ok ((k : Int) * 1000000000001)
  | 0, _ => ⟨by simp [areaV], by simp [areaV], by simp [areaV], by simp [areaV]⟩
  | k + 1, hk => by
    have h1 := area_okK h hf ht k (by omega)
    have hx := h _ (sp_mem (show k < M.length by omega))
    have := hx.f0; have := hx.ft; have := hx.t1
    have h2 := prod_okV hx.v0 hx.v1 (show 0 ≤ (sp M k).t - (sp M k).f by omega) (by omega)
    have h3 := plus_okV h1 h2
    rw [area_take (by omega)]
    refine ⟨h3.h0, Int.le_trans h3.h1 ?_, h3.l0, h3.l1⟩
    have : ((k + 1 : Nat) : Int) = (k : Int) + 1 := by omega
    rw [this]
    omega
/-- Each partial area fits. -/
theorem area_fits {f t : Int} {M : List Sp} (h : ∀ x, x ∈ M → OkP f t x) (hf : 0 ≤ f) (ht : t ≤ 1000000000000) (hl : M.length ≤ 500) (k : Nat) (hk : k ≤ M.length) : (areaV (M.take k)).Ok 1000000000000000 := by
  have h1 := area_okK h hf ht k hk
  exact ⟨h1.h0, Int.le_trans h1.h1 (by omega), h1.l0, h1.l1⟩
theorem area_val (M : List Sp) : (areaV M).val = wS (fun v => v) M := by
  have key : ∀ (M : List Sp) (z : Ar), (M.foldl (fun a x => plusV a (prodV x.v (x.t - x.f))) z).val = z.val + wS (fun v => v) M := by
    intro M
    induction M with
    | nil => intro z; rw [wS_nil]; show z.val = _; omega
    | cons x M ih => intro z; rw [List.foldl_cons, ih, plus_val, prod_val, wS_cons]; omega
  unfold areaV
  rw [key]
  show (0 : Int) * 1000000000000 + 0 + _ = _
  omega
theorem area_ok {f t : Int} {M : List Sp} (h : ∀ x, x ∈ M → OkP f t x) (hf : 0 ≤ f) (ht : t ≤ 1000000000000) (hl : M.length ≤ 500) : (areaV M).Ok 1000000000000000 := by
  have := area_fits h hf ht hl M.length (Nat.le_refl _)
  rwa [List.take_length] at this
/-- One area is less than another one. -/
def lessV (a b : Ar) : Bool := decide (a.h < b.h ∨ (a.h = b.h ∧ a.l < b.l))
theorem less_val {a b : Ar} {A B : Int} (ha : a.Ok A) (hb : b.Ok B) : lessV a b = decide (a.val < b.val) := by
  have := ha.l0; have := ha.l1
  have := hb.l0; have := hb.l1
  unfold lessV Ar.val
  rw [Bool.eq_iff_iff]
  simp only [decide_eq_true_eq]
  omega
end Go.Proofs.YtionocafkaemiaaDoor.Sx
