/- Extremes, shares and quantiles: what holds of them. -/
import Derived.Test.YtionocafkaemiaaDoorK2
namespace Go.Proofs.YtionocafkaemiaaDoor.Sx
theorem fold_gt : ∀ (M : List Sp) (x : Sp), x.v ≤ (M.foldl (pick gt) x).v ∧ ∀ y, y ∈ M → y.v ≤ (M.foldl (pick gt) x).v
  | [], x => ⟨Int.le_refl _, fun y hy => by cases hy⟩
  | z :: M, x => by
    rw [List.foldl_cons]
    obtain ⟨h1, h2⟩ := fold_gt M (pick gt x z)
    have hp : x.v ≤ (pick gt x z).v ∧ z.v ≤ (pick gt x z).v := by
      unfold pick gt
      split
      · next h => simp at h; omega
      · next h => simp at h; omega
    refine ⟨by omega, fun y hy => ?_⟩
    rcases List.mem_cons.1 hy with rfl | hy
    · omega
    · exact h2 y hy
theorem fold_lt : ∀ (M : List Sp) (x : Sp), (M.foldl (pick lt) x).v ≤ x.v ∧ ∀ y, y ∈ M → (M.foldl (pick lt) x).v ≤ y.v
  | [], x => ⟨Int.le_refl _, fun y hy => by cases hy⟩
  | z :: M, x => by
    rw [List.foldl_cons]
    obtain ⟨h1, h2⟩ := fold_lt M (pick lt x z)
    have hp : (pick lt x z).v ≤ x.v ∧ (pick lt x z).v ≤ z.v := by
      unfold pick lt
      split
      · next h => simp at h; omega
      · next h => simp at h; omega
    refine ⟨by omega, fun y hy => ?_⟩
    rcases List.mem_cons.1 hy with rfl | hy
    · omega
    · exact h2 y hy
theorem ext_max {M : List Sp} : ∀ y, y ∈ M → y.v ≤ (extV gt M).v := by
  intro y hy
  cases M with
  | nil => cases hy
  | cons x M =>
    obtain ⟨h1, h2⟩ := fold_gt M x
    rcases List.mem_cons.1 hy with rfl | hy
    · exact h1
    · exact h2 y hy
theorem ext_min {M : List Sp} : ∀ y, y ∈ M → (extV lt M).v ≤ y.v := by
  intro y hy
  cases M with
  | nil => cases hy
  | cons x M =>
    obtain ⟨h1, h2⟩ := fold_lt M x
    rcases List.mem_cons.1 hy with rfl | hy
    · exact h1
    · exact h2 y hy
theorem wS_zero (M : List Sp) : wS (fun _ => 0) M = 0 := by
  have := wS_mul 0 (fun _ => 1) M
  simpa using this
theorem wS_nn {g : Int → Int} {M : List Sp} (h : ∀ x, x ∈ M → x.f ≤ x.t ∧ 0 ≤ g x.v) : 0 ≤ wS g M := by
  have := wS_le (g := fun _ => 0) (h := g) h
  rw [wS_zero] at this; exact this
theorem wS_term {g : Int → Int} : ∀ {M : List Sp}, (∀ x, x ∈ M → x.f ≤ x.t ∧ 0 ≤ g x.v) → ∀ x, x ∈ M → g x.v * (x.t - x.f) ≤ wS g M
  | [], _, x, hx => by cases hx
  | y :: M, h, x, hx => by
    have h2 := fun z hz => h z (List.mem_cons_of_mem y hz)
    rw [wS_cons]
    rcases List.mem_cons.1 hx with rfl | hx
    · have := wS_nn h2; omega
    · have h3 := wS_term h2 x hx
      have h4 := h y (List.mem_cons_self ..)
      have : 0 ≤ g y.v * (y.t - y.f) := Int.mul_nonneg h4.2 (by omega)
      omega
/-- How long the value is less. -/
def ltV (q : Int) (M : List Sp) : Int := wS (fun v => if v < q then 1 else 0) M
theorem lt_share (q : Int) (M : List Sp) : ltV q M + shareV q M = wS (fun _ => 1) M := by
  unfold ltV
  rw [share_w, ← wS_add]
  exact wS_congr fun x _ => by split <;> split <;> omega
theorem le_lt (q : Int) (M : List Sp) : leV q M = ltV (q + 1) M := wS_congr fun x _ => by split <;> split <;> omega
theorem share_bd {L : List Sm} {f t : Int} (h : Cov L f t) (q : Int) : 0 ≤ shareV q (stepsV L f t) ∧ shareV q (stepsV L f t) ≤ t - f := by
  have h1 := lt_share q (stepsV L f t)
  rw [steps_len1 h] at h1
  have hk := fun x hx => steps_ok h.ok (f := f) (t := t) x hx
  have h2 : 0 ≤ ltV q (stepsV L f t) := wS_nn fun x hx => ⟨by have := (hk x hx).ft; omega, by split <;> omega⟩
  have h3 : 0 ≤ shareV q (stepsV L f t) := by rw [share_w]; exact wS_nn fun x hx => ⟨by have := (hk x hx).ft; omega, by split <;> omega⟩
  omega
theorem share_pos {L : List Sm} {f t : Int} (h : Cov L f t) {q : Int} {x : Sp} (hx : x ∈ stepsV L f t) (hq : q ≤ x.v) : 0 < shareV q (stepsV L f t) := by
  have hk := fun x hx => steps_ok h.ok (f := f) (t := t) x hx
  rw [share_w]
  have := wS_term (g := fun v => if q ≤ v then 1 else 0) (fun y hy => ⟨by have := (hk y hy).ft; omega, by split <;> omega⟩) x hx
  rw [if_pos hq] at this
  have := (hk x hx).ft
  omega
theorem q_top {L : List Sm} {f t : Int} (h : Cov L f t) : quantR (stepsV L f t) (1 * (t - f)) 1 = (extV gt (stepsV L f t)).v := by
  have h1 := quantR_is (quant_ok h (num := 1) (den := 1) (by omega) (by omega))
  refine h1.unique ⟨⟨_, ext_mem (steps_pos h), rfl⟩, ?_, fun x hx hlt => ?_⟩
  · rw [leV_top (fun x hx => Int.le_of_lt (steps_ok h.ok x hx).ft) (fun x hx => ext_max x hx), steps_len1 h]; omega
  · rw [le_lt]
    have h2 := lt_share (x.v + 1) (stepsV L f t)
    rw [steps_len1 h] at h2
    have h3 := share_pos h (q := x.v + 1) (ext_mem (b := gt) (steps_pos h)) (by omega)
    omega
theorem q_laws {L : List Sm} {f t num den : Int} (h : Cov L f t) (h1 : 1 ≤ num) (h2 : num ≤ den) :
    (0 ≤ quantR (stepsV L f t) (num * (t - f)) den ∧ quantR (stepsV L f t) (num * (t - f)) den ≤ 1000000000000) ∧
    num * (t - f) ≤ (t - f - shareV (quantR (stepsV L f t) (num * (t - f)) den + 1) (stepsV L f t)) * den ∧
    (t - f - shareV (quantR (stepsV L f t) (num * (t - f)) den) (stepsV L f t)) * den < num * (t - f) := by
  have hq := quantR_is (quant_ok h h1 h2)
  generalize quantR (stepsV L f t) (num * (t - f)) den = v at *
  obtain ⟨⟨x, hx, rfl⟩, hge, hle⟩ := hq
  have hx0 := steps_ok h.ok x hx
  refine ⟨⟨hx0.v0, hx0.v1⟩, ?_, ?_⟩
  · have h3 := lt_share (x.v + 1) (stepsV L f t)
    rw [steps_len1 h, ← le_lt] at h3
    rw [show t - f - shareV (x.v + 1) (stepsV L f t) = leV x.v (stepsV L f t) by omega]
    exact hge
  · have h3 := lt_share x.v (stepsV L f t)
    rw [steps_len1 h] at h3
    rw [show t - f - shareV x.v (stepsV L f t) = ltV x.v (stepsV L f t) by omega]
    by_cases hf : 0 < ((stepsV L f t).filter fun y => decide (y.v < x.v)).length
    · obtain ⟨z, hz, hmax⟩ := max_ex hf
      rw [List.mem_filter, decide_eq_true_eq] at hz
      have h4 := hle z hz.1 hz.2
      have h5 : ltV x.v (stepsV L f t) = leV z.v (stepsV L f t) := wS_congr fun y hy => by
        by_cases hlt : y.v < x.v
        · have := hmax y (List.mem_filter.2 ⟨hy, by simpa using hlt⟩)
          rw [if_pos hlt, if_pos this]
        · rw [if_neg hlt, if_neg (by omega)]
      rw [h5]; exact h4
    · have h5 : ltV x.v (stepsV L f t) = 0 := by
        rw [← wS_zero (stepsV L f t)]
        exact wS_congr fun y hy => by
          by_cases hlt : y.v < x.v
          · exact absurd (List.length_pos_of_mem (List.mem_filter.2 ⟨hy, by simpa using hlt⟩)) hf
          · rw [if_neg hlt]
      rw [h5, Int.zero_mul]
      exact Int.mul_pos (by omega) (by have := h.ft; omega)
theorem share_top {M : List Sp} {q : Int} (h : ∀ x, x ∈ M → x.v < q) : shareV q M = 0 := by
  rw [share_w]
  exact (wS_congr (h := fun _ => 0) fun x hx => by rw [if_neg (by have := h x hx; omega)]).trans (wS_zero M)
end Go.Proofs.YtionocafkaemiaaDoor.Sx
