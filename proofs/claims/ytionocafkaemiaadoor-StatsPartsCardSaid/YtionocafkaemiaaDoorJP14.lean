/- Extremes, shares and quantiles: what holds of them. Two neighbouring intervals: peaks, shares, areas. -/
import Derived.Test.YtionocafkaemiaaDoorK2
import Derived.Test.YtionocafkaemiaaDoorK1
import Derived.Test.YtionocafkaemiaaDoorK0
namespace Go.Proofs.YtionocafkaemiaaDoor.Sx
theorem fold_gt : ∀ (M : List Sp) (x : Sp), x.v ≤ (M.foldl (pick gt) x).v ∧ ∀ y, y ∈ M → y.v ≤ (M.foldl (pick gt) x).v
  | [], x => ⟨Int.le_refl _, fun y hy => by cases hy⟩
  | z :: M, x => by
    rw [List.foldl_cons]
    obtain ⟨h1, h2⟩ := fold_gt M (pick gt x z)
    have hp : x.v ≤ (pick gt x z).v ∧ z.v ≤ (pick gt x z).v := by
      unfold pick gt
      split
      · next h => simp at h; omega
      · next h => simp at h; omega
    refine ⟨by omega, fun y hy => ?_⟩
    rcases List.mem_cons.1 hy with rfl | hy
    · omega
    · exact h2 y hy
theorem fold_lt : ∀ (M : List Sp) (x : Sp), (M.foldl (pick lt) x).v ≤ x.v ∧ ∀ y, y ∈ M → (M.foldl (pick lt) x).v ≤ y.v
  | [], x => ⟨Int.le_refl _, fun y hy => by cases hy⟩
  | z :: M, x => by
    rw [List.foldl_cons]
    obtain ⟨h1, h2⟩ := fold_lt M (pick lt x z)
    have hp : (pick lt x z).v ≤ x.v ∧ (pick lt x z).v ≤ z.v := by
      unfold pick lt
      split
      · next h => simp at h; omega
      · next h => simp at h; omega
    refine ⟨by omega, fun y hy => ?_⟩
    rcases List.mem_cons.1 hy with rfl | hy
    · omega
    · exact h2 y hy
theorem ext_max {M : List Sp} : ∀ y, y ∈ M → y.v ≤ (extV gt M).v := by
  intro y hy
  cases M with
  | nil => cases hy
  | cons x M =>
    obtain ⟨h1, h2⟩ := fold_gt M x
    rcases List.mem_cons.1 hy with rfl | hy
    · exact h1
    · exact h2 y hy
theorem ext_min {M : List Sp} : ∀ y, y ∈ M → (extV lt M).v ≤ y.v := by
  intro y hy
  cases M with
  | nil => cases hy
  | cons x M =>
    obtain ⟨h1, h2⟩ := fold_lt M x
    rcases List.mem_cons.1 hy with rfl | hy
    · exact h1
    · exact h2 y hy
theorem wS_zero (M : List Sp) : wS (fun _ => 0) M = 0 := by
  have := wS_mul 0 (fun _ => 1) M
  simpa using this
theorem wS_nn {g : Int → Int} {M : List Sp} (h : ∀ x, x ∈ M → x.f ≤ x.t ∧ 0 ≤ g x.v) : 0 ≤ wS g M := by
  have := wS_le (g := fun _ => 0) (h := g) h
  rw [wS_zero] at this; exact this
theorem wS_term {g : Int → Int} : ∀ {M : List Sp}, (∀ x, x ∈ M → x.f ≤ x.t ∧ 0 ≤ g x.v) → ∀ x, x ∈ M → g x.v * (x.t - x.f) ≤ wS g M
  | [], _, x, hx => by cases hx
  | y :: M, h, x, hx => by
    have h2 := fun z hz => h z (List.mem_cons_of_mem y hz)
    rw [wS_cons]
    rcases List.mem_cons.1 hx with rfl | hx
    · have := wS_nn h2; omega
    · have h3 := wS_term h2 x hx
      have h4 := h y (List.mem_cons_self ..)
      have : 0 ≤ g y.v * (y.t - y.f) := Int.mul_nonneg h4.2 (by omega)
      omega
/-- How long the value is less. -/
def ltV (q : Int) (M : List Sp) : Int := wS (fun v => if v < q then 1 else 0) M
theorem lt_share (q : Int) (M : List Sp) : ltV q M + shareV q M = wS (fun _ => 1) M := by
  unfold ltV
  rw [share_w, ← wS_add]
  exact wS_congr fun x _ => by split <;> split <;> omega
theorem le_lt (q : Int) (M : List Sp) : leV q M = ltV (q + 1) M := wS_congr fun x _ => by split <;> split <;> omega
theorem share_bd {L : List Sm} {f t : Int} (h : Cov L f t) (q : Int) : 0 ≤ shareV q (stepsV L f t) ∧ shareV q (stepsV L f t) ≤ t - f := by
  have h1 := lt_share q (stepsV L f t)
  rw [steps_len1 h] at h1
  have hk := fun x hx => steps_ok h.ok (f := f) (t := t) x hx
  have h2 : 0 ≤ ltV q (stepsV L f t) := wS_nn fun x hx => ⟨by have := (hk x hx).ft; omega, by split <;> omega⟩
  have h3 : 0 ≤ shareV q (stepsV L f t) := by rw [share_w]; exact wS_nn fun x hx => ⟨by have := (hk x hx).ft; omega, by split <;> omega⟩
  omega
theorem share_pos {L : List Sm} {f t : Int} (h : Cov L f t) {q : Int} {x : Sp} (hx : x ∈ stepsV L f t) (hq : q ≤ x.v) : 0 < shareV q (stepsV L f t) := by
  have hk := fun x hx => steps_ok h.ok (f := f) (t := t) x hx
  rw [share_w]
  have := wS_term (g := fun v => if q ≤ v then 1 else 0) (fun y hy => ⟨by have := (hk y hy).ft; omega, by split <;> omega⟩) x hx
  rw [if_pos hq] at this
  have := (hk x hx).ft
  omega
theorem q_top {L : List Sm} {f t : Int} (h : Cov L f t) : quantR (stepsV L f t) (1 * (t - f)) 1 = (extV gt (stepsV L f t)).v := by
  have h1 := quantR_is (quant_ok h (num := 1) (den := 1) (by omega) (by omega))
  refine h1.unique ⟨⟨_, ext_mem (steps_pos h), rfl⟩, ?_, fun x hx hlt => ?_⟩
  · rw [leV_top (fun x hx => Int.le_of_lt (steps_ok h.ok x hx).ft) (fun x hx => ext_max x hx), steps_len1 h]; omega
  · rw [le_lt]
    have h2 := lt_share (x.v + 1) (stepsV L f t)
    rw [steps_len1 h] at h2
    have h3 := share_pos h (q := x.v + 1) (ext_mem (b := gt) (steps_pos h)) (by omega)
    omega
theorem q_laws {L : List Sm} {f t num den : Int} (h : Cov L f t) (h1 : 1 ≤ num) (h2 : num ≤ den) :
    (0 ≤ quantR (stepsV L f t) (num * (t - f)) den ∧ quantR (stepsV L f t) (num * (t - f)) den ≤ 1000000000000) ∧
    num * (t - f) ≤ (t - f - shareV (quantR (stepsV L f t) (num * (t - f)) den + 1) (stepsV L f t)) * den ∧
    (t - f - shareV (quantR (stepsV L f t) (num * (t - f)) den) (stepsV L f t)) * den < num * (t - f) := by
  have hq := quantR_is (quant_ok h h1 h2)
  generalize quantR (stepsV L f t) (num * (t - f)) den = v at *
  obtain ⟨⟨x, hx, rfl⟩, hge, hle⟩ := hq
  have hx0 := steps_ok h.ok x hx
  refine ⟨⟨hx0.v0, hx0.v1⟩, ?_, ?_⟩
  · have h3 := lt_share (x.v + 1) (stepsV L f t)
    rw [steps_len1 h, ← le_lt] at h3
    rw [show t - f - shareV (x.v + 1) (stepsV L f t) = leV x.v (stepsV L f t) by omega]
    exact hge
  · have h3 := lt_share x.v (stepsV L f t)
    rw [steps_len1 h] at h3
    rw [show t - f - shareV x.v (stepsV L f t) = ltV x.v (stepsV L f t) by omega]
    by_cases hf : 0 < ((stepsV L f t).filter fun y => decide (y.v < x.v)).length
    · obtain ⟨z, hz, hmax⟩ := max_ex hf
      rw [List.mem_filter, decide_eq_true_eq] at hz
      have h4 := hle z hz.1 hz.2
      have h5 : ltV x.v (stepsV L f t) = leV z.v (stepsV L f t) := wS_congr fun y hy => by
        by_cases hlt : y.v < x.v
        · have := hmax y (List.mem_filter.2 ⟨hy, by simpa using hlt⟩)
          rw [if_pos hlt, if_pos this]
        · rw [if_neg hlt, if_neg (by omega)]
      rw [h5]; exact h4
    · have h5 : ltV x.v (stepsV L f t) = 0 := by
        rw [← wS_zero (stepsV L f t)]
        exact wS_congr fun y hy => by
          by_cases hlt : y.v < x.v
          · exact absurd (List.length_pos_of_mem (List.mem_filter.2 ⟨hy, by simpa using hlt⟩)) hf
          · rw [if_neg hlt]
      rw [h5, Int.zero_mul]
      exact Int.mul_pos (by omega) (by have := h.ft; omega)
theorem share_top {M : List Sp} {q : Int} (h : ∀ x, x ∈ M → x.v < q) : shareV q M = 0 := by
  rw [share_w]
  exact (wS_congr (h := fun _ => 0) fun x hx => by rw [if_neg (by have := h x hx; omega)]).trans (wS_zero M)
end Go.Proofs.YtionocafkaemiaaDoor.Sx
namespace Go.Proofs.YtionocafkaemiaaDoor.Sx
theorem stK_mem {L : List Sm} {f t : Int} {x : Sp} : ∀ k, x ∈ stK L f t k ↔ ∃ i, i < k ∧ max f (sm L i).a < nxtI L t i ∧ x = ⟨max f (sm L i).a, nxtI L t i, (sm L i).v⟩
  | 0 => ⟨fun h => by simp [stK] at h, fun ⟨i, h, _⟩ => by omega⟩
  | k + 1 => by
    show x ∈ stK L f t k ++ stepAt L f t k ↔ _
    rw [List.mem_append, stK_mem k]
    unfold stepAt
    constructor
    · rintro (⟨i, h1, h2, h3⟩ | h)
      · exact ⟨i, by omega, h2, h3⟩
      · split at h
        · next hh => rw [List.mem_singleton] at h; exact ⟨k, by omega, hh, h⟩
        · cases h
    · rintro ⟨i, h1, h2, h3⟩
      by_cases hi : i < k
      · exact .inl ⟨i, hi, h2, h3⟩
      · obtain rfl : i = k := by omega
        right; rw [if_pos h2, List.mem_singleton]; exact h3
theorem steps_mem {L : List Sm} {f t : Int} {x : Sp} : x ∈ stepsV L f t ↔ ∃ i, i < L.length ∧ max f (sm L i).a < nxtI L t i ∧ x = ⟨max f (sm L i).a, nxtI L t i, (sm L i).v⟩ := by
  rw [← stK_all]; exact stK_mem _
theorem asc_sm {L : List Sm} (h : L.Pairwise fun x y => x.a < y.a) {i j : Nat} (hi : i < j) (hj : j < L.length) : (sm L i).a < (sm L j).a := by
  rw [sm_el (show i < L.length by omega), sm_el hj]
  exact List.pairwise_iff_getElem.1 h i j _ _ hi
theorem stK_asc {L : List Sm} (h : L.Pairwise fun x y => x.a < y.a) {f t : Int} : ∀ k, k ≤ L.length → (stK L f t k).Pairwise fun x y => x.f ≤ y.f
  | 0, _ => List.Pairwise.nil
  | k + 1, hk => by
    show (stK L f t k ++ stepAt L f t k).Pairwise _
    rw [List.pairwise_append]
    refine ⟨stK_asc h k (by omega), ?_, fun x hx y hy => ?_⟩
    · unfold stepAt; split <;> simp
    · obtain ⟨i, h1, h2, rfl⟩ := (stK_mem k).1 hx
      unfold stepAt at hy
      split at hy
      · rw [List.mem_singleton] at hy
        subst hy
        have := asc_sm h h1 (by omega)
        dsimp only
        omega
      · cases hy
theorem steps_asc {L : List Sm} (h : OkS L) {f t : Int} : (stepsV L f t).Pairwise fun x y => x.f ≤ y.f := by
  rw [← stK_all]; exact stK_asc h.asc _ (Nat.le_refl _)
theorem fold_first : ∀ (M : List Sp) (x : Sp), (x :: M).Pairwise (fun a b => a.f ≤ b.f) → ∀ y, y ∈ x :: M → y.v = (M.foldl (pick gt) x).v → (M.foldl (pick gt) x).f ≤ y.f
  | [], x, _, y, hy, _ => by rw [List.mem_singleton] at hy; subst hy; exact Int.le_refl _
  | z :: M, x, h, y, hy, hv => by
    rw [List.foldl_cons] at hv ⊢
    have hxz := (List.pairwise_cons.1 h).1
    have hz := (List.pairwise_cons.1 h).2
    have hzM := List.pairwise_cons.1 hz
    have hge := (fold_gt M (pick gt x z)).1
    by_cases hb : gt z.v x.v = true
    · have hp : pick gt x z = z := by unfold pick; rw [if_pos hb]
      rw [hp] at hv hge ⊢
      have ih := fold_first M z hz
      rcases List.mem_cons.1 hy with rfl | hy
      · simp [gt] at hb; omega
      · exact ih y hy hv
    · have hp : pick gt x z = x := by unfold pick; rw [if_neg hb]
      rw [hp] at hv hge ⊢
      have hxM : (x :: M).Pairwise fun a b => a.f ≤ b.f := List.pairwise_cons.2 ⟨fun w hw => hxz w (List.mem_cons_of_mem _ hw), hzM.2⟩
      have ih := fold_first M x hxM
      rcases List.mem_cons.1 hy with rfl | hy
      · exact ih y (List.mem_cons_self ..) hv
      · rcases List.mem_cons.1 hy with rfl | hy
        · have hxv : x.v = (M.foldl (pick gt) x).v := by simp [gt] at hb; omega
          have h1 := ih x (List.mem_cons_self ..) hxv
          have h2 := hxz y (List.mem_cons_self ..)
          omega
        · exact ih y (List.mem_cons_of_mem _ hy) hv
theorem ext_first {M : List Sp} (h : M.Pairwise fun a b => a.f ≤ b.f) {y : Sp} (hy : y ∈ M) (hv : y.v = (extV gt M).v) : (extV gt M).f ≤ y.f := by
  cases M with
  | nil => cases hy
  | cons x M => exact fold_first M x h y hy hv
/-- The first one of the greatest values, known by what it is. -/
theorem ext_is {L : List Sm} (h : OkS L) {f t : Int} {x : Sp} (hx : x ∈ stepsV L f t) (h1 : ∀ y, y ∈ stepsV L f t → y.v ≤ x.v) (h2 : ∀ y, y ∈ stepsV L f t → y.v = x.v → x.f ≤ y.f) : (extV gt (stepsV L f t)).f = x.f ∧ (extV gt (stepsV L f t)).v = x.v := by
  have he := ext_mem (b := gt) (List.length_pos_of_mem hx)
  have hm := ext_max x hx
  have hm2 := h1 _ he
  have hv : (extV gt (stepsV L f t)).v = x.v := by omega
  have a1 := ext_first (steps_asc h) hx (by omega)
  have a2 := h2 _ he hv
  exact ⟨by omega, hv⟩
theorem nxt_mono {L : List Sm} {m t : Int} (h : m ≤ t) (i : Nat) : nxtI L m i ≤ nxtI L t i := by unfold nxtI; split <;> omega
theorem nxt_min {L : List Sm} {m t : Int} (h : m ≤ t) (i : Nat) : nxtI L m i = min m (nxtI L t i) := by unfold nxtI; split <;> omega
theorem peak_parts {L : List Sm} {f m t : Int} (h : Cov L f t) (h1 : f < m) (h2 : m < t) (hm1 : 0 < (stepsV L f m).length) (hm2 : 0 < (stepsV L m t).length) :
    ((extV gt (stepsV L f m)).v < (extV gt (stepsV L m t)).v → (extV gt (stepsV L f t)).f = (extV gt (stepsV L m t)).f ∧ (extV gt (stepsV L f t)).v = (extV gt (stepsV L m t)).v) ∧
    ((extV gt (stepsV L m t)).v ≤ (extV gt (stepsV L f m)).v → (extV gt (stepsV L f t)).f = (extV gt (stepsV L f m)).f ∧ (extV gt (stepsV L f t)).v = (extV gt (stepsV L f m)).v) := by
  have e1 := ext_mem (b := gt) hm1
  have e2 := ext_mem (b := gt) hm2
  have x1 := fun y => ext_max (M := stepsV L f m) y
  have x2 := fun y => ext_max (M := stepsV L m t) y
  have f1 := fun {y} => ext_first (y := y) (steps_asc h.ok (f := f) (t := m))
  have f2 := fun {y} => ext_first (y := y) (steps_asc h.ok (f := m) (t := t))
  generalize extV gt (stepsV L f m) = y at *
  generalize extV gt (stepsV L m t) = z at *
  -- an element of the whole, by where it begins
  have low : ∀ w, w ∈ stepsV L f t → w.f < m → w.v ≤ y.v ∧ (w.v = y.v → y.f ≤ w.f) := by
    intro w hw hlt
    obtain ⟨j, hj, hc, rfl⟩ := steps_mem.1 hw
    dsimp only at hlt ⊢
    have hin : (⟨max f (sm L j).a, nxtI L m j, (sm L j).v⟩ : Sp) ∈ stepsV L f m := steps_mem.2 ⟨j, hj, by rw [nxt_min (Int.le_of_lt h2)]; omega, rfl⟩
    exact ⟨x1 _ hin, fun e => f1 hin e⟩
  have high : ∀ w, w ∈ stepsV L f t → m ≤ w.f → w.v ≤ z.v ∧ (w.v = z.v → z.f ≤ w.f) := by
    intro w hw hlt
    obtain ⟨j, hj, hc, rfl⟩ := steps_mem.1 hw
    dsimp only at hlt ⊢
    have ha : max m (sm L j).a = max f (sm L j).a := by omega
    have hin : (⟨max m (sm L j).a, nxtI L t j, (sm L j).v⟩ : Sp) ∈ stepsV L m t := steps_mem.2 ⟨j, hj, by rw [ha]; exact hc, rfl⟩
    have h3 := x2 _ hin
    have h4 := fun e => f2 hin e
    dsimp only at h3 h4
    rw [ha] at h4
    exact ⟨h3, h4⟩
  constructor
  · intro hlt
    obtain ⟨i, hi, hc, hz⟩ := steps_mem.1 e2
    have hai : m ≤ (sm L i).a := by
      rcases Int.lt_or_le (sm L i).a m with ha | ha
      · exfalso
        have hin : (⟨max f (sm L i).a, nxtI L m i, (sm L i).v⟩ : Sp) ∈ stepsV L f m := steps_mem.2 ⟨i, hi, by rw [nxt_min (Int.le_of_lt h2)]; omega, rfl⟩
        have := x1 _ hin
        rw [hz] at hlt
        dsimp only at this hlt
        omega
      · exact ha
    have hin : (⟨max f (sm L i).a, nxtI L t i, (sm L i).v⟩ : Sp) ∈ stepsV L f t := steps_mem.2 ⟨i, hi, by omega, rfl⟩
    have hzf : z.f = max f (sm L i).a := by rw [hz]; dsimp only; omega
    have hzv : z.v = (sm L i).v := by rw [hz]
    have := ext_is h.ok hin (fun w hw => by
      dsimp only
      rcases Int.lt_or_le w.f m with hw2 | hw2
      · have := (low w hw hw2).1; omega
      · have := (high w hw hw2).1; omega) (fun w hw hv => by
      dsimp only at hv ⊢
      rcases Int.lt_or_le w.f m with hw2 | hw2
      · have := (low w hw hw2).1; omega
      · have := (high w hw hw2).2 (by omega); omega)
    dsimp only at this
    exact ⟨by omega, by omega⟩
  · intro hle
    obtain ⟨i, hi, hc, hy⟩ := steps_mem.1 e1
    have hin : (⟨max f (sm L i).a, nxtI L t i, (sm L i).v⟩ : Sp) ∈ stepsV L f t := steps_mem.2 ⟨i, hi, by have := nxt_mono (L := L) (Int.le_of_lt h2) i; omega, rfl⟩
    have hyf : y.f = max f (sm L i).a := by rw [hy]
    have hyv : y.v = (sm L i).v := by rw [hy]
    have hym : y.f < m := by
      have : nxtI L m i ≤ m := by unfold nxtI; split <;> omega
      omega
    have := ext_is h.ok hin (fun w hw => by
      dsimp only
      rcases Int.lt_or_le w.f m with hw2 | hw2
      · have := (low w hw hw2).1; omega
      · have := (high w hw hw2).1; omega) (fun w hw hv => by
      dsimp only at hv ⊢
      rcases Int.lt_or_le w.f m with hw2 | hw2
      · have := (low w hw hw2).2 (by omega); omega
      · omega)
    dsimp only at this
    exact ⟨by omega, by omega⟩
theorem cov_left {L : List Sm} {f m t : Int} (h : Cov L f t) (h1 : f < m) (h2 : m < t) : Cov L f m := ⟨h.ok, h.f0, h1, by have := h.t1; omega, h.cov⟩
theorem cov_right {L : List Sm} {f m t : Int} (h : Cov L f t) (h1 : f < m) (h2 : m < t) : Cov L m t := by
  refine ⟨h.ok, by have := h.f0; omega, h2, h.t1, ?_⟩
  have hc := h.cov
  have hu := (upto_at h.ok.asc f).1 0 hc
  have hl := upto_le L f
  rcases Nat.eq_zero_or_pos (upto L m) with h0 | h0
  · have := (upto_at h.ok.asc m).2 0 (by omega) (by omega); omega
  · exact h0
theorem area_parts {L : List Sm} {f m t : Int} (h : Cov L f t) (h1 : f < m) (h2 : m < t) : plusV (areaV (stepsV L f m)) (areaV (stepsV L m t)) = areaV (stepsV L f t) := by
  have c1 := cov_left h h1 h2
  have c2 := cov_right h h1 h2
  have ok : ∀ {f t}, Cov L f t → (areaV (stepsV L f t)).Ok 1000000000000000 := fun {f t} hc => area_ok (steps_ok hc.ok) hc.f0 hc.t1 (by have := steps_len L f t; have := hc.ok.len; omega)
  refine ar_eq (plus_okV (ok c1) (ok c2)) (ok h) ?_
  rw [plus_val, area_val, area_val, area_val]
  exact (wS_split _ (Int.le_of_lt h1) (Int.le_of_lt h2) L).symm
theorem share_parts {L : List Sm} {f m t : Int} (h1 : f < m) (h2 : m < t) (q : Int) : shareV q (stepsV L f t) = shareV q (stepsV L f m) + shareV q (stepsV L m t) := by
  rw [share_w, share_w, share_w]
  exact wS_split _ (Int.le_of_lt h1) (Int.le_of_lt h2) L
theorem area_bounds {L : List Sm} {f t : Int} (h : Cov L f t) : (extV lt (stepsV L f t)).v * (t - f) ≤ (areaV (stepsV L f t)).val ∧ (areaV (stepsV L f t)).val ≤ (extV gt (stepsV L f t)).v * (t - f) := by
  rw [area_val]
  have hk := fun x hx => (steps_ok h.ok (f := f) (t := t) x hx).ft
  have c1 := wS_mul (extV lt (stepsV L f t)).v (fun _ => 1) (stepsV L f t)
  have c2 := wS_mul (extV gt (stepsV L f t)).v (fun _ => 1) (stepsV L f t)
  rw [steps_len1 h] at c1 c2
  simp only [Int.mul_one] at c1 c2
  rw [← c1, ← c2]
  exact ⟨wS_le fun x hx => ⟨Int.le_of_lt (hk x hx), ext_min x hx⟩, wS_le fun x hx => ⟨Int.le_of_lt (hk x hx), ext_max x hx⟩⟩
end Go.Proofs.YtionocafkaemiaaDoor.Sx
