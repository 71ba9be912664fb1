/- Extremes, shares and quantiles: what holds of them. Two neighbouring intervals: peaks, shares, areas. Envelopes: what holds of them, whatever other ones are proposed. What is proposed, step by step. -/
import Derived.Test.YtionocafkaemiaaDoorK2
import Derived.Test.YtionocafkaemiaaDoorK1
import Derived.Test.YtionocafkaemiaaDoorK0
namespace Go.Proofs.YtionocafkaemiaaDoor.Sx
theorem fold_gt : ∀ (M : List Sp) (x : Sp), x.v ≤ (M.foldl (pick gt) x).v ∧ ∀ y, y ∈ M → y.v ≤ (M.foldl (pick gt) x).v
  | [], x => ⟨Int.le_refl _, fun y hy => by cases hy⟩
  | z :: M, x => by
    rw [List.foldl_cons]
    obtain ⟨h1, h2⟩ := fold_gt M (pick gt x z)
    have hp : x.v ≤ (pick gt x z).v ∧ z.v ≤ (pick gt x z).v := by
      unfold pick gt
      split
      · next h => simp at h; omega
      · next h => simp at h; omega
    refine ⟨by omega, fun y hy => ?_⟩
    rcases List.mem_cons.1 hy with rfl | hy
    · omega
    · exact h2 y hy
theorem fold_lt : ∀ (M : List Sp) (x : Sp), (M.foldl (pick lt) x).v ≤ x.v ∧ ∀ y, y ∈ M → (M.foldl (pick lt) x).v ≤ y.v
  | [], x => ⟨Int.le_refl _, fun y hy => by cases hy⟩
  | z :: M, x => by
    rw [List.foldl_cons]
    obtain ⟨h1, h2⟩ := fold_lt M (pick lt x z)
    have hp : (pick lt x z).v ≤ x.v ∧ (pick lt x z).v ≤ z.v := by
      unfold pick lt
      split
      · next h => simp at h; omega
      · next h => simp at h; omega
    refine ⟨by omega, fun y hy => ?_⟩
    rcases List.mem_cons.1 hy with rfl | hy
    · omega
    · exact h2 y hy
theorem ext_max {M : List Sp} : ∀ y, y ∈ M → y.v ≤ (extV gt M).v := by
  intro y hy
  cases M with
  | nil => cases hy
  | cons x M =>
    obtain ⟨h1, h2⟩ := fold_gt M x
    rcases List.mem_cons.1 hy with rfl | hy
    · exact h1
    · exact h2 y hy
theorem ext_min {M : List Sp} : ∀ y, y ∈ M → (extV lt M).v ≤ y.v := by
  intro y hy
  cases M with
  | nil => cases hy
  | cons x M =>
    obtain ⟨h1, h2⟩ := fold_lt M x
    rcases List.mem_cons.1 hy with rfl | hy
    · exact h1
    · exact h2 y hy
theorem wS_zero (M : List Sp) : wS (fun _ => 0) M = 0 := by
  have := wS_mul 0 (fun _ => 1) M
  simpa using this
theorem wS_nn {g : Int → Int} {M : List Sp} (h : ∀ x, x ∈ M → x.f ≤ x.t ∧ 0 ≤ g x.v) : 0 ≤ wS g M := by
  have := wS_le (g := fun _ => 0) (h := g) h
  rw [wS_zero] at this; exact this
theorem wS_term {g : Int → Int} : ∀ {M : List Sp}, (∀ x, x ∈ M → x.f ≤ x.t ∧ 0 ≤ g x.v) → ∀ x, x ∈ M → g x.v * (x.t - x.f) ≤ wS g M
  | [], _, x, hx => by cases hx
  | y :: M, h, x, hx => by
    have h2 := fun z hz => h z (List.mem_cons_of_mem y hz)
    rw [wS_cons]
    rcases List.mem_cons.1 hx with rfl | hx
    · have := wS_nn h2; omega
    · have h3 := wS_term h2 x hx
      have h4 := h y (List.mem_cons_self ..)
      have : 0 ≤ g y.v * (y.t - y.f) := Int.mul_nonneg h4.2 (by omega)
      omega
/-- How long the value is less. -/
def ltV (q : Int) (M : List Sp) : Int := wS (fun v => if v < q then 1 else 0) M
theorem lt_share (q : Int) (M : List Sp) : ltV q M + shareV q M = wS (fun _ => 1) M := by
  unfold ltV
  rw [share_w, ← wS_add]
  exact wS_congr fun x _ => by split <;> split <;> omega
theorem le_lt (q : Int) (M : List Sp) : leV q M = ltV (q + 1) M := wS_congr fun x _ => by split <;> split <;> omega
theorem share_bd {L : List Sm} {f t : Int} (h : Cov L f t) (q : Int) : 0 ≤ shareV q (stepsV L f t) ∧ shareV q (stepsV L f t) ≤ t - f := by
  have h1 := lt_share q (stepsV L f t)
  rw [steps_len1 h] at h1
  have hk := fun x hx => steps_ok h.ok (f := f) (t := t) x hx
  have h2 : 0 ≤ ltV q (stepsV L f t) := wS_nn fun x hx => ⟨by have := (hk x hx).ft; omega, by split <;> omega⟩
  have h3 : 0 ≤ shareV q (stepsV L f t) := by rw [share_w]; exact wS_nn fun x hx => ⟨by have := (hk x hx).ft; omega, by split <;> omega⟩
  omega
theorem share_pos {L : List Sm} {f t : Int} (h : Cov L f t) {q : Int} {x : Sp} (hx : x ∈ stepsV L f t) (hq : q ≤ x.v) : 0 < shareV q (stepsV L f t) := by
  have hk := fun x hx => steps_ok h.ok (f := f) (t := t) x hx
  rw [share_w]
  have := wS_term (g := fun v => if q ≤ v then 1 else 0) (fun y hy => ⟨by have := (hk y hy).ft; omega, by split <;> omega⟩) x hx
  rw [if_pos hq] at this
  have := (hk x hx).ft
  omega
theorem q_top {L : List Sm} {f t : Int} (h : Cov L f t) : quantR (stepsV L f t) (1 * (t - f)) 1 = (extV gt (stepsV L f t)).v := by
  have h1 := quantR_is (quant_ok h (num := 1) (den := 1) (by omega) (by omega))
  refine h1.unique ⟨⟨_, ext_mem (steps_pos h), rfl⟩, ?_, fun x hx hlt => ?_⟩
  · rw [leV_top (fun x hx => Int.le_of_lt (steps_ok h.ok x hx).ft) (fun x hx => ext_max x hx), steps_len1 h]; omega
  · rw [le_lt]
    have h2 := lt_share (x.v + 1) (stepsV L f t)
    rw [steps_len1 h] at h2
    have h3 := share_pos h (q := x.v + 1) (ext_mem (b := gt) (steps_pos h)) (by omega)
    omega
theorem q_laws {L : List Sm} {f t num den : Int} (h : Cov L f t) (h1 : 1 ≤ num) (h2 : num ≤ den) :
    (0 ≤ quantR (stepsV L f t) (num * (t - f)) den ∧ quantR (stepsV L f t) (num * (t - f)) den ≤ 1000000000000) ∧
    num * (t - f) ≤ (t - f - shareV (quantR (stepsV L f t) (num * (t - f)) den + 1) (stepsV L f t)) * den ∧
    (t - f - shareV (quantR (stepsV L f t) (num * (t - f)) den) (stepsV L f t)) * den < num * (t - f) := by
  have hq := quantR_is (quant_ok h h1 h2)
  generalize quantR (stepsV L f t) (num * (t - f)) den = v at *
  obtain ⟨⟨x, hx, rfl⟩, hge, hle⟩ := hq
  have hx0 := steps_ok h.ok x hx
  refine ⟨⟨hx0.v0, hx0.v1⟩, ?_, ?_⟩
  · have h3 := lt_share (x.v + 1) (stepsV L f t)
    rw [steps_len1 h, ← le_lt] at h3
    rw [show t - f - shareV (x.v + 1) (stepsV L f t) = leV x.v (stepsV L f t) by omega]
    exact hge
  · have h3 := lt_share x.v (stepsV L f t)
    rw [steps_len1 h] at h3
    rw [show t - f - shareV x.v (stepsV L f t) = ltV x.v (stepsV L f t) by omega]
    by_cases hf : 0 < ((stepsV L f t).filter fun y => decide (y.v < x.v)).length
    · obtain ⟨z, hz, hmax⟩ := max_ex hf
      rw [List.mem_filter, decide_eq_true_eq] at hz
      have h4 := hle z hz.1 hz.2
      have h5 : ltV x.v (stepsV L f t) = leV z.v (stepsV L f t) := wS_congr fun y hy => by
        by_cases hlt : y.v < x.v
        · have := hmax y (List.mem_filter.2 ⟨hy, by simpa using hlt⟩)
          rw [if_pos hlt, if_pos this]
        · rw [if_neg hlt, if_neg (by omega)]
      rw [h5]; exact h4
    · have h5 : ltV x.v (stepsV L f t) = 0 := by
        rw [← wS_zero (stepsV L f t)]
        exact wS_congr fun y hy => by
          by_cases hlt : y.v < x.v
          · exact absurd (List.length_pos_of_mem (List.mem_filter.2 ⟨hy, by simpa using hlt⟩)) hf
          · rw [if_neg hlt]
      rw [h5, Int.zero_mul]
      exact Int.mul_pos (by omega) (by have := h.ft; omega)
theorem share_top {M : List Sp} {q : Int} (h : ∀ x, x ∈ M → x.v < q) : shareV q M = 0 := by
  rw [share_w]
  exact (wS_congr (h := fun _ => 0) fun x hx => by rw [if_neg (by have := h x hx; omega)]).trans (wS_zero M)
end Go.Proofs.YtionocafkaemiaaDoor.Sx
namespace Go.Proofs.YtionocafkaemiaaDoor.Sx
theorem stK_mem {L : List Sm} {f t : Int} {x : Sp} : ∀ k, x ∈ stK L f t k ↔ ∃ i, i < k ∧ max f (sm L i).a < nxtI L t i ∧ x = ⟨max f (sm L i).a, nxtI L t i, (sm L i).v⟩
  | 0 => ⟨fun h => by simp [stK] at h, fun ⟨i, h, _⟩ => by omega⟩
  | k + 1 => by
    show x ∈ stK L f t k ++ stepAt L f t k ↔ _
    rw [List.mem_append, stK_mem k]
    unfold stepAt
    constructor
    · rintro (⟨i, h1, h2, h3⟩ | h)
      · exact ⟨i, by omega, h2, h3⟩
      · split at h
        · next hh => rw [List.mem_singleton] at h; exact ⟨k, by omega, hh, h⟩
        · cases h
    · rintro ⟨i, h1, h2, h3⟩
      by_cases hi : i < k
      · exact .inl ⟨i, hi, h2, h3⟩
      · obtain rfl : i = k := by omega
        right; rw [if_pos h2, List.mem_singleton]; exact h3
theorem steps_mem {L : List Sm} {f t : Int} {x : Sp} : x ∈ stepsV L f t ↔ ∃ i, i < L.length ∧ max f (sm L i).a < nxtI L t i ∧ x = ⟨max f (sm L i).a, nxtI L t i, (sm L i).v⟩ := by
  rw [← stK_all]; exact stK_mem _
theorem asc_sm {L : List Sm} (h : L.Pairwise fun x y => x.a < y.a) {i j : Nat} (hi : i < j) (hj : j < L.length) : (sm L i).a < (sm L j).a := by
  rw [sm_el (show i < L.length by omega), sm_el hj]
  exact List.pairwise_iff_getElem.1 h i j _ _ hi
theorem stK_asc {L : List Sm} (h : L.Pairwise fun x y => x.a < y.a) {f t : Int} : ∀ k, k ≤ L.length → (stK L f t k).Pairwise fun x y => x.f ≤ y.f
  | 0, _ => List.Pairwise.nil
  | k + 1, hk => by
    show (stK L f t k ++ stepAt L f t k).Pairwise _
    rw [List.pairwise_append]
    refine ⟨stK_asc h k (by omega), ?_, fun x hx y hy => ?_⟩
    · unfold stepAt; split <;> simp
    · obtain ⟨i, h1, h2, rfl⟩ := (stK_mem k).1 hx
      unfold stepAt at hy
      split at hy
      · rw [List.mem_singleton] at hy
        subst hy
        have := asc_sm h h1 (by omega)
        dsimp only
        omega
      · cases hy
theorem steps_asc {L : List Sm} (h : OkS L) {f t : Int} : (stepsV L f t).Pairwise fun x y => x.f ≤ y.f := by
  rw [← stK_all]; exact stK_asc h.asc _ (Nat.le_refl _)
theorem fold_first : ∀ (M : List Sp) (x : Sp), (x :: M).Pairwise (fun a b => a.f ≤ b.f) → ∀ y, y ∈ x :: M → y.v = (M.foldl (pick gt) x).v → (M.foldl (pick gt) x).f ≤ y.f
  | [], x, _, y, hy, _ => by rw [List.mem_singleton] at hy; subst hy; exact Int.le_refl _
  | z :: M, x, h, y, hy, hv => by
    rw [List.foldl_cons] at hv ⊢
    have hxz := (List.pairwise_cons.1 h).1
    have hz := (List.pairwise_cons.1 h).2
    have hzM := List.pairwise_cons.1 hz
    have hge := (fold_gt M (pick gt x z)).1
    by_cases hb : gt z.v x.v = true
    · have hp : pick gt x z = z := by unfold pick; rw [if_pos hb]
      rw [hp] at hv hge ⊢
      have ih := fold_first M z hz
      rcases List.mem_cons.1 hy with rfl | hy
      · simp [gt] at hb; omega
      · exact ih y hy hv
    · have hp : pick gt x z = x := by unfold pick; rw [if_neg hb]
      rw [hp] at hv hge ⊢
      have hxM : (x :: M).Pairwise fun a b => a.f ≤ b.f := List.pairwise_cons.2 ⟨fun w hw => hxz w (List.mem_cons_of_mem _ hw), hzM.2⟩
      have ih := fold_first M x hxM
      rcases List.mem_cons.1 hy with rfl | hy
      · exact ih y (List.mem_cons_self ..) hv
      · rcases List.mem_cons.1 hy with rfl | hy
        · have hxv : x.v = (M.foldl (pick gt) x).v := by simp [gt] at hb; omega
          have h1 := ih x (List.mem_cons_self ..) hxv
          have h2 := hxz y (List.mem_cons_self ..)
          omega
        · exact ih y (List.mem_cons_of_mem _ hy) hv
theorem ext_first {M : List Sp} (h : M.Pairwise fun a b => a.f ≤ b.f) {y : Sp} (hy : y ∈ M) (hv : y.v = (extV gt M).v) : (extV gt M).f ≤ y.f := by
  cases M with
  | nil => cases hy
  | cons x M => exact fold_first M x h y hy hv
/-- The first one of the greatest values, known by what it is. -/
theorem ext_is {L : List Sm} (h : OkS L) {f t : Int} {x : Sp} (hx : x ∈ stepsV L f t) (h1 : ∀ y, y ∈ stepsV L f t → y.v ≤ x.v) (h2 : ∀ y, y ∈ stepsV L f t → y.v = x.v → x.f ≤ y.f) : (extV gt (stepsV L f t)).f = x.f ∧ (extV gt (stepsV L f t)).v = x.v := by
  have he := ext_mem (b := gt) (List.length_pos_of_mem hx)
  have hm := ext_max x hx
  have hm2 := h1 _ he
  have hv : (extV gt (stepsV L f t)).v = x.v := by omega
  have a1 := ext_first (steps_asc h) hx (by omega)
  have a2 := h2 _ he hv
  exact ⟨by omega, hv⟩
theorem nxt_mono {L : List Sm} {m t : Int} (h : m ≤ t) (i : Nat) : nxtI L m i ≤ nxtI L t i := by unfold nxtI; split <;> omega
theorem nxt_min {L : List Sm} {m t : Int} (h : m ≤ t) (i : Nat) : nxtI L m i = min m (nxtI L t i) := by unfold nxtI; split <;> omega
theorem peak_parts {L : List Sm} {f m t : Int} (h : Cov L f t) (h1 : f < m) (h2 : m < t) (hm1 : 0 < (stepsV L f m).length) (hm2 : 0 < (stepsV L m t).length) :
    ((extV gt (stepsV L f m)).v < (extV gt (stepsV L m t)).v → (extV gt (stepsV L f t)).f = (extV gt (stepsV L m t)).f ∧ (extV gt (stepsV L f t)).v = (extV gt (stepsV L m t)).v) ∧
    ((extV gt (stepsV L m t)).v ≤ (extV gt (stepsV L f m)).v → (extV gt (stepsV L f t)).f = (extV gt (stepsV L f m)).f ∧ (extV gt (stepsV L f t)).v = (extV gt (stepsV L f m)).v) := by
  have e1 := ext_mem (b := gt) hm1
  have e2 := ext_mem (b := gt) hm2
  have x1 := fun y => ext_max (M := stepsV L f m) y
  have x2 := fun y => ext_max (M := stepsV L m t) y
  have f1 := fun {y} => ext_first (y := y) (steps_asc h.ok (f := f) (t := m))
  have f2 := fun {y} => ext_first (y := y) (steps_asc h.ok (f := m) (t := t))
  generalize extV gt (stepsV L f m) = y at *
  generalize extV gt (stepsV L m t) = z at *
  -- an element of the whole, by where it begins
  have low : ∀ w, w ∈ stepsV L f t → w.f < m → w.v ≤ y.v ∧ (w.v = y.v → y.f ≤ w.f) := by
    intro w hw hlt
    obtain ⟨j, hj, hc, rfl⟩ := steps_mem.1 hw
    dsimp only at hlt ⊢
    have hin : (⟨max f (sm L j).a, nxtI L m j, (sm L j).v⟩ : Sp) ∈ stepsV L f m := steps_mem.2 ⟨j, hj, by rw [nxt_min (Int.le_of_lt h2)]; omega, rfl⟩
    exact ⟨x1 _ hin, fun e => f1 hin e⟩
  have high : ∀ w, w ∈ stepsV L f t → m ≤ w.f → w.v ≤ z.v ∧ (w.v = z.v → z.f ≤ w.f) := by
    intro w hw hlt
    obtain ⟨j, hj, hc, rfl⟩ := steps_mem.1 hw
    dsimp only at hlt ⊢
    have ha : max m (sm L j).a = max f (sm L j).a := by omega
    have hin : (⟨max m (sm L j).a, nxtI L t j, (sm L j).v⟩ : Sp) ∈ stepsV L m t := steps_mem.2 ⟨j, hj, by rw [ha]; exact hc, rfl⟩
    have h3 := x2 _ hin
    have h4 := fun e => f2 hin e
    dsimp only at h3 h4
    rw [ha] at h4
    exact ⟨h3, h4⟩
  constructor
  · intro hlt
    obtain ⟨i, hi, hc, hz⟩ := steps_mem.1 e2
    have hai : m ≤ (sm L i).a := by
      rcases Int.lt_or_le (sm L i).a m with ha | ha
      · exfalso
        have hin : (⟨max f (sm L i).a, nxtI L m i, (sm L i).v⟩ : Sp) ∈ stepsV L f m := steps_mem.2 ⟨i, hi, by rw [nxt_min (Int.le_of_lt h2)]; omega, rfl⟩
        have := x1 _ hin
        rw [hz] at hlt
        dsimp only at this hlt
        omega
      · exact ha
    have hin : (⟨max f (sm L i).a, nxtI L t i, (sm L i).v⟩ : Sp) ∈ stepsV L f t := steps_mem.2 ⟨i, hi, by omega, rfl⟩
    have hzf : z.f = max f (sm L i).a := by rw [hz]; dsimp only; omega
    have hzv : z.v = (sm L i).v := by rw [hz]
    have := ext_is h.ok hin (fun w hw => by
      dsimp only
      rcases Int.lt_or_le w.f m with hw2 | hw2
      · have := (low w hw hw2).1; omega
      · have := (high w hw hw2).1; omega) (fun w hw hv => by
      dsimp only at hv ⊢
      rcases Int.lt_or_le w.f m with hw2 | hw2
      · have := (low w hw hw2).1; omega
      · have := (high w hw hw2).2 (by omega); omega)
    dsimp only at this
    exact ⟨by omega, by omega⟩
  · intro hle
    obtain ⟨i, hi, hc, hy⟩ := steps_mem.1 e1
    have hin : (⟨max f (sm L i).a, nxtI L t i, (sm L i).v⟩ : Sp) ∈ stepsV L f t := steps_mem.2 ⟨i, hi, by have := nxt_mono (L := L) (Int.le_of_lt h2) i; omega, rfl⟩
    have hyf : y.f = max f (sm L i).a := by rw [hy]
    have hyv : y.v = (sm L i).v := by rw [hy]
    have hym : y.f < m := by
      have : nxtI L m i ≤ m := by unfold nxtI; split <;> omega
      omega
    have := ext_is h.ok hin (fun w hw => by
      dsimp only
      rcases Int.lt_or_le w.f m with hw2 | hw2
      · have := (low w hw hw2).1; omega
      · have := (high w hw hw2).1; omega) (fun w hw hv => by
      dsimp only at hv ⊢
      rcases Int.lt_or_le w.f m with hw2 | hw2
      · have := (low w hw hw2).2 (by omega); omega
      · omega)
    dsimp only at this
    exact ⟨by omega, by omega⟩
theorem cov_left {L : List Sm} {f m t : Int} (h : Cov L f t) (h1 : f < m) (h2 : m < t) : Cov L f m := ⟨h.ok, h.f0, h1, by have := h.t1; omega, h.cov⟩
theorem cov_right {L : List Sm} {f m t : Int} (h : Cov L f t) (h1 : f < m) (h2 : m < t) : Cov L m t := by
  refine ⟨h.ok, by have := h.f0; omega, h2, h.t1, ?_⟩
  have hc := h.cov
  have hu := (upto_at h.ok.asc f).1 0 hc
  have hl := upto_le L f
  rcases Nat.eq_zero_or_pos (upto L m) with h0 | h0
  · have := (upto_at h.ok.asc m).2 0 (by omega) (by omega); omega
  · exact h0
theorem area_parts {L : List Sm} {f m t : Int} (h : Cov L f t) (h1 : f < m) (h2 : m < t) : plusV (areaV (stepsV L f m)) (areaV (stepsV L m t)) = areaV (stepsV L f t) := by
  have c1 := cov_left h h1 h2
  have c2 := cov_right h h1 h2
  have ok : ∀ {f t}, Cov L f t → (areaV (stepsV L f t)).Ok 1000000000000000 := fun {f t} hc => area_ok (steps_ok hc.ok) hc.f0 hc.t1 (by have := steps_len L f t; have := hc.ok.len; omega)
  refine ar_eq (plus_okV (ok c1) (ok c2)) (ok h) ?_
  rw [plus_val, area_val, area_val, area_val]
  exact (wS_split _ (Int.le_of_lt h1) (Int.le_of_lt h2) L).symm
theorem share_parts {L : List Sm} {f m t : Int} (h1 : f < m) (h2 : m < t) (q : Int) : shareV q (stepsV L f t) = shareV q (stepsV L f m) + shareV q (stepsV L m t) := by
  rw [share_w, share_w, share_w]
  exact wS_split _ (Int.le_of_lt h1) (Int.le_of_lt h2) L
theorem area_bounds {L : List Sm} {f t : Int} (h : Cov L f t) : (extV lt (stepsV L f t)).v * (t - f) ≤ (areaV (stepsV L f t)).val ∧ (areaV (stepsV L f t)).val ≤ (extV gt (stepsV L f t)).v * (t - f) := by
  rw [area_val]
  have hk := fun x hx => (steps_ok h.ok (f := f) (t := t) x hx).ft
  have c1 := wS_mul (extV lt (stepsV L f t)).v (fun _ => 1) (stepsV L f t)
  have c2 := wS_mul (extV gt (stepsV L f t)).v (fun _ => 1) (stepsV L f t)
  rw [steps_len1 h] at c1 c2
  simp only [Int.mul_one] at c1 c2
  rw [← c1, ← c2]
  exact ⟨wS_le fun x hx => ⟨Int.le_of_lt (hk x hx), ext_min x hx⟩, wS_le fun x hx => ⟨Int.le_of_lt (hk x hx), ext_max x hx⟩⟩
end Go.Proofs.YtionocafkaemiaaDoor.Sx
namespace Go.Proofs.YtionocafkaemiaaDoor.Sx

/-- A series that begins as another one does, is nowhere less, and ends ahead of a time. -/
structure Above (V L : List Sm) (u : Int) : Prop where
  ok : OkS V
  okL : OkS L
  pos : 0 < V.length
  first : (sm V 0).a = (sm L 0).a
  last : (sm V (V.length - 1)).a < u
  ge : ∀ t, (sm L 0).a ≤ t → 0 < upto L t ∧ 0 < upto V t ∧ (sm L (upto L t - 1)).v ≤ (sm V (upto V t - 1)).v
theorem first_ge {L : List Sm} (h : OkS L) {k : Nat} (hk : k < L.length) : (sm L 0).a ≤ (sm L k).a := by
  rcases Nat.eq_zero_or_pos k with rfl | h0
  · exact Int.le_refl _
  · exact Int.le_of_lt (h.lt h0 hk)
theorem upto_ps {L : List Sm} (h : OkS L) (hn : 0 < L.length) {t : Int} (ht : (sm L 0).a ≤ t) : 0 < upto L t := by
  rcases Nat.eq_zero_or_pos (upto L t) with h0 | h0
  · have := (upto_at h.asc t).2 0 (by omega) hn; omega
  · exact h0
theorem getD_of {l : List Nat} {i : Nat} (h : i < l.length) : l.getD i 0 = l[i] := by rw [List.getD_eq_getElem?_getD, List.getElem?_eq_getElem h]; rfl
theorem ext_pos {n k : Nat} {x : List Nat} (h : Ext n k [0] x) : 0 < x.length ∧ x.getD 0 0 = 0 := by
  obtain ⟨t, rfl, _⟩ := h
  exact ⟨by simp, rfl⟩
theorem above_over {L : List Sm} {u : Int} (h : OkE L u) (hn : 0 < L.length) {x : List Nat} (hx : Ext L.length (L.length - 1) [0] x) : Above (overS L x) L u := by
  have hs := starts_of hn hx
  have ho := over_ok h hs
  obtain ⟨x0, x1⟩ := ext_pos hx
  have hf : (sm (overS L x) 0).a = (sm L 0).a := by rw [over_get L x 0 x0, x1]
  have hp : 0 < (overS L x).length := by rw [over_len]; exact x0
  refine ⟨ho.ok, h.ok, hp, hf, ho.last _ (sm_mem (by omega)), fun t ht => ?_⟩
  have hL := upto_ps h.ok hn ht
  have hV := upto_ps ho.ok hp (by rw [hf]; exact ht)
  refine ⟨hL, hV, ?_⟩
  obtain ⟨a1, a2⟩ := upto_at h.ok.asc t
  obtain ⟨b1, b2⟩ := upto_at ho.ok.asc t
  have hle := upto_le (overS L x) t
  have hle2 := upto_le L t
  rw [over_len] at hle b2
  obtain ⟨q, hq⟩ : ∃ q, upto (overS L x) t = q + 1 := ⟨_, (Nat.succ_pred_eq_of_pos hV).symm⟩
  obtain ⟨k, hk⟩ : ∃ k, upto L t = k + 1 := ⟨_, (Nat.succ_pred_eq_of_pos hL).symm⟩
  rw [hq] at b1 b2 hle
  rw [hk] at a1 a2 hle2
  rw [hq, hk, Nat.add_sub_cancel, Nat.add_sub_cancel, over_get L x q (by omega)]
  have hat := hs.at (show q < x.length by omega)
  have e1 := b1 q (by omega)
  rw [over_get L x q (by omega)] at e1
  have h1 : x.getD q 0 ≤ k := by
    rcases Nat.lt_or_ge k (x.getD q 0) with h2 | h2
    · have := a2 (x.getD q 0) (by omega) (by omega)
      dsimp only at e1; omega
    · exact h2
  have h2 : k < ovEnd L x q := by
    unfold ovEnd
    split
    · next h3 =>
      rcases Nat.lt_or_ge k (x.getD (q + 1) 0) with h4 | h4
      · exact h4
      · have e2 := b2 (q + 1) (by omega) h3
        rw [over_get L x (q + 1) h3] at e2
        have := a1 (x.getD (q + 1) 0) (by omega)
        dsimp only at e2; omega
    · omega
  have := hiV_ge L (x.getD q 0) (ovEnd L x q - x.getD q 0) (k - x.getD q 0) (by omega)
  rw [show x.getD q 0 + (k - x.getD q 0) = k by omega] at this
  exact this
/-! Peaks of whole series. -/
abbrev peakA (M : List Sm) (u : Int) : Int := (extV gt (stepsV M (sm M 0).a u)).v
theorem whole_mem {M : List Sm} {u : Int} (h : OkE M u) {i : Nat} (hi : i < M.length) : ∃ x, x ∈ stepsV M (sm M 0).a u ∧ x.v = (sm M i).v := by
  refine ⟨⟨max (sm M 0).a (sm M i).a, nxtI M u i, (sm M i).v⟩, steps_mem.2 ⟨i, hi, ?_, rfl⟩, rfl⟩
  have h1 := first_ge h.ok hi
  have h2 := h.last _ (sm_mem hi)
  unfold nxtI
  split
  · next h3 => have := h.ok.lt (show i < i + 1 by omega) h3; omega
  · omega
theorem peak_ge {M : List Sm} {u : Int} (h : OkE M u) {i : Nat} (hi : i < M.length) : (sm M i).v ≤ peakA M u := by
  obtain ⟨x, hx, hv⟩ := whole_mem h hi
  rw [← hv]; exact ext_max x hx
theorem peak_is {M : List Sm} {u : Int} (h : OkE M u) (hn : 0 < M.length) : ∃ i, i < M.length ∧ peakA M u = (sm M i).v := by
  have hp := steps_pos (cov_whole h hn)
  obtain ⟨i, hi, _, he⟩ := steps_mem.1 (ext_mem (b := gt) hp)
  exact ⟨i, hi, by unfold peakA; rw [he]⟩
theorem peak_over {L : List Sm} {u : Int} (h : OkE L u) (hn : 0 < L.length) {x : List Nat} (hx : Ext L.length (L.length - 1) [0] x) : peakA (overS L x) u = peakA L u := by
  have hs := starts_of hn hx
  have ho := over_ok h hs
  have ha := above_over h hn hx
  have hp := ha.pos
  obtain ⟨i, hi, e1⟩ := peak_is h hn
  obtain ⟨q, hq, e2⟩ := peak_is ho hp
  have h1 : peakA L u ≤ peakA (overS L x) u := by
    obtain ⟨a1, a2, a3⟩ := ha.ge (sm L i).a (first_ge h.ok hi)
    have hu : upto L (sm L i).a = i + 1 := upto_is (by omega) (fun j hj => by
      rcases Nat.lt_or_ge j i with h3 | h3
      · exact Int.le_of_lt (h.ok.lt h3 hi)
      · rw [show j = i by omega]; exact Int.le_refl _) (fun j h3 h4 => h.ok.lt (by omega) h4)
    rw [hu, Nat.add_sub_cancel] at a3
    have hle := upto_le (overS L x) (sm L i).a
    have := peak_ge ho (i := upto (overS L x) (sm L i).a - 1) (by omega)
    omega
  have h2 : peakA (overS L x) u ≤ peakA L u := by
    rw [over_len] at hq
    rw [e2, over_get L x q hq]
    have hat := hs.at hq
    have h0 : 0 ≤ peakA L u := by rw [e1]; exact (h.ok.ok _ (sm_mem hi)).v0
    exact hiV_le L _ h0 _ fun k hk => peak_ge h (by omega)
  omega
/-! Areas. -/
theorem best_ok {L : List Sm} {u : Int} {most : Nat} (hn : 0 < L.length) (hm : 0 < most) : Ext L.length (L.length - 1) [0] (bestL L u most) ∧ (bestL L u most).length ≤ most := (bestL_is (u := u) hn hm).2.ok
theorem best_le {L : List Sm} {u : Int} {most : Nat} (hn : 0 < L.length) (hm : 0 < most) {x : List Nat} (hx : Ext L.length (L.length - 1) [0] x) (hl : x.length ≤ most) : areaL L u (bestL L u most) ≤ areaL L u x := by
  have := (bestL_is (u := u) hn hm).2.best x ⟨hx, hl⟩
  rw [pref_not] at this
  rcases Int.lt_or_le (areaL L u x) (areaL L u (bestL L u most)) with h | h
  · exact absurd (.inl h) this
  · exact h
theorem best_mono {L : List Sm} {u : Int} {m k : Nat} (hn : 0 < L.length) (hm : 0 < m) (hk : m ≤ k) : areaL L u (bestL L u k) ≤ areaL L u (bestL L u m) := by
  obtain ⟨h1, h2⟩ := best_ok (u := u) hn hm
  exact best_le hn (by omega) h1 (by omega)
theorem path_single {L : List Sm} {u : Int} (h : OkE L u) : ∀ {es : List Nat} {i : Nat}, Vp L i es → es.length = L.length - i → i ≤ L.length → pathC L u i es = runA u (L.drop i)
  | [], i, hv, _, _ => by
    have hv : i = L.length := hv
    rw [hv, List.drop_length]; rfl
  | e :: es, i, ⟨h1, h2, h3⟩, hl, hi => by
    have h4 := (vp_len h3).1
    rw [List.length_cons] at hl
    obtain rfl : e = i + 1 := by omega
    have hlt : i < L.length := by omega
    rw [drop_next (sm_get hlt)]
    show costV L u i (i + 1) + pathC L u (i + 1) es = (sm L i).v * (nxtA u (L.drop (i + 1)) - (sm L i).a) + runA u (L.drop (i + 1))
    rw [path_single h h3 (by omega) h2]
    have e1 : hiV L i (i + 1 - i) = (sm L i).v := by
      rw [show i + 1 - i = 0 + 1 by omega]
      have := (h.ok.ok _ (sm_mem hlt)).v0
      unfold hiV hiV
      rw [Nat.add_zero]; omega
    have e2 : nxtA u (L.drop (i + 1)) = endT L u (i + 1) := by
      rw [nxt_is]
      unfold nxtI endT
      split
      · next h5 => have := h.last _ (sm_mem h5); omega
      · rfl
    unfold costV
    rw [e1, e2]
theorem path_full {L : List Sm} {u : Int} (h : OkE L u) : ∀ (d : Nat) (es : List Nat), Vp L 0 es → es.length + d = L.length → ∃ fs, Vp L 0 fs ∧ fs.length = L.length ∧ pathC L u 0 fs ≤ pathC L u 0 es
  | 0, es, hv, hl => ⟨es, hv, by omega, Int.le_refl _⟩
  | d + 1, es, hv, hl => by
    obtain ⟨fs, h1, h2, h3⟩ := path_more h es 0 hv (by omega)
    obtain ⟨gs, h4, h5, h6⟩ := path_full h d fs h1 (by omega)
    exact ⟨gs, h4, h5, Int.le_trans h6 h3⟩
theorem area_least {L : List Sm} {u : Int} (h : OkE L u) (hn : 0 < L.length) {x : List Nat} (hx : Ext L.length (L.length - 1) [0] x) : runA u L ≤ areaL L u x ∧ ∃ y, Ext L.length (L.length - 1) [0] y ∧ y.length ≤ L.length ∧ areaL L u y = runA u L := by
  have hv := ext_vp hn hx
  have hl := (vp_len hv).1
  obtain ⟨fs, h1, h2, h3⟩ := path_full h (L.length - (endsOf L.length x).length) _ hv (by omega)
  have h4 := path_single h h1 (by omega) (Nat.zero_le _)
  rw [List.drop_zero] at h4
  refine ⟨by rw [← h4]; exact h3, ?_⟩
  obtain ⟨y, h5, rfl⟩ := vp_ext hn h1
  exact ⟨y, h5, by rw [← ends_len h5]; omega, h4⟩
theorem area_best_all {L : List Sm} {u : Int} (h : OkE L u) (hn : 0 < L.length) : arE u (overS L (bestL L u L.length)) = arE u L := by
  obtain ⟨h1, h2⟩ := best_ok (u := u) hn hn
  obtain ⟨h3, y, h4, h5, h6⟩ := area_least h hn h1
  have h7 := best_le (u := u) hn hn h4 h5
  refine ar_eq (arE_ok (over_ok h (starts_of hn h1))) (arE_ok h) ?_
  rw [area_over h hn h1, arE_val h]; omega
theorem less_over {L : List Sm} {u : Int} (h : OkE L u) (hn : 0 < L.length) {m k : Nat} (hm : 0 < m) (hk : m ≤ k) : lessV (arE u (overS L (bestL L u m))) (arE u (overS L (bestL L u k))) = false := by
  obtain ⟨h1, _⟩ := best_ok (u := u) hn hm
  obtain ⟨h2, _⟩ := best_ok (u := u) (most := k) hn (by omega)
  rw [less_val (arE_ok (over_ok h (starts_of hn h1))) (arE_ok (over_ok h (starts_of hn h2))), area_over h hn h1, area_over h hn h2]
  have := best_mono (u := u) hn hm hk
  exact decide_eq_false (by omega)
/-! What is proposed. -/
theorem run_le {u : Int} : ∀ {M N : List Sm}, M.length = N.length → (∀ i, i < M.length → (sm M i).a = (sm N i).a ∧ (sm M i).v ≤ (sm N i).v) → (∀ x, x ∈ M → x.a < u) → (M.Pairwise fun x y => x.a < y.a) → runA u M ≤ runA u N
  | [], [], _, _, _, _ => Int.le_refl _
  | x :: M, y :: N, hl, h, hu, hp => by
    have h0 := h 0 (by simp)
    have h0a : x.a = y.a := h0.1
    have h0v : x.v ≤ y.v := h0.2
    have hl' : M.length = N.length := by simpa using hl
    have hM : ∀ i, i < M.length → (sm M i).a = (sm N i).a ∧ (sm M i).v ≤ (sm N i).v := fun i hi => h (i + 1) (by simp; omega)
    obtain ⟨p1, p2⟩ := List.pairwise_cons.1 hp
    have ih := run_le hl' hM (fun z hz => hu z (List.mem_cons_of_mem _ hz)) p2
    have hx := hu x (List.mem_cons_self ..)
    have hn : nxtA u M = nxtA u N ∧ x.a ≤ nxtA u M := by
      cases M with
      | nil =>
        have : N = [] := List.length_eq_zero_iff.1 (by simpa using hl'.symm)
        subst this
        exact ⟨rfl, Int.le_of_lt hx⟩
      | cons z M =>
        cases N with
        | nil => simp at hl'
        | cons w N =>
          have := (hM 0 (by simp)).1
          have h9 : z.a = w.a := this
          have h8 := p1 z (List.mem_cons_self ..)
          refine ⟨?_, ?_⟩
          · show min u z.a = min u w.a; rw [h9]
          · show x.a ≤ min u z.a; omega
    show x.v * (nxtA u M - x.a) + runA u M ≤ y.v * (nxtA u N - y.a) + runA u N
    rw [← hn.1, ← h0a]
    have := Int.mul_le_mul_of_nonneg_right h0v (show 0 ≤ nxtA u M - x.a by omega)
    omega
  | [], _ :: _, hl, _, _, _ => by simp at hl
  | _ :: _, [], hl, _, _, _ => by simp at hl
/-- So many samples have been looked at: the runs begin at l, the values are great enough. -/
structure Dom (L : List Sm) (i : Nat) (W : List Sm) (l : List Nat) : Prop where
  len : W.length = l.length
  beg : ∃ t, l = 0 :: t ∧ t.Pairwise (· < ·) ∧ ∀ e, e ∈ t → 0 < e ∧ e < i
  at_ : ∀ q, q < l.length → (sm W q).a = (sm L (l.getD q 0)).a ∧ hiV L (l.getD q 0) ((if q + 1 < l.length then l.getD (q + 1) 0 else i) - l.getD q 0) ≤ (sm W q).v
/-- The value of a new sample. -/
def newV (v : Int) (more : List Nat) (n : Nat) : Int := if n < more.length ∧ v < 999999999700 then v + (more.getD n 0 : Int) else v
theorem new_ge (v : Int) (more : List Nat) (n : Nat) : v ≤ newV v more n := by unfold newV; split <;> omega
/-- The series that is proposed. -/
def propK (L : List Sm) (bits : Nat) (more : List Nat) : Nat → List Sm
  | 0 => []
  | i + 1 => if i = 0 ∨ bits / 2 ^ i % 2 = 1 then propK L bits more i ++ [⟨(sm L i).a, newV (sm L i).v more (propK L bits more i).length⟩]
      else (propK L bits more i).set ((propK L bits more i).length - 1) ⟨(sm (propK L bits more i) ((propK L bits more i).length - 1)).a, max (sm (propK L bits more i) ((propK L bits more i).length - 1)).v (sm L i).v⟩
theorem getD_app {α : Type} (l m : List α) (d : α) {q : Nat} (h : q < l.length) : (l ++ m).getD q d = l.getD q d := by
  rw [List.getD_eq_getElem?_getD, List.getElem?_append_left h, ← List.getD_eq_getElem?_getD]
theorem sm_app {M : List Sm} {x : Sm} {q : Nat} (h : q < M.length) : sm (M ++ [x]) q = sm M q := by
  unfold sm; exact getD_app _ _ _ h
theorem sm_app_last (M : List Sm) (x : Sm) : sm (M ++ [x]) M.length = x := by
  have : (M ++ [x])[M.length]? = some x := by simp
  unfold sm; rw [List.getD_eq_getElem?_getD, this]; rfl
theorem sm_set {M : List Sm} {x : Sm} {k q : Nat} (h : q < M.length) : sm (M.set k x) q = if q = k then x else sm M q := by
  unfold sm
  rw [List.getD_eq_getElem?_getD, List.getElem?_set]
  by_cases e : k = q
  · subst e; simp [h]
  · rw [if_neg e, if_neg (fun e2 => e e2.symm), ← List.getD_eq_getElem?_getD]
theorem dom_prop {L : List Sm} (h : OkS L) (bits : Nat) (more : List Nat) : ∀ i, i < L.length → ∃ l, Dom L (i + 1) (propK L bits more (i + 1)) l
  | 0, hn => by
    refine ⟨[0], ?_⟩
    have e : propK L bits more 1 = [⟨(sm L 0).a, newV (sm L 0).v more 0⟩] := by
      unfold propK; rw [if_pos (.inl rfl)]; rfl
    rw [e]
    refine ⟨rfl, ⟨[], rfl, List.Pairwise.nil, fun e he => by cases he⟩, fun q hq => ?_⟩
    obtain rfl : q = 0 := by simpa using hq
    refine ⟨rfl, ?_⟩
    show hiV L 0 (0 + 1) ≤ newV (sm L 0).v more 0
    have h1 := new_ge (sm L 0).v more 0
    have h2 := (h.ok _ (sm_mem hn)).v0
    unfold hiV hiV; rw [Nat.add_zero]; omega
  | i + 1, hn => by
    obtain ⟨l, hd⟩ := dom_prop h bits more i (by omega)
    have e : propK L bits more (i + 1 + 1) = if i + 1 = 0 ∨ bits / 2 ^ (i + 1) % 2 = 1 then propK L bits more (i + 1) ++ [⟨(sm L (i + 1)).a, newV (sm L (i + 1)).v more (propK L bits more (i + 1)).length⟩]
      else (propK L bits more (i + 1)).set ((propK L bits more (i + 1)).length - 1) ⟨(sm (propK L bits more (i + 1)) ((propK L bits more (i + 1)).length - 1)).a, max (sm (propK L bits more (i + 1)) ((propK L bits more (i + 1)).length - 1)).v (sm L (i + 1)).v⟩ := rfl
    rw [e]
    generalize propK L bits more (i + 1) = W at *
    have hlp : 0 < l.length := by obtain ⟨t, rfl, _⟩ := hd.beg; simp
    have hv := (h.ok _ (sm_mem hn)).v0
    have hlen := hd.len
    split
    · refine ⟨l ++ [i + 1], by simp [hd.len], ?_, fun q hq => ?_⟩
      · obtain ⟨t, rfl, h1, h2⟩ := hd.beg
        refine ⟨t ++ [i + 1], rfl, ?_, fun e he => ?_⟩
        · rw [List.pairwise_append]
          refine ⟨h1, by simp, fun e he f hf => ?_⟩
          rw [List.mem_singleton] at hf
          have := h2 e he; omega
        · rcases List.mem_append.1 he with he | he
          · have := h2 e he; omega
          · rw [List.mem_singleton] at he; omega
      · rw [List.length_append, List.length_singleton] at hq
        by_cases hq2 : q < l.length
        · obtain ⟨a1, a2⟩ := hd.at_ q hq2
          rw [sm_app (by omega), getD_app _ _ _ hq2]
          refine ⟨a1, ?_⟩
          have e2 : (if q + 1 < (l ++ [i + 1]).length then (l ++ [i + 1]).getD (q + 1) 0 else i + 1 + 1) = if q + 1 < l.length then l.getD (q + 1) 0 else i + 1 := by
            rw [List.length_append, List.length_singleton, if_pos (by omega)]
            by_cases h3 : q + 1 < l.length
            · rw [if_pos h3, getD_app _ _ _ h3]
            · rw [if_neg h3, show q + 1 = l.length by omega]; simp
          rw [e2]; exact a2
        · obtain rfl : q = l.length := by omega
          have e3 : (l ++ [i + 1]).getD l.length 0 = i + 1 := by simp
          rw [e3, ← hlen, sm_app_last]
          refine ⟨rfl, ?_⟩
          rw [hlen, List.length_append, List.length_singleton, if_neg (by omega), show i + 1 + 1 - (i + 1) = 0 + 1 by omega]
          have h1 := new_ge (sm L (i + 1)).v more l.length
          unfold hiV hiV; rw [Nat.add_zero]; dsimp only; omega
    · refine ⟨l, by rw [List.length_set]; exact hd.len, ?_, fun q hq => ?_⟩
      · obtain ⟨t, rfl, h1, h2⟩ := hd.beg
        exact ⟨t, rfl, h1, fun e he => by have := h2 e he; omega⟩
      · obtain ⟨a1, a2⟩ := hd.at_ q hq
        rw [sm_set (by omega)]
        by_cases hq2 : q + 1 < l.length
        · rw [if_neg (by omega), if_pos hq2]
          rw [if_pos hq2] at a2
          exact ⟨a1, a2⟩
        · rw [if_pos (by omega), if_neg hq2]
          rw [if_neg hq2] at a2
          have hqe : W.length - 1 = q := by omega
          rw [hqe]
          refine ⟨a1, ?_⟩
          have hlt : l.getD q 0 < i + 1 := by
            obtain ⟨t, rfl, h1, h2⟩ := hd.beg
            cases q with
            | zero => show 0 < i + 1; omega
            | succ q =>
              have hqt : q < t.length := by simpa using hq
              have e5 : (0 :: t).getD (q + 1) 0 = t[q] := by rw [List.getD_cons_succ]; exact getD_of hqt
              rw [e5]
              exact (h2 _ (List.getElem_mem hqt)).2
          rw [show i + 1 + 1 - l.getD q 0 = (i + 1 - l.getD q 0) + 1 by omega]
          show max (hiV L (l.getD q 0) (i + 1 - l.getD q 0)) (sm L (l.getD q 0 + (i + 1 - l.getD q 0))).v ≤ max (sm W q).v (sm L (i + 1)).v
          rw [show l.getD q 0 + (i + 1 - l.getD q 0) = i + 1 by omega]
          omega
abbrev propS (L : List Sm) (bits : Nat) (more : List Nat) : List Sm := propK L bits more L.length
/-- Whatever is proposed with as many samples: it has no less area. -/
theorem prop_least {L : List Sm} {u : Int} (h : OkE L u) (hn : 0 < L.length) (bits : Nat) (more : List Nat) {most : Nat} (hm : 0 < most) (hl : (propS L bits more).length ≤ most) (hc : checkS (propS L bits more) = 0) :
    0 < (propS L bits more).length ∧ OkE (propS L bits more) u ∧ lessV (arE u (propS L bits more)) (arE u (overS L (bestL L u most))) = false := by
  obtain ⟨l, hd⟩ := dom_prop h.ok bits more (L.length - 1) (by omega)
  rw [show L.length - 1 + 1 = L.length by omega] at hd
  unfold propS at *
  generalize propK L bits more L.length = W at *
  have hE : Ext L.length (L.length - 1) [0] l := by
    obtain ⟨t, rfl, h1, h2⟩ := hd.beg
    exact ⟨t, rfl, h1, fun e he => by have := h2 e he; omega⟩
  obtain ⟨l0, _⟩ := ext_pos hE
  have hs := starts_of hn hE
  have hlen := hd.len
  have hok := (checkS_ok W).1 hc
  have hW : OkE W u := by
    refine ⟨hok, fun x hx => ?_, h.u1⟩
    obtain ⟨q, hq, rfl⟩ := List.mem_iff_getElem.1 hx
    rw [← sm_el hq, (hd.at_ q (by omega)).1]
    have := hs.at (show q < l.length by omega)
    exact h.last _ (sm_mem (by omega))
  refine ⟨by omega, hW, ?_⟩
  obtain ⟨b1, _⟩ := best_ok (u := u) hn hm
  rw [less_val (arE_ok hW) (arE_ok (over_ok h (starts_of hn b1))), area_over h hn b1, arE_val hW]
  have h1 := best_le (u := u) hn hm hE (by omega)
  have ho := over_ok h hs
  have h2 : runA u (overS L l) ≤ runA u W := run_le (by rw [over_len, hlen]) (fun q hq => by
    rw [over_len] at hq
    obtain ⟨a1, a2⟩ := hd.at_ q hq
    rw [over_get L l q hq]
    exact ⟨a1.symm, a2⟩) (fun x hx => ho.last x hx) ho.ok.asc
  rw [← arE_val ho, area_over h hn hE] at h2
  exact decide_eq_false (by omega)
end Go.Proofs.YtionocafkaemiaaDoor.Sx
namespace Go.Proofs.YtionocafkaemiaaDoor.Sx
/-- With the new sample, if there is one. -/
def midP (L : List Sm) (bits : Nat) (more : List Nat) (j : Nat) (X : List Sm) : List Sm := if j = 0 ∨ bits / 2 ^ j % 2 = 1 then X ++ [⟨(sm L j).a, newV (sm L j).v more X.length⟩] else X
theorem set_last (X : List Sm) (x y : Sm) : (X ++ [x]).set X.length y = X ++ [y] := by
  induction X with
  | nil => rfl
  | cons z X ih => show z :: (X ++ [x]).set X.length y = _; rw [ih]; rfl
theorem prop_mid (L : List Sm) (bits : Nat) (more : List Nat) (j : Nat) {Y : List Sm} (hY : Y = midP L bits more j (propK L bits more j)) {k : Nat} (hk : Y.length = k + 1) : propK L bits more (j + 1) = Y.set k ⟨(sm Y k).a, max (sm Y k).v (sm L j).v⟩ := by
  have e : propK L bits more (j + 1) = if j = 0 ∨ bits / 2 ^ j % 2 = 1 then propK L bits more j ++ [⟨(sm L j).a, newV (sm L j).v more (propK L bits more j).length⟩]
      else (propK L bits more j).set ((propK L bits more j).length - 1) ⟨(sm (propK L bits more j) ((propK L bits more j).length - 1)).a, max (sm (propK L bits more j) ((propK L bits more j).length - 1)).v (sm L j).v⟩ := rfl
  rw [e]
  unfold midP at hY
  generalize propK L bits more j = X at *
  by_cases h : j = 0 ∨ bits / 2 ^ j % 2 = 1
  · rw [if_pos h] at hY ⊢
    rw [hY, List.length_append, List.length_singleton] at hk
    obtain rfl : k = X.length := by omega
    have hge := new_ge (sm L j).v more X.length
    rw [hY, sm_app_last, set_last]
    congr 2
    dsimp only
    rw [show max (newV (sm L j).v more X.length) (sm L j).v = newV (sm L j).v more X.length by omega]
  · rw [if_neg h] at hY ⊢
    rw [hY] at hk ⊢
    rw [show X.length - 1 = k by omega]
theorem prop_len (L : List Sm) (bits : Nat) (more : List Nat) : ∀ j, (propK L bits more j).length ≤ j ∧ (0 < j → 0 < (propK L bits more j).length)
  | 0 => ⟨Nat.le_refl _, fun h => absurd h (Nat.lt_irrefl _)⟩
  | j + 1 => by
    have e : propK L bits more (j + 1) = if j = 0 ∨ bits / 2 ^ j % 2 = 1 then propK L bits more j ++ [⟨(sm L j).a, newV (sm L j).v more (propK L bits more j).length⟩]
      else (propK L bits more j).set ((propK L bits more j).length - 1) ⟨(sm (propK L bits more j) ((propK L bits more j).length - 1)).a, max (sm (propK L bits more j) ((propK L bits more j).length - 1)).v (sm L j).v⟩ := rfl
    have ih := prop_len L bits more j
    rw [e]
    split
    · rw [List.length_append, List.length_singleton]; omega
    · rw [List.length_set]; omega
theorem mid_len (L : List Sm) (bits : Nat) (more : List Nat) (j : Nat) : ∃ k, (midP L bits more j (propK L bits more j)).length = k + 1 ∧ k ≤ j := by
  have h := prop_len L bits more j
  unfold midP
  split
  · exact ⟨(propK L bits more j).length, by rw [List.length_append, List.length_singleton], h.1⟩
  · next hh => exact ⟨(propK L bits more j).length - 1, by omega, by omega⟩
end Go.Proofs.YtionocafkaemiaaDoor.Sx
