/- Envelopes as series. The path back through the table: places. The quantile: by trying, and by sorting. Extremes, shares and quantiles: what holds of them. -/
import Derived.Test.YtionocafkaemiaaDoorK1
namespace Go.Proofs.YtionocafkaemiaaDoor.Sx

/-- The least envelope with samples at chosen places. -/
def overS (L : List Sm) : List Nat → List Sm
  | [] => []
  | i :: t => ⟨(sm L i).a, hiV L i (t.headD L.length - i)⟩ :: overS L t
def ovEnd (L : List Sm) (l : List Nat) (i : Nat) : Nat := if i + 1 < l.length then l.getD (i + 1) 0 else L.length
theorem over_len (L : List Sm) : ∀ l, (overS L l).length = l.length
  | [] => rfl
  | i :: t => by unfold overS; rw [List.length_cons, over_len L t, List.length_cons]
theorem over_get (L : List Sm) : ∀ (l : List Nat) (i : Nat), i < l.length → sm (overS L l) i = ⟨(sm L (l.getD i 0)).a, hiV L (l.getD i 0) (ovEnd L l i - l.getD i 0)⟩
  | [], i, h => by simp at h
  | x :: t, 0, _ => by
    show (⟨_, _⟩ : Sm) = ⟨_, _⟩
    have : t.headD L.length = ovEnd L (x :: t) 0 := by
      unfold ovEnd
      cases t with
      | nil => rfl
      | cons y t => simp
    rw [this]; rfl
  | x :: t, i + 1, h => by
    have h := over_get L t i (by simpa using h)
    have e1 : sm (overS L (x :: t)) (i + 1) = sm (overS L t) i := rfl
    have e2 : ovEnd L (x :: t) (i + 1) = ovEnd L t i := by unfold ovEnd; simp
    rw [e1, h, e2]; rfl
/-- Starts of runs: ascending places. -/
structure Starts (L : List Sm) (l : List Nat) : Prop where
  asc : l.Pairwise (· < ·)
  lt : ∀ i, i ∈ l → i < L.length
theorem Starts.tail {L : List Sm} {i : Nat} {t : List Nat} (h : Starts L (i :: t)) : Starts L t := ⟨(List.pairwise_cons.1 h.asc).2, fun j hj => h.lt j (List.mem_cons_of_mem _ hj)⟩
theorem Starts.len {L : List Sm} : ∀ {l : List Nat}, Starts L l → l.length ≤ L.length := fun {l} h => by
  have h1 : l.Nodup := h.asc.imp fun h => Nat.ne_of_lt h
  have := h1.length_le_of_subset (l₂ := List.range L.length) fun i hi => List.mem_range.2 (h.lt i hi)
  rwa [List.length_range] at this
theorem Starts.at {L : List Sm} {l : List Nat} (h : Starts L l) {i : Nat} (hi : i < l.length) : l.getD i 0 < ovEnd L l i ∧ ovEnd L l i ≤ L.length := by
  have e : l.getD i 0 = l[i] := by rw [List.getD_eq_getElem?_getD, List.getElem?_eq_getElem hi]; rfl
  unfold ovEnd
  split
  · next h2 =>
    have e2 : l.getD (i + 1) 0 = l[i + 1] := by rw [List.getD_eq_getElem?_getD, List.getElem?_eq_getElem h2]; rfl
    rw [e, e2]
    exact ⟨(List.pairwise_iff_getElem.1 h.asc) i (i + 1) hi h2 (by omega), Nat.le_of_lt (h.lt _ (List.getElem_mem h2))⟩
  · rw [e]; exact ⟨h.lt _ (List.getElem_mem hi), Nat.le_refl _⟩
theorem starts_of {L : List Sm} (hn : 0 < L.length) {x : List Nat} (h : Ext L.length (L.length - 1) [0] x) : Starts L x := by
  obtain ⟨t, rfl, h1, h2⟩ := h
  refine ⟨List.pairwise_cons.2 ⟨fun e he => by have := h2 e he; omega, h1⟩, fun e he => ?_⟩
  rcases List.mem_cons.1 he with rfl | he
  · exact hn
  · exact (h2 e he).2
theorem over_mem {L : List Sm} {l : List Nat} {x : Sm} (h : x ∈ overS L l) : ∃ i, i < l.length ∧ x = sm (overS L l) i := by
  obtain ⟨i, hi, rfl⟩ := List.mem_iff_getElem.1 h
  exact ⟨i, by rwa [over_len] at hi, (sm_el hi).symm⟩
theorem over_ok {L : List Sm} {u : Int} (h : OkE L u) {l : List Nat} (hl : Starts L l) : OkE (overS L l) u := by
  have hmem : ∀ {i}, i < l.length → l.getD i 0 < L.length := fun {i} hi => by have := hl.at hi; omega
  refine ⟨⟨by rw [over_len]; have := hl.len; have := h.ok.len; omega, ?_, ?_⟩, ?_, h.u1⟩
  · intro x hx
    obtain ⟨i, hi, rfl⟩ := over_mem hx
    rw [over_get L l i hi]
    have h1 := h.ok.ok _ (sm_mem (hmem hi))
    have h2 := hl.at hi
    obtain ⟨h3, h4⟩ := hiV_bd h.ok.ok (l.getD i 0) (ovEnd L l i - l.getD i 0) (by omega)
    exact ⟨h1.a0, h1.a1, h3, h4⟩
  · rw [List.pairwise_iff_getElem]
    intro i j hi hj hij
    rw [over_len] at hi hj
    rw [← sm_el (by rw [over_len]; exact hi), ← sm_el (by rw [over_len]; exact hj), over_get L l i hi, over_get L l j hj]
    have e1 : l.getD i 0 = l[i] := by rw [List.getD_eq_getElem?_getD, List.getElem?_eq_getElem hi]; rfl
    have e2 : l.getD j 0 = l[j] := by rw [List.getD_eq_getElem?_getD, List.getElem?_eq_getElem hj]; rfl
    refine h.ok.lt ?_ (hmem hj)
    rw [e1, e2]
    exact (List.pairwise_iff_getElem.1 hl.asc) i j hi hj hij
  · intro x hx
    obtain ⟨i, hi, rfl⟩ := over_mem hx
    rw [over_get L l i hi]
    exact h.last (sm L (l.getD i 0)) (sm_mem (hmem hi))
/-! Areas of whole series. -/
/-- The area of a series up to an end. -/
def runA (u : Int) : List Sm → Int
  | [] => 0
  | x :: M => x.v * (nxtA u M - x.a) + runA u M
def arE (u : Int) (M : List Sm) : Ar := areaV (stepsV M (sm M 0).a u)
theorem con_run {f u : Int} : ∀ {M : List Sm}, (∀ x, x ∈ M → f ≤ x.a ∧ x.a < u) → (M.Pairwise fun x y => x.a < y.a) → conS (fun v => v) f u M = runA u M
  | [], _, _ => rfl
  | x :: M, h, hp => by
    obtain ⟨h1, h2⟩ := List.pairwise_cons.1 hp
    have hx := h x (List.mem_cons_self ..)
    have hn : x.a < nxtA u M := by
      cases M with
      | nil => exact hx.2
      | cons y M => have := h1 y (List.mem_cons_self ..); show x.a < min u y.a; omega
    show x.v * max 0 (nxtA u M - max f x.a) + conS (fun v => v) f u M = x.v * (nxtA u M - x.a) + runA u M
    rw [con_run (fun y hy => h y (List.mem_cons_of_mem _ hy)) h2, show max 0 (nxtA u M - max f x.a) = nxtA u M - x.a by omega]
theorem first_le {M : List Sm} (h : M.Pairwise fun x y => x.a < y.a) : ∀ x, x ∈ M → (sm M 0).a ≤ x.a := by
  intro x hx
  cases M with
  | nil => cases hx
  | cons y M =>
    rcases List.mem_cons.1 hx with rfl | hx
    · exact Int.le_refl _
    · exact Int.le_of_lt ((List.pairwise_cons.1 h).1 x hx)
theorem arE_val {M : List Sm} {u : Int} (h : OkE M u) : (arE u M).val = runA u M := by
  unfold arE
  rw [area_val]
  unfold stepsV
  rw [wS_ref, con_run (fun x hx => ⟨first_le h.ok.asc x hx, h.last x hx⟩) h.ok.asc]
theorem cov_whole {M : List Sm} {u : Int} (h : OkE M u) (hn : 0 < M.length) : Cov M (sm M 0).a u := by
  have h0 := h.ok.ok _ (sm_mem hn)
  refine ⟨h.ok, h0.a0, h.last _ (sm_mem hn), h.u1, ?_⟩
  unfold upto
  rw [List.countP_pos_iff]
  exact ⟨sm M 0, sm_mem hn, by simp⟩
theorem arE_ok {M : List Sm} {u : Int} (h : OkE M u) : (arE u M).Ok 1000000000000000 := by
  unfold arE
  by_cases hn : 0 < M.length
  · have hc := cov_whole h hn
    exact area_ok (steps_ok h.ok) hc.f0 hc.t1 (by have := steps_len M (sm M 0).a u; have := h.ok.len; omega)
  · have : M = [] := List.length_eq_zero_iff.1 (by omega)
    subst this
    exact ⟨by simp [stepsV, refSteps, areaV], by simp [stepsV, refSteps, areaV], by simp [stepsV, refSteps, areaV], by simp [stepsV, refSteps, areaV]⟩
theorem run_over {L : List Sm} {u : Int} (h : OkE L u) : ∀ {t : List Nat} {i : Nat}, Starts L (i :: t) → runA u (overS L (i :: t)) = pathC L u i (t ++ [L.length])
  | [], i, _ => by
    show hiV L i (L.length - i) * (u - (sm L i).a) + 0 = costV L u i L.length + 0
    unfold costV endT
    rw [if_neg (by omega)]
  | e :: t, i, hs => by
    have he := hs.lt e (by simp)
    have h1 := h.last _ (sm_mem he)
    show hiV L i (e - i) * (nxtA u (overS L (e :: t)) - (sm L i).a) + runA u (overS L (e :: t)) = costV L u i e + pathC L u e (t ++ [L.length])
    rw [run_over h hs.tail]
    show hiV L i (e - i) * (min u (sm L e).a - (sm L i).a) + _ = _
    unfold costV
    rw [end_self u he, Int.min_eq_right (Int.le_of_lt h1)]
theorem area_over {L : List Sm} {u : Int} (h : OkE L u) (hn : 0 < L.length) {x : List Nat} (hx : Ext L.length (L.length - 1) [0] x) : (arE u (overS L x)).val = areaL L u x := by
  have hs := starts_of hn hx
  rw [arE_val (over_ok h hs)]
  obtain ⟨t, rfl, _⟩ := hx
  exact run_over h hs
/-! Which one is preferred, as the reference says it of series. -/
def lexA : List Sm → List Sm → Bool
  | x :: A, y :: B => decide (x.a < y.a) || (decide (x.a = y.a) && lexA A B)
  | _, _ => false
def beforeV (u : Int) (A B : List Sm) : Bool :=
  if arE u A ≠ arE u B then lessV (arE u A) (arE u B) else if A.length ≠ B.length then decide (A.length < B.length) else lexA A B
theorem lex_over {L : List Sm} (h : OkS L) : ∀ {l m : List Nat}, (∀ i, i ∈ l → i < L.length) → (∀ i, i ∈ m → i < L.length) → lexA (overS L l) (overS L m) = lexL l m
  | [], _, _, _ => by cases ‹List Nat› <;> rfl
  | _ :: _, [], _, _ => rfl
  | x :: l, y :: m, h1, h2 => by
    have hx := h1 x (List.mem_cons_self ..)
    have hy := h2 y (List.mem_cons_self ..)
    show (decide ((sm L x).a < (sm L y).a) || (decide ((sm L x).a = (sm L y).a) && lexA (overS L l) (overS L m))) = (decide (x < y) || (x == y && lexL l m))
    rw [lex_over h (fun i hi => h1 i (List.mem_cons_of_mem _ hi)) fun i hi => h2 i (List.mem_cons_of_mem _ hi)]
    rcases Nat.lt_trichotomy x y with h3 | h3 | h3
    · have := h.lt h3 hy
      rw [decide_eq_true h3, decide_eq_true this]; rfl
    · subst h3; simp
    · have := h.lt h3 hx
      have e : (x == y) = false := by simp; omega
      rw [decide_eq_false (show ¬ x < y by omega), decide_eq_false (show ¬ (sm L x).a < (sm L y).a by omega), decide_eq_false (show ¬ (sm L x).a = (sm L y).a by omega), e]
theorem before_pref {L : List Sm} {u : Int} (h : OkE L u) (hn : 0 < L.length) {x y : List Nat} (hx : Ext L.length (L.length - 1) [0] x) (hy : Ext L.length (L.length - 1) [0] y) :
    beforeV u (overS L x) (overS L y) = pref (areaL L u) x y := by
  have sx := starts_of hn hx
  have sy := starts_of hn hy
  have ox := over_ok h sx
  have oy := over_ok h sy
  have vx := area_over h hn hx
  have vy := area_over h hn hy
  unfold beforeV pref
  rw [less_val (arE_ok ox) (arE_ok oy), vx, vy, over_len, over_len, lex_over h.ok sx.lt sy.lt]
  by_cases he : arE u (overS L x) = arE u (overS L y)
  · have e2 : areaL L u x = areaL L u y := by rw [← vx, ← vy, he]
    rw [if_neg (by simpa using he), decide_eq_false (show ¬ areaL L u x < areaL L u y by omega), decide_eq_true e2]
    by_cases hl : x.length = y.length
    · rw [if_neg (by simpa using hl), decide_eq_false (show ¬ x.length < y.length by omega), decide_eq_true hl]; simp
    · rw [if_pos hl, decide_eq_false hl]; simp
  · rw [if_pos he]
    have e2 : ¬ areaL L u x = areaL L u y := fun e => he (ar_eq (arE_ok ox) (arE_ok oy) (by rw [vx, vy, e]))
    rw [decide_eq_false e2]; simp
/-- Envelope. -/
def chkE (L : List Sm) (u : Int) (most : Int) : Int :=
  if checkS L ≠ 0 then checkS L else if inT u = false ∨ (0 < L.length ∧ u ≤ (sm L (L.length - 1)).a) ∨ most < 1 ∨ 500 < most then 7 else if L.length = 0 then 4 else 0
theorem chkE_ok {L : List Sm} {u most : Int} (h : chkE L u most = 0) : OkE L u ∧ 0 < L.length ∧ 1 ≤ most ∧ most ≤ 500 := by
  unfold chkE at h
  split at h
  · next h1 => exact absurd h h1
  · next h1 =>
    split at h
    · cases h
    · next h2 =>
      split at h
      · cases h
      · next h3 =>
        have hok := (checkS_ok L).1 (Classical.not_not.1 h1)
        have hu : inT u = true := by
          cases e : inT u with
          | true => rfl
          | false => exact absurd (.inl e) h2
        have hul : ¬ u ≤ (sm L (L.length - 1)).a := fun e => h2 (.inr (.inl ⟨by omega, e⟩))
        have hm : ¬ most < 1 := fun e => h2 (.inr (.inr (.inl e)))
        have hm2 : ¬ 500 < most := fun e => h2 (.inr (.inr (.inr e)))
        refine ⟨⟨hok, fun x hx => ?_, (inT_iff.1 hu).2⟩, by omega, by omega, by omega⟩
        obtain ⟨i, hi, rfl⟩ := List.mem_iff_getElem.1 hx
        rw [← sm_el hi]
        rcases Nat.lt_or_ge i (L.length - 1) with h4 | h4
        · have := hok.lt h4 (by omega); omega
        · rw [show i = L.length - 1 by omega]; omega
/-- The choice that is the best one. -/
def bestL (L : List Sm) (u : Int) (most : Nat) : List Nat := (chooseV (areaL L u) L.length most (L.length - 1) [0] none).getD []
theorem bestL_is {L : List Sm} {u : Int} {most : Nat} (hn : 0 < L.length) (hm : 0 < most) : chooseV (areaL L u) L.length most (L.length - 1) [0] none = some (bestL L u most) ∧ BestE (areaL L u) (fun x => Ext L.length (L.length - 1) [0] x ∧ x.length ≤ most) (bestL L u most) := by
  obtain ⟨r, h1, h2⟩ := choose_best (c := areaL L u) hn hm
  have : bestL L u most = r := by unfold bestL; rw [h1]; rfl
  rw [this]; exact ⟨h1, h2⟩
def envS (L : List Sm) (u most : Int) : List Sm × Int := if chkE L u most ≠ 0 then ([], chkE L u most) else (overS L (bestL L u most.toNat), 0)
end Go.Proofs.YtionocafkaemiaaDoor.Sx
namespace Go.Proofs.YtionocafkaemiaaDoor.Sx

/-- Where the q-th run begins; behind the last one: the end. -/
def posE (L : List Sm) (x : List Nat) (q : Nat) : Nat := if q < x.length then x.getD q 0 else L.length
theorem pos_next (L : List Sm) {x : List Nat} {q : Nat} (_h : q < x.length) : posE L x (q + 1) = ovEnd L x q := by
  unfold posE ovEnd; rfl
theorem pos_ends {L : List Sm} {k : Nat} {x : List Nat} (hx : Ext L.length k [0] x) {q : Nat} (h : q < x.length) : (endsOf L.length x).getD q 0 = posE L x (q + 1) := by
  obtain ⟨t, rfl, _⟩ := hx
  show (t ++ [L.length]).getD q 0 = posE L (0 :: t) (q + 1)
  unfold posE
  have h : q < t.length + 1 := by simpa using h
  by_cases hq : q < t.length
  · rw [if_pos (show q + 1 < (0 :: t).length by simp; exact hq)]
    simp [List.getElem?_append_left hq]
  · obtain rfl : q = t.length := by omega
    rw [if_neg (show ¬ t.length + 1 < (0 :: t).length by simp)]
    simp
theorem pos_zero {L : List Sm} {k : Nat} {x : List Nat} (hx : Ext L.length k [0] x) : posE L x 0 = 0 := by
  obtain ⟨t, rfl, _⟩ := hx
  unfold posE
  rw [if_pos (show 0 < ([0] ++ t : List Nat).length by simp)]; rfl
/-- One run of the path. -/
theorem gp_run {L : List Sm} {u : Int} {k kk q : Nat} {x : List Nat} (hx : Ext L.length kk [0] x) (hk : x.length = k) (hq : q < k) (hg : Gp L u (k - q) (posE L x q) ((endsOf L.length x).drop q)) :
    Fst L u (k - q - 1) (posE L x q) (posE L x (q + 1)) ∧ Gp L u (k - (q + 1)) (posE L x (q + 1)) ((endsOf L.length x).drop (q + 1)) := by
  have hel := ends_len hx
  obtain ⟨m, hm⟩ : ∃ m, k - q = m + 1 := ⟨k - q - 1, by omega⟩
  rw [hm] at hg
  obtain ⟨e, t, he, hf, ht⟩ := hg
  have hlt : q < (endsOf L.length x).length := by omega
  have hd := List.drop_eq_getElem_cons hlt
  rw [hd] at he
  injection he with h1 h2
  have he2 : e = posE L x (q + 1) := by
    rw [← pos_ends hx (by omega), ← h1, List.getD_eq_getElem?_getD, List.getElem?_eq_getElem hlt]; rfl
  rw [show k - q - 1 = m by omega, show k - (q + 1) = m by omega, h2, ← he2]
  exact ⟨hf, ht⟩
theorem pos_lt {L : List Sm} {x : List Nat} (hs : Starts L x) {q : Nat} (h : q < x.length) : posE L x q = x.getD q 0 ∧ posE L x q < L.length := by
  have h1 : posE L x q = x.getD q 0 := by unfold posE; rw [if_pos h]
  have := hs.at h
  exact ⟨h1, by omega⟩
theorem pos_end (L : List Sm) {x : List Nat} {q : Nat} (h : q = x.length) : posE L x q = L.length := by unfold posE; rw [if_neg (by omega)]
/-- The sample that stands for the q-th run. -/
theorem over_take {L : List Sm} {x : List Nat} {q : Nat} (h : q < x.length) : (overS L x).take (q + 1) = (overS L x).take q ++ [⟨(sm L (posE L x q)).a, hiV L (posE L x q) (posE L x (q + 1) - posE L x q)⟩] := by
  rw [take_next (sm_get (show q < (overS L x).length by rw [over_len]; exact h)), over_get L x q h, pos_next L h]
  unfold posE
  rw [if_pos h]
end Go.Proofs.YtionocafkaemiaaDoor.Sx
namespace Go.Proofs.YtionocafkaemiaaDoor.Sx

/-- How long the value is at most so great. -/
def leV (q : Int) (M : List Sp) : Int := wS (fun v => if v ≤ q then 1 else 0) M
/-- What a quantile is: the least value that is enough. -/
structure IsQ (M : List Sp) (K den v : Int) : Prop where
  mem : ∃ x, x ∈ M ∧ x.v = v
  ge : K ≤ leV v M * den
  least : ∀ x, x ∈ M → x.v < v → leV x.v M * den < K
theorem IsQ.unique {M : List Sp} {K den v w : Int} (h : IsQ M K den v) (h2 : IsQ M K den w) : v = w := by
  obtain ⟨x, hx, rfl⟩ := h.mem
  obtain ⟨y, hy, rfl⟩ := h2.mem
  rcases Int.lt_trichotomy x.v y.v with h3 | h3 | h3
  · have := h2.least x hx h3; have := h.ge; omega
  · exact h3
  · have := h.least y hy h3; have := h2.ge; omega
/-- The reference's way. -/
def qStep (M : List Sp) (K den : Int) (best : Int) (x : Sp) : Int := if K ≤ leV x.v M * den ∧ (best < 0 ∨ x.v < best) then x.v else best
def quantR (M : List Sp) (K den : Int) : Int := M.foldl (qStep M K den) (-1)
theorem quantR_take {M : List Sp} (K den : Int) {k : Nat} (h : k < M.length) : (M.take (k + 1)).foldl (qStep M K den) (-1) = qStep M K den ((M.take k).foldl (qStep M K den) (-1)) (sp M k) := by
  rw [List.take_add_one, sp_get h, List.foldl_append]; rfl
theorem qfold {M : List Sp} {K den : Int} : ∀ (N : List Sp) (b : Int), (∀ x, x ∈ N → 0 ≤ x.v) → (b = -1 ∨ 0 ≤ b) →
    (N.foldl (qStep M K den) b = -1 ∧ b = -1 ∧ (∀ x, x ∈ N → leV x.v M * den < K)) ∨
    (0 ≤ N.foldl (qStep M K den) b ∧ (N.foldl (qStep M K den) b = b ∨ (∃ x, x ∈ N ∧ x.v = N.foldl (qStep M K den) b ∧ K ≤ leV x.v M * den)) ∧ (0 ≤ b → N.foldl (qStep M K den) b ≤ b) ∧ ∀ x, x ∈ N → x.v < N.foldl (qStep M K den) b → leV x.v M * den < K)
  | [], b, _, hb => by
    rcases hb with rfl | hb
    · exact .inl ⟨rfl, rfl, fun x hx => by cases hx⟩
    · exact .inr ⟨hb, .inl rfl, fun _ => Int.le_refl _, fun x hx => by cases hx⟩
  | x :: N, b, hv, hb => by
    have h0 := hv x (List.mem_cons_self ..)
    have hv2 := fun y hy => hv y (List.mem_cons_of_mem x hy)
    rw [List.foldl_cons]
    by_cases hc : K ≤ leV x.v M * den ∧ (b < 0 ∨ x.v < b)
    · have e : qStep M K den b x = x.v := by unfold qStep; rw [if_pos hc]
      rw [e]
      rcases qfold (M := M) (K := K) (den := den) N x.v hv2 (.inr h0) with ⟨_, h2, _⟩ | ⟨h1, h2, h3, h4⟩
      · omega
      · refine .inr ⟨h1, .inr ?_, fun hb0 => by have := h3 h0; omega, fun y hy hlt => ?_⟩
        · rcases h2 with h2 | ⟨y, hy, h5, h6⟩
          · exact ⟨x, List.mem_cons_self .., h2.symm, hc.1⟩
          · exact ⟨y, List.mem_cons_of_mem _ hy, h5, h6⟩
        · rcases List.mem_cons.1 hy with rfl | hy
          · have := h3 h0; omega
          · exact h4 y hy hlt
    · have e : qStep M K den b x = b := by unfold qStep; rw [if_neg hc]
      rw [e]
      rcases qfold (M := M) (K := K) (den := den) N b hv2 hb with ⟨h1, h2, h3⟩ | ⟨h1, h2, h3, h4⟩
      · refine .inl ⟨h1, h2, fun y hy => ?_⟩
        rcases List.mem_cons.1 hy with rfl | hy
        · have : ¬ K ≤ leV y.v M * den := fun hk => hc ⟨hk, .inl (by omega)⟩
          omega
        · exact h3 y hy
      · refine .inr ⟨h1, ?_, h3, fun y hy hlt => ?_⟩
        · rcases h2 with h2 | ⟨y, hy, h5, h6⟩
          · exact .inl h2
          · exact .inr ⟨y, List.mem_cons_of_mem _ hy, h5, h6⟩
        · rcases List.mem_cons.1 hy with rfl | hy
          · have : ¬ K ≤ leV y.v M * den := fun hk => hc ⟨hk, by
              by_cases hb0 : b < 0
              · exact .inl hb0
              · have := h3 (by omega); right; omega⟩
            omega
          · exact h4 y hy hlt
theorem leV_top {M : List Sp} (_hM : ∀ x, x ∈ M → x.f ≤ x.t) {q : Int} (h : ∀ x, x ∈ M → x.v ≤ q) : leV q M = wS (fun _ => 1) M :=
  wS_congr fun x hx => by rw [if_pos (h x hx)]
theorem leV_mono {M : List Sp} (hM : ∀ x, x ∈ M → x.f ≤ x.t) {p q : Int} (h : p ≤ q) : leV p M ≤ leV q M :=
  wS_le fun x hx => ⟨hM x hx, by split <;> split <;> omega⟩
theorem max_ex : ∀ {M : List Sp}, 0 < M.length → ∃ x, x ∈ M ∧ ∀ y, y ∈ M → y.v ≤ x.v
  | [], h => by simp at h
  | [x], _ => ⟨x, by simp, fun y hy => by simp at hy; rw [hy]; exact Int.le_refl _⟩
  | x :: y :: M, _ => by
    obtain ⟨z, hz, h⟩ := max_ex (M := y :: M) (by simp)
    by_cases hx : z.v ≤ x.v
    · exact ⟨x, List.mem_cons_self .., fun w hw => by
        rcases List.mem_cons.1 hw with rfl | hw
        · exact Int.le_refl _
        · have := h w hw; omega⟩
    · exact ⟨z, List.mem_cons_of_mem _ hz, fun w hw => by
        rcases List.mem_cons.1 hw with rfl | hw
        · omega
        · exact h w hw⟩
/-- What is asked can be had. -/
structure QOk (M : List Sp) (K den : Int) : Prop where
  pos : 0 < M.length
  ok : ∀ x, x ∈ M → x.f < x.t ∧ 0 ≤ x.v
  d0 : 0 ≤ den
  K : K ≤ wS (fun _ => 1) M * den
theorem quantR_is {M : List Sp} {K den : Int} (h : QOk M K den) : IsQ M K den (quantR M K den) := by
  obtain ⟨x, hx, hmax⟩ := max_ex h.pos
  have htop := leV_top (fun y hy => Int.le_of_lt (h.ok y hy).1) hmax
  have hK := h.K
  unfold quantR
  rcases qfold (M := M) (K := K) (den := den) M (-1) (fun y hy => (h.ok y hy).2) (.inl rfl) with ⟨_, _, h3⟩ | ⟨h1, h2, _, h4⟩
  · have := h3 x hx
    rw [htop] at this; omega
  · rcases h2 with h2 | ⟨y, hy, h5, h6⟩
    · omega
    · exact ⟨⟨y, hy, h5⟩, by rw [← h5]; exact h6, h4⟩

/-! The program's way: pairs of value and length, sorted by value. -/
abbrev Pr := Int × Int
def prs (M : List Sp) : List Pr := M.map fun x => (x.v, x.t - x.f)
/-- How long the first pairs are. -/
def cumP (N : List Pr) : Int := (N.map fun x => x.2).sum
theorem cum_take {N : List Pr} {k : Nat} {u : Pr} (h : N[k]? = some u) : cumP (N.take (k + 1)) = cumP (N.take k) + u.2 := by
  unfold cumP
  rw [List.take_add_one, h]
  simp
/-- Sums over pairs. -/
def wP (g : Int → Int) (N : List Pr) : Int := (N.map fun x => g x.1 * x.2).sum
theorem wP_prs (g : Int → Int) (M : List Sp) : wP g (prs M) = wS g M := by unfold wP prs wS; rw [List.map_map]; rfl
theorem wP_perm (g : Int → Int) {N O : List Pr} (h : N.Perm O) : wP g N = wP g O := by
  unfold wP
  induction h with
  | nil => rfl
  | cons x _ ih => rw [List.map_cons, List.map_cons, List.sum_cons, List.sum_cons, ih]
  | swap x y l => simp only [List.map_cons, List.sum_cons]; omega
  | trans _ _ h1 h2 => rw [h1, h2]
theorem wP_app (g : Int → Int) (N O : List Pr) : wP g (N ++ O) = wP g N + wP g O := by unfold wP; rw [List.map_append, List.sum_append]
theorem wP_nn {g : Int → Int} (hg : ∀ v, 0 ≤ g v) : ∀ {N : List Pr}, (∀ x, x ∈ N → 0 ≤ x.2) → 0 ≤ wP g N
  | [], _ => Int.le_refl _
  | x :: N, h => by
    have e : wP g (x :: N) = g x.1 * x.2 + wP g N := by unfold wP; rw [List.map_cons, List.sum_cons]
    have := wP_nn hg fun y hy => h y (List.mem_cons_of_mem _ hy)
    have := Int.mul_nonneg (hg x.1) (h x (List.mem_cons_self ..))
    omega
theorem wP_congr {g h : Int → Int} : ∀ {N : List Pr}, (∀ x, x ∈ N → g x.1 = h x.1) → wP g N = wP h N
  | [], _ => rfl
  | x :: N, hx => by
    have e : ∀ k : Int → Int, wP k (x :: N) = k x.1 * x.2 + wP k N := fun k => by unfold wP; rw [List.map_cons, List.sum_cons]
    rw [e, e, hx x (List.mem_cons_self ..), wP_congr fun y hy => hx y (List.mem_cons_of_mem _ hy)]
theorem wP_one (N : List Pr) : wP (fun _ => 1) N = cumP N := by unfold wP cumP; simp
theorem wP_zero (N : List Pr) : wP (fun _ => 0) N = 0 := by
  unfold wP
  induction N with
  | nil => rfl
  | cons x N ih => rw [List.map_cons, List.sum_cons, ih]; simp
/-- The first place at which it is enough has the quantile. -/
theorem sorted_is {M : List Sp} {K den : Int} (h : QOk M K den) {N : List Pr} (hp : N.Perm (prs M)) (hs : N.Pairwise fun x y => x.1 ≤ y.1) {k : Nat} {u : Pr} (hu : N[k]? = some u)
    (hge : K ≤ cumP (N.take (k + 1)) * den) (hlt : ∀ j, j ≤ k → cumP (N.take j) * den < K) : IsQ M K den u.1 := by
  have hle : ∀ q, leV q M = wP (fun v => if v ≤ q then 1 else 0) N := fun q => by unfold leV; rw [← wP_prs, wP_perm _ hp]
  have hlen : ∀ x, x ∈ N → 0 ≤ x.2 := fun x hx => by
    obtain ⟨y, hy, rfl⟩ := List.mem_map.1 (hp.mem_iff.1 hx)
    have := (h.ok y hy).1
    dsimp only; omega
  have hget : ∀ {i j : Nat} {x y : Pr}, N[i]? = some x → N[j]? = some y → i ≤ j → x.1 ≤ y.1 := fun {i j x y} hi hj hij => by
    obtain ⟨h1, rfl⟩ := List.getElem?_eq_some_iff.1 hi
    obtain ⟨h2, rfl⟩ := List.getElem?_eq_some_iff.1 hj
    rcases Nat.lt_or_ge i j with h3 | h3
    · exact (List.pairwise_iff_getElem.1 hs) i j h1 h2 h3
    · obtain rfl : i = j := by omega
      exact Int.le_refl _
  obtain ⟨hk, hku⟩ := List.getElem?_eq_some_iff.1 hu
  have hden := h.d0
  have hum : u ∈ prs M := hp.mem_iff.1 (List.mem_of_getElem? hu)
  refine ⟨?_, ?_, ?_⟩
  · obtain ⟨y, hy, rfl⟩ := List.mem_map.1 hum
    exact ⟨y, hy, rfl⟩
  · have h1 : cumP (N.take (k + 1)) ≤ leV u.1 M := by
      rw [hle, ← List.take_append_drop (k + 1) N, wP_app, List.take_append_drop]
      have e : wP (fun v => if v ≤ u.1 then 1 else 0) (N.take (k + 1)) = cumP (N.take (k + 1)) := by
        rw [← wP_one]
        refine wP_congr fun x hx => ?_
        obtain ⟨i, hi, hix⟩ := List.mem_iff_getElem.1 hx
        rw [List.length_take] at hi
        rw [List.getElem_take] at hix
        have := hget (i := i) (j := k) (x := x) (y := u) (by rw [List.getElem?_eq_getElem (by omega), hix]) hu (by omega)
        rw [if_pos this]
      have := wP_nn (g := fun v => if v ≤ u.1 then 1 else 0) (fun v => by split <;> omega) (N := N.drop (k + 1)) fun x hx => hlen x (List.mem_of_mem_drop hx)
      omega
    have := Int.mul_le_mul_of_nonneg_right h1 hden
    omega
  · intro y hy hlt2
    -- the pairs of at most this value all stand ahead of k
    have hym : (y.v, y.t - y.f) ∈ N := hp.mem_iff.2 (List.mem_map.2 ⟨y, hy, rfl⟩)
    have h1 : leV y.v M ≤ cumP (N.take k) := by
      rw [hle]
      have e : wP (fun v => if v ≤ y.v then 1 else 0) (N.drop k) = 0 := by
        refine (wP_congr (h := fun _ => 0) fun x hx => ?_).trans (wP_zero _)
        obtain ⟨i, hi, hix⟩ := List.mem_iff_getElem.1 hx
        rw [List.length_drop] at hi
        rw [List.getElem_drop] at hix
        have := hget (i := k) (j := k + i) (x := u) (y := x) hu (by rw [List.getElem?_eq_getElem (by omega), hix]) (by omega)
        rw [if_neg (by omega)]
      have e2 : wP (fun v => if v ≤ y.v then 1 else 0) N = wP (fun v => if v ≤ y.v then 1 else 0) (N.take k) + wP (fun v => if v ≤ y.v then 1 else 0) (N.drop k) := by rw [← wP_app, List.take_append_drop]
      rw [e2, e, Int.add_zero, ← wP_one]
      unfold wP
      have : ∀ O : List Pr, (∀ x, x ∈ O → 0 ≤ x.2) → (O.map fun x : Pr => (if x.1 ≤ y.v then 1 else 0) * x.2).sum ≤ (O.map fun x : Pr => 1 * x.2).sum := by
        intro O
        induction O with
        | nil => intro _; exact Int.le_refl _
        | cons x O ih =>
          intro hO
          rw [List.map_cons, List.map_cons, List.sum_cons, List.sum_cons]
          have := ih fun z hz => hO z (List.mem_cons_of_mem _ hz)
          have := hO x (List.mem_cons_self ..)
          split <;> omega
      exact this _ fun x hx => hlen x (List.mem_of_mem_take hx)
    have := Int.mul_le_mul_of_nonneg_right h1 hden
    have := hlt k (Nat.le_refl _)
    omega
/-- Somewhere it is enough. -/
theorem sorted_all {M : List Sp} {K den : Int} (h : QOk M K den) {N : List Pr} (hp : N.Perm (prs M)) : K ≤ cumP N * den := by
  rw [← wP_one, wP_perm _ hp, wP_prs]; exact h.K
theorem leV_snoc (q : Int) (M : List Sp) (x : Sp) : leV q (M ++ [x]) = leV q M + (if x.v ≤ q then x.t - x.f else 0) := by
  unfold leV
  rw [wS_app, wS_cons, wS_nil]
  split <;> simp
theorem leV_take (q : Int) {M : List Sp} {k : Nat} (h : k < M.length) : leV q (M.take (k + 1)) = leV q (M.take k) + (if (sp M k).v ≤ q then (sp M k).t - (sp M k).f else 0) := by
  rw [List.take_add_one, sp_get h]; exact leV_snoc q _ _
theorem leV_bd {f t : Int} {M : List Sp} (h : ∀ x, x ∈ M → OkP f t x) (hf : 0 ≤ f) (ht : t ≤ 1000000000000) (q : Int) : ∀ k, k ≤ M.length → 0 ≤ leV q (M.take k) ∧ leV q (M.take k) ≤ (k : Int) * 1000000000000
  | 0, _ => by simp [leV, wS_nil]
  | k + 1, hk => by
    have h1 := leV_bd h hf ht q k (by omega)
    have hx := h _ (sp_mem (show k < M.length by omega))
    have := hx.f0; have := hx.ft; have := hx.t1
    rw [leV_take q (by omega)]
    split <;> omega
/-- Quantile. -/
def quantS (L : List Sm) (f t num den : Int) : Int × Int := if askS L f t ≠ 0 then (0, askS L f t) else if num < 1 ∨ den < num ∨ 1000 < den then (0, 2) else (quantR (stepsV L f t) (num * (t - f)) den, 0)
theorem quant_ok {L : List Sm} {f t num den : Int} (h : Cov L f t) (h1 : 1 ≤ num) (h2 : num ≤ den) : QOk (stepsV L f t) (num * (t - f)) den := by
  refine ⟨steps_pos h, fun x hx => ?_, by omega, ?_⟩
  · have hx := steps_ok h.ok x hx
    exact ⟨hx.ft, hx.v0⟩
  · rw [steps_len1 h, Int.mul_comm]
    exact Int.mul_le_mul_of_nonneg_left h2 (by have := h.ft; omega)
end Go.Proofs.YtionocafkaemiaaDoor.Sx
namespace Go.Proofs.YtionocafkaemiaaDoor.Sx
theorem fold_gt : ∀ (M : List Sp) (x : Sp), x.v ≤ (M.foldl (pick gt) x).v ∧ ∀ y, y ∈ M → y.v ≤ (M.foldl (pick gt) x).v
  | [], x => ⟨Int.le_refl _, fun y hy => by cases hy⟩
  | z :: M, x => by
    rw [List.foldl_cons]
    obtain ⟨h1, h2⟩ := fold_gt M (pick gt x z)
    have hp : x.v ≤ (pick gt x z).v ∧ z.v ≤ (pick gt x z).v := by
      unfold pick gt
      split
      · next h => simp at h; omega
      · next h => simp at h; omega
    refine ⟨by omega, fun y hy => ?_⟩
    rcases List.mem_cons.1 hy with rfl | hy
    · omega
    · exact h2 y hy
theorem fold_lt : ∀ (M : List Sp) (x : Sp), (M.foldl (pick lt) x).v ≤ x.v ∧ ∀ y, y ∈ M → (M.foldl (pick lt) x).v ≤ y.v
  | [], x => ⟨Int.le_refl _, fun y hy => by cases hy⟩
  | z :: M, x => by
    rw [List.foldl_cons]
    obtain ⟨h1, h2⟩ := fold_lt M (pick lt x z)
    have hp : (pick lt x z).v ≤ x.v ∧ (pick lt x z).v ≤ z.v := by
      unfold pick lt
      split
      · next h => simp at h; omega
      · next h => simp at h; omega
    refine ⟨by omega, fun y hy => ?_⟩
    rcases List.mem_cons.1 hy with rfl | hy
    · omega
    · exact h2 y hy
theorem ext_max {M : List Sp} : ∀ y, y ∈ M → y.v ≤ (extV gt M).v := by
  intro y hy
  cases M with
  | nil => cases hy
  | cons x M =>
    obtain ⟨h1, h2⟩ := fold_gt M x
    rcases List.mem_cons.1 hy with rfl | hy
    · exact h1
    · exact h2 y hy
theorem ext_min {M : List Sp} : ∀ y, y ∈ M → (extV lt M).v ≤ y.v := by
  intro y hy
  cases M with
  | nil => cases hy
  | cons x M =>
    obtain ⟨h1, h2⟩ := fold_lt M x
    rcases List.mem_cons.1 hy with rfl | hy
    · exact h1
    · exact h2 y hy
theorem wS_zero (M : List Sp) : wS (fun _ => 0) M = 0 := by
  have := wS_mul 0 (fun _ => 1) M
  simpa using this
theorem wS_nn {g : Int → Int} {M : List Sp} (h : ∀ x, x ∈ M → x.f ≤ x.t ∧ 0 ≤ g x.v) : 0 ≤ wS g M := by
  have := wS_le (g := fun _ => 0) (h := g) h
  rw [wS_zero] at this; exact this
theorem wS_term {g : Int → Int} : ∀ {M : List Sp}, (∀ x, x ∈ M → x.f ≤ x.t ∧ 0 ≤ g x.v) → ∀ x, x ∈ M → g x.v * (x.t - x.f) ≤ wS g M
  | [], _, x, hx => by cases hx
  | y :: M, h, x, hx => by
    have h2 := fun z hz => h z (List.mem_cons_of_mem y hz)
    rw [wS_cons]
    rcases List.mem_cons.1 hx with rfl | hx
    · have := wS_nn h2; omega
    · have h3 := wS_term h2 x hx
      have h4 := h y (List.mem_cons_self ..)
      have : 0 ≤ g y.v * (y.t - y.f) := Int.mul_nonneg h4.2 (by omega)
      omega
/-- How long the value is less. -/
def ltV (q : Int) (M : List Sp) : Int := wS (fun v => if v < q then 1 else 0) M
theorem lt_share (q : Int) (M : List Sp) : ltV q M + shareV q M = wS (fun _ => 1) M := by
  unfold ltV
  rw [share_w, ← wS_add]
  exact wS_congr fun x _ => by split <;> split <;> omega
theorem le_lt (q : Int) (M : List Sp) : leV q M = ltV (q + 1) M := wS_congr fun x _ => by split <;> split <;> omega
theorem share_bd {L : List Sm} {f t : Int} (h : Cov L f t) (q : Int) : 0 ≤ shareV q (stepsV L f t) ∧ shareV q (stepsV L f t) ≤ t - f := by
  have h1 := lt_share q (stepsV L f t)
  rw [steps_len1 h] at h1
  have hk := fun x hx => steps_ok h.ok (f := f) (t := t) x hx
  have h2 : 0 ≤ ltV q (stepsV L f t) := wS_nn fun x hx => ⟨by have := (hk x hx).ft; omega, by split <;> omega⟩
  have h3 : 0 ≤ shareV q (stepsV L f t) := by rw [share_w]; exact wS_nn fun x hx => ⟨by have := (hk x hx).ft; omega, by split <;> omega⟩
  omega
theorem share_pos {L : List Sm} {f t : Int} (h : Cov L f t) {q : Int} {x : Sp} (hx : x ∈ stepsV L f t) (hq : q ≤ x.v) : 0 < shareV q (stepsV L f t) := by
  have hk := fun x hx => steps_ok h.ok (f := f) (t := t) x hx
  rw [share_w]
  have := wS_term (g := fun v => if q ≤ v then 1 else 0) (fun y hy => ⟨by have := (hk y hy).ft; omega, by split <;> omega⟩) x hx
  rw [if_pos hq] at this
  have := (hk x hx).ft
  omega
theorem q_top {L : List Sm} {f t : Int} (h : Cov L f t) : quantR (stepsV L f t) (1 * (t - f)) 1 = (extV gt (stepsV L f t)).v := by
  have h1 := quantR_is (quant_ok h (num := 1) (den := 1) (by omega) (by omega))
  refine h1.unique ⟨⟨_, ext_mem (steps_pos h), rfl⟩, ?_, fun x hx hlt => ?_⟩
  · rw [leV_top (fun x hx => Int.le_of_lt (steps_ok h.ok x hx).ft) (fun x hx => ext_max x hx), steps_len1 h]; omega
  · rw [le_lt]
    have h2 := lt_share (x.v + 1) (stepsV L f t)
    rw [steps_len1 h] at h2
    have h3 := share_pos h (q := x.v + 1) (ext_mem (b := gt) (steps_pos h)) (by omega)
    omega
theorem q_laws {L : List Sm} {f t num den : Int} (h : Cov L f t) (h1 : 1 ≤ num) (h2 : num ≤ den) :
    (0 ≤ quantR (stepsV L f t) (num * (t - f)) den ∧ quantR (stepsV L f t) (num * (t - f)) den ≤ 1000000000000) ∧
    num * (t - f) ≤ (t - f - shareV (quantR (stepsV L f t) (num * (t - f)) den + 1) (stepsV L f t)) * den ∧
    (t - f - shareV (quantR (stepsV L f t) (num * (t - f)) den) (stepsV L f t)) * den < num * (t - f) := by
  have hq := quantR_is (quant_ok h h1 h2)
  generalize quantR (stepsV L f t) (num * (t - f)) den = v at *
  obtain ⟨⟨x, hx, rfl⟩, hge, hle⟩ := hq
  have hx0 := steps_ok h.ok x hx
  refine ⟨⟨hx0.v0, hx0.v1⟩, ?_, ?_⟩
  · have h3 := lt_share (x.v + 1) (stepsV L f t)
    rw [steps_len1 h, ← le_lt] at h3
    rw [show t - f - shareV (x.v + 1) (stepsV L f t) = leV x.v (stepsV L f t) by omega]
    exact hge
  · have h3 := lt_share x.v (stepsV L f t)
    rw [steps_len1 h] at h3
    rw [show t - f - shareV x.v (stepsV L f t) = ltV x.v (stepsV L f t) by omega]
    by_cases hf : 0 < ((stepsV L f t).filter fun y => decide (y.v < x.v)).length
    · obtain ⟨z, hz, hmax⟩ := max_ex hf
      rw [List.mem_filter, decide_eq_true_eq] at hz
      have h4 := hle z hz.1 hz.2
      have h5 : ltV x.v (stepsV L f t) = leV z.v (stepsV L f t) := wS_congr fun y hy => by
        by_cases hlt : y.v < x.v
        · have := hmax y (List.mem_filter.2 ⟨hy, by simpa using hlt⟩)
          rw [if_pos hlt, if_pos this]
        · rw [if_neg hlt, if_neg (by omega)]
      rw [h5]; exact h4
    · have h5 : ltV x.v (stepsV L f t) = 0 := by
        rw [← wS_zero (stepsV L f t)]
        exact wS_congr fun y hy => by
          by_cases hlt : y.v < x.v
          · exact absurd (List.length_pos_of_mem (List.mem_filter.2 ⟨hy, by simpa using hlt⟩)) hf
          · rw [if_neg hlt]
      rw [h5, Int.zero_mul]
      exact Int.mul_pos (by omega) (by have := h.ft; omega)
theorem share_top {M : List Sp} {q : Int} (h : ∀ x, x ∈ M → x.v < q) : shareV q M = 0 := by
  rw [share_w]
  exact (wS_congr (h := fun _ => 0) fun x hx => by rw [if_neg (by have := h x hx; omega)]).trans (wS_zero M)
end Go.Proofs.YtionocafkaemiaaDoor.Sx
