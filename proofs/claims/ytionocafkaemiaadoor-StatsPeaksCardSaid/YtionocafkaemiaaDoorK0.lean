/- Plain: series, what is wrong with them, their steps. Plain: steps one by one; the greatest, the least, shares. The program's steps, one by one. Areas. -/
namespace Go.Proofs.YtionocafkaemiaaDoor.Sx

/-- A sample: from a time on, a value. -/
structure Sm where
  a : Int
  v : Int
instance : Inhabited Sm := ⟨⟨0, 0⟩⟩
def inT (t : Int) : Bool := decide (0 ≤ t) && decide (t ≤ 1000000000000)
theorem inT_iff {t : Int} : inT t = true ↔ 0 ≤ t ∧ t ≤ 1000000000000 := by unfold inT; simp
theorem inT_not {t : Int} : inT t = false ↔ ¬ (0 ≤ t ∧ t ≤ 1000000000000) := by
  rw [← inT_iff]; simp
def chkF (last : Int) : List Sm → Int
  | [] => 0
  | x :: L => if (inT x.a && inT x.v) = false then 7 else if x.a ≤ last then 6 else chkF x.a L
def checkS (L : List Sm) : Int := if 500 < L.length then 3 else chkF (-1) L
structure OkM (x : Sm) : Prop where
  a0 : 0 ≤ x.a
  a1 : x.a ≤ 1000000000000
  v0 : 0 ≤ x.v
  v1 : x.v ≤ 1000000000000
structure OkS (L : List Sm) : Prop where
  len : L.length ≤ 500
  ok : ∀ x, x ∈ L → OkM x
  asc : L.Pairwise fun x y => x.a < y.a
theorem chk_ok : ∀ (L : List Sm) (last : Int), chkF last L = 0 ↔ (∀ x, x ∈ L → OkM x ∧ last < x.a) ∧ L.Pairwise fun x y => x.a < y.a
  | [], last => by simp [chkF]
  | x :: L, last => by
    unfold chkF
    by_cases hb : (inT x.a && inT x.v) = false
    · rw [if_pos hb]
      constructor
      · intro h; cases h
      · rintro ⟨h, _⟩
        have h1 := (h x (List.mem_cons_self ..)).1
        rw [inT_iff.2 ⟨h1.a0, h1.a1⟩, inT_iff.2 ⟨h1.v0, h1.v1⟩] at hb
        cases hb
    · rw [if_neg hb]
      simp only [Bool.and_eq_false_iff, not_or, Bool.not_eq_false] at hb
      have h1 := inT_iff.1 hb.1
      have h2 := inT_iff.1 hb.2
      by_cases hl : x.a ≤ last
      · rw [if_pos hl]
        constructor
        · intro h; cases h
        · rintro ⟨h, _⟩
          have := (h x (List.mem_cons_self ..)).2
          omega
      · rw [if_neg hl, chk_ok L x.a, List.pairwise_cons]
        constructor
        · rintro ⟨h3, h4⟩
          refine ⟨fun y hy => ?_, fun y hy => (h3 y hy).2, h4⟩
          rcases List.mem_cons.1 hy with rfl | hy
          · exact ⟨⟨h1.1, h1.2, h2.1, h2.2⟩, by omega⟩
          · have := h3 y hy
            exact ⟨this.1, by omega⟩
        · rintro ⟨h3, h4, h5⟩
          exact ⟨fun y hy => ⟨(h3 y (List.mem_cons_of_mem _ hy)).1, h4 y hy⟩, h5⟩
theorem checkS_ok (L : List Sm) : checkS L = 0 ↔ OkS L := by
  unfold checkS
  split
  · exact ⟨fun h => (by cases h), fun h => by have := h.len; omega⟩
  · rw [chk_ok]
    exact ⟨fun h => ⟨by omega, fun x hx => (h.1 x hx).1, h.2⟩, fun h => ⟨fun x hx => ⟨h.ok x hx, by have := (h.ok x hx).a0; omega⟩, h.asc⟩⟩
theorem chkF_cases : ∀ (L : List Sm) (last : Int), chkF last L = 0 ∨ chkF last L = 6 ∨ chkF last L = 7
  | [], _ => .inl rfl
  | x :: L, last => by
    unfold chkF
    split
    · exact .inr (.inr rfl)
    · split
      · exact .inr (.inl rfl)
      · exact chkF_cases L x.a
abbrev sm (L : List Sm) (i : Nat) : Sm := L.getD i default
theorem sm_get {L : List Sm} {i : Nat} (h : i < L.length) : L[i]? = some (sm L i) := by
  unfold sm; rw [List.getD_eq_getElem?_getD, List.getElem?_eq_getElem h]; rfl
theorem sm_mem {L : List Sm} {i : Nat} (h : i < L.length) : sm L i ∈ L := List.mem_of_getElem? (sm_get h)
theorem sm_el {L : List Sm} {i : Nat} (h : i < L.length) : sm L i = L[i] := by
  have := sm_get h
  rw [List.getElem?_eq_getElem h] at this
  injection this with this; exact this.symm
theorem take_next {α : Type} {L : List α} {k : Nat} {u : α} (h : L[k]? = some u) : L.take (k + 1) = L.take k ++ [u] := by
  rw [List.take_add_one, h]; rfl
theorem drop_next {α : Type} {L : List α} {k : Nat} {u : α} (h : L[k]? = some u) : L.drop k = u :: L.drop (k + 1) := by
  obtain ⟨hk, rfl⟩ := List.getElem?_eq_some_iff.1 h
  exact List.drop_eq_getElem_cons hk
theorem OkS.lt {L : List Sm} (h : OkS L) {i j : Nat} (hij : i < j) (hj : j < L.length) : (sm L i).a < (sm L j).a := by
  rw [sm_el hj, sm_el (show i < L.length by omega)]
  exact (List.pairwise_iff_getElem.1 h.asc) i j (by omega) hj hij

/-! Where a time lies. -/
/-- How many samples are not behind a time. -/
def upto (L : List Sm) (t : Int) : Nat := L.countP fun x => decide (x.a ≤ t)
def idx (L : List Sm) (t : Int) : Int := (upto L t : Int) - 1
theorem upto_le (L : List Sm) (t : Int) : upto L t ≤ L.length := List.countP_le_length
/-- The place that parts what is not behind from what is. -/
theorem upto_is {L : List Sm} {t : Int} {k : Nat} (hk : k ≤ L.length) (h1 : ∀ i, i < k → (sm L i).a ≤ t) (h2 : ∀ i, k ≤ i → i < L.length → t < (sm L i).a) : upto L t = k := by
  unfold upto
  rw [← List.take_append_drop k L, List.countP_append]
  have e1 : (L.take k).countP (fun x => decide (x.a ≤ t)) = k := by
    have : (L.take k).countP (fun x => decide (x.a ≤ t)) = (L.take k).length := by
      rw [List.countP_eq_length]
      intro x hx
      obtain ⟨i, hi, rfl⟩ := List.mem_iff_getElem.1 hx
      rw [List.length_take] at hi
      have := h1 i (by omega)
      rw [sm_el (show i < L.length by omega)] at this
      rw [List.getElem_take]; simpa using this
    rw [this, List.length_take]; omega
  have e2 : (L.drop k).countP (fun x => decide (x.a ≤ t)) = 0 := by
    rw [List.countP_eq_zero]
    intro x hx
    obtain ⟨i, hi, rfl⟩ := List.mem_iff_getElem.1 hx
    rw [List.length_drop] at hi
    have := h2 (k + i) (by omega) (by omega)
    rw [sm_el (show k + i < L.length by omega)] at this
    rw [List.getElem_drop]; simp; omega
  omega
theorem upto_at {L : List Sm} (h : L.Pairwise fun x y => x.a < y.a) (t : Int) : (∀ i, i < upto L t → (sm L i).a ≤ t) ∧ (∀ i, upto L t ≤ i → i < L.length → t < (sm L i).a) := by
  have hlt : ∀ {i j : Nat}, i < j → j < L.length → (sm L i).a < (sm L j).a := fun {i j} hij hj => by
    rw [sm_el hj, sm_el (show i < L.length by omega)]
    exact (List.pairwise_iff_getElem.1 h) i j (by omega) hj hij
  have key : ∀ n, n ≤ L.length → ∃ k, k ≤ n ∧ (∀ i, i < k → (sm L i).a ≤ t) ∧ (∀ i, k ≤ i → i < n → t < (sm L i).a) := by
    intro n
    induction n with
    | zero => exact fun _ => ⟨0, Nat.le_refl _, fun i hi => by omega, fun i _ hi => by omega⟩
    | succ n ih =>
      intro hn
      obtain ⟨k, h1, h2, h3⟩ := ih (by omega)
      by_cases hk : k = n
      · by_cases ht : (sm L n).a ≤ t
        · exact ⟨n + 1, Nat.le_refl _, fun i hi => by
            rcases Nat.lt_or_ge i n with h4 | h4
            · exact h2 i (by omega)
            · obtain rfl : i = n := by omega
              exact ht, fun i _ _ => by omega⟩
        · exact ⟨n, by omega, fun i hi => h2 i (by omega), fun i h4 h5 => by
            obtain rfl : i = n := by omega
            omega⟩
      · refine ⟨k, by omega, h2, fun i h4 h5 => ?_⟩
        rcases Nat.lt_or_ge i n with h6 | h6
        · exact h3 i h4 h6
        · obtain rfl : i = n := by omega
          have := h3 k (Nat.le_refl _) (by omega)
          have := hlt (i := k) (j := i) (by omega) (by omega)
          omega
  obtain ⟨k, h1, h2, h3⟩ := key L.length (Nat.le_refl _)
  rw [upto_is h1 h2 h3]
  exact ⟨h2, h3⟩
/-- The error of a series and an interval. -/
def askS (L : List Sm) (f t : Int) : Int := if checkS L ≠ 0 then checkS L else if (inT f && inT t && decide (f < t)) = false then 7 else if idx L f < 0 then 4 else 0
structure Cov (L : List Sm) (f t : Int) : Prop where
  ok : OkS L
  f0 : 0 ≤ f
  ft : f < t
  t1 : t ≤ 1000000000000
  cov : 0 < upto L f
theorem ask_cov {L : List Sm} {f t : Int} : askS L f t = 0 ↔ Cov L f t := by
  unfold askS
  by_cases h1 : checkS L ≠ 0
  · rw [if_pos h1]
    exact ⟨fun h => absurd h h1, fun h => (checkS_ok L).2 h.ok⟩
  · rw [if_neg h1]
    have hok := (checkS_ok L).1 (Classical.not_not.1 h1)
    by_cases h2 : (inT f && inT t && decide (f < t)) = false
    · rw [if_pos h2]
      refine ⟨fun h => (by cases h), fun h => ?_⟩
      rw [inT_iff.2 ⟨h.f0, by have := h.ft; have := h.t1; omega⟩, inT_iff.2 ⟨by have := h.ft; have := h.f0; omega, h.t1⟩, decide_eq_true h.ft] at h2
      cases h2
    · rw [if_neg h2]
      simp only [Bool.not_eq_false, Bool.and_eq_true, decide_eq_true_eq] at h2
      have a1 := inT_iff.1 h2.1.1
      have a2 := inT_iff.1 h2.1.2
      unfold idx
      split
      · exact ⟨fun h => (by cases h), fun h => by have := h.cov; omega⟩
      · exact ⟨fun _ => ⟨hok, a1.1, h2.2, a2.2, by omega⟩, fun _ => rfl⟩
/-- A part of an interval with one value. -/
structure Sp where
  f : Int
  t : Int
  v : Int
instance : Inhabited Sp := ⟨⟨0, 0, 0⟩⟩
/-- The end of a sample's time. -/
def nxtA (t : Int) : List Sm → Int
  | [] => t
  | y :: _ => min t y.a
theorem nxtA_le (t : Int) (L : List Sm) : nxtA t L ≤ t := by
  cases L with
  | nil => exact Int.le_refl _
  | cons y L => show min t y.a ≤ t; omega
def refSteps (f t : Int) : List Sm → List Sp
  | [] => []
  | x :: L => (if max f x.a < nxtA t L then [⟨max f x.a, nxtA t L, x.v⟩] else []) ++ refSteps f t L
/-- The program's way: from the sample at the beginning on. -/
def runSteps (f t : Int) : List Sm → List Sp
  | [] => []
  | x :: L => if x.a < t then ⟨max x.a f, nxtA t L, x.v⟩ :: runSteps f t L else []
theorem ref_none {f t : Int} : ∀ {L : List Sm}, (∀ x, x ∈ L → t ≤ x.a) → refSteps f t L = []
  | [], _ => rfl
  | x :: L, h => by
    have h1 := h x (List.mem_cons_self ..)
    have h2 : nxtA t L ≤ t := nxtA_le t L
    unfold refSteps
    rw [if_neg (by omega), ref_none fun y hy => h y (List.mem_cons_of_mem _ hy)]; rfl
theorem run_ref {f t : Int} (hft : f < t) : ∀ {L : List Sm}, (L.Pairwise fun x y => x.a < y.a) → (∀ y, y ∈ L.tail → f < y.a) → runSteps f t L = refSteps f t L
  | [], _, _ => rfl
  | x :: L, hp, hf => by
    obtain ⟨h1, h2⟩ := List.pairwise_cons.1 hp
    unfold runSteps refSteps
    by_cases hx : x.a < t
    · rw [if_pos hx]
      have hn : max f x.a < nxtA t L := by
        cases L with
        | nil => show max f x.a < t; omega
        | cons y L =>
          have h3 := h1 y (List.mem_cons_self ..)
          have h4 := hf y (List.mem_cons_self ..)
          show max f x.a < min t y.a
          omega
      rw [if_pos hn, run_ref hft h2 fun y hy => hf y (List.mem_of_mem_tail hy), Int.max_comm]; rfl
    · rw [if_neg hx]
      symm
      have := ref_none (f := f) (t := t) (L := x :: L) fun y hy => by
        rcases List.mem_cons.1 hy with rfl | hy
        · omega
        · have := h1 y hy; omega
      exact this
theorem ref_skip {f t : Int} : ∀ {M L : List Sm}, (∀ y, y ∈ M.tail → y.a ≤ f) → (∀ y, L.head? = some y → y.a ≤ f) → (M ≠ [] → L ≠ []) → refSteps f t (M ++ L) = refSteps f t L
  | [], _, _, _, _ => rfl
  | x :: M, L, h1, h2, h3 => by
    have hn : nxtA t (M ++ L) ≤ f := by
      cases M with
      | nil =>
        cases L with
        | nil => exact absurd rfl (h3 (by simp))
        | cons y L => have := h2 y rfl; show min t y.a ≤ f; omega
      | cons y M => have := h1 y (List.mem_cons_self ..); show min t y.a ≤ f; omega
    show (if max f x.a < nxtA t (M ++ L) then _ else _) ++ refSteps f t (M ++ L) = _
    rw [if_neg (by omega), ref_skip (M := M) (fun y hy => h1 y (List.mem_of_mem_tail hy)) h2 fun _ => h3 (by simp)]; rfl
/-- The steps of a covered interval. -/
def stepsV (L : List Sm) (f t : Int) : List Sp := refSteps f t L
theorem steps_run {L : List Sm} {f t : Int} (h : Cov L f t) : runSteps f t (L.drop (upto L f - 1)) = stepsV L f t := by
  obtain ⟨u1, u2⟩ := upto_at h.ok.asc f
  have hc := h.cov
  have hl := upto_le L f
  have hp : (L.drop (upto L f - 1)).Pairwise fun x y => x.a < y.a := h.ok.asc.sublist (List.drop_sublist _ _)
  have hne : upto L f - 1 < L.length := by omega
  have hd := drop_next (sm_get hne)
  rw [run_ref h.ft hp]
  · unfold stepsV
    rw [← List.take_append_drop (upto L f - 1) L]
    rw [show (L.take (upto L f - 1) ++ L.drop (upto L f - 1)).drop (upto (L.take (upto L f - 1) ++ L.drop (upto L f - 1)) f - 1) = L.drop (upto L f - 1) by rw [List.take_append_drop]]
    rw [ref_skip]
    · intro y hy
      have hm := List.mem_of_mem_tail hy
      obtain ⟨i, hi, rfl⟩ := List.mem_iff_getElem.1 hm
      rw [List.length_take] at hi
      have := u1 i (by omega)
      rw [sm_el (show i < L.length by omega)] at this
      rw [List.getElem_take]; exact this
    · intro y hy
      rw [hd] at hy
      injection hy with hy
      rw [← hy]; exact u1 _ (by omega)
    · intro _ e
      rw [hd] at e; cases e
  · intro y hy
    rw [hd] at hy
    have hy : y ∈ L.drop (upto L f - 1 + 1) := hy
    obtain ⟨i, hi, rfl⟩ := List.mem_iff_getElem.1 hy
    rw [List.length_drop] at hi
    have := u2 (upto L f - 1 + 1 + i) (by omega) (by omega)
    rw [sm_el (show upto L f - 1 + 1 + i < L.length by omega)] at this
    rw [List.getElem_drop]; exact this
end Go.Proofs.YtionocafkaemiaaDoor.Sx
namespace Go.Proofs.YtionocafkaemiaaDoor.Sx

/-- The end of a sample's time, by its place. -/
def nxtI (L : List Sm) (t : Int) (i : Nat) : Int := if i + 1 < L.length then min t (sm L (i + 1)).a else t
def stepAt (L : List Sm) (f t : Int) (i : Nat) : List Sp := if max f (sm L i).a < nxtI L t i then [⟨max f (sm L i).a, nxtI L t i, (sm L i).v⟩] else []
def stK (L : List Sm) (f t : Int) : Nat → List Sp
  | 0 => []
  | k + 1 => stK L f t k ++ stepAt L f t k
theorem nxt_is (L : List Sm) (t : Int) (k : Nat) : nxtA t (L.drop (k + 1)) = nxtI L t k := by
  unfold nxtI
  by_cases h : k + 1 < L.length
  · rw [if_pos h, drop_next (sm_get h)]; rfl
  · rw [if_neg h, List.drop_eq_nil_of_le (by omega)]; rfl
theorem stK_drop (L : List Sm) (f t : Int) : ∀ k, k ≤ L.length → stK L f t k ++ refSteps f t (L.drop k) = refSteps f t L
  | 0, _ => rfl
  | k + 1, hk => by
    rw [← stK_drop L f t k (by omega), drop_next (sm_get (show k < L.length by omega))]
    show (stK L f t k ++ stepAt L f t k) ++ _ = stK L f t k ++ ((if max f (sm L k).a < nxtA t (L.drop (k + 1)) then [⟨max f (sm L k).a, nxtA t (L.drop (k + 1)), (sm L k).v⟩] else []) ++ _)
    rw [nxt_is, List.append_assoc]; rfl
theorem stK_all (L : List Sm) (f t : Int) : stK L f t L.length = stepsV L f t := by
  have := stK_drop L f t L.length (Nat.le_refl _)
  rw [List.drop_length] at this
  unfold stepsV
  rw [← this]; simp [refSteps]
theorem stK_len (L : List Sm) (f t : Int) : ∀ k, (stK L f t k).length ≤ k
  | 0 => Nat.le_refl _
  | k + 1 => by
    have := stK_len L f t k
    show (stK L f t k ++ stepAt L f t k).length ≤ k + 1
    rw [List.length_append]
    unfold stepAt
    split <;> simp <;> omega
theorem steps_len (L : List Sm) (f t : Int) : (stepsV L f t).length ≤ L.length := by rw [← stK_all]; exact stK_len L f t _
/-- A step of a covered interval. -/
structure OkP (f t : Int) (x : Sp) : Prop where
  f0 : f ≤ x.f
  ft : x.f < x.t
  t1 : x.t ≤ t
  v0 : 0 ≤ x.v
  v1 : x.v ≤ 1000000000000
theorem ref_ok {f t : Int} : ∀ {L : List Sm}, (∀ x, x ∈ L → OkM x) → ∀ x, x ∈ refSteps f t L → OkP f t x
  | [], _, x, hx => by cases hx
  | y :: L, h, x, hx => by
    have hy := h y (List.mem_cons_self ..)
    rcases List.mem_append.1 (show x ∈ (if max f y.a < nxtA t L then [(⟨max f y.a, nxtA t L, y.v⟩ : Sp)] else []) ++ refSteps f t L from hx) with h1 | h1
    · split at h1
      · next h2 =>
        rw [List.mem_singleton] at h1
        subst h1
        exact ⟨by dsimp only; omega, h2, nxtA_le t L, hy.v0, hy.v1⟩
      · cases h1
    · exact ref_ok (fun z hz => h z (List.mem_cons_of_mem _ hz)) x h1
theorem steps_ok {L : List Sm} (hs : OkS L) {f t : Int} : ∀ x, x ∈ stepsV L f t → OkP f t x := ref_ok hs.ok
theorem steps_pos {L : List Sm} {f t : Int} (h : Cov L f t) : 0 < (stepsV L f t).length := by
  rw [← steps_run h]
  have hc := h.cov
  have hl := upto_le L f
  have hu := (upto_at h.ok.asc f).1 (upto L f - 1) (by omega)
  have hft := h.ft
  rw [drop_next (sm_get (show upto L f - 1 < L.length by omega))]
  unfold runSteps
  rw [if_pos (by omega)]; simp
abbrev sp (M : List Sp) (i : Nat) : Sp := M.getD i default
theorem sp_get {M : List Sp} {i : Nat} (h : i < M.length) : M[i]? = some (sp M i) := by
  unfold sp; rw [List.getD_eq_getElem?_getD, List.getElem?_eq_getElem h]; rfl
theorem sp_mem {M : List Sp} {i : Nat} (h : i < M.length) : sp M i ∈ M := List.mem_of_getElem? (sp_get h)
/-- The first one than which no other one is better. -/
def pick (b : Int → Int → Bool) (x y : Sp) : Sp := if b y.v x.v = true then y else x
def extV (b : Int → Int → Bool) : List Sp → Sp
  | [] => default
  | x :: M => M.foldl (pick b) x
theorem ext_ref {b : Int → Int → Bool} (hb : ∀ v, b v v = false) : ∀ M : List Sp, M.foldl (pick b) (sp M 0) = extV b M
  | [] => rfl
  | x :: M => by
    show M.foldl (pick b) (pick b x x) = M.foldl (pick b) x
    unfold pick
    rw [if_neg (by rw [hb]; simp)]
theorem pick_mem {b : Int → Int → Bool} : ∀ {M : List Sp} {x : Sp}, M.foldl (pick b) x = x ∨ M.foldl (pick b) x ∈ M
  | [], x => .inl rfl
  | y :: M, x => by
    rw [List.foldl_cons]
    have hp : pick b x y = x ∨ pick b x y = y := by unfold pick; split <;> simp
    rcases pick_mem (b := b) (M := M) (x := pick b x y) with h1 | h1
    · rw [h1]
      rcases hp with h2 | h2
      · exact .inl h2
      · right; rw [h2]; exact List.mem_cons_self ..
    · exact .inr (List.mem_cons_of_mem _ h1)
theorem ext_mem {b : Int → Int → Bool} {M : List Sp} (h : 0 < M.length) : extV b M ∈ M := by
  cases M with
  | nil => simp at h
  | cons x M =>
    rcases pick_mem (b := b) (M := M) (x := x) with h1 | h1
    · show M.foldl (pick b) x ∈ _
      rw [h1]; exact List.mem_cons_self ..
    · exact List.mem_cons_of_mem _ h1
def gt (a b : Int) : Bool := decide (b < a)
def lt (a b : Int) : Bool := decide (a < b)
/-- Peak and Low. -/
def extS (b : Int → Int → Bool) (L : List Sm) (f t : Int) : Sm × Int := if askS L f t ≠ 0 then (⟨0, 0⟩, askS L f t) else (⟨(extV b (stepsV L f t)).f, (extV b (stepsV L f t)).v⟩, 0)
/-- How long a value is at least so great. -/
def shareV (bd : Int) (M : List Sp) : Int := (M.map fun x => if bd ≤ x.v then x.t - x.f else 0).sum
def shareS (L : List Sm) (f t bd : Int) : Int × Int := if askS L f t ≠ 0 then (0, askS L f t) else if inT bd = false then (0, 7) else (shareV bd (stepsV L f t), 0)
theorem sum_add1 {α : Type} (f : α → Int) (l : List α) (x : α) : ((l ++ [x]).map f).sum = (l.map f).sum + f x := by
  rw [List.map_append, List.sum_append]; simp
theorem sum_bd {α : Type} {f : α → Int} {B : Int} : ∀ {l : List α}, (∀ x, x ∈ l → 0 ≤ f x ∧ f x ≤ B) → 0 ≤ (l.map f).sum ∧ (l.map f).sum ≤ B * (l.length : Int)
  | [], _ => by simp
  | x :: l, h => by
    have h1 := h x (List.mem_cons_self ..)
    have h2 := sum_bd fun y hy => h y (List.mem_cons_of_mem _ hy)
    rw [List.map_cons, List.sum_cons, List.length_cons, Int.natCast_add, Int.mul_add]
    simp only [Int.natCast_one, Int.mul_one]
    omega
theorem mul_bd {a b A B : Int} (ha : 0 ≤ a) (hb : 0 ≤ b) (hA : a ≤ A) (hB : b ≤ B) : 0 ≤ a * b ∧ a * b ≤ A * B :=
  ⟨Int.mul_nonneg ha hb, Int.le_trans (Int.mul_le_mul_of_nonneg_right hA hb) (Int.mul_le_mul_of_nonneg_left hB (by omega))⟩
end Go.Proofs.YtionocafkaemiaaDoor.Sx
namespace Go.Proofs.YtionocafkaemiaaDoor.Sx

theorem run_at {f t : Int} : ∀ (L : List Sm) (k : Nat), k ≤ (runSteps f t L).length → ((k < (runSteps f t L).length ↔ k < L.length ∧ (sm L k).a < t) ∧ (k < (runSteps f t L).length → sp (runSteps f t L) k = ⟨max (sm L k).a f, nxtI L t k, (sm L k).v⟩))
  | [], k, h => by simp [runSteps]
  | x :: L, k, h => by
    by_cases hx : x.a < t
    · have e : runSteps f t (x :: L) = ⟨max x.a f, nxtA t L, x.v⟩ :: runSteps f t L := by rw [runSteps, if_pos hx]
      rw [e] at h ⊢
      cases k with
      | zero =>
        refine ⟨⟨fun _ => ⟨by simp, hx⟩, fun _ => by simp⟩, fun _ => ?_⟩
        cases L with
        | nil => rfl
        | cons y L => 
          show (⟨_, _, _⟩ : Sp) = ⟨_, _, _⟩
          simp [nxtI, sm, nxtA]
      | succ k =>
        obtain ⟨h1, h2⟩ := run_at L k (by simpa using h)
        have e1 : sm (x :: L) (k + 1) = sm L k := rfl
        have e2 : ∀ (y : Sp) (M : List Sp), sp (y :: M) (k + 1) = sp M k := fun _ _ => rfl
        have e3 : nxtI (x :: L) t (k + 1) = nxtI L t k := by unfold nxtI; simp [sm]
        rw [e1, e2, e3]
        simp only [List.length_cons, Nat.add_lt_add_iff_right]
        exact ⟨h1, h2⟩
    · have e : runSteps f t (x :: L) = [] := by rw [runSteps, if_neg hx]
      rw [e] at h ⊢
      obtain rfl : k = 0 := by simpa using h
      refine ⟨⟨fun h => by simp at h, fun h => absurd h.2 hx⟩, fun h => by simp at h⟩
/-- The steps of a covered interval, as the program finds them. -/
theorem step_at {L : List Sm} {f t : Int} (h : Cov L f t) {k : Nat} (hk : k ≤ (stepsV L f t).length) : ((k < (stepsV L f t).length ↔ upto L f - 1 + k < L.length ∧ (sm L (upto L f - 1 + k)).a < t) ∧ (k < (stepsV L f t).length → sp (stepsV L f t) k = ⟨max (sm L (upto L f - 1 + k)).a f, nxtI L t (upto L f - 1 + k), (sm L (upto L f - 1 + k)).v⟩)) := by
  have e := steps_run h
  rw [← e] at hk ⊢
  obtain ⟨h1, h2⟩ := run_at (f := f) (t := t) _ k hk
  have hl := upto_le L f
  have hc := h.cov
  have s1 : ∀ i, sm (L.drop (upto L f - 1)) i = sm L (upto L f - 1 + i) := fun i => by unfold sm; simp
  have s2 : nxtI (L.drop (upto L f - 1)) t k = nxtI L t (upto L f - 1 + k) := by
    unfold nxtI
    rw [s1, List.length_drop, Nat.add_assoc]
    by_cases hh : upto L f - 1 + (k + 1) < L.length
    · rw [if_pos hh, if_pos (by omega)]
    · rw [if_neg hh, if_neg (by omega)]
  rw [s1, s2] at h2
  rw [s1, List.length_drop] at h1
  refine ⟨?_, h2⟩
  rw [h1]
  constructor
  · rintro ⟨a, b⟩; exact ⟨by omega, b⟩
  · rintro ⟨a, b⟩; exact ⟨by omega, b⟩
end Go.Proofs.YtionocafkaemiaaDoor.Sx
namespace Go.Proofs.YtionocafkaemiaaDoor.Sx

/-- An area: h times 10^12 and l. -/
structure Ar where
  h : Int
  l : Int
theorem ar_ext {a b : Ar} : a = b ↔ a.h = b.h ∧ a.l = b.l := by
  obtain ⟨x, y⟩ := a
  obtain ⟨z, w⟩ := b
  simp
instance : DecidableEq Ar := fun _ _ => decidable_of_iff _ ar_ext.symm
def plusV (a b : Ar) : Ar := ⟨a.h + b.h + (a.l + b.l) / 1000000000000, (a.l + b.l) % 1000000000000⟩
/-- An area's value. -/
def Ar.val (a : Ar) : Int := a.h * 1000000000000 + a.l
/-- An area that is written in the one way. -/
structure Ar.Ok (a : Ar) (B : Int) : Prop where
  h0 : 0 ≤ a.h
  h1 : a.h ≤ B
  l0 : 0 ≤ a.l
  l1 : a.l < 1000000000000
theorem plus_val (a b : Ar) : (plusV a b).val = a.val + b.val := by
  unfold plusV Ar.val
  dsimp only
  have := Int.mul_ediv_add_emod (a.l + b.l) 1000000000000
  omega
theorem plus_okV {a b : Ar} {A B : Int} (ha : a.Ok A) (hb : b.Ok B) : (plusV a b).Ok (A + B + 1) := by
  have := ha.h0; have := ha.h1; have := ha.l0; have := ha.l1
  have := hb.h0; have := hb.h1; have := hb.l0; have := hb.l1
  unfold plusV
  exact ⟨by dsimp only; omega, by dsimp only; omega, by dsimp only; omega, by dsimp only; omega⟩
/-- Two areas of one value are one. -/
theorem ar_eq {a b : Ar} {A B : Int} (ha : a.Ok A) (hb : b.Ok B) (h : a.val = b.val) : a = b := by
  have := ha.l0; have := ha.l1
  have := hb.l0; have := hb.l1
  unfold Ar.val at h
  obtain ⟨ah, al⟩ := a
  obtain ⟨bh, bl⟩ := b
  dsimp only at *
  have : ah = bh := by omega
  subst this
  have : al = bl := by omega
  subst this
  rfl
/-- The product of a value and a length. -/
def prodV (v n : Int) : Ar := ⟨v * n / 1000000000000, v * n % 1000000000000⟩
theorem prod_val (v n : Int) : (prodV v n).val = v * n := by
  unfold prodV Ar.val
  dsimp only
  have := Int.mul_ediv_add_emod (v * n) 1000000000000
  omega
end Go.Proofs.YtionocafkaemiaaDoor.Sx
