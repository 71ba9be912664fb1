/- Plain: series, what is wrong with them, their steps. Plain: steps one by one; the greatest, the least, shares. The program's steps, one by one. Areas. Envelopes: runs of samples, the least area by a table. Envelopes: which one is preferred; all of them are tried. -/
namespace Go.Proofs.YtionocafkaemiaaDoor.Sx

/-- A sample: from a time on, a value. -/
structure Sm where
  a : Int
  v : Int
instance : Inhabited Sm := ⟨⟨0, 0⟩⟩
def inT (t : Int) : Bool := decide (0 ≤ t) && decide (t ≤ 1000000000000)
theorem inT_iff {t : Int} : inT t = true ↔ 0 ≤ t ∧ t ≤ 1000000000000 := by unfold inT; simp
theorem inT_not {t : Int} : inT t = false ↔ ¬ (0 ≤ t ∧ t ≤ 1000000000000) := by
  rw [← inT_iff]; simp
def chkF (last : Int) : List Sm → Int
  | [] => 0
  | x :: L => if (inT x.a && inT x.v) = false then 7 else if x.a ≤ last then 6 else chkF x.a L
def checkS (L : List Sm) : Int := if 500 < L.length then 3 else chkF (-1) L
structure OkM (x : Sm) : Prop where
  a0 : 0 ≤ x.a
  a1 : x.a ≤ 1000000000000
  v0 : 0 ≤ x.v
  v1 : x.v ≤ 1000000000000
structure OkS (L : List Sm) : Prop where
  len : L.length ≤ 500
  ok : ∀ x, x ∈ L → OkM x
  asc : L.Pairwise fun x y => x.a < y.a
theorem chk_ok : ∀ (L : List Sm) (last : Int), chkF last L = 0 ↔ (∀ x, x ∈ L → OkM x ∧ last < x.a) ∧ L.Pairwise fun x y => x.a < y.a
  | [], last => by simp [chkF]
  | x :: L, last => by
    unfold chkF
    by_cases hb : (inT x.a && inT x.v) = false
    · rw [if_pos hb]
      constructor
      · intro h; cases h
      · rintro ⟨h, _⟩
        have h1 := (h x (List.mem_cons_self ..)).1
        rw [inT_iff.2 ⟨h1.a0, h1.a1⟩, inT_iff.2 ⟨h1.v0, h1.v1⟩] at hb
        cases hb
    · rw [if_neg hb]
      simp only [Bool.and_eq_false_iff, not_or, Bool.not_eq_false] at hb
      have h1 := inT_iff.1 hb.1
      have h2 := inT_iff.1 hb.2
      by_cases hl : x.a ≤ last
      · rw [if_pos hl]
        constructor
        · intro h; cases h
        · rintro ⟨h, _⟩
          have := (h x (List.mem_cons_self ..)).2
          omega
      · rw [if_neg hl, chk_ok L x.a, List.pairwise_cons]
        constructor
        · rintro ⟨h3, h4⟩
          refine ⟨fun y hy => ?_, fun y hy => (h3 y hy).2, h4⟩
          rcases List.mem_cons.1 hy with rfl | hy
          · exact ⟨⟨h1.1, h1.2, h2.1, h2.2⟩, by omega⟩
          · have := h3 y hy
            exact ⟨this.1, by omega⟩
        · rintro ⟨h3, h4, h5⟩
          exact ⟨fun y hy => ⟨(h3 y (List.mem_cons_of_mem _ hy)).1, h4 y hy⟩, h5⟩
theorem checkS_ok (L : List Sm) : checkS L = 0 ↔ OkS L := by
  unfold checkS
  split
  · exact ⟨fun h => (by cases h), fun h => by have := h.len; omega⟩
  · rw [chk_ok]
    exact ⟨fun h => ⟨by omega, fun x hx => (h.1 x hx).1, h.2⟩, fun h => ⟨fun x hx => ⟨h.ok x hx, by have := (h.ok x hx).a0; omega⟩, h.asc⟩⟩
theorem chkF_cases : ∀ (L : List Sm) (last : Int), chkF last L = 0 ∨ chkF last L = 6 ∨ chkF last L = 7
  | [], _ => .inl rfl
  | x :: L, last => by
    unfold chkF
    split
    · exact .inr (.inr rfl)
    · split
      · exact .inr (.inl rfl)
      · exact chkF_cases L x.a
abbrev sm (L : List Sm) (i : Nat) : Sm := L.getD i default
theorem sm_get {L : List Sm} {i : Nat} (h : i < L.length) : L[i]? = some (sm L i) := by
  unfold sm; rw [List.getD_eq_getElem?_getD, List.getElem?_eq_getElem h]; rfl
theorem sm_mem {L : List Sm} {i : Nat} (h : i < L.length) : sm L i ∈ L := List.mem_of_getElem? (sm_get h)
theorem sm_el {L : List Sm} {i : Nat} (h : i < L.length) : sm L i = L[i] := by
  have := sm_get h
  rw [List.getElem?_eq_getElem h] at this
  injection this with this; exact this.symm
theorem take_next {α : Type} {L : List α} {k : Nat} {u : α} (h : L[k]? = some u) : L.take (k + 1) = L.take k ++ [u] := by
  rw [List.take_add_one, h]; rfl
theorem drop_next {α : Type} {L : List α} {k : Nat} {u : α} (h : L[k]? = some u) : L.drop k = u :: L.drop (k + 1) := by
  obtain ⟨hk, rfl⟩ := List.getElem?_eq_some_iff.1 h
  exact List.drop_eq_getElem_cons hk
theorem OkS.lt {L : List Sm} (h : OkS L) {i j : Nat} (hij : i < j) (hj : j < L.length) : (sm L i).a < (sm L j).a := by
  rw [sm_el hj, sm_el (show i < L.length by omega)]
  exact (List.pairwise_iff_getElem.1 h.asc) i j (by omega) hj hij

/-! Where a time lies. -/
/-- How many samples are not behind a time. -/
def upto (L : List Sm) (t : Int) : Nat := L.countP fun x => decide (x.a ≤ t)
def idx (L : List Sm) (t : Int) : Int := (upto L t : Int) - 1
theorem upto_le (L : List Sm) (t : Int) : upto L t ≤ L.length := List.countP_le_length
/-- The place that parts what is not behind from what is. -/
theorem upto_is {L : List Sm} {t : Int} {k : Nat} (hk : k ≤ L.length) (h1 : ∀ i, i < k → (sm L i).a ≤ t) (h2 : ∀ i, k ≤ i → i < L.length → t < (sm L i).a) : upto L t = k := by
  unfold upto
  rw [← List.take_append_drop k L, List.countP_append]
  have e1 : (L.take k).countP (fun x => decide (x.a ≤ t)) = k := by
    have : (L.take k).countP (fun x => decide (x.a ≤ t)) = (L.take k).length := by
      rw [List.countP_eq_length]
      intro x hx
      obtain ⟨i, hi, rfl⟩ := List.mem_iff_getElem.1 hx
      rw [List.length_take] at hi
      have := h1 i (by omega)
      rw [sm_el (show i < L.length by omega)] at this
      rw [List.getElem_take]; simpa using this
    rw [this, List.length_take]; omega
  have e2 : (L.drop k).countP (fun x => decide (x.a ≤ t)) = 0 := by
    rw [List.countP_eq_zero]
    intro x hx
    obtain ⟨i, hi, rfl⟩ := List.mem_iff_getElem.1 hx
    rw [List.length_drop] at hi
    have := h2 (k + i) (by omega) (by omega)
    rw [sm_el (show k + i < L.length by omega)] at this
    rw [List.getElem_drop]; simp; omega
  omega
theorem upto_at {L : List Sm} (h : L.Pairwise fun x y => x.a < y.a) (t : Int) : (∀ i, i < upto L t → (sm L i).a ≤ t) ∧ (∀ i, upto L t ≤ i → i < L.length → t < (sm L i).a) := by
  have hlt : ∀ {i j : Nat}, i < j → j < L.length → (sm L i).a < (sm L j).a := fun {i j} hij hj => by
    rw [sm_el hj, sm_el (show i < L.length by omega)]
    exact (List.pairwise_iff_getElem.1 h) i j (by omega) hj hij
  have key : ∀ n, n ≤ L.length → ∃ k, k ≤ n ∧ (∀ i, i < k → (sm L i).a ≤ t) ∧ (∀ i, k ≤ i → i < n → t < (sm L i).a) := by
    intro n
    induction n with
    | zero => exact fun _ => ⟨0, Nat.le_refl _, fun i hi => by omega, fun i _ hi => by omega⟩
    | succ n ih =>
      intro hn
      obtain ⟨k, h1, h2, h3⟩ := ih (by omega)
      by_cases hk : k = n
      · by_cases ht : (sm L n).a ≤ t
        · exact ⟨n + 1, Nat.le_refl _, fun i hi => by
            rcases Nat.lt_or_ge i n with h4 | h4
            · exact h2 i (by omega)
            · obtain rfl : i = n := by omega
              exact ht, fun i _ _ => by omega⟩
        · exact ⟨n, by omega, fun i hi => h2 i (by omega), fun i h4 h5 => by
            obtain rfl : i = n := by omega
            omega⟩
      · refine ⟨k, by omega, h2, fun i h4 h5 => ?_⟩
        rcases Nat.lt_or_ge i n with h6 | h6
        · exact h3 i h4 h6
        · obtain rfl : i = n := by omega
          have := h3 k (Nat.le_refl _) (by omega)
          have := hlt (i := k) (j := i) (by omega) (by omega)
          omega
  obtain ⟨k, h1, h2, h3⟩ := key L.length (Nat.le_refl _)
  rw [upto_is h1 h2 h3]
  exact ⟨h2, h3⟩
/-- The error of a series and an interval. -/
def askS (L : List Sm) (f t : Int) : Int := if checkS L ≠ 0 then checkS L else if (inT f && inT t && decide (f < t)) = false then 7 else if idx L f < 0 then 4 else 0
structure Cov (L : List Sm) (f t : Int) : Prop where
  ok : OkS L
  f0 : 0 ≤ f
  ft : f < t
  t1 : t ≤ 1000000000000
  cov : 0 < upto L f
theorem ask_cov {L : List Sm} {f t : Int} : askS L f t = 0 ↔ Cov L f t := by
  unfold askS
  by_cases h1 : checkS L ≠ 0
  · rw [if_pos h1]
    exact ⟨fun h => absurd h h1, fun h => (checkS_ok L).2 h.ok⟩
  · rw [if_neg h1]
    have hok := (checkS_ok L).1 (Classical.not_not.1 h1)
    by_cases h2 : (inT f && inT t && decide (f < t)) = false
    · rw [if_pos h2]
      refine ⟨fun h => (by cases h), fun h => ?_⟩
      rw [inT_iff.2 ⟨h.f0, by have := h.ft; have := h.t1; omega⟩, inT_iff.2 ⟨by have := h.ft; have := h.f0; omega, h.t1⟩, decide_eq_true h.ft] at h2
      cases h2
    · rw [if_neg h2]
      simp only [Bool.not_eq_false, Bool.and_eq_true, decide_eq_true_eq] at h2
      have a1 := inT_iff.1 h2.1.1
      have a2 := inT_iff.1 h2.1.2
      unfold idx
      split
      · exact ⟨fun h => (by cases h), fun h => by have := h.cov; omega⟩
      · exact ⟨fun _ => ⟨hok, a1.1, h2.2, a2.2, by omega⟩, fun _ => rfl⟩
/-- A part of an interval with one value. -/
structure Sp where
  f : Int
  t : Int
  v : Int
instance : Inhabited Sp := ⟨⟨0, 0, 0⟩⟩
/-- The end of a sample's time. -/
def nxtA (t : Int) : List Sm → Int
  | [] => t
  | y :: _ => min t y.a
theorem nxtA_le (t : Int) (L : List Sm) : nxtA t L ≤ t := by
  cases L with
  | nil => exact Int.le_refl _
  | cons y L => show min t y.a ≤ t; omega
def refSteps (f t : Int) : List Sm → List Sp
  | [] => []
  | x :: L => (if max f x.a < nxtA t L then [⟨max f x.a, nxtA t L, x.v⟩] else []) ++ refSteps f t L
/-- The program's way: from the sample at the beginning on. -/
def runSteps (f t : Int) : List Sm → List Sp
  | [] => []
  | x :: L => if x.a < t then ⟨max x.a f, nxtA t L, x.v⟩ :: runSteps f t L else []
theorem ref_none {f t : Int} : ∀ {L : List Sm}, (∀ x, x ∈ L → t ≤ x.a) → refSteps f t L = []
  | [], _ => rfl
  | x :: L, h => by
    have h1 := h x (List.mem_cons_self ..)
    have h2 : nxtA t L ≤ t := nxtA_le t L
    unfold refSteps
    rw [if_neg (by omega), ref_none fun y hy => h y (List.mem_cons_of_mem _ hy)]; rfl
theorem run_ref {f t : Int} (hft : f < t) : ∀ {L : List Sm}, (L.Pairwise fun x y => x.a < y.a) → (∀ y, y ∈ L.tail → f < y.a) → runSteps f t L = refSteps f t L
  | [], _, _ => rfl
  | x :: L, hp, hf => by
    obtain ⟨h1, h2⟩ := List.pairwise_cons.1 hp
    unfold runSteps refSteps
    by_cases hx : x.a < t
    · rw [if_pos hx]
      have hn : max f x.a < nxtA t L := by
        cases L with
        | nil => show max f x.a < t; omega
        | cons y L =>
          have h3 := h1 y (List.mem_cons_self ..)
          have h4 := hf y (List.mem_cons_self ..)
          show max f x.a < min t y.a
          omega
      rw [if_pos hn, run_ref hft h2 fun y hy => hf y (List.mem_of_mem_tail hy), Int.max_comm]; rfl
    · rw [if_neg hx]
      symm
      have := ref_none (f := f) (t := t) (L := x :: L) fun y hy => by
        rcases List.mem_cons.1 hy with rfl | hy
        · omega
        · have := h1 y hy; omega
      exact this
theorem ref_skip {f t : Int} : ∀ {M L : List Sm}, (∀ y, y ∈ M.tail → y.a ≤ f) → (∀ y, L.head? = some y → y.a ≤ f) → (M ≠ [] → L ≠ []) → refSteps f t (M ++ L) = refSteps f t L
  | [], _, _, _, _ => rfl
  | x :: M, L, h1, h2, h3 => by
    have hn : nxtA t (M ++ L) ≤ f := by
      cases M with
      | nil =>
        cases L with
        | nil => exact absurd rfl (h3 (by simp))
        | cons y L => have := h2 y rfl; show min t y.a ≤ f; omega
      | cons y M => have := h1 y (List.mem_cons_self ..); show min t y.a ≤ f; omega
    show (if max f x.a < nxtA t (M ++ L) then _ else _) ++ refSteps f t (M ++ L) = _
    rw [if_neg (by omega), ref_skip (M := M) (fun y hy => h1 y (List.mem_of_mem_tail hy)) h2 fun _ => h3 (by simp)]; rfl
/-- The steps of a covered interval. -/
def stepsV (L : List Sm) (f t : Int) : List Sp := refSteps f t L
theorem steps_run {L : List Sm} {f t : Int} (h : Cov L f t) : runSteps f t (L.drop (upto L f - 1)) = stepsV L f t := by
  obtain ⟨u1, u2⟩ := upto_at h.ok.asc f
  have hc := h.cov
  have hl := upto_le L f
  have hp : (L.drop (upto L f - 1)).Pairwise fun x y => x.a < y.a := h.ok.asc.sublist (List.drop_sublist _ _)
  have hne : upto L f - 1 < L.length := by omega
  have hd := drop_next (sm_get hne)
  rw [run_ref h.ft hp]
  · unfold stepsV
    rw [← List.take_append_drop (upto L f - 1) L]
    rw [show (L.take (upto L f - 1) ++ L.drop (upto L f - 1)).drop (upto (L.take (upto L f - 1) ++ L.drop (upto L f - 1)) f - 1) = L.drop (upto L f - 1) by rw [List.take_append_drop]]
    rw [ref_skip]
    · intro y hy
      have hm := List.mem_of_mem_tail hy
      obtain ⟨i, hi, rfl⟩ := List.mem_iff_getElem.1 hm
      rw [List.length_take] at hi
      have := u1 i (by omega)
      rw [sm_el (show i < L.length by omega)] at this
      rw [List.getElem_take]; exact this
    · intro y hy
      rw [hd] at hy
      injection hy with hy
      rw [← hy]; exact u1 _ (by omega)
    · intro _ e
      rw [hd] at e; cases e
  · intro y hy
    rw [hd] at hy
    have hy : y ∈ L.drop (upto L f - 1 + 1) := hy
    obtain ⟨i, hi, rfl⟩ := List.mem_iff_getElem.1 hy
    rw [List.length_drop] at hi
    have := u2 (upto L f - 1 + 1 + i) (by omega) (by omega)
    rw [sm_el (show upto L f - 1 + 1 + i < L.length by omega)] at this
    rw [List.getElem_drop]; exact this
end Go.Proofs.YtionocafkaemiaaDoor.Sx
namespace Go.Proofs.YtionocafkaemiaaDoor.Sx

/-- The end of a sample's time, by its place. -/
def nxtI (L : List Sm) (t : Int) (i : Nat) : Int := if i + 1 < L.length then min t (sm L (i + 1)).a else t
def stepAt (L : List Sm) (f t : Int) (i : Nat) : List Sp := if max f (sm L i).a < nxtI L t i then [⟨max f (sm L i).a, nxtI L t i, (sm L i).v⟩] else []
def stK (L : List Sm) (f t : Int) : Nat → List Sp
  | 0 => []
  | k + 1 => stK L f t k ++ stepAt L f t k
theorem nxt_is (L : List Sm) (t : Int) (k : Nat) : nxtA t (L.drop (k + 1)) = nxtI L t k := by
  unfold nxtI
  by_cases h : k + 1 < L.length
  · rw [if_pos h, drop_next (sm_get h)]; rfl
  · rw [if_neg h, List.drop_eq_nil_of_le (by omega)]; rfl
theorem stK_drop (L : List Sm) (f t : Int) : ∀ k, k ≤ L.length → stK L f t k ++ refSteps f t (L.drop k) = refSteps f t L
  | 0, _ => rfl
  | k + 1, hk => by
    rw [← stK_drop L f t k (by omega), drop_next (sm_get (show k < L.length by omega))]
    show (stK L f t k ++ stepAt L f t k) ++ _ = stK L f t k ++ ((if max f (sm L k).a < nxtA t (L.drop (k + 1)) then [⟨max f (sm L k).a, nxtA t (L.drop (k + 1)), (sm L k).v⟩] else []) ++ _)
    rw [nxt_is, List.append_assoc]; rfl
theorem stK_all (L : List Sm) (f t : Int) : stK L f t L.length = stepsV L f t := by
  have := stK_drop L f t L.length (Nat.le_refl _)
  rw [List.drop_length] at this
  unfold stepsV
  rw [← this]; simp [refSteps]
theorem stK_len (L : List Sm) (f t : Int) : ∀ k, (stK L f t k).length ≤ k
  | 0 => Nat.le_refl _
  | k + 1 => by
    have := stK_len L f t k
    show (stK L f t k ++ stepAt L f t k).length ≤ k + 1
    rw [List.length_append]
    unfold stepAt
    split <;> simp <;> omega
theorem steps_len (L : List Sm) (f t : Int) : (stepsV L f t).length ≤ L.length := by rw [← stK_all]; exact stK_len L f t _
/-- A step of a covered interval. -/
structure OkP (f t : Int) (x : Sp) : Prop where
  f0 : f ≤ x.f
  ft : x.f < x.t
  t1 : x.t ≤ t
  v0 : 0 ≤ x.v
  v1 : x.v ≤ 1000000000000
theorem ref_ok {f t : Int} : ∀ {L : List Sm}, (∀ x, x ∈ L → OkM x) → ∀ x, x ∈ refSteps f t L → OkP f t x
  | [], _, x, hx => by cases hx
  | y :: L, h, x, hx => by
    have hy := h y (List.mem_cons_self ..)
    rcases List.mem_append.1 (show x ∈ (if max f y.a < nxtA t L then [(⟨max f y.a, nxtA t L, y.v⟩ : Sp)] else []) ++ refSteps f t L from hx) with h1 | h1
    · split at h1
      · next h2 =>
        rw [List.mem_singleton] at h1
        subst h1
        exact ⟨by dsimp only; omega, h2, nxtA_le t L, hy.v0, hy.v1⟩
      · cases h1
    · exact ref_ok (fun z hz => h z (List.mem_cons_of_mem _ hz)) x h1
theorem steps_ok {L : List Sm} (hs : OkS L) {f t : Int} : ∀ x, x ∈ stepsV L f t → OkP f t x := ref_ok hs.ok
theorem steps_pos {L : List Sm} {f t : Int} (h : Cov L f t) : 0 < (stepsV L f t).length := by
  rw [← steps_run h]
  have hc := h.cov
  have hl := upto_le L f
  have hu := (upto_at h.ok.asc f).1 (upto L f - 1) (by omega)
  have hft := h.ft
  rw [drop_next (sm_get (show upto L f - 1 < L.length by omega))]
  unfold runSteps
  rw [if_pos (by omega)]; simp
abbrev sp (M : List Sp) (i : Nat) : Sp := M.getD i default
theorem sp_get {M : List Sp} {i : Nat} (h : i < M.length) : M[i]? = some (sp M i) := by
  unfold sp; rw [List.getD_eq_getElem?_getD, List.getElem?_eq_getElem h]; rfl
theorem sp_mem {M : List Sp} {i : Nat} (h : i < M.length) : sp M i ∈ M := List.mem_of_getElem? (sp_get h)
/-- The first one than which no other one is better. -/
def pick (b : Int → Int → Bool) (x y : Sp) : Sp := if b y.v x.v = true then y else x
def extV (b : Int → Int → Bool) : List Sp → Sp
  | [] => default
  | x :: M => M.foldl (pick b) x
theorem ext_ref {b : Int → Int → Bool} (hb : ∀ v, b v v = false) : ∀ M : List Sp, M.foldl (pick b) (sp M 0) = extV b M
  | [] => rfl
  | x :: M => by
    show M.foldl (pick b) (pick b x x) = M.foldl (pick b) x
    unfold pick
    rw [if_neg (by rw [hb]; simp)]
theorem pick_mem {b : Int → Int → Bool} : ∀ {M : List Sp} {x : Sp}, M.foldl (pick b) x = x ∨ M.foldl (pick b) x ∈ M
  | [], x => .inl rfl
  | y :: M, x => by
    rw [List.foldl_cons]
    have hp : pick b x y = x ∨ pick b x y = y := by unfold pick; split <;> simp
    rcases pick_mem (b := b) (M := M) (x := pick b x y) with h1 | h1
    · rw [h1]
      rcases hp with h2 | h2
      · exact .inl h2
      · right; rw [h2]; exact List.mem_cons_self ..
    · exact .inr (List.mem_cons_of_mem _ h1)
theorem ext_mem {b : Int → Int → Bool} {M : List Sp} (h : 0 < M.length) : extV b M ∈ M := by
  cases M with
  | nil => simp at h
  | cons x M =>
    rcases pick_mem (b := b) (M := M) (x := x) with h1 | h1
    · show M.foldl (pick b) x ∈ _
      rw [h1]; exact List.mem_cons_self ..
    · exact List.mem_cons_of_mem _ h1
def gt (a b : Int) : Bool := decide (b < a)
def lt (a b : Int) : Bool := decide (a < b)
/-- Peak and Low. -/
def extS (b : Int → Int → Bool) (L : List Sm) (f t : Int) : Sm × Int := if askS L f t ≠ 0 then (⟨0, 0⟩, askS L f t) else (⟨(extV b (stepsV L f t)).f, (extV b (stepsV L f t)).v⟩, 0)
/-- How long a value is at least so great. -/
def shareV (bd : Int) (M : List Sp) : Int := (M.map fun x => if bd ≤ x.v then x.t - x.f else 0).sum
def shareS (L : List Sm) (f t bd : Int) : Int × Int := if askS L f t ≠ 0 then (0, askS L f t) else if inT bd = false then (0, 7) else (shareV bd (stepsV L f t), 0)
theorem sum_add1 {α : Type} (f : α → Int) (l : List α) (x : α) : ((l ++ [x]).map f).sum = (l.map f).sum + f x := by
  rw [List.map_append, List.sum_append]; simp
theorem sum_bd {α : Type} {f : α → Int} {B : Int} : ∀ {l : List α}, (∀ x, x ∈ l → 0 ≤ f x ∧ f x ≤ B) → 0 ≤ (l.map f).sum ∧ (l.map f).sum ≤ B * (l.length : Int)
  | [], _ => by simp
  | x :: l, h => by
    have h1 := h x (List.mem_cons_self ..)
    have h2 := sum_bd fun y hy => h y (List.mem_cons_of_mem _ hy)
    rw [List.map_cons, List.sum_cons, List.length_cons, Int.natCast_add, Int.mul_add]
    simp only [Int.natCast_one, Int.mul_one]
    omega
theorem mul_bd {a b A B : Int} (ha : 0 ≤ a) (hb : 0 ≤ b) (hA : a ≤ A) (hB : b ≤ B) : 0 ≤ a * b ∧ a * b ≤ A * B :=
  ⟨Int.mul_nonneg ha hb, Int.le_trans (Int.mul_le_mul_of_nonneg_right hA hb) (Int.mul_le_mul_of_nonneg_left hB (by omega))⟩
end Go.Proofs.YtionocafkaemiaaDoor.Sx
namespace Go.Proofs.YtionocafkaemiaaDoor.Sx

theorem run_at {f t : Int} : ∀ (L : List Sm) (k : Nat), k ≤ (runSteps f t L).length → ((k < (runSteps f t L).length ↔ k < L.length ∧ (sm L k).a < t) ∧ (k < (runSteps f t L).length → sp (runSteps f t L) k = ⟨max (sm L k).a f, nxtI L t k, (sm L k).v⟩))
  | [], k, h => by simp [runSteps]
  | x :: L, k, h => by
    by_cases hx : x.a < t
    · have e : runSteps f t (x :: L) = ⟨max x.a f, nxtA t L, x.v⟩ :: runSteps f t L := by rw [runSteps, if_pos hx]
      rw [e] at h ⊢
      cases k with
      | zero =>
        refine ⟨⟨fun _ => ⟨by simp, hx⟩, fun _ => by simp⟩, fun _ => ?_⟩
        cases L with
        | nil => rfl
        | cons y L => 
          show (⟨_, _, _⟩ : Sp) = ⟨_, _, _⟩
          simp [nxtI, sm, nxtA]
      | succ k =>
        obtain ⟨h1, h2⟩ := run_at L k (by simpa using h)
        have e1 : sm (x :: L) (k + 1) = sm L k := rfl
        have e2 : ∀ (y : Sp) (M : List Sp), sp (y :: M) (k + 1) = sp M k := fun _ _ => rfl
        have e3 : nxtI (x :: L) t (k + 1) = nxtI L t k := by unfold nxtI; simp [sm]
        rw [e1, e2, e3]
        simp only [List.length_cons, Nat.add_lt_add_iff_right]
        exact ⟨h1, h2⟩
    · have e : runSteps f t (x :: L) = [] := by rw [runSteps, if_neg hx]
      rw [e] at h ⊢
      obtain rfl : k = 0 := by simpa using h
      refine ⟨⟨fun h => by simp at h, fun h => absurd h.2 hx⟩, fun h => by simp at h⟩
/-- The steps of a covered interval, as the program finds them. -/
theorem step_at {L : List Sm} {f t : Int} (h : Cov L f t) {k : Nat} (hk : k ≤ (stepsV L f t).length) : ((k < (stepsV L f t).length ↔ upto L f - 1 + k < L.length ∧ (sm L (upto L f - 1 + k)).a < t) ∧ (k < (stepsV L f t).length → sp (stepsV L f t) k = ⟨max (sm L (upto L f - 1 + k)).a f, nxtI L t (upto L f - 1 + k), (sm L (upto L f - 1 + k)).v⟩)) := by
  have e := steps_run h
  rw [← e] at hk ⊢
  obtain ⟨h1, h2⟩ := run_at (f := f) (t := t) _ k hk
  have hl := upto_le L f
  have hc := h.cov
  have s1 : ∀ i, sm (L.drop (upto L f - 1)) i = sm L (upto L f - 1 + i) := fun i => by unfold sm; simp
  have s2 : nxtI (L.drop (upto L f - 1)) t k = nxtI L t (upto L f - 1 + k) := by
    unfold nxtI
    rw [s1, List.length_drop, Nat.add_assoc]
    by_cases hh : upto L f - 1 + (k + 1) < L.length
    · rw [if_pos hh, if_pos (by omega)]
    · rw [if_neg hh, if_neg (by omega)]
  rw [s1, s2] at h2
  rw [s1, List.length_drop] at h1
  refine ⟨?_, h2⟩
  rw [h1]
  constructor
  · rintro ⟨a, b⟩; exact ⟨by omega, b⟩
  · rintro ⟨a, b⟩; exact ⟨by omega, b⟩
end Go.Proofs.YtionocafkaemiaaDoor.Sx
namespace Go.Proofs.YtionocafkaemiaaDoor.Sx

/-- An area: h times 10^12 and l. -/
structure Ar where
  h : Int
  l : Int
theorem ar_ext {a b : Ar} : a = b ↔ a.h = b.h ∧ a.l = b.l := by
  obtain ⟨x, y⟩ := a
  obtain ⟨z, w⟩ := b
  simp
instance : DecidableEq Ar := fun _ _ => decidable_of_iff _ ar_ext.symm
def plusV (a b : Ar) : Ar := ⟨a.h + b.h + (a.l + b.l) / 1000000000000, (a.l + b.l) % 1000000000000⟩
/-- An area's value. -/
def Ar.val (a : Ar) : Int := a.h * 1000000000000 + a.l
/-- An area that is written in the one way. -/
structure Ar.Ok (a : Ar) (B : Int) : Prop where
  h0 : 0 ≤ a.h
  h1 : a.h ≤ B
  l0 : 0 ≤ a.l
  l1 : a.l < 1000000000000
theorem plus_val (a b : Ar) : (plusV a b).val = a.val + b.val := by
  unfold plusV Ar.val
  dsimp only
  have := Int.mul_ediv_add_emod (a.l + b.l) 1000000000000
  omega
theorem plus_okV {a b : Ar} {A B : Int} (ha : a.Ok A) (hb : b.Ok B) : (plusV a b).Ok (A + B + 1) := by
  have := ha.h0; have := ha.h1; have := ha.l0; have := ha.l1
  have := hb.h0; have := hb.h1; have := hb.l0; have := hb.l1
  unfold plusV
  exact ⟨by dsimp only; omega, by dsimp only; omega, by dsimp only; omega, by dsimp only; omega⟩
/-- Two areas of one value are one. -/
theorem ar_eq {a b : Ar} {A B : Int} (ha : a.Ok A) (hb : b.Ok B) (h : a.val = b.val) : a = b := by
  have := ha.l0; have := ha.l1
  have := hb.l0; have := hb.l1
  unfold Ar.val at h
  obtain ⟨ah, al⟩ := a
  obtain ⟨bh, bl⟩ := b
  dsimp only at *
  have : ah = bh := by omega
  subst this
  have : al = bl := by omega
  subst this
  rfl
/-- The product of a value and a length. -/
def prodV (v n : Int) : Ar := ⟨v * n / 1000000000000, v * n % 1000000000000⟩
theorem prod_val (v n : Int) : (prodV v n).val = v * n := by
  unfold prodV Ar.val
  dsimp only
  have := Int.mul_ediv_add_emod (v * n) 1000000000000
  omega
end Go.Proofs.YtionocafkaemiaaDoor.Sx
namespace Go.Proofs.YtionocafkaemiaaDoor.Sx

/-- What cannot be had: less than any area. -/
abbrev nonE : Int := -1000000000000
/-- The greatest one of so many values. -/
def hiV (L : List Sm) (i : Nat) : Nat → Int
  | 0 => 0
  | d + 1 => max (hiV L i d) (sm L (i + d)).v
/-- The time at which a run ends that reaches up to a place. -/
def endT (L : List Sm) (u : Int) (e : Nat) : Int := if e < L.length then (sm L e).a else u
/-- A run's area. -/
def costV (L : List Sm) (u : Int) (i e : Nat) : Int := hiV L i (e - i) * (endT L u e - (sm L i).a)
/-- The least area from a place on, where so many ends have been tried. -/
def lvK (L : List Sm) (u : Int) (prev : Nat → Int) (i : Nat) : Nat → Int
  | 0 => nonE
  | d + 1 => if prev (i + d + 1) = nonE then lvK L u prev i d else
      if lvK L u prev i d = nonE ∨ costV L u i (i + d + 1) + prev (i + d + 1) < lvK L u prev i d then costV L u i (i + d + 1) + prev (i + d + 1) else lvK L u prev i d
/-- The least area from a place on in just so many runs. -/
def lv (L : List Sm) (u : Int) : Nat → Nat → Int
  | 0, i => if i = L.length then 0 else nonE
  | m + 1, i => lvK L u (lv L u m) i (L.length - i)
/-- What a series and its end must be. -/
structure OkE (L : List Sm) (u : Int) : Prop where
  ok : OkS L
  last : ∀ x, x ∈ L → x.a < u
  u1 : u ≤ 1000000000000
theorem hiV_bd {L : List Sm} (h : ∀ x, x ∈ L → OkM x) (i : Nat) : ∀ d, i + d ≤ L.length → 0 ≤ hiV L i d ∧ hiV L i d ≤ 1000000000000
  | 0, _ => by simp [hiV]
  | d + 1, hd => by
    have := hiV_bd h i d (by omega)
    have hx := h _ (sm_mem (show i + d < L.length by omega))
    have := hx.v0; have := hx.v1
    unfold hiV; omega
theorem hiV_ge (L : List Sm) (i : Nat) : ∀ d k, k < d → (sm L (i + k)).v ≤ hiV L i d
  | 0, k, h => absurd h (Nat.not_lt_zero _)
  | d + 1, k, h => by
    unfold hiV
    by_cases e : k = d
    · subst e; omega
    · have := hiV_ge L i d k (by omega); omega
theorem hiV_le (L : List Sm) (i : Nat) {B : Int} (h0 : 0 ≤ B) : ∀ d, (∀ k, k < d → (sm L (i + k)).v ≤ B) → hiV L i d ≤ B
  | 0, _ => h0
  | d + 1, h => by
    have := hiV_le L i h0 d fun k hk => h k (by omega)
    have := h d (by omega)
    unfold hiV; omega
theorem OkE.end_at {L : List Sm} {u : Int} (h : OkE L u) {i e : Nat} (hi : i < e) (he : e ≤ L.length) : (sm L i).a < endT L u e := by
  unfold endT
  split
  · exact h.ok.lt hi (by assumption)
  · exact h.last _ (sm_mem (by omega))
theorem OkE.end_le {L : List Sm} {u : Int} (h : OkE L u) (e : Nat) : 0 ≤ endT L u e ∨ L.length = 0 := by
  by_cases h0 : L.length = 0
  · exact .inr h0
  · left
    unfold endT
    split
    · next he => exact (h.ok.ok _ (sm_mem he)).a0
    · have h1 := h.last _ (sm_mem (show 0 < L.length by omega))
      have h2 := (h.ok.ok _ (sm_mem (show 0 < L.length by omega))).a0
      omega
theorem OkE.end_u {L : List Sm} {u : Int} (h : OkE L u) (e : Nat) : endT L u e ≤ u := by
  unfold endT
  split
  · next he => exact Int.le_of_lt (h.last _ (sm_mem he))
  · exact Int.le_refl _
theorem cost_bd {L : List Sm} {u : Int} (h : OkE L u) {i e : Nat} (hi : i < e) (he : e ≤ L.length) : 0 ≤ costV L u i e ∧ costV L u i e ≤ 1000000000000 * (endT L u e - (sm L i).a) := by
  have h1 := h.end_at hi he
  obtain ⟨h2, h3⟩ := hiV_bd h.ok.ok i (e - i) (by omega)
  unfold costV
  exact ⟨Int.mul_nonneg h2 (by omega), Int.mul_le_mul_of_nonneg_right h3 (by omega)⟩
theorem end_self {L : List Sm} (u : Int) {i : Nat} (h : i < L.length) : endT L u i = (sm L i).a := by unfold endT; rw [if_pos h]
theorem lvK_bd {L : List Sm} {u : Int} (h : OkE L u) {prev : Nat → Int} (hp : ∀ e, e ≤ L.length → prev e = nonE ∨ (0 ≤ prev e ∧ prev e ≤ 1000000000000 * (u - endT L u e))) {i : Nat} (hi : i < L.length) :
    ∀ d, i + d ≤ L.length → lvK L u prev i d = nonE ∨ (0 ≤ lvK L u prev i d ∧ lvK L u prev i d ≤ 1000000000000 * (u - endT L u i))
  | 0, _ => .inl rfl
  | d + 1, hd => by
    have ih := lvK_bd h hp hi d (by omega)
    unfold lvK
    split
    · exact ih
    · next hne =>
      split
      · right
        have h1 := hp (i + d + 1) (by omega)
        obtain ⟨h2, h3⟩ := cost_bd h (show i < i + d + 1 by omega) (by omega)
        rw [end_self u hi]
        rcases h1 with h1 | ⟨h1, h4⟩
        · exact absurd h1 hne
        · rw [Int.mul_sub] at h3 h4 ⊢
          omega
      · exact ih
theorem lv_bd {L : List Sm} {u : Int} (h : OkE L u) : ∀ m i, i ≤ L.length → lv L u m i = nonE ∨ (0 ≤ lv L u m i ∧ lv L u m i ≤ 1000000000000 * (u - endT L u i))
  | 0, i, hi => by
    unfold lv
    split
    · right
      have := h.end_u i
      exact ⟨Int.le_refl _, Int.mul_nonneg (by omega) (by omega)⟩
    · exact .inl rfl
  | m + 1, i, hi => by
    show lvK L u (lv L u m) i (L.length - i) = nonE ∨ _
    by_cases e : i = L.length
    · left; rw [e, Nat.sub_self]; rfl
    · exact lvK_bd h (lv_bd h m) (by omega) _ (by omega)
/-! Paths: the ends of runs. -/
def Vp (L : List Sm) : Nat → List Nat → Prop
  | i, [] => i = L.length
  | i, e :: es => i < e ∧ e ≤ L.length ∧ Vp L e es
def pathC (L : List Sm) (u : Int) : Nat → List Nat → Int
  | _, [] => 0
  | i, e :: es => costV L u i e + pathC L u e es
theorem lvK_le {L : List Sm} {u : Int} {prev : Nat → Int} {i : Nat} (hp : ∀ e, prev e = nonE ∨ 0 ≤ prev e) (hc : ∀ e, i < e → e ≤ L.length → 0 ≤ costV L u i e) :
    ∀ d, i + d ≤ L.length → ∀ k, k < d → prev (i + k + 1) ≠ nonE → lvK L u prev i d ≠ nonE ∧ lvK L u prev i d ≤ costV L u i (i + k + 1) + prev (i + k + 1)
  | 0, _, k, hk, _ => absurd hk (Nat.not_lt_zero _)
  | d + 1, hd, k, hk, hne => by
    have ih := lvK_le (L := L) (u := u) hp hc d (by omega) k
    have h1 := hp (i + k + 1)
    have h2 := hc (i + k + 1) (by omega) (by omega)
    have h3 := hp (i + d + 1)
    have h4 := hc (i + d + 1) (by omega) (by omega)
    have hN : nonE = -1000000000000 := rfl
    unfold lvK
    by_cases e : k = d
    · subst e
      rw [if_neg hne]
      split
      · exact ⟨by omega, Int.le_refl _⟩
      · next hx => exact ⟨fun hh => hx (.inl hh), by omega⟩
    · obtain ⟨i1, i2⟩ := ih (by omega) hne
      split
      · exact ⟨i1, i2⟩
      · split
        · next hx => exact ⟨by omega, by omega⟩
        · exact ⟨i1, i2⟩
theorem lvK_ex {L : List Sm} {u : Int} {prev : Nat → Int} {i : Nat} : ∀ d, lvK L u prev i d ≠ nonE → ∃ k, k < d ∧ prev (i + k + 1) ≠ nonE ∧ lvK L u prev i d = costV L u i (i + k + 1) + prev (i + k + 1)
  | 0, h => absurd rfl h
  | d + 1, h => by
    unfold lvK at h ⊢
    split at h
    · next h1 =>
      obtain ⟨k, h2, h3, h4⟩ := lvK_ex d h
      rw [if_pos h1]
      exact ⟨k, by omega, h3, h4⟩
    · next h1 =>
      rw [if_neg h1]
      split
      · exact ⟨d, by omega, h1, rfl⟩
      · next h5 =>
        rw [if_neg h5] at h
        obtain ⟨k, h2, h3, h4⟩ := lvK_ex d h
        exact ⟨k, by omega, h3, h4⟩
theorem lv_nn {L : List Sm} {u : Int} (h : OkE L u) (m : Nat) (e : Nat) : lv L u m e = nonE ∨ 0 ≤ lv L u m e := by
  by_cases he : e ≤ L.length
  · rcases lv_bd h m e he with h1 | h1
    · exact .inl h1
    · exact .inr h1.1
  · cases m with
    | zero => left; show (if e = L.length then _ else _) = _; rw [if_neg (by omega)]
    | succ m => left; show lvK L u (lv L u m) e (L.length - e) = _; rw [show L.length - e = 0 by omega]; rfl
/-- No path has less. -/
theorem lv_least {L : List Sm} {u : Int} (h : OkE L u) : ∀ (es : List Nat) (i : Nat), Vp L i es → lv L u es.length i ≠ nonE ∧ lv L u es.length i ≤ pathC L u i es
  | [], i, hv => by
    have e : lv L u 0 i = 0 := by unfold lv; rw [if_pos (show i = L.length from hv)]
    rw [List.length_nil, e]
    exact ⟨by decide, Int.le_refl _⟩
  | e :: es, i, ⟨h1, h2, h3⟩ => by
    obtain ⟨h4, h5⟩ := lv_least h es e h3
    obtain ⟨k, rfl⟩ : ∃ k, e = i + k + 1 := ⟨e - i - 1, by omega⟩
    obtain ⟨h6, h7⟩ := lvK_le (L := L) (u := u) (lv_nn h es.length) (fun e h1 h2 => (cost_bd h h1 h2).1) (L.length - i) (by omega) k (by omega) h4
    exact ⟨h6, by show lvK _ _ _ _ _ ≤ costV L u i (i + k + 1) + pathC L u (i + k + 1) es; omega⟩
/-- The first end by which the least is reached. -/
structure Fst (L : List Sm) (u : Int) (m i e : Nat) : Prop where
  lt : i < e
  le : e ≤ L.length
  ne : lv L u m e ≠ nonE
  eq : costV L u i e + lv L u m e = lv L u (m + 1) i
  first : ∀ k, i < k → k < e → lv L u m k = nonE ∨ costV L u i k + lv L u m k ≠ lv L u (m + 1) i
theorem fst_ex {L : List Sm} {u : Int} {m i : Nat} (h : lv L u (m + 1) i ≠ nonE) : ∃ e, Fst L u m i e := by
  obtain ⟨k, h1, h2, h3⟩ := lvK_ex (L := L) (u := u) (prev := lv L u m) (i := i) (L.length - i) h
  have hk : ∃ e, i < e ∧ e ≤ L.length ∧ lv L u m e ≠ nonE ∧ costV L u i e + lv L u m e = lv L u (m + 1) i := ⟨i + k + 1, by omega, by omega, h2, h3.symm⟩
  have hs : ∀ n, (∃ e, e < n ∧ i < e ∧ e ≤ L.length ∧ lv L u m e ≠ nonE ∧ costV L u i e + lv L u m e = lv L u (m + 1) i) → ∃ e, Fst L u m i e := by
    intro n
    induction n with
    | zero => rintro ⟨e, h, _⟩; omega
    | succ n ih =>
      rintro ⟨e, he, a1, a2, a3, a4⟩
      by_cases hx : ∃ e, e < n ∧ i < e ∧ e ≤ L.length ∧ lv L u m e ≠ nonE ∧ costV L u i e + lv L u m e = lv L u (m + 1) i
      · exact ih hx
      · refine ⟨e, a1, a2, a3, a4, fun k h1 h2 => ?_⟩
        by_cases h5 : lv L u m k = nonE
        · exact .inl h5
        · exact .inr fun h6 => hx ⟨k, by omega, h1, by omega, h5, h6⟩
  obtain ⟨e, a1, a2⟩ := hk
  exact hs (e + 1) ⟨e, by omega, a1, a2⟩
theorem fst_unique {L : List Sm} {u : Int} {m i e f : Nat} (h : Fst L u m i e) (g : Fst L u m i f) : e = f := by
  rcases Nat.lt_trichotomy e f with h1 | h1 | h1
  · rcases g.first e h.lt h1 with h2 | h2
    · exact absurd h2 h.ne
    · exact absurd h.eq h2
  · exact h1
  · rcases h.first f g.lt h1 with h2 | h2
    · exact absurd h2 g.ne
    · exact absurd g.eq h2
/-- The path that the program takes. -/
def Gp (L : List Sm) (u : Int) : Nat → Nat → List Nat → Prop
  | 0, i, es => es = [] ∧ i = L.length
  | m + 1, i, es => ∃ e t, es = e :: t ∧ Fst L u m i e ∧ Gp L u m e t
theorem gp_ex {L : List Sm} {u : Int} : ∀ m i, lv L u m i ≠ nonE → ∃ es, Gp L u m i es
  | 0, i, h => by
    refine ⟨[], rfl, ?_⟩
    unfold lv at h
    exact Classical.byContradiction fun hn => h (by rw [if_neg hn])
  | m + 1, i, h => by
    obtain ⟨e, he⟩ := fst_ex h
    obtain ⟨t, ht⟩ := gp_ex m e he.ne
    exact ⟨e :: t, e, t, rfl, he, ht⟩
theorem gp_len {L : List Sm} {u : Int} : ∀ {m i : Nat} {es : List Nat}, Gp L u m i es → es.length = m ∧ Vp L i es ∧ pathC L u i es = lv L u m i
  | 0, i, es, h => by
    obtain ⟨rfl, rfl⟩ := h
    exact ⟨rfl, rfl, by unfold pathC lv; rw [if_pos rfl]⟩
  | m + 1, i, es, h => by
    obtain ⟨e, t, rfl, he, ht⟩ := h
    obtain ⟨h1, h2, h3⟩ := gp_len ht
    refine ⟨by rw [List.length_cons, h1], ⟨he.lt, he.le, h2⟩, ?_⟩
    show costV L u i e + pathC L u e t = _
    rw [h3, he.eq]
/-- One list stands ahead of another one. -/
def lexL : List Nat → List Nat → Bool
  | x :: l, y :: m => decide (x < y) || (x == y && lexL l m)
  | _, _ => false
theorem lexL_refl : ∀ l, lexL l l = false
  | [] => rfl
  | x :: l => by simp [lexL, lexL_refl l]
/-- Of the paths with the least area it is the first one. -/
theorem gp_first {L : List Sm} {u : Int} (h : OkE L u) : ∀ {m i : Nat} {es fs : List Nat}, Gp L u m i es → Vp L i fs → fs.length = m → pathC L u i fs = lv L u m i → fs = es ∨ lexL es fs = true
  | 0, i, es, fs, hg, _, hl, _ => by
    obtain ⟨rfl, _⟩ := hg
    exact .inl (List.length_eq_zero_iff.1 hl)
  | m + 1, i, es, fs, hg, hv, hl, hc => by
    obtain ⟨e, t, rfl, he, ht⟩ := hg
    cases fs with
    | nil => simp at hl
    | cons f fs =>
      obtain ⟨h1, h2, h3⟩ := hv
      have hlm : fs.length = m := by simpa using hl
      have h4 := lv_least h fs f h3
      rw [hlm] at h4
      have hc : costV L u i f + pathC L u f fs = lv L u (m + 1) i := hc
      obtain ⟨k, rfl⟩ : ∃ k, f = i + k + 1 := ⟨f - i - 1, by omega⟩
      have h5 := (lvK_le (L := L) (u := u) (lv_nn h m) (fun e h1 h2 => (cost_bd h h1 h2).1) (L.length - i) (by omega) k (by omega) h4.1).2
      have h6 : lv L u (m + 1) i ≤ costV L u i (i + k + 1) + lv L u m (i + k + 1) := h5
      have h7 : pathC L u (i + k + 1) fs = lv L u m (i + k + 1) := by omega
      rcases Nat.lt_trichotomy e (i + k + 1) with h8 | h8 | h8
      · right; unfold lexL; rw [decide_eq_true h8]; rfl
      · subst h8
        rcases gp_first h ht h3 hlm h7 with h9 | h9
        · left; rw [h9]
        · right; unfold lexL; rw [h9]; simp
      · rcases he.first _ h1 h8 with h9 | h9
        · exact absurd h9 h4.1
        · exact absurd (by omega) h9
/-! More runs need no more. -/
theorem hiV_split (L : List Sm) (i : Nat) : ∀ d, hiV L (i + 1) d ≤ hiV L i (d + 1)
  | 0 => by unfold hiV; unfold hiV; omega
  | d + 1 => by
    have := hiV_split L i d
    have e : hiV L i (d + 1 + 1) = max (hiV L i (d + 1)) (sm L (i + (d + 1))).v := rfl
    have e2 : hiV L (i + 1) (d + 1) = max (hiV L (i + 1) d) (sm L (i + 1 + d)).v := rfl
    rw [e, e2, show i + (d + 1) = i + 1 + d by omega]
    omega
theorem hiV_mono (L : List Sm) (i : Nat) : ∀ d, hiV L i 1 ≤ hiV L i (d + 1)
  | 0 => Int.le_refl _
  | d + 1 => by
    have := hiV_mono L i d
    have e : hiV L i (d + 1 + 1) = max (hiV L i (d + 1)) (sm L (i + (d + 1))).v := rfl
    rw [e]; omega
theorem cost_split {L : List Sm} {u : Int} (h : OkE L u) {i e : Nat} (h1 : i + 1 < e) (h2 : e ≤ L.length) : costV L u i (i + 1) + costV L u (i + 1) e ≤ costV L u i e := by
  unfold costV
  obtain ⟨d, rfl⟩ : ∃ d, e = i + 1 + (d + 1) := ⟨e - i - 2, by omega⟩
  have a1 := hiV_mono L i (d + 1)
  have a2 := hiV_split L i (d + 1)
  have a3 := h.end_at (show i < i + 1 by omega) (show i + 1 ≤ L.length by omega)
  have a4 := h.end_at (show i + 1 < i + 1 + (d + 1) by omega) h2
  rw [show i + 1 - i = 1 by omega, show i + 1 + (d + 1) - (i + 1) = d + 1 by omega, show i + 1 + (d + 1) - i = d + 1 + 1 by omega]
  rw [end_self u (show i + 1 < L.length by omega)] at a3 ⊢
  have b1 := Int.mul_le_mul_of_nonneg_right a1 (show 0 ≤ (sm L (i + 1)).a - (sm L i).a by omega)
  have b2 := Int.mul_le_mul_of_nonneg_right a2 (show 0 ≤ endT L u (i + 1 + (d + 1)) - (sm L (i + 1)).a by omega)
  have e : hiV L i (d + 1 + 1) * (endT L u (i + 1 + (d + 1)) - (sm L i).a) = hiV L i (d + 1 + 1) * ((sm L (i + 1)).a - (sm L i).a) + hiV L i (d + 1 + 1) * (endT L u (i + 1 + (d + 1)) - (sm L (i + 1)).a) := by
    rw [← Int.mul_add]; congr 1; omega
  rw [e]
  omega
theorem path_more {L : List Sm} {u : Int} (h : OkE L u) : ∀ (es : List Nat) (i : Nat), Vp L i es → es.length < L.length - i → ∃ fs, Vp L i fs ∧ fs.length = es.length + 1 ∧ pathC L u i fs ≤ pathC L u i es
  | [], i, hv, hl => by
    have : i = L.length := hv
    simp at hl; omega
  | e :: es, i, ⟨h1, h2, h3⟩, hl => by
    by_cases he : i + 1 < e
    · have := cost_split h he h2
      exact ⟨(i + 1) :: e :: es, ⟨by omega, by omega, he, h2, h3⟩, rfl, by
        show costV L u i (i + 1) + (costV L u (i + 1) e + pathC L u e es) ≤ costV L u i e + pathC L u e es
        omega⟩
    · obtain rfl : e = i + 1 := by omega
      rw [List.length_cons] at hl
      obtain ⟨fs, a1, a2, a3⟩ := path_more h es (i + 1) h3 (by omega)
      exact ⟨(i + 1) :: fs, ⟨h1, h2, a1⟩, by rw [List.length_cons, List.length_cons, a2], by
        show costV L u i (i + 1) + _ ≤ costV L u i (i + 1) + _
        omega⟩
theorem vp_len {L : List Sm} : ∀ {es : List Nat} {i : Nat}, Vp L i es → es.length ≤ L.length - i ∧ (i < L.length → 0 < es.length)
  | [], i, h => ⟨Nat.zero_le _, fun h1 => by have : i = L.length := h; omega⟩
  | e :: es, i, ⟨h1, h2, h3⟩ => by
    have := (vp_len h3).1
    rw [List.length_cons]
    exact ⟨by omega, fun _ => by omega⟩
theorem lv_mono {L : List Sm} {u : Int} (h : OkE L u) {m : Nat} (hm : m < L.length) (hne : lv L u m 0 ≠ nonE) : lv L u (m + 1) 0 ≠ nonE ∧ lv L u (m + 1) 0 ≤ lv L u m 0 := by
  obtain ⟨es, hg⟩ := gp_ex m 0 hne
  obtain ⟨h1, h2, h3⟩ := gp_len hg
  obtain ⟨fs, a1, a2, a3⟩ := path_more h es 0 h2 (by omega)
  have := lv_least h fs 0 a1
  rw [a2, h1] at this
  exact ⟨this.1, by omega⟩
theorem lv_monos {L : List Sm} {u : Int} (h : OkE L u) {m : Nat} (hne : lv L u m 0 ≠ nonE) : ∀ d, m + d ≤ L.length → lv L u (m + d) 0 ≠ nonE ∧ lv L u (m + d) 0 ≤ lv L u m 0
  | 0, _ => ⟨hne, Int.le_refl _⟩
  | d + 1, hd => by
    obtain ⟨h1, h2⟩ := lv_monos h hne d (by omega)
    obtain ⟨h3, h4⟩ := lv_mono h (show m + d < L.length by omega) h1
    exact ⟨h3, by show lv L u (m + d + 1) 0 ≤ _; omega⟩
theorem lv_one {L : List Sm} {u : Int} (h : OkE L u) (hn : 0 < L.length) : lv L u 1 0 ≠ nonE :=
  (lv_least h [L.length] 0 ⟨hn, Nat.le_refl _, rfl⟩).1
end Go.Proofs.YtionocafkaemiaaDoor.Sx
namespace Go.Proofs.YtionocafkaemiaaDoor.Sx

theorem lexL_trans : ∀ {a b c : List Nat}, lexL a b = true → lexL b c = true → lexL a c = true
  | x :: a, y :: b, z :: c, h1, h2 => by
    unfold lexL at *
    simp only [Bool.or_eq_true, decide_eq_true_eq, Bool.and_eq_true, beq_iff_eq] at *
    rcases h1 with h1 | ⟨rfl, h1⟩
    · rcases h2 with h2 | ⟨rfl, h2⟩
      · left; omega
      · left; exact h1
    · rcases h2 with h2 | ⟨rfl, h2⟩
      · left; exact h2
      · exact .inr ⟨rfl, lexL_trans h1 h2⟩
  | [], _, _, h1, _ => by simp [lexL] at h1
  | _ :: _, [], _, h1, _ => by simp [lexL] at h1
  | _ :: _, _ :: _, [], _, h2 => by simp [lexL] at h2
theorem lexL_tri : ∀ {a b : List Nat}, a.length = b.length → lexL a b = false → lexL b a = false → a = b
  | [], [], _, _, _ => rfl
  | x :: a, y :: b, hl, h1, h2 => by
    unfold lexL at h1 h2
    simp only [Bool.or_eq_false_iff, decide_eq_false_iff_not, Bool.and_eq_false_iff, beq_eq_false_iff_ne] at h1 h2
    have hxy : x = y := by omega
    subst hxy
    simp at h1 h2
    rw [lexL_tri (by simpa using hl) h1 h2]
  | [], _ :: _, hl, _, _ => by simp at hl
  | _ :: _, [], hl, _, _ => by simp at hl
/-- One of two is preferred: less area, fewer runs, earlier times. -/
def pref (c : List Nat → Int) (a b : List Nat) : Bool := decide (c a < c b) || (decide (c a = c b) && (decide (a.length < b.length) || (decide (a.length = b.length) && lexL a b)))
theorem pref_iff {c : List Nat → Int} {a b : List Nat} : pref c a b = true ↔ c a < c b ∨ (c a = c b ∧ (a.length < b.length ∨ (a.length = b.length ∧ lexL a b = true))) := by
  unfold pref; simp
theorem pref_not {c : List Nat → Int} {a b : List Nat} : pref c a b = false ↔ ¬ (c a < c b ∨ (c a = c b ∧ (a.length < b.length ∨ (a.length = b.length ∧ lexL a b = true)))) := by
  rw [← pref_iff]; simp
theorem pref_trans {c : List Nat → Int} {a b d : List Nat} (h1 : pref c a b = true) (h2 : pref c b d = true) : pref c a d = true := by
  rw [pref_iff] at *
  rcases h1 with h1 | ⟨h1, h3⟩
  · rcases h2 with h2 | ⟨h2, _⟩ <;> (left; omega)
  · rcases h2 with h2 | ⟨h2, h4⟩
    · left; omega
    · refine .inr ⟨by omega, ?_⟩
      rcases h3 with h3 | ⟨h3, h5⟩
      · rcases h4 with h4 | ⟨h4, _⟩ <;> (left; omega)
      · rcases h4 with h4 | ⟨h4, h6⟩
        · left; omega
        · exact .inr ⟨by omega, lexL_trans h5 h6⟩
theorem pref_tri {c : List Nat → Int} {a b : List Nat} (h1 : pref c a b = false) (h2 : pref c b a = false) : a = b := by
  rw [pref_not] at h1 h2
  have e1 : c a = c b := by
    rcases Int.lt_trichotomy (c a) (c b) with h | h | h
    · exact absurd (.inl h) h1
    · exact h
    · exact absurd (.inl h) h2
  have e2 : a.length = b.length := by
    rcases Nat.lt_trichotomy a.length b.length with h | h | h
    · exact absurd (.inr ⟨e1, .inl h⟩) h1
    · exact h
    · exact absurd (.inr ⟨e1.symm, .inl h⟩) h2
  refine lexL_tri e2 ?_ ?_
  · cases h : lexL a b with
    | false => rfl
    | true => exact absurd (.inr ⟨e1, .inr ⟨e2, h⟩⟩) h1
  · cases h : lexL b a with
    | false => rfl
    | true => exact absurd (.inr ⟨e1.symm, .inr ⟨e2.symm, h⟩⟩) h2
theorem pref_irr {c : List Nat → Int} (a : List Nat) : pref c a a = false := by rw [pref_not, lexL_refl]; simp
/-- What does not beat something that is not beaten. -/
theorem npref_trans {c : List Nat → Int} {a b d : List Nat} (h1 : pref c a b = false) (h2 : pref c b d = false) : pref c a d = false := by
  cases h : pref c a d with
  | false => rfl
  | true =>
    by_cases e : b = d
    · subst e; rw [h1] at h; cases h
    · cases h3 : pref c d b with
      | true => rw [pref_trans h h3] at h1; cases h1
      | false => exact absurd (pref_tri h2 h3) e
/-- The best one of those that are allowed. -/
structure BestE (c : List Nat → Int) (P : List Nat → Prop) (r : List Nat) : Prop where
  ok : P r
  best : ∀ x, P x → pref c x r = false
theorem BestE.unique {c : List Nat → Int} {P : List Nat → Prop} {r s : List Nat} (h : BestE c P r) (g : BestE c P s) : r = s := pref_tri (g.best r h.ok) (h.best s g.ok)

/-! All choices of places, as the reference tries them. -/
def chooseV (c : List Nat → Int) (n most : Nat) : Nat → List Nat → Option (List Nat) → Option (List Nat)
  | 0, l, best => if most < l.length then best else match best with
    | none => some l
    | some b => if pref c l b = true then some l else some b
  | k + 1, l, best => if most < l.length then best else chooseV c n most k l (chooseV c n most k (l ++ [n - (k + 1)]) best)
/-- Those that begin so and go on with places among the last k. -/
def Ext (n k : Nat) (l x : List Nat) : Prop := ∃ t, x = l ++ t ∧ t.Pairwise (· < ·) ∧ ∀ e, e ∈ t → n - k ≤ e ∧ e < n
theorem ext_zero {n : Nat} {l x : List Nat} (h : Ext n 0 l x) : x = l := by
  obtain ⟨t, rfl, _, h⟩ := h
  cases t with
  | nil => simp
  | cons e t => have := h e (List.mem_cons_self ..); omega
theorem ext_next {n k : Nat} (hk : k + 1 ≤ n) {l x : List Nat} : Ext n (k + 1) l x ↔ Ext n k (l ++ [n - (k + 1)]) x ∨ Ext n k l x := by
  constructor
  · rintro ⟨t, rfl, hp, h⟩
    cases t with
    | nil => exact .inr ⟨[], rfl, hp, fun e he => by cases he⟩
    | cons e t =>
      obtain ⟨h1, h2⟩ := List.pairwise_cons.1 hp
      have he := h e (List.mem_cons_self ..)
      by_cases hx : e = n - (k + 1)
      · left
        refine ⟨t, by rw [hx]; simp, h2, fun f hf => ?_⟩
        have := h1 f hf
        have := h f (List.mem_cons_of_mem _ hf)
        omega
      · right
        refine ⟨e :: t, rfl, hp, fun f hf => ?_⟩
        have hf2 := h f hf
        rcases List.mem_cons.1 hf with rfl | hf
        · omega
        · have := h1 f hf; omega
  · rintro (⟨t, rfl, hp, h⟩ | ⟨t, rfl, hp, h⟩)
    · refine ⟨(n - (k + 1)) :: t, by simp, List.pairwise_cons.2 ⟨fun f hf => ?_, hp⟩, fun f hf => ?_⟩
      · have := h f hf; omega
      · rcases List.mem_cons.1 hf with rfl | hf
        · omega
        · have := h f hf; omega
    · exact ⟨t, rfl, hp, fun f hf => by have := h f hf; omega⟩
theorem choose_spec {c : List Nat → Int} {n most : Nat} : ∀ {k : Nat} {l : List Nat} {best : Option (List Nat)}, k ≤ n →
    (∀ b, best = some b → ∃ r, chooseV c n most k l best = some r ∧ pref c b r = false) ∧
    (chooseV c n most k l best = best ∨ ∃ r, chooseV c n most k l best = some r ∧ Ext n k l r ∧ r.length ≤ most) ∧
    (∀ x, Ext n k l x → x.length ≤ most → ∃ r, chooseV c n most k l best = some r ∧ pref c x r = false)
  | 0, l, best, _ => by
    have hE : Ext n 0 l l := ⟨[], by simp, by simp, fun e he => by cases he⟩
    unfold chooseV
    split
    · next hm =>
      refine ⟨fun b hb => ⟨b, hb, pref_irr b⟩, .inl rfl, fun x hx hl => ?_⟩
      rw [ext_zero hx] at hl; omega
    · next hm =>
      cases best with
      | none => exact ⟨fun b hb => (by cases hb), .inr ⟨l, rfl, hE, by omega⟩, fun x hx _ => ⟨l, rfl, by rw [ext_zero hx]; exact pref_irr l⟩⟩
      | some b =>
        dsimp only
        split
        · next hp =>
          refine ⟨fun b' hb => ?_, .inr ⟨l, rfl, hE, by omega⟩, fun x hx _ => ⟨l, rfl, by rw [ext_zero hx]; exact pref_irr l⟩⟩
          injection hb with hb
          subst hb
          refine ⟨l, rfl, ?_⟩
          cases h : pref c b l with
          | false => rfl
          | true => have := pref_trans hp h; rw [pref_irr] at this; cases this
        · next hp =>
          have hp : pref c l b = false := by simpa using hp
          exact ⟨fun b' hb => by injection hb with hb; subst hb; exact ⟨b, rfl, pref_irr b⟩, .inl rfl, fun x hx _ => ⟨b, rfl, by rw [ext_zero hx]; exact hp⟩⟩
  | k + 1, l, best, hk => by
    unfold chooseV
    split
    · next hm =>
      refine ⟨fun b hb => ⟨b, hb, pref_irr b⟩, .inl rfl, fun x hx hl => ?_⟩
      obtain ⟨t, rfl, _⟩ := hx
      rw [List.length_append] at hl; omega
    · next hm =>
      obtain ⟨a1, a2, a3⟩ := choose_spec (c := c) (n := n) (most := most) (k := k) (l := l ++ [n - (k + 1)]) (best := best) (by omega)
      generalize chooseV c n most k (l ++ [n - (k + 1)]) best = b1 at *
      obtain ⟨c1, c2, c3⟩ := choose_spec (c := c) (n := n) (most := most) (k := k) (l := l) (best := b1) (by omega)
      generalize chooseV c n most k l b1 = b2 at *
      refine ⟨fun b hb => ?_, ?_, fun x hx hl => ?_⟩
      · obtain ⟨r, h1, h2⟩ := a1 b hb
        obtain ⟨s, h3, h4⟩ := c1 r h1
        exact ⟨s, h3, npref_trans h2 h4⟩
      · rcases c2 with h1 | ⟨r, h1, h2, h3⟩
        · rcases a2 with h4 | ⟨r, h4, h5, h6⟩
          · left; rw [h1, h4]
          · exact .inr ⟨r, by rw [h1, h4], (ext_next hk).2 (.inl h5), h6⟩
        · exact .inr ⟨r, h1, (ext_next hk).2 (.inr h2), h3⟩
      · rcases (ext_next hk).1 hx with h1 | h1
        · obtain ⟨r, h2, h3⟩ := a3 x h1 hl
          obtain ⟨s, h4, h5⟩ := c1 r h2
          exact ⟨s, h4, npref_trans h3 h5⟩
        · exact c3 x h1 hl
/-- The choice of the reference is the best one. -/
theorem choose_best {c : List Nat → Int} {n most : Nat} (hn : 0 < n) (hm : 0 < most) : ∃ r, chooseV c n most (n - 1) [0] none = some r ∧ BestE c (fun x => Ext n (n - 1) [0] x ∧ x.length ≤ most) r := by
  obtain ⟨_, a2, a3⟩ := choose_spec (c := c) (n := n) (most := most) (k := n - 1) (l := [0]) (best := none) (by omega)
  obtain ⟨r, h1, h2⟩ := a3 [0] ⟨[], by simp, by simp, fun e he => by cases he⟩ (by simp; omega)
  refine ⟨r, h1, ?_, fun x hx => ?_⟩
  · rcases a2 with h3 | ⟨s, h3, h4, h5⟩
    · rw [h1] at h3; cases h3
    · rw [h1] at h3; injection h3 with h3; subst h3; exact ⟨h4, h5⟩
  · obtain ⟨s, h3, h4⟩ := a3 x hx.1 hx.2
    rw [h1] at h3; injection h3 with h3; subst h3; exact h4

/-! Starts and ends of runs. -/
/-- The ends of the runs that start so. -/
def endsOf (n : Nat) (l : List Nat) : List Nat := l.tail ++ [n]
theorem vp_of {L : List Sm} : ∀ (t : List Nat) (i : Nat), i < L.length → t.Pairwise (· < ·) → (∀ e, e ∈ t → i < e ∧ e < L.length) → Vp L i (t ++ [L.length])
  | [], i, h, _, _ => ⟨h, Nat.le_refl _, rfl⟩
  | e :: t, i, h, hp, hb => by
    obtain ⟨h1, h2⟩ := List.pairwise_cons.1 hp
    have he := hb e (List.mem_cons_self ..)
    exact ⟨he.1, by omega, vp_of t e he.2 h2 fun f hf => ⟨h1 f hf, (hb f (List.mem_cons_of_mem _ hf)).2⟩⟩
theorem of_vp {L : List Sm} : ∀ {es : List Nat} {i : Nat}, Vp L i es → i < L.length → ∃ t, es = t ++ [L.length] ∧ t.Pairwise (· < ·) ∧ ∀ e, e ∈ t → i < e ∧ e < L.length
  | [], i, h, hi => by have : i = L.length := h; omega
  | e :: es, i, ⟨h1, h2, h3⟩, hi => by
    by_cases he : e = L.length
    · subst he
      have := (vp_len h3).1
      have : es = [] := List.length_eq_zero_iff.1 (by omega)
      subst this
      exact ⟨[], rfl, by simp, fun e he => by cases he⟩
    · obtain ⟨t, rfl, h4, h5⟩ := of_vp h3 (by omega)
      exact ⟨e :: t, rfl, List.pairwise_cons.2 ⟨fun f hf => (h5 f hf).1, h4⟩, fun f hf => by
        rcases List.mem_cons.1 hf with rfl | hf
        · exact ⟨h1, by omega⟩
        · have := h5 f hf; omega⟩
theorem ext_vp {L : List Sm} (hn : 0 < L.length) {x : List Nat} (h : Ext L.length (L.length - 1) [0] x) : Vp L 0 (endsOf L.length x) := by
  obtain ⟨t, rfl, h1, h2⟩ := h
  show Vp L 0 (t ++ [L.length])
  exact vp_of t 0 hn h1 fun e he => by have := h2 e he; omega
theorem vp_ext {L : List Sm} (hn : 0 < L.length) {es : List Nat} (h : Vp L 0 es) : ∃ x, Ext L.length (L.length - 1) [0] x ∧ es = endsOf L.length x := by
  obtain ⟨t, rfl, h1, h2⟩ := of_vp h hn
  exact ⟨0 :: t, ⟨t, rfl, h1, fun e he => by have := h2 e he; omega⟩, rfl⟩
theorem ends_len {n k : Nat} {x : List Nat} (h : Ext n k [0] x) : (endsOf n x).length = x.length := by
  obtain ⟨t, rfl, _⟩ := h
  show (t ++ [n]).length = (0 :: t).length
  simp
theorem lexL_app : ∀ {a b : List Nat} (n : Nat), a.length = b.length → lexL (a ++ [n]) (b ++ [n]) = lexL a b
  | [], [], n, _ => by simp [lexL]
  | x :: a, y :: b, n, h => by
    show (decide (x < y) || (x == y && lexL (a ++ [n]) (b ++ [n]))) = _
    rw [lexL_app n (by simpa using h)]; rfl
  | [], _ :: _, _, h => by simp at h
  | _ :: _, [], _, h => by simp at h
theorem ends_lex {n k k2 : Nat} {x y : List Nat} (hx : Ext n k [0] x) (hy : Ext n k2 [0] y) (h : x.length = y.length) : lexL (endsOf n x) (endsOf n y) = lexL x y := by
  obtain ⟨t, rfl, _⟩ := hx
  obtain ⟨s, rfl, _⟩ := hy
  show lexL (t ++ [n]) (s ++ [n]) = lexL (0 :: t) (0 :: s)
  rw [lexL_app n (by simpa using h)]
  simp [lexL]
/-- The area of the runs that start so. -/
def areaL (L : List Sm) (u : Int) (l : List Nat) : Int := pathC L u 0 (endsOf L.length l)
/-- How many runs the program takes. -/
structure Few (L : List Sm) (u : Int) (most m : Nat) : Prop where
  m1 : 1 ≤ m
  le : m ≤ min most L.length
  eq : lv L u m 0 = lv L u (min most L.length) 0
  min : m = 1 ∨ lv L u (m - 1) 0 ≠ lv L u (min most L.length) 0
theorem least_all {L : List Sm} {u : Int} (h : OkE L u) {most : Nat} {es : List Nat} (hv : Vp L 0 es) (hl : es.length ≤ most) : lv L u (min most L.length) 0 ≤ pathC L u 0 es := by
  obtain ⟨h1, h2⟩ := lv_least h es 0 hv
  have h3 := (vp_len hv).1
  have := lv_monos h h1 (min most L.length - es.length) (by omega)
  rw [show es.length + (min most L.length - es.length) = min most L.length by omega] at this
  omega
/-- The program's path is the best one. -/
theorem gp_best {L : List Sm} {u : Int} (h : OkE L u) (hn : 0 < L.length) {most m : Nat} (_hm : 0 < most) (hf : Few L u most m) {x : List Nat} (hx : Ext L.length (L.length - 1) [0] x) (hg : Gp L u m 0 (endsOf L.length x)) :
    BestE (areaL L u) (fun x => Ext L.length (L.length - 1) [0] x ∧ x.length ≤ most) x := by
  obtain ⟨h1, h2, h3⟩ := gp_len hg
  have hxl := ends_len hx
  have hle := hf.le
  have h3 : areaL L u x = lv L u m 0 := h3
  refine ⟨⟨hx, by omega⟩, ?_⟩
  rintro y ⟨hy, hyl⟩
  have hvy := ext_vp hn hy
  have hyn := ends_len hy
  have h4 : lv L u (min most L.length) 0 ≤ areaL L u y := least_all h hvy (by omega)
  have he := hf.eq
  rw [pref_not]
  rintro (h5 | ⟨h5, h6⟩)
  · omega
  · have hlen : m ≤ y.length := by
      rcases hf.min with h7 | h7
      · have := (vp_len hvy).2 hn; omega
      · refine Classical.byContradiction fun hlt => h7 ?_
        have h8 := lv_least h _ 0 hvy
        have h9 := lv_monos h h8.1 (m - 1 - y.length) (by omega)
        rw [hyn, show y.length + (m - 1 - y.length) = m - 1 by omega] at h9
        have h10 := lv_monos h h9.1 (min most L.length - (m - 1)) (by omega)
        rw [show m - 1 + (min most L.length - (m - 1)) = min most L.length by omega] at h10
        have h11 : lv L u (endsOf L.length y).length 0 ≤ areaL L u y := h8.2
        rw [hyn] at h11
        omega
    rcases h6 with h6 | ⟨h6, h7⟩
    · omega
    · have h8 := gp_first h hg hvy (by omega) (show areaL L u y = _ by omega)
      have h9 := ends_lex hy hx h6
      have h10 := ends_lex hx hy h6.symm
      rcases h8 with h8 | h8
      · rw [h8, lexL_refl] at h9
        rw [← h9] at h7; cases h7
      · rw [h10] at h8
        have := lexL_trans h7 h8
        rw [lexL_refl] at this; cases this
theorem few_ex {L : List Sm} {u : Int} (h : OkE L u) (hn : 0 < L.length) {most m : Nat} (hf : Few L u most m) : lv L u m 0 ≠ nonE := by
  have := lv_monos h (lv_one h hn) (m - 1) (by have := hf.le; have := hf.m1; omega)
  rw [show 1 + (m - 1) = m by have := hf.m1; omega] at this
  exact this.1
end Go.Proofs.YtionocafkaemiaaDoor.Sx
