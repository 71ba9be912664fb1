/- Plain: traces, what is wrong with them, their gaps. Plain: how the check goes on, sums over gaps and pages. Plain: pages that wait, by steps and by ticks. Plain: the specification's ticks do the same. -/
namespace Go.Proofs.Ytnkkhbmbbkmfhaa.Py

/-- A use, or a gap: page, from, to. -/
structure PU where
  p : Int
  f : Int
  t : Int
instance : Inhabited PU := ⟨⟨0, 0, 1⟩⟩
theorem pu_ext {a b : PU} (h1 : a.p = b.p) (h2 : a.f = b.f) (h3 : a.t = b.t) : a = b := by cases a; cases b; cases h1; cases h2; cases h3; rfl

structure OkU (u : PU) : Prop where
  p0 : 0 ≤ u.p
  p1 : u.p < 1024
  f0 : 0 ≤ u.f
  ft : u.f < u.t
  t1 : u.t ≤ 1000000000
def badU (u : PU) : Bool := decide (u.p < 0) || decide (1024 ≤ u.p) || decide (u.f < 0) || decide (1000000000 < u.f) || decide (u.t < 0) || decide (1000000000 < u.t) || decide (u.t ≤ u.f)
theorem badU_iff (u : PU) : badU u = false ↔ OkU u := by
  unfold badU
  simp only [Bool.or_eq_false_iff, decide_eq_false_iff_not]
  constructor
  · rintro ⟨⟨⟨⟨⟨⟨h1, h2⟩, h3⟩, h4⟩, h5⟩, h6⟩, h7⟩; exact ⟨by omega, by omega, by omega, by omega, by omega⟩
  · rintro ⟨h1, h2, h3, h4, h5⟩; exact ⟨⟨⟨⟨⟨⟨by omega, by omega⟩, by omega⟩, by omega⟩, by omega⟩, by omega⟩, by omega⟩

/-- A use may stand ahead of another one. -/
def Ahead (a b : PU) : Prop := (a.f < b.f ∨ (a.f = b.f ∧ a.p < b.p)) ∧ (a.p = b.p → a.t < b.f)
instance (a b : PU) : Decidable (Ahead a b) := by unfold Ahead; infer_instance
def Good (L : List PU) : Prop := L.Pairwise Ahead
instance (L : List PU) : Decidable (Good L) := by unfold Good; infer_instance
def checkV (L : List PU) : Int := if 200 < L.length then 3 else if L.any badU then 7 else if Good L then 0 else 6
structure OkL (L : List PU) : Prop where
  len : L.length ≤ 200
  ok : ∀ u, u ∈ L → OkU u
  good : Good L
theorem any_bad (L : List PU) : L.any badU = false ↔ ∀ u, u ∈ L → OkU u := by
  rw [List.any_eq_false]
  exact ⟨fun h u hu => (badU_iff u).1 (by simpa using h u hu), fun h u hu => by rw [(badU_iff u).2 (h u hu)]; simp⟩
theorem checkV_ok (L : List PU) : checkV L = 0 ↔ OkL L := by
  unfold checkV
  split
  · exact ⟨fun h => by omega, fun h => by have := h.len; omega⟩
  · split
    · next h1 h2 => exact ⟨fun h => by omega, fun h => by rw [(any_bad L).2 h.ok] at h2; cases h2⟩
    · next h1 h2 =>
      split
      · next h3 => exact ⟨fun _ => ⟨by omega, (any_bad L).1 (by simpa using h2), h3⟩, fun _ => rfl⟩
      · next h3 => exact ⟨fun h => by omega, fun h => absurd h.good h3⟩
theorem checkV_cases (L : List PU) : checkV L = 0 ∨ checkV L = 3 ∨ checkV L = 6 ∨ checkV L = 7 := by unfold checkV; split <;> (try split) <;> (try split) <;> simp

abbrev use (L : List PU) (i : Nat) : PU := L.getD i default
theorem use_get {L : List PU} {i : Nat} (h : i < L.length) : L[i]? = some (use L i) := by
  unfold use; rw [List.getD_eq_getElem?_getD, List.getElem?_eq_getElem h]; rfl
theorem use_mem {L : List PU} {i : Nat} (h : i < L.length) : use L i ∈ L := List.mem_of_getElem? (use_get h)
theorem take_next {α : Type} {L : List α} {k : Nat} {u : α} (h : L[k]? = some u) : L.take (k + 1) = L.take k ++ [u] := by
  rw [List.take_add_one, h]; rfl
theorem drop_next {α : Type} {L : List α} {k : Nat} {u : α} (h : L[k]? = some u) : L.drop k = u :: L.drop (k + 1) := by
  obtain ⟨hk, rfl⟩ := List.getElem?_eq_some_iff.1 h
  exact List.drop_eq_getElem_cons hk
theorem OkL.use {L : List PU} (h : OkL L) {i : Nat} (hi : i < L.length) : OkU (use L i) := h.ok _ (use_mem hi)
theorem OkL.take {L : List PU} (h : OkL L) (k : Nat) : OkL (L.take k) :=
  ⟨by rw [List.length_take]; have := h.len; omega, fun u hu => h.ok u (List.mem_of_mem_take hu), List.Pairwise.sublist (List.take_sublist k L) h.good⟩
theorem OkL.tail {u : PU} {L : List PU} (h : OkL (u :: L)) : OkL L :=
  ⟨by have := h.len; simp only [List.length_cons] at this; omega, fun v hv => h.ok v (List.mem_cons_of_mem _ hv), (List.pairwise_cons.1 h.good).2⟩
theorem OkL.drop {L : List PU} (h : OkL L) (k : Nat) : OkL (L.drop k) :=
  ⟨by rw [List.length_drop]; have := h.len; omega, fun u hu => h.ok u (List.mem_of_mem_drop hu), List.Pairwise.sublist (List.drop_sublist k L) h.good⟩

/-! What is known of the pages. -/
abbrev Mp := Int → Option Int
def upd (m : Mp) (p : Int) (o : Option Int) : Mp := fun q => if q = p then o else m q
theorem upd_same (m : Mp) (p : Int) (a b : Option Int) : upd (upd m p a) p b = upd m p b := by
  funext q; unfold upd; split <;> rfl
theorem upd_comm (m : Mp) {p q : Int} (h : p ≠ q) (a b : Option Int) : upd (upd m p a) q b = upd (upd m q b) p a := by
  funext r; unfold upd
  by_cases h1 : r = q
  · have : r ≠ p := fun e => h (e.symm.trans h1)
    rw [if_pos h1, if_neg this, if_pos h1]
  · rw [if_neg h1]
    by_cases h2 : r = p
    · rw [if_pos h2, if_pos h2]
    · rw [if_neg h2, if_neg h2, if_neg h1]
abbrev no : Mp := fun _ => none
theorem upd_no (p : Int) : upd no p none = no := by funext q; unfold upd; split <;> rfl
def lastF (m : Mp) : List PU → Mp
  | [] => m
  | u :: L => lastF (upd m u.p (some u.t)) L
theorem lastF_add (m : Mp) (u : PU) : ∀ L : List PU, lastF m (L ++ [u]) = upd (lastF m L) u.p (some u.t)
  | [] => rfl
  | v :: L => lastF_add (upd m v.p (some v.t)) u L
def gapM (m : Mp) (u : PU) : List PU := match m u.p with
  | some t => [⟨u.p, t, u.f⟩]
  | none => []
def rawF (m : Mp) : List PU → List PU
  | [] => []
  | u :: L => gapM m u ++ rawF (upd m u.p (some u.t)) L
theorem rawF_add (m : Mp) (u : PU) : ∀ L : List PU, rawF m (L ++ [u]) = rawF m L ++ gapM (lastF m L) u
  | [] => by simp [rawF, lastF]
  | v :: L => by
    show gapM m v ++ rawF _ (L ++ [u]) = (gapM m v ++ rawF _ L) ++ _
    rw [rawF_add _ u L, List.append_assoc]; rfl
/-- The next use of the same page. -/
def nextOf (p : Int) (L : List PU) : Option PU := L.find? fun v => decide (v.p = p)
def nextG (u : PU) (L : List PU) : List PU := match nextOf u.p L with
  | some v => [⟨u.p, u.t, v.f⟩]
  | none => []
def refRaw : List PU → List PU
  | [] => []
  | u :: L => nextG u L ++ refRaw L
theorem nextOf_cons_eq {p : Int} {u : PU} (h : u.p = p) (L : List PU) : nextOf p (u :: L) = some u := by
  unfold nextOf; rw [List.find?_cons_of_pos (by simpa using h)]
theorem nextOf_cons_ne {p : Int} {u : PU} (h : u.p ≠ p) (L : List PU) : nextOf p (u :: L) = nextOf p L := by
  unfold nextOf; rw [List.find?_cons_of_neg (by simpa using h)]
theorem nextOf_some {p : Int} {L : List PU} {v : PU} (h : nextOf p L = some v) : v ∈ L ∧ v.p = p := by
  unfold nextOf at h
  exact ⟨List.mem_of_find?_eq_some h, by simpa using List.find?_some h⟩
theorem nextOf_none {p : Int} {L : List PU} : nextOf p L = none ↔ ∀ v, v ∈ L → v.p ≠ p := by
  unfold nextOf; rw [List.find?_eq_none]; simp

theorem raw_upd (p t : Int) (x : Int) : ∀ (L : List PU) (m : Mp), (rawF (upd m p (some t)) L).Perm (nextG ⟨p, x, t⟩ L ++ rawF (upd m p none) L)
  | [], m => .refl _
  | u :: L, m => by
    unfold nextG
    dsimp only
    by_cases h : u.p = p
    · rw [nextOf_cons_eq h]
      subst h
      have e1 : rawF (upd m u.p (some t)) (u :: L) = [⟨u.p, t, u.f⟩] ++ rawF (upd m u.p (some u.t)) L := by
        show gapM (upd m u.p (some t)) u ++ rawF (upd (upd m u.p (some t)) u.p (some u.t)) L = _
        rw [upd_same]; unfold gapM upd; rw [if_pos rfl]
      have e2 : rawF (upd m u.p none) (u :: L) = rawF (upd m u.p (some u.t)) L := by
        show gapM (upd m u.p none) u ++ rawF (upd (upd m u.p none) u.p (some u.t)) L = _
        rw [upd_same]; unfold gapM upd; rw [if_pos rfl]; rfl
      rw [e1, e2]
    · rw [nextOf_cons_ne h]
      have e1 : rawF (upd m p (some t)) (u :: L) = gapM m u ++ rawF (upd (upd m u.p (some u.t)) p (some t)) L := by
        show gapM (upd m p (some t)) u ++ rawF (upd (upd m p (some t)) u.p (some u.t)) L = _
        rw [upd_comm m (fun e => h e.symm)]; unfold gapM upd; rw [if_neg h]
      have e2 : rawF (upd m p none) (u :: L) = gapM m u ++ rawF (upd (upd m u.p (some u.t)) p none) L := by
        show gapM (upd m p none) u ++ rawF (upd (upd m p none) u.p (some u.t)) L = _
        rw [upd_comm m (fun e => h e.symm)]; unfold gapM upd; rw [if_neg h]
      rw [e1, e2]
      have ih := raw_upd p t x L (upd m u.p (some u.t))
      unfold nextG at ih
      dsimp only at ih
      refine (List.Perm.append_left _ ih).trans ?_
      rw [← List.append_assoc, ← List.append_assoc]
      exact List.Perm.append_right _ List.perm_append_comm
theorem raw_ref : ∀ L : List PU, (rawF no L).Perm (refRaw L)
  | [] => .refl _
  | u :: L => by
    show (gapM no u ++ rawF (upd no u.p (some u.t)) L).Perm (nextG u L ++ refRaw L)
    have h := raw_upd u.p u.t u.f L no
    rw [upd_no] at h
    exact h.trans (List.Perm.append_left _ (raw_ref L))

/-- Order of gaps. -/
def glt (a b : PU) : Bool := decide (a.f < b.f) || (decide (a.f = b.f) && decide (a.p < b.p))
theorem glt_iff {a b : PU} : glt a b = true ↔ a.f < b.f ∨ (a.f = b.f ∧ a.p < b.p) := by
  unfold glt; simp only [Bool.or_eq_true, Bool.and_eq_true, decide_eq_true_eq]
theorem glt_not {a b : PU} : glt a b = false ↔ b.f < a.f ∨ (a.f = b.f ∧ b.p ≤ a.p) := by
  have h := @glt_iff a b
  cases e : glt a b with
  | true => rw [e] at h; have := h.1 rfl; exact ⟨fun h => by (cases h), fun h2 => by omega⟩
  | false =>
    rw [e] at h
    refine ⟨fun _ => ?_, fun _ => rfl⟩
    rcases Int.lt_trichotomy a.f b.f with h1 | h1 | h1
    · have := h.2 (.inl h1); cases this
    · rcases Int.lt_or_le a.p b.p with h2 | h2
      · have := h.2 (.inr ⟨h1, h2⟩); cases this
      · exact .inr ⟨h1, h2⟩
    · exact .inl h1
/-- Where the specification puts a gap. -/
def atG (g : PU) (out : List PU) : Nat → Nat
  | 0 => 0
  | k + 1 => if glt g (use out k) then atG g out k else k + 1
def insG (out : List PU) (g : PU) : List PU := out.take (atG g out out.length) ++ g :: out.drop (atG g out out.length)
def sortG (l : List PU) : List PU := l.foldl insG []
def gapsV (L : List PU) : List PU := sortG (refRaw L)
theorem atG_le (g : PU) (out : List PU) : ∀ k, atG g out k ≤ k
  | 0 => Nat.le_refl _
  | k + 1 => by
    unfold atG
    split
    · exact Nat.le_succ_of_le (atG_le g out k)
    · exact Nat.le_refl _
theorem atG_up (g : PU) (out : List PU) : ∀ k j, atG g out k ≤ j → j < k → glt g (use out j) = true
  | 0, j, _, h => by omega
  | k + 1, j, h1, h2 => by
    unfold atG at h1
    split at h1
    · next h =>
      rcases Nat.lt_or_ge j k with h3 | h3
      · exact atG_up g out k j h1 h3
      · obtain rfl : j = k := by omega
        exact h
    · omega
theorem atG_down (g : PU) (out : List PU) : ∀ k, 0 < atG g out k → glt g (use out (atG g out k - 1)) = false
  | 0, h => by simp [atG] at h
  | k + 1, h => by
    unfold atG at h ⊢
    split
    · next h1 => rw [if_pos h1] at h; exact atG_down g out k h
    · next h1 => simpa using h1
def gle (a b : PU) : Prop := a.f < b.f ∨ (a.f = b.f ∧ a.p ≤ b.p)
theorem gle_trans {a b c : PU} (h : gle a b) (k : gle b c) : gle a c := by unfold gle at *; omega
theorem insG_perm (out : List PU) (g : PU) : (insG out g).Perm (g :: out) := by
  unfold insG
  refine List.perm_middle.trans ?_
  rw [List.take_append_drop]
theorem insG_sorted {out : List PU} (h : out.Pairwise gle) (g : PU) : (insG out g).Pairwise gle := by
  unfold insG
  generalize hk : atG g out out.length = k
  have hle : k ≤ out.length := by rw [← hk]; exact atG_le _ _ _
  have hup : ∀ j, k ≤ j → j < out.length → glt g (use out j) = true := by rw [← hk]; exact atG_up g out out.length
  have hdn : 0 < k → glt g (use out (k - 1)) = false := by rw [← hk]; exact atG_down g out out.length
  have hs := h
  rw [← List.take_append_drop k out, List.pairwise_append] at hs
  obtain ⟨s1, s2, s3⟩ := hs
  have low : ∀ x, x ∈ out.take k → gle x g := by
    intro x hx
    have hk0 : 0 < k := by
      rcases Nat.eq_zero_or_pos k with h0 | h0
      · rw [h0] at hx; simp at hx
      · exact h0
    have h1 := glt_not.1 (hdn hk0)
    have hlast : gle (use out (k - 1)) g := by unfold gle; omega
    obtain ⟨i, hi, rfl⟩ := List.mem_iff_getElem.1 hx
    rw [List.length_take] at hi
    rw [List.getElem_take]
    have e : use out (k - 1) = out[k - 1]'(by omega) := by
      unfold use; rw [List.getD_eq_getElem?_getD, List.getElem?_eq_getElem (by omega)]; rfl
    rw [e] at hlast
    rcases Nat.lt_or_ge i (k - 1) with h2 | h2
    · exact gle_trans ((List.pairwise_iff_getElem.1 h) i (k - 1) (by omega) (by omega) h2) hlast
    · have e2 : i = k - 1 := by omega
      subst e2; exact hlast
  have high : ∀ x, x ∈ out.drop k → gle g x := by
    intro x hx
    obtain ⟨i, hi, rfl⟩ := List.mem_iff_getElem.1 hx
    rw [List.length_drop] at hi
    rw [List.getElem_drop]
    have h1 := hup (k + i) (by omega) (by omega)
    have e : use out (k + i) = out[k + i]'(by omega) := by
      unfold use; rw [List.getD_eq_getElem?_getD, List.getElem?_eq_getElem (by omega)]; rfl
    rw [e, glt_iff] at h1
    unfold gle; omega
  rw [List.pairwise_append]
  refine ⟨s1, List.pairwise_cons.2 ⟨high, s2⟩, fun x hx y hy => ?_⟩
  rcases List.mem_cons.1 hy with rfl | hy
  · exact low x hx
  · exact s3 x hx y hy
theorem foldG (l : List PU) : ∀ out : List PU, out.Pairwise gle → (l.foldl insG out).Pairwise gle ∧ (l.foldl insG out).Perm (l ++ out) := by
  induction l with
  | nil => exact fun out h => ⟨h, .refl _⟩
  | cons g l ih =>
    intro out h
    obtain ⟨h1, h2⟩ := ih (insG out g) (insG_sorted h g)
    refine ⟨h1, h2.trans ?_⟩
    refine (List.Perm.append_left l (insG_perm out g)).trans ?_
    exact List.perm_middle
theorem gapsV_perm (L : List PU) : (gapsV L).Perm (refRaw L) := by
  have := (foldG (refRaw L) [] List.Pairwise.nil).2
  rwa [List.append_nil] at this
theorem gapsV_sorted (L : List PU) : (gapsV L).Pairwise gle := (foldG (refRaw L) [] List.Pairwise.nil).1

/-- A gap of a trace. -/
structure OkG (g : PU) : Prop where
  p0 : 0 ≤ g.p
  p1 : g.p < 1024
  f0 : 0 ≤ g.f
  ft : g.f < g.t
  t1 : g.t ≤ 1000000000
theorem mem_refRaw {g : PU} : ∀ {L : List PU}, g ∈ refRaw L → ∃ u v, u ∈ L ∧ v ∈ L ∧ u.p = g.p ∧ v.p = g.p ∧ g.f = u.t ∧ g.t = v.f ∧ (OkL L → u.t < v.f)
  | [], h => by cases h
  | u :: L, h => by
    rcases List.mem_append.1 (show g ∈ nextG u L ++ refRaw L from h) with h1 | h1
    · unfold nextG at h1
      split at h1
      · next v hv =>
        obtain ⟨k1, k2⟩ := nextOf_some hv
        rw [List.mem_singleton] at h1
        subst h1
        exact ⟨u, v, List.mem_cons_self .., List.mem_cons_of_mem _ k1, rfl, k2, rfl, rfl, fun hL => ((List.pairwise_cons.1 hL.good).1 v k1).2 k2.symm⟩
      · cases h1
    · obtain ⟨a, b, h1, h2, h3, h4, h5, h6, h7⟩ := mem_refRaw h1
      exact ⟨a, b, List.mem_cons_of_mem _ h1, List.mem_cons_of_mem _ h2, h3, h4, h5, h6, fun hL => h7 hL.tail⟩
theorem ok_raw {L : List PU} (h : OkL L) {g : PU} (hg : g ∈ refRaw L) : OkG g := by
  obtain ⟨u, v, h1, h2, h3, h4, h5, h6, h7⟩ := mem_refRaw hg
  have ou := h.ok u h1
  have ov := h.ok v h2
  have := h7 h
  have a := ou.p0; have b := ou.p1; have c := ou.f0; have d := ou.ft; have e := ov.ft; have f := ov.t1
  exact ⟨by omega, by omega, by omega, by omega, by omega⟩
theorem ok_gaps {L : List PU} (h : OkL L) {g : PU} (hg : g ∈ gapsV L) : OkG g := ok_raw h ((gapsV_perm L).mem_iff.1 hg)
def Diff (a b : PU) : Prop := a.p = b.p → a.f ≠ b.f
theorem raw_diff : ∀ {L : List PU}, OkL L → (refRaw L).Pairwise Diff
  | [], _ => List.Pairwise.nil
  | u :: L, h => by
    show (nextG u L ++ refRaw L).Pairwise Diff
    rw [List.pairwise_append]
    refine ⟨?_, raw_diff h.tail, fun a ha b hb => ?_⟩
    · unfold nextG
      split
      · exact List.pairwise_singleton _ _
      · exact List.Pairwise.nil
    · unfold nextG at ha
      split at ha
      · rw [List.mem_singleton] at ha
        subst ha
        intro hp hf
        obtain ⟨x, y, h1, _, h3, _, h5, _, _⟩ := mem_refRaw hb
        have := ((List.pairwise_cons.1 h.good).1 x h1).2 (by rw [h3]; exact hp)
        have ox := h.tail.ok x h1
        have := ox.ft
        have hf : u.t = b.f := hf
        omega
      · cases ha
theorem gaps_diff {L : List PU} (h : OkL L) {l : List PU} (hp : l.Perm (refRaw L)) : l.Pairwise Diff :=
  List.Pairwise.perm (raw_diff h) hp.symm fun hxy e1 e2 => hxy e1.symm e2.symm
theorem pair_eq {R : PU → PU → Prop} {l : List PU} (h : l.Pairwise R) (hs : ∀ {a b}, R a b → R b a) {a b : PU} (ha : a ∈ l) (hb : b ∈ l) (hn : ¬ R a b) : a = b := by
  induction l with
  | nil => cases ha
  | cons x l ih =>
    obtain ⟨h1, h2⟩ := List.pairwise_cons.1 h
    rcases List.mem_cons.1 ha with rfl | ka
    · rcases List.mem_cons.1 hb with rfl | kb
      · rfl
      · exact absurd (h1 b kb) hn
    · rcases List.mem_cons.1 hb with rfl | kb
      · exact absurd (hs (h1 a ka)) hn
      · exact ih h2 ka kb
/-- However the gaps are sorted, the same comes of it. -/
theorem gaps_only {L : List PU} (h : OkL L) {l : List PU} (hp : l.Perm (rawF no L)) (hs : l.Pairwise gle) : l = gapsV L := by
  have hp2 := hp.trans (raw_ref L)
  refine List.Perm.eq_of_pairwise (le := gle) (fun a b ha hb h1 h2 => ?_) hs (gapsV_sorted L) (hp2.trans (gapsV_perm L).symm)
  refine pair_eq (gaps_diff h hp2) (fun hxy e1 e2 => hxy e1.symm e2.symm) ha ((hp2.trans (gapsV_perm L).symm).mem_iff.2 hb) fun hd => ?_
  unfold gle at h1 h2
  exact hd (by omega) (by omega)
theorem refRaw_len : ∀ L : List PU, (refRaw L).length ≤ L.length
  | [] => Nat.le_refl _
  | u :: L => by
    have := refRaw_len L
    show (nextG u L ++ refRaw L).length ≤ _
    rw [List.length_append]
    have : (nextG u L).length ≤ 1 := by unfold nextG; split <;> simp
    simp only [List.length_cons]; omega
theorem gapsV_len (L : List PU) : (gapsV L).length ≤ L.length := by rw [(gapsV_perm L).length_eq]; exact refRaw_len L
end Go.Proofs.Ytnkkhbmbbkmfhaa.Py
namespace Go.Proofs.Ytnkkhbmbbkmfhaa.Py

/-! Checking use by use. -/
def Ord2 (a b : PU) : Prop := a.f < b.f ∨ (a.f = b.f ∧ a.p < b.p)
theorem good_snoc (L : List PU) (u : PU) : Good (L ++ [u]) ↔ Good L ∧ ∀ v, v ∈ L → Ahead v u := by
  unfold Good
  rw [List.pairwise_append]
  constructor
  · rintro ⟨h1, _, h3⟩; exact ⟨h1, fun v hv => h3 v hv u (List.mem_singleton.2 rfl)⟩
  · rintro ⟨h1, h2⟩
    exact ⟨h1, List.pairwise_singleton _ _, fun v hv x hx => by rw [List.mem_singleton.1 hx]; exact h2 v hv⟩
theorem good_take {L : List PU} (h : Good L) (k : Nat) : Good (L.take k) := List.Pairwise.sublist (List.take_sublist k L) h
theorem take_mem {L : List PU} {k : Nat} {v : PU} : v ∈ L.take k ↔ ∃ j, j < k ∧ j < L.length ∧ v = use L j := by
  constructor
  · intro h
    obtain ⟨j, hj, rfl⟩ := List.mem_iff_getElem.1 h
    rw [List.length_take] at hj
    refine ⟨j, by omega, by omega, ?_⟩
    rw [List.getElem_take]
    unfold use; rw [List.getD_eq_getElem?_getD, List.getElem?_eq_getElem (by omega)]; rfl
  · rintro ⟨j, h1, h2, rfl⟩
    exact List.mem_of_getElem? (i := j) (by rw [List.getElem?_take, if_pos h1]; exact use_get h2)
theorem good_at {L : List PU} {k : Nat} (h : Good (L.take k)) {i j : Nat} (hij : i < j) (hj : j < k) (hl : j < L.length) : Ahead (use L i) (use L j) := by
  have := (List.pairwise_iff_getElem.1 h) i j (by rw [List.length_take]; omega) (by rw [List.length_take]; omega) hij
  rw [List.getElem_take, List.getElem_take] at this
  unfold use
  rw [List.getD_eq_getElem?_getD, List.getElem?_eq_getElem (by omega), List.getD_eq_getElem?_getD, List.getElem?_eq_getElem (by omega)]
  exact this
/-- What must be seen to for one use more. -/
theorem good_next {L : List PU} {k : Nat} (hk : k < L.length) (h : Good (L.take k)) :
    Good (L.take (k + 1)) ↔ (0 < k → Ord2 (use L (k - 1)) (use L k)) ∧ ∀ j, j < k → (use L j).p = (use L k).p → (use L j).t < (use L k).f := by
  rw [take_next (use_get hk), good_snoc]
  constructor
  · rintro ⟨_, h2⟩
    exact ⟨fun h0 => (h2 _ (take_mem.2 ⟨k - 1, by omega, by omega, rfl⟩)).1, fun j hj hp => (h2 _ (take_mem.2 ⟨j, hj, by omega, rfl⟩)).2 hp⟩
  · rintro ⟨h1, h2⟩
    refine ⟨h, fun v hv => ?_⟩
    obtain ⟨j, hj, hl, rfl⟩ := take_mem.1 hv
    refine ⟨?_, h2 j hj⟩
    have hlast := h1 (by omega)
    unfold Ord2 at hlast
    rcases Nat.lt_or_ge j (k - 1) with h3 | h3
    · have := (good_at h h3 (by omega) (by omega)).1
      omega
    · have : j = k - 1 := by omega
      subst this; exact hlast
theorem last_from {L : List PU} : ∀ (k : Nat) (p t : Int), lastF no (L.take k) p = some t → ∃ j, j < k ∧ j < L.length ∧ (use L j).p = p ∧ (use L j).t = t
  | 0, p, t, h => by simp [lastF] at h
  | k + 1, p, t, h => by
    rcases Nat.lt_or_ge k L.length with hk | hk
    · rw [take_next (use_get hk), lastF_add] at h
      unfold upd at h
      split at h
      · next h1 => injection h with h; exact ⟨k, by omega, hk, h1.symm, h⟩
      · obtain ⟨j, a, b, c, d⟩ := last_from k p t h
        exact ⟨j, by omega, b, c, d⟩
    · rw [List.take_of_length_le (by omega)] at h
      rw [← List.take_of_length_le hk] at h
      obtain ⟨j, a, b, c, d⟩ := last_from k p t h
      exact ⟨j, by omega, b, c, d⟩
theorem last_max {L : List PU} (hok : ∀ u, u ∈ L → OkU u) : ∀ (k : Nat), Good (L.take k) → ∀ j, j < k → j < L.length → ∃ t, lastF no (L.take k) (use L j).p = some t ∧ (use L j).t ≤ t
  | 0, _, j, h, _ => by omega
  | k + 1, hg, j, hj, hl => by
    have hg' : Good (L.take k) := by have := good_take hg k; rwa [List.take_take, Nat.min_eq_left (by omega)] at this
    rcases Nat.lt_or_ge k L.length with hk | hk
    · rw [take_next (use_get hk), lastF_add]
      unfold upd
      split
      · next h1 =>
        refine ⟨_, rfl, ?_⟩
        rcases Nat.lt_or_ge j k with h2 | h2
        · have := (good_at hg h2 (by omega) hk).2 h1
          have := (hok _ (use_mem hk)).ft
          omega
        · have : j = k := by omega
          subst this; exact Int.le_refl _
      · next h1 =>
        have h2 : j < k := by
          rcases Nat.lt_or_ge j k with h2 | h2
          · exact h2
          · have : j = k := by omega
            subst this; exact absurd rfl h1
        exact last_max hok k hg' j h2 hl
    · have e : L.take (k + 1) = L.take k := by rw [List.take_of_length_le (by omega), List.take_of_length_le hk]
      rw [e]
      exact last_max hok k hg' j (by omega) hl
/-- The same, by the last use of the page. -/
theorem good_next_last {L : List PU} (hok : ∀ u, u ∈ L → OkU u) {k : Nat} (hk : k < L.length) (h : Good (L.take k)) :
    Good (L.take (k + 1)) ↔ (0 < k → Ord2 (use L (k - 1)) (use L k)) ∧ ∀ t, lastF no (L.take k) (use L k).p = some t → t < (use L k).f := by
  rw [good_next hk h]
  refine and_congr_right fun _ => ⟨fun h2 t ht => ?_, fun h2 j hj hp => ?_⟩
  · obtain ⟨j, a, b, c, d⟩ := last_from k _ t ht
    rw [← d]; exact h2 j a c
  · obtain ⟨t, h3, h4⟩ := last_max hok k h j hj (by omega)
    rw [hp] at h3
    have := h2 t h3
    omega
theorem check_good {L : List PU} (hl : L.length ≤ 200) (hb : L.any badU = false) : checkV L = if Good L then 0 else 6 := by
  unfold checkV
  rw [if_neg (by omega), hb]; rfl
theorem check_fail {L : List PU} (hl : L.length ≤ 200) (hb : L.any badU = false) {k : Nat} (h : ¬ Good (L.take k)) : checkV L = 6 := by
  rw [check_good hl hb, if_neg fun hg => h (good_take hg k)]

/-! Sums. -/
theorem perm_sum {α : Type} (f : α → Int) {l l' : List α} (h : l.Perm l') : (l.map f).sum = (l'.map f).sum := by
  induction h with
  | nil => rfl
  | cons x _ ih => simp only [List.map_cons, List.sum_cons]; rw [ih]
  | swap x y l => simp only [List.map_cons, List.sum_cons]; omega
  | trans _ _ h1 h2 => exact h1.trans h2
theorem sum_add1 {α : Type} (f : α → Int) (l : List α) (x : α) : ((l ++ [x]).map f).sum = (l.map f).sum + f x := by
  rw [List.map_append, List.sum_append]; simp
theorem sum_bd {α : Type} {f : α → Int} {B : Int} : ∀ {l : List α}, (∀ x, x ∈ l → 0 ≤ f x ∧ f x ≤ B) → 0 ≤ (l.map f).sum ∧ (l.map f).sum ≤ B * (l.length : Int)
  | [], _ => by simp
  | x :: l, h => by
    have h1 := h x (List.mem_cons_self ..)
    have h2 := sum_bd (l := l) fun y hy => h y (List.mem_cons_of_mem _ hy)
    simp only [List.map_cons, List.sum_cons, List.length_cons]
    have e : B * ((l.length + 1 : Nat) : Int) = B * (l.length : Int) + B := by
      rw [Int.natCast_add, Int.mul_add]; simp
    rw [e]; omega
theorem sum_le {α : Type} {f g : α → Int} : ∀ {l : List α}, (∀ x, x ∈ l → f x ≤ g x) → (l.map f).sum ≤ (l.map g).sum
  | [], _ => Int.le_refl _
  | x :: l, h => by
    have h1 := h x (List.mem_cons_self ..)
    have h2 := sum_le (l := l) fun y hy => h y (List.mem_cons_of_mem _ hy)
    simp only [List.map_cons, List.sum_cons]; omega
theorem sum_lt {α : Type} {f g : α → Int} : ∀ {l : List α}, (∀ x, x ∈ l → f x ≤ g x) → (∃ x, x ∈ l ∧ f x < g x) → (l.map f).sum < (l.map g).sum
  | [], _, h => by obtain ⟨x, hx, _⟩ := h; cases hx
  | x :: l, h, he => by
    have h1 := h x (List.mem_cons_self ..)
    have hl : ∀ y, y ∈ l → f y ≤ g y := fun y hy => h y (List.mem_cons_of_mem _ hy)
    simp only [List.map_cons, List.sum_cons]
    obtain ⟨y, hy, hlt⟩ := he
    rcases List.mem_cons.1 hy with rfl | hy
    · have := sum_le hl; omega
    · have := sum_lt hl ⟨y, hy, hlt⟩; omega

/-- How many pages are used. -/
def firstsF (m : Mp) : List PU → Nat
  | [] => 0
  | u :: L => (if m u.p = none then 1 else 0) + firstsF (upd m u.p (some u.t)) L
theorem firstsF_add (m : Mp) (u : PU) : ∀ L : List PU, firstsF m (L ++ [u]) = firstsF m L + (if lastF m L u.p = none then 1 else 0)
  | [] => by
    show (if m u.p = none then 1 else 0) + 0 = 0 + (if m u.p = none then 1 else 0)
    omega
  | v :: L => by
    show (if m v.p = none then 1 else 0) + firstsF _ (L ++ [u]) = ((if m v.p = none then 1 else 0) + firstsF _ L) + _
    rw [firstsF_add _ u L, Nat.add_assoc]; rfl
theorem firsts_len : ∀ (L : List PU) (m : Mp), (rawF m L).length + firstsF m L = L.length
  | [], _ => rfl
  | u :: L, m => by
    have ih := firsts_len L (upd m u.p (some u.t))
    show (gapM m u ++ rawF _ L).length + ((if m u.p = none then 1 else 0) + firstsF _ L) = L.length + 1
    rw [List.length_append]
    cases e : m u.p with
    | none =>
      have e2 : (gapM m u).length = 0 := by unfold gapM; rw [e]; rfl
      rw [e2, if_pos rfl]; omega
    | some t =>
      have e2 : (gapM m u).length = 1 := by unfold gapM; rw [e]; rfl
      rw [e2, if_neg (by simp)]; omega
abbrev firsts (L : List PU) : Nat := firstsF no L
theorem firsts_gaps (L : List PU) : firsts L + (gapsV L).length = L.length := by
  have h1 := firsts_len L no
  have h2 := (raw_ref L).length_eq
  have h3 := (gapsV_perm L).length_eq
  show firstsF no L + _ = _
  omega
theorem firsts_le (L : List PU) : firsts L ≤ L.length := by have := firsts_gaps L; omega
/-- The uses behind which the page is not used again. -/
def tails : List PU → List PU
  | [] => []
  | u :: L => (match nextOf u.p L with
    | some _ => []
    | none => [u]) ++ tails L
theorem mem_tails {u : PU} : ∀ {L : List PU}, u ∈ tails L → u ∈ L
  | [], h => h
  | v :: L, h => by
    rcases List.mem_append.1 (show u ∈ (match nextOf v.p L with | some _ => [] | none => [v]) ++ tails L from h) with h1 | h1
    · split at h1
      · cases h1
      · rw [List.mem_singleton.1 h1]; exact List.mem_cons_self ..
    · exact List.mem_cons_of_mem _ (mem_tails h1)
theorem tails_len : ∀ L : List PU, (refRaw L).length + (tails L).length = L.length
  | [] => rfl
  | u :: L => by
    have ih := tails_len L
    show (nextG u L ++ refRaw L).length + ((match nextOf u.p L with | some _ => [] | none => [u]) ++ tails L).length = L.length + 1
    rw [List.length_append, List.length_append]
    unfold nextG
    cases nextOf u.p L <;> simp only [List.length_cons, List.length_nil] <;> omega
theorem tails_firsts (L : List PU) : (tails L).length = firsts L := by
  have h1 := tails_len L
  have h2 := firsts_gaps L
  have h3 := (gapsV_perm L).length_eq
  omega

/-- A sum over the pages. -/
def pageS (m : Mp) (ψ : Int → Int) : Nat → Int
  | 0 => 0
  | k + 1 => pageS m ψ k + (match m (k : Int) with
    | some t => ψ t
    | none => 0)
theorem pageS_no (ψ : Int → Int) : ∀ n, pageS no ψ n = 0
  | 0 => rfl
  | n + 1 => by show pageS no ψ n + 0 = 0; rw [pageS_no ψ n]; rfl
theorem pageS_same {m m' : Mp} (ψ : Int → Int) : ∀ n : Nat, (∀ k : Nat, k < n → m (k : Int) = m' (k : Int)) → pageS m ψ n = pageS m' ψ n
  | 0, _ => rfl
  | n + 1, h => by
    show pageS m ψ n + _ = pageS m' ψ n + _
    rw [pageS_same ψ n fun k hk => h k (by omega), h n (by omega)]
theorem pageS_upd (m : Mp) (ψ : Int → Int) {p : Int} (h0 : 0 ≤ p) (t : Int) : ∀ n : Nat, p < (n : Int) → pageS (upd m p (some t)) ψ n = pageS (upd m p none) ψ n + ψ t
  | 0, h => by omega
  | n + 1, h => by
    show pageS (upd m p (some t)) ψ n + _ = (pageS (upd m p none) ψ n + _) + ψ t
    by_cases e : (n : Int) = p
    · have e1 : pageS (upd m p (some t)) ψ n = pageS (upd m p none) ψ n := pageS_same ψ n fun k hk => by
        unfold upd; rw [if_neg (by omega), if_neg (by omega)]
      have e2 : upd m p (some t) (n : Int) = some t := by unfold upd; rw [if_pos e]
      have e3 : upd m p none (n : Int) = none := by unfold upd; rw [if_pos e]
      rw [e1, e2, e3]; dsimp only; omega
    · have e2 : upd m p (some t) (n : Int) = m n := by unfold upd; rw [if_neg e]
      have e3 : upd m p none (n : Int) = m n := by unfold upd; rw [if_neg e]
      rw [e2, e3, pageS_upd m ψ h0 t n (by omega)]; omega
theorem pageS_put {m : Mp} (ψ : Int → Int) {p : Int} (h0 : 0 ≤ p) (h1 : p < 1024) (hm : m p = none) (t : Int) : pageS (upd m p (some t)) ψ 1024 = pageS m ψ 1024 + ψ t := by
  rw [pageS_upd m ψ h0 t 1024 h1]
  have : upd m p none = m := by
    funext q; unfold upd; split
    · next h => rw [h, hm]
    · rfl
  rw [this]
theorem pageS_last (ψ : Int → Int) {p : Int} (h0 : 0 ≤ p) (h1 : p < 1024) (t : Int) : ∀ (L : List PU) (m : Mp), pageS (lastF (upd m p (some t)) L) ψ 1024 = pageS (lastF (upd m p none) L) ψ 1024 + (match nextOf p L with
    | some _ => 0
    | none => ψ t)
  | [], m => pageS_upd m ψ h0 t 1024 h1
  | u :: L, m => by
    by_cases h : u.p = p
    · rw [nextOf_cons_eq h]
      subst h
      show pageS (lastF (upd (upd m u.p (some t)) u.p (some u.t)) L) ψ 1024 = pageS (lastF (upd (upd m u.p none) u.p (some u.t)) L) ψ 1024 + 0
      rw [upd_same, upd_same]; omega
    · rw [nextOf_cons_ne h]
      show pageS (lastF (upd (upd m p (some t)) u.p (some u.t)) L) ψ 1024 = pageS (lastF (upd (upd m p none) u.p (some u.t)) L) ψ 1024 + _
      rw [upd_comm m (fun e => h e.symm), upd_comm m (fun e => h e.symm)]
      exact pageS_last ψ h0 h1 t L (upd m u.p (some u.t))
theorem pageS_tails (ψ : Int → Int) : ∀ {L : List PU}, (∀ u, u ∈ L → OkU u) → pageS (lastF no L) ψ 1024 = ((tails L).map fun u => ψ u.t).sum
  | [], _ => by show pageS no ψ 1024 = 0; exact pageS_no ψ 1024
  | u :: L, h => by
    have hu := h u (List.mem_cons_self ..)
    show pageS (lastF (upd no u.p (some u.t)) L) ψ 1024 = (((match nextOf u.p L with | some _ => [] | none => [u]) ++ tails L).map fun u => ψ u.t).sum
    rw [pageS_last ψ hu.p0 hu.p1, upd_no, pageS_tails ψ fun v hv => h v (List.mem_cons_of_mem _ hv), List.map_append, List.sum_append]
    cases nextOf u.p L with
    | some v => dsimp only; simp
    | none => dsimp only; simp; omega
theorem pageS_bd {m : Mp} {ψ : Int → Int} {B : Int} (hB : 0 ≤ B) (h : ∀ p t, m p = some t → 0 ≤ ψ t ∧ ψ t ≤ B) : ∀ n : Nat, 0 ≤ pageS m ψ n ∧ pageS m ψ n ≤ B * (n : Int)
  | 0 => by simp [pageS]
  | n + 1 => by
    have ih := pageS_bd hB h n
    have e : B * ((n + 1 : Nat) : Int) = B * (n : Int) + B := by rw [Int.natCast_add, Int.mul_add]; simp
    rw [e]
    show 0 ≤ pageS m ψ n + _ ∧ pageS m ψ n + _ ≤ _
    cases e : m (n : Int) with
    | none => dsimp only; omega
    | some t => have := h _ t e; dsimp only; omega
/-- What the specification adds up. -/
def sumTl (φ ψ : PU → Int) : List PU → Int
  | [] => 0
  | u :: L => (match nextOf u.p L with
    | some v => φ ⟨u.p, u.t, v.f⟩
    | none => ψ u) + sumTl φ ψ L
theorem sumTl_is (φ ψ : PU → Int) : ∀ L : List PU, sumTl φ ψ L = ((refRaw L).map φ).sum + ((tails L).map ψ).sum
  | [] => rfl
  | u :: L => by
    show _ + sumTl φ ψ L = ((nextG u L ++ refRaw L).map φ).sum + (((match nextOf u.p L with | some _ => [] | none => [u]) ++ tails L).map ψ).sum
    rw [sumTl_is φ ψ L, List.map_append, List.sum_append, List.map_append, List.sum_append]
    unfold nextG
    cases nextOf u.p L with
    | some v => dsimp only; simp; omega
    | none => dsimp only; simp; omega
/-- The end of a trace. -/
def endV (L : List PU) : Int := L.foldl (fun m u => max m u.t) 0
theorem endV_add (L : List PU) (u : PU) : endV (L ++ [u]) = max (endV L) u.t := by unfold endV; rw [List.foldl_append]; rfl
theorem foldl_max (L : List PU) : ∀ m : Int, m ≤ L.foldl (fun m u => max m u.t) m ∧ (∀ u, u ∈ L → u.t ≤ L.foldl (fun m u => max m u.t) m) ∧ ∀ B, m ≤ B → (∀ u, u ∈ L → u.t ≤ B) → L.foldl (fun m u => max m u.t) m ≤ B := by
  induction L with
  | nil => intro m; exact ⟨Int.le_refl _, fun u hu => (List.not_mem_nil hu).elim, fun B h _ => h⟩
  | cons v L ih =>
    intro m
    obtain ⟨h1, h2, h3⟩ := ih (max m v.t)
    simp only [List.foldl_cons]
    refine ⟨by omega, fun u hu => ?_, fun B hB hu => h3 B (by have := hu v (List.mem_cons_self ..); omega) fun u hu' => hu u (List.mem_cons_of_mem _ hu')⟩
    rcases List.mem_cons.1 hu with rfl | hu
    · omega
    · exact h2 u hu
theorem endV_ge {L : List PU} {u : PU} (h : u ∈ L) : u.t ≤ endV L := (foldl_max L 0).2.1 u h
theorem endV_0 (L : List PU) : 0 ≤ endV L := (foldl_max L 0).1
theorem endV_le {L : List PU} (h : ∀ u, u ∈ L → OkU u) : endV L ≤ 1000000000 := (foldl_max L 0).2.2 _ (by omega) fun u hu => (h u hu).t1

/-- Costs: of holding a page for a tick, of winning one. -/
structure OkC (h w : Int) : Prop where
  h0 : 0 ≤ h
  h1 : h ≤ 1000
  w0 : 0 ≤ w
  w1 : w ≤ 1000000000
def costV (h w : Int) : Int := if h < 0 ∨ 1000 < h ∨ w < 0 ∨ 1000000000 < w then 7 else 0
theorem costV_ok (h w : Int) : costV h w = 0 ↔ OkC h w := by
  unfold costV
  split
  · exact ⟨fun h => by omega, fun ⟨a, b, c, d⟩ => by omega⟩
  · exact ⟨fun _ => ⟨by omega, by omega, by omega, by omega⟩, fun _ => rfl⟩
theorem costV_cases (h w : Int) : costV h w = 0 ∨ costV h w = 7 := by unfold costV; split <;> simp
def gapC (h w age : Int) (g : PU) : Int := if g.t - g.f ≤ age then (g.t - g.f) * h else age * h + w
def tailC (h age e : Int) (t : Int) : Int := min age (e - t) * h
def agedV (L : List PU) (h w age : Int) : Int := (firsts L : Int) * w + ((gapsV L).map (gapC h w age)).sum + ((tails L).map fun u => tailC h age (endV L) u.t).sum
theorem aged_sumTl (L : List PU) (h w age : Int) : agedV L h w age = (firsts L : Int) * w + sumTl (gapC h w age) (fun u => tailC h age (endV L) u.t) L := by
  unfold agedV
  rw [sumTl_is, perm_sum _ (gapsV_perm L)]; omega
theorem aged_pages {L : List PU} (hL : OkL L) (h w age : Int) : agedV L h w age = (firsts L : Int) * w + ((gapsV L).map (gapC h w age)).sum + pageS (lastF no L) (tailC h age (endV L)) 1024 := by
  unfold agedV
  rw [pageS_tails _ hL.ok]
theorem mul_bd {a b A B : Int} (ha : 0 ≤ a) (hb : 0 ≤ b) (hA : a ≤ A) (hB : b ≤ B) : 0 ≤ a * b ∧ a * b ≤ A * B :=
  ⟨Int.mul_nonneg ha hb, Int.mul_le_mul hA hB hb (by omega)⟩
theorem gapC_bd {h w age : Int} (hc : OkC h w) (ha : 0 ≤ age) {g : PU} (hg : OkG g) : 0 ≤ gapC h w age g ∧ gapC h w age g ≤ 1001000000000 := by
  have a := hc.h0; have b := hc.h1; have c := hc.w0; have d := hc.w1
  have e := hg.f0; have f := hg.ft; have i := hg.t1
  unfold gapC
  split
  · have := mul_bd (a := g.t - g.f) (b := h) (A := 1000000000) (B := 1000) (by omega) a (by omega) b
    omega
  · have := mul_bd (a := age) (b := h) (A := 1000000000) (B := 1000) ha a (by omega) b
    omega
theorem tailC_bd {h w age e : Int} (hc : OkC h w) (ha : 0 ≤ age) (he : e ≤ 1000000000) {t : Int} (h0 : 0 ≤ t) (h1 : t ≤ e) : 0 ≤ tailC h age e t ∧ tailC h age e t ≤ 1000000000000 := by
  unfold tailC
  have := mul_bd (a := min age (e - t)) (b := h) (A := 1000000000) (B := 1000) (by omega) hc.h0 (by omega) hc.h1
  omega
end Go.Proofs.Ytnkkhbmbbkmfhaa.Py
namespace Go.Proofs.Ytnkkhbmbbkmfhaa.Py

/-- A use begins or ends. -/
structure St where
  a : Int
  b : Bool
  p : Int
instance : Inhabited St := ⟨⟨0, true, 0⟩⟩
/-- A page that waits. -/
structure Wt where
  s : Int
  p : Int
instance : Inhabited Wt := ⟨⟨0, 0⟩⟩
def bgS (u : PU) : St := ⟨u.f, true, u.p⟩
def enS (u : PU) : St := ⟨u.t, false, u.p⟩
def rawS : List PU → List St
  | [] => []
  | u :: L => bgS u :: enS u :: rawS L
def slt (x y : St) : Prop := x.a < y.a ∨ (x.a = y.a ∧ ((x.b = true ∧ y.b = false) ∨ (x.b = y.b ∧ x.p < y.p)))
theorem slt_asymm {x y : St} (h : slt x y) (k : slt y x) : False := by
  unfold slt at *
  rcases h with h | ⟨h, h1 | h1⟩ <;> rcases k with k | ⟨k, k1 | k1⟩ <;> try omega
  · rw [h1.1] at k1; cases k1.2
  · rw [h1.1, h1.2] at k1; cases k1.1
  · rw [k1.1, k1.2] at h1; cases h1.1
theorem rawS_add (u : PU) : ∀ L : List PU, rawS (L ++ [u]) = rawS L ++ [bgS u, enS u]
  | [] => rfl
  | v :: L => by show bgS v :: enS v :: rawS (L ++ [u]) = _; rw [rawS_add u L]; rfl
theorem rawS_len : ∀ L : List PU, (rawS L).length = 2 * L.length
  | [] => rfl
  | u :: L => by show (rawS L).length + 2 = 2 * (L.length + 1); rw [rawS_len L]; omega
theorem mem_rawS {s : St} : ∀ {L : List PU}, s ∈ rawS L ↔ ∃ u, u ∈ L ∧ (s = bgS u ∨ s = enS u)
  | [] => by simp [rawS]
  | u :: L => by
    show s ∈ bgS u :: enS u :: rawS L ↔ _
    rw [List.mem_cons, List.mem_cons, mem_rawS (L := L)]
    constructor
    · rintro (h | h | ⟨v, hv, h⟩)
      · exact ⟨u, List.mem_cons_self .., .inl h⟩
      · exact ⟨u, List.mem_cons_self .., .inr h⟩
      · exact ⟨v, List.mem_cons_of_mem _ hv, h⟩
    · rintro ⟨v, hv, h⟩
      rcases List.mem_cons.1 hv with rfl | hv
      · rcases h with h | h
        · exact .inl h
        · exact .inr (.inl h)
      · exact .inr (.inr ⟨v, hv, h⟩)
/-- The steps in their order. -/
structure IsS (L : List PU) (S : List St) : Prop where
  perm : S.Perm (rawS L)
  sort : S.Pairwise slt

def findW (p : Int) (q : List Wt) : Option Wt := q.find? fun x => decide (x.p = p)
def delW (p : Int) (q : List Wt) : List Wt := q.filter fun x => !decide (x.p = p)
def bgC (h w a : Int) : Option Wt → Int
  | some x => (a - x.s) * h
  | none => w
abbrev PS := Int × List Wt
def bg (h w : Int) (st : PS) (a p : Int) : PS := (st.1 + bgC h w a (findW p st.2), delW p st.2)
def popN (lim : Nat) (h a : Int) (st : PS) : PS := (st.1 + ((st.2.take (st.2.length - lim)).map fun x => (a - x.s) * h).sum, st.2.drop (st.2.length - lim))
def stepP (h w : Int) (lim : Nat) (st : PS) (s : St) (last : Bool) : PS :=
  if s.b then bg h w st s.a s.p else if last then popN lim h s.a (st.1, st.2 ++ [⟨s.a, s.p⟩]) else (st.1, st.2 ++ [⟨s.a, s.p⟩])
def isLast (a : Int) : List St → Bool
  | [] => true
  | s :: _ => decide (a < s.a)
def runP (h w : Int) (lim : Nat) : List St → PS → PS
  | [], st => st
  | s :: r, st => runP h w lim r (stepP h w lim st s (isLast s.a r))
def restS (h e : Int) (q : List Wt) : Int := (q.map fun x => (e - x.s) * h).sum
/-- The cost if at most so many pages wait. -/
def mostV (L : List PU) (S : List St) (h w : Int) (lim : Nat) : Int := (runP h w lim S (0, [])).1 + restS h (endV L) (runP h w lim S (0, [])).2

/-! The steps of one tick. -/
def beg (h w : Int) (B : List St) (st : PS) : PS := B.foldl (fun st s => bg h w st s.a s.p) st
def en (E : List St) (st : PS) : PS := (st.1, st.2 ++ E.map fun s => ⟨s.a, s.p⟩)
theorem run_beg (h w : Int) (lim : Nat) : ∀ (B R : List St) (st : PS), (∀ s, s ∈ B → s.b = true) → runP h w lim (B ++ R) st = runP h w lim R (beg h w B st)
  | [], R, st, _ => rfl
  | s :: B, R, st, hB => by
    show runP h w lim (B ++ R) (stepP h w lim st s _) = runP h w lim R (beg h w B (bg h w st s.a s.p))
    rw [run_beg h w lim B R _ fun x hx => hB x (List.mem_cons_of_mem _ hx)]
    unfold stepP
    rw [if_pos (hB s (List.mem_cons_self ..))]
theorem popN_id {lim : Nat} (h a : Int) {st : PS} (hl : st.2.length ≤ lim) : popN lim h a st = st := by
  unfold popN
  have e : st.2.length - lim = 0 := by omega
  rw [e]; simp
theorem run_en (h w : Int) (lim : Nat) (t : Int) : ∀ (E R : List St) (st : PS), (∀ s, s ∈ E → s.b = false ∧ s.a = t) → (∀ s, s ∈ R → t < s.a) → (E = [] → st.2.length ≤ lim) → runP h w lim (E ++ R) st = runP h w lim R (popN lim h t (en E st))
  | [], R, st, _, _, hl => by
    have e : en [] st = st := by unfold en; simp
    rw [e, popN_id h t (hl rfl)]; rfl
  | [s], R, st, hE, hR, _ => by
    obtain ⟨e1, e2⟩ := hE s (List.mem_cons_self ..)
    have hlast : isLast s.a R = true := by
      cases R with
      | nil => rfl
      | cons r R => unfold isLast; rw [e2]; exact decide_eq_true (hR r (List.mem_cons_self ..))
    show runP h w lim R (stepP h w lim st s (isLast s.a R)) = _
    unfold stepP
    rw [e1, if_neg (by simp), hlast, if_pos rfl, e2]
    unfold en
    simp only [List.map_cons, List.map_nil, e2]
  | s :: s' :: E, R, st, hE, hR, _ => by
    obtain ⟨e1, e2⟩ := hE s (List.mem_cons_self ..)
    obtain ⟨e3, e4⟩ := hE s' (List.mem_cons_of_mem _ (List.mem_cons_self ..))
    have hlast : isLast s.a (s' :: E ++ R) = false := by
      show decide (s.a < s'.a) = false
      rw [e2, e4]; exact decide_eq_false (Int.lt_irrefl _)
    show runP h w lim (s' :: E ++ R) (stepP h w lim st s (isLast s.a (s' :: E ++ R))) = _
    rw [hlast, run_en h w lim t (s' :: E) R _ (fun x hx => hE x (List.mem_cons_of_mem _ hx)) hR (fun h => by cases h)]
    unfold stepP
    rw [e1, if_neg (by simp), if_neg (by simp)]
    unfold en
    simp [List.append_assoc]

/-! What is kept from tick to tick. -/
def wlt (x y : Wt) : Prop := x.s < y.s ∨ (x.s = y.s ∧ x.p < y.p)
abbrev PD (q : List Wt) : Prop := q.Pairwise fun x y => x.p ≠ y.p
structure Inv (L : List PU) (lim : Nat) (τ : Int) (q : List Wt) : Prop where
  len : q.length ≤ lim
  sort : q.Pairwise wlt
  pd : PD q
  from_ : ∀ x, x ∈ q → x.s ≤ τ ∧ ∃ u, u ∈ L ∧ u.p = x.p ∧ u.t = x.s
  idle : ∀ x, x ∈ q → ∀ v, v ∈ L → v.p = x.p → x.s < v.f → τ < v.f
theorem Inv.start (L : List PU) (lim : Nat) : Inv L lim (-1) [] := ⟨Nat.zero_le _, .nil, .nil, fun _x h => (List.not_mem_nil h).elim, fun _x h => (List.not_mem_nil h).elim⟩
theorem mem_delW {p : Int} {q : List Wt} {x : Wt} : x ∈ delW p q ↔ x ∈ q ∧ x.p ≠ p := by unfold delW; rw [List.mem_filter]; simp
theorem beg_sub (h w : Int) : ∀ (B : List St) (st : PS), (beg h w B st).2.Sublist st.2
  | [], _st => List.Sublist.refl _
  | s :: B, st => (beg_sub h w B (bg h w st s.a s.p)).trans List.filter_sublist
theorem beg_out (h w : Int) : ∀ (B : List St) (st : PS) (s : St), s ∈ B → ∀ x, x ∈ (beg h w B st).2 → x.p ≠ s.p
  | b :: B, st, s, hs, x, hx => by
    rcases List.mem_cons.1 hs with rfl | hs
    · have := (beg_sub h w B (bg h w st s.a s.p)).subset hx
      exact (mem_delW.1 this).2
    · exact beg_out h w B _ s hs x hx
theorem popN_drop (lim : Nat) (h a : Int) (st : PS) : ∃ d, (popN lim h a st).2 = st.2.drop d ∧ (popN lim h a st).2.length ≤ lim := ⟨_, rfl, by unfold popN; rw [List.length_drop]; omega⟩

theorem rawS_bg (t : Int) : ∀ L : List PU, (rawS L).filter (fun s => decide (s.a = t) && s.b) = (L.filter fun u => decide (u.f = t)).map bgS
  | [] => rfl
  | u :: L => by
    show (bgS u :: enS u :: rawS L).filter _ = _
    have e : (decide ((enS u).a = t) && (enS u).b) = false := by unfold enS; simp
    have ih := rawS_bg t L
    by_cases h : u.f = t
    · have e2 : (decide ((bgS u).a = t) && (bgS u).b) = true := by unfold bgS; simp [h]
      rw [List.filter_cons, if_pos e2, List.filter_cons, if_neg (by rw [e]; simp), ih, List.filter_cons, if_pos (by simpa using h)]; rfl
    · have e2 : (decide ((bgS u).a = t) && (bgS u).b) = false := by unfold bgS; simp [h]
      rw [List.filter_cons, if_neg (by rw [e2]; simp), List.filter_cons, if_neg (by rw [e]; simp), ih, List.filter_cons, if_neg (by simpa using h)]
theorem rawS_en (t : Int) : ∀ L : List PU, (rawS L).filter (fun s => decide (s.a = t) && !s.b) = (L.filter fun u => decide (u.t = t)).map enS
  | [] => rfl
  | u :: L => by
    show (bgS u :: enS u :: rawS L).filter _ = _
    have e : (decide ((bgS u).a = t) && !(bgS u).b) = false := by unfold bgS; simp
    have ih := rawS_en t L
    by_cases h : u.t = t
    · have e2 : (decide ((enS u).a = t) && !(enS u).b) = true := by unfold enS; simp [h]
      rw [List.filter_cons, if_neg (by rw [e]; simp), List.filter_cons, if_pos e2, ih, List.filter_cons, if_pos (by simpa using h)]; rfl
    · have e2 : (decide ((enS u).a = t) && !(enS u).b) = false := by unfold enS; simp [h]
      rw [List.filter_cons, if_neg (by rw [e]; simp), List.filter_cons, if_neg (by rw [e2]; simp), ih, List.filter_cons, if_neg (by simpa using h)]
def Bt (S : List St) (t : Int) : List St := S.filter fun s => decide (s.a = t) && s.b
def Et (S : List St) (t : Int) : List St := S.filter fun s => decide (s.a = t) && !s.b
def Rt (S : List St) (t : Int) : List St := S.filter fun s => decide (t < s.a)
theorem slt_only {l l' : List St} (h : l.Pairwise slt) (h' : l'.Pairwise slt) (hp : l.Perm l') : l = l' :=
  List.Perm.eq_of_pairwise (le := slt) (fun _a _b _ _ h1 h2 => (slt_asymm h1 h2).elim) h h' hp
theorem filter_split {α : Type} (l : List α) (p q : α → Bool) : (l.filter p).Perm (l.filter (fun x => p x && q x) ++ l.filter (fun x => p x && !q x)) := by
  refine (List.filter_append_perm q (l.filter p)).symm.trans ?_
  rw [List.filter_filter, List.filter_filter]
  have e1 : (fun a => q a && p a) = fun a => p a && q a := by funext a; exact Bool.and_comm ..
  have e2 : (fun a => (!q a) && p a) = fun a => p a && !q a := by funext a; exact Bool.and_comm ..
  rw [e1, e2]
/-- The steps behind a tick are those of the next one, and those behind that. -/
theorem tick_split {L : List PU} {S : List St} (hS : IsS L S) {τ t : Int} (hlt : τ < t) (hno : ∀ s, s ∈ S → τ < s.a → t ≤ s.a) : Rt S τ = Bt S t ++ (Et S t ++ Rt S t) := by
  have hB : ∀ s, s ∈ Bt S t → s.a = t ∧ s.b = true := fun s hs => by
    have := (List.mem_filter.1 hs).2
    simpa using this
  have hE : ∀ s, s ∈ Et S t → s.a = t ∧ s.b = false := fun s hs => by
    have := (List.mem_filter.1 hs).2
    simpa using this
  have hR : ∀ s, s ∈ Rt S t → t < s.a := fun s hs => by
    have := (List.mem_filter.1 hs).2
    simpa using this
  refine slt_only (hS.sort.filter _) ?_ ?_
  · rw [List.pairwise_append, List.pairwise_append]
    refine ⟨hS.sort.filter _, ⟨hS.sort.filter _, hS.sort.filter _, fun x hx y hy => .inl ?_⟩, fun x hx y hy => ?_⟩
    · rw [(hE x hx).1]; exact hR y hy
    · rcases List.mem_append.1 hy with hy | hy
      · exact .inr ⟨by rw [(hB x hx).1, (hE y hy).1], .inl ⟨(hB x hx).2, (hE y hy).2⟩⟩
      · exact .inl (by rw [(hB x hx).1]; exact hR y hy)
  · have h1 := filter_split S (fun s => decide (τ < s.a)) (fun s => decide (s.a = t))
    have h2 := filter_split S (fun s => decide (s.a = t)) (fun s => s.b)
    have e1 : S.filter (fun x => decide (τ < x.a) && decide (x.a = t)) = S.filter fun s => decide (s.a = t) := by
      apply List.filter_congr
      intro x _
      by_cases e : x.a = t
      · simp [e, hlt]
      · simp [e]
    have e2 : S.filter (fun x => decide (τ < x.a) && !decide (x.a = t)) = Rt S t := by
      apply List.filter_congr
      intro x hx
      by_cases e : τ < x.a
      · have := hno x hx e
        by_cases e2 : x.a = t
        · simp [e2, hlt]
        · have : t < x.a := by omega
          simp [e2, e, this]
      · have : ¬ t < x.a := by omega
        simp [e, this]
    rw [e1, e2] at h1
    refine h1.trans ?_
    rw [← List.append_assoc]
    exact List.Perm.append_right _ h2
theorem Bt_is {L : List PU} {S : List St} (hL : OkL L) (hS : IsS L S) (t : Int) : Bt S t = (L.filter fun u => decide (u.f = t)).map bgS := by
  refine slt_only (hS.sort.filter _) ?_ ?_
  · have h1 : (L.filter fun u => decide (u.f = t)).Pairwise (fun a b => Ahead a b ∧ a.f = t ∧ b.f = t) := by
      have h2 : (L.filter fun u => decide (u.f = t)).Pairwise Ahead := List.Pairwise.filter _ hL.good
      refine List.Pairwise.imp_of_mem (fun ha hb hab => ⟨hab, ?_, ?_⟩) h2
      · simpa using (List.mem_filter.1 ha).2
      · simpa using (List.mem_filter.1 hb).2
    rw [List.pairwise_map]
    refine h1.imp ?_
    rintro a b ⟨⟨h1, h2⟩, h3, h4⟩
    exact .inr ⟨by show a.f = b.f; omega, .inr ⟨rfl, by show a.p < b.p; omega⟩⟩
  · have := hS.perm.filter fun s => decide (s.a = t) && s.b
    rw [rawS_bg] at this
    exact this
theorem Et_is {L : List PU} {S : List St} (hS : IsS L S) (t : Int) : (Et S t).Perm ((L.filter fun u => decide (u.t = t)).map enS) := by
  have := hS.perm.filter fun s => decide (s.a = t) && !s.b
  rw [rawS_en] at this
  exact this

/-- One tick. -/
def tickP (h w : Int) (lim : Nat) (S : List St) (t : Int) (st : PS) : PS := popN lim h t (en (Et S t) (beg h w (Bt S t) st))
theorem run_tick {L : List PU} {S : List St} (hS : IsS L S) (h w : Int) {lim : Nat} {τ t : Int} (hlt : τ < t) (hno : ∀ s, s ∈ S → τ < s.a → t ≤ s.a) {st : PS} (hl : st.2.length ≤ lim) :
    runP h w lim (Rt S τ) st = runP h w lim (Rt S t) (tickP h w lim S t st) := by
  have h1 := (beg_sub h w (Bt S t) st).length_le
  rw [tick_split hS hlt hno, run_beg h w lim _ _ _ fun s hs => by simpa using ((List.mem_filter.1 hs).2 |> fun h => (Bool.and_eq_true _ _ ▸ h : decide (s.a = t) = true ∧ s.b = true).2)]
  rw [run_en h w lim t _ _ _ (fun s hs => ?_) (fun s hs => ?_) (fun _ => by omega)]
  · rfl
  · have := (List.mem_filter.1 hs).2
    have h2 : s.a = t ∧ s.b = false := by simpa using this
    exact ⟨h2.2, h2.1⟩
  · simpa using (List.mem_filter.1 hs).2
/-- Sorted pages of one tick behind those of earlier ones. -/
theorem Inv.tick {L : List PU} {S : List St} (hL : OkL L) (hS : IsS L S) (h w : Int) {lim : Nat} {τ t : Int} (hlt : τ < t) (hno : ∀ s, s ∈ S → τ < s.a → t ≤ s.a) {st : PS} (I : Inv L lim τ st.2) : Inv L lim t (tickP h w lim S t st).2 ∧ PD (en (Et S t) (beg h w (Bt S t) st)).2 ∧ (en (Et S t) (beg h w (Bt S t) st)).2.Pairwise wlt := by
  have hev : ∀ v, v ∈ L → τ < v.f → t ≤ v.f := fun v hv hf => hno (bgS v) ((hS.perm.mem_iff).2 (mem_rawS.2 ⟨v, hv, .inl rfl⟩)) hf
  have hsub := beg_sub h w (Bt S t) st
  have hEm : ∀ s, s ∈ Et S t → ∃ u, u ∈ L ∧ s = enS u ∧ u.t = t := fun s hs => by
    have := (Et_is hS t).mem_iff.1 hs
    obtain ⟨u, hu, rfl⟩ := List.mem_map.1 this
    obtain ⟨h1, h2⟩ := List.mem_filter.1 hu
    exact ⟨u, h1, rfl, by simpa using h2⟩
  have hEs : (Et S t).Pairwise fun x y => x.p < y.p := by
    have h2 : (Et S t).Pairwise slt := hS.sort.filter _
    refine List.Pairwise.imp_of_mem (fun {a b} ha hb hab => ?_) h2
    obtain ⟨u, _, rfl, h3⟩ := hEm a ha
    obtain ⟨v, _, rfl, h4⟩ := hEm b hb
    unfold slt enS at *
    simp at hab ⊢
    omega
  -- what waits behind the beginnings
  have hbeg : ∀ x, x ∈ (beg h w (Bt S t) st).2 → x ∈ st.2 ∧ ∀ v, v ∈ L → v.p = x.p → x.s < v.f → t < v.f := fun x hx => by
    refine ⟨hsub.subset hx, fun v hv hp hf => ?_⟩
    have h1 := I.idle x (hsub.subset hx) v hv hp hf
    have h2 := hev v hv h1
    rcases Int.lt_or_eq_of_le h2 with h3 | h3
    · exact h3
    · exfalso
      have hm : bgS v ∈ Bt S t := by
        rw [Bt_is hL hS]
        exact List.mem_map.2 ⟨v, List.mem_filter.2 ⟨hv, by simpa using h3.symm⟩, rfl⟩
      exact beg_out h w _ st _ hm x hx hp.symm
  have hpd : PD (en (Et S t) (beg h w (Bt S t) st)).2 := by
    show ((beg h w (Bt S t) st).2 ++ (Et S t).map fun s => (⟨s.a, s.p⟩ : Wt)).Pairwise _
    rw [List.pairwise_append]
    refine ⟨I.pd.sublist hsub, ?_, fun x hx y hy => ?_⟩
    · rw [List.pairwise_map]; exact hEs.imp fun {a b} h e => by have e : a.p = b.p := e; omega
    · obtain ⟨s, hs, rfl⟩ := List.mem_map.1 hy
      obtain ⟨u, hu, rfl, hut⟩ := hEm s hs
      show x.p ≠ u.p
      intro hp
      obtain ⟨h1, h2⟩ := hbeg x hx
      obtain ⟨h3, u0, hu0, hp0, ht0⟩ := I.from_ x h1
      have h4 : x.s < u.f := by
        have hne : u0.t ≠ u.t := by omega
        rcases List.mem_iff_getElem.1 hu0 with ⟨i, hi, rfl⟩
        rcases List.mem_iff_getElem.1 hu with ⟨j, hj, rfl⟩
        rcases Nat.lt_trichotomy i j with h5 | h5 | h5
        · have := (List.pairwise_iff_getElem.1 hL.good) i j hi hj h5
          rw [← ht0]; exact this.2 (by rw [hp0, hp])
        · subst h5; exact absurd rfl hne
        · have := (List.pairwise_iff_getElem.1 hL.good) j i hj hi h5
          have h6 := this.2 (by rw [hp0, hp])
          have h7 := (hL.ok _ (List.getElem_mem hi)).ft
          omega
      have h5 := h2 u hu hp.symm h4
      have h6 := (hL.ok u hu).ft
      omega
  have hsort : (en (Et S t) (beg h w (Bt S t) st)).2.Pairwise wlt := by
    show ((beg h w (Bt S t) st).2 ++ (Et S t).map fun s => (⟨s.a, s.p⟩ : Wt)).Pairwise wlt
    rw [List.pairwise_append]
    refine ⟨I.sort.sublist hsub, ?_, fun x hx y hy => ?_⟩
    · rw [List.pairwise_map]
      refine List.Pairwise.imp_of_mem (fun {a b} ha hb hab => ?_) hEs
      obtain ⟨u, _, rfl, h3⟩ := hEm a ha
      obtain ⟨v, _, rfl, h4⟩ := hEm b hb
      exact .inr ⟨by show u.t = v.t; omega, hab⟩
    · obtain ⟨s, hs, rfl⟩ := List.mem_map.1 hy
      obtain ⟨u, hu, rfl, hut⟩ := hEm s hs
      have := (I.from_ x (hbeg x hx).1).1
      exact .inl (by show x.s < u.t; omega)
  obtain ⟨d, hd, hdl⟩ := popN_drop lim h t (en (Et S t) (beg h w (Bt S t) st))
  refine ⟨⟨hdl, ?_, ?_, fun x hx => ?_, fun x hx v hv hp hf => ?_⟩, hpd, hsort⟩
  · show (popN lim h t _).2.Pairwise wlt
    rw [hd]; exact hsort.sublist (List.drop_sublist _ _)
  · show PD (popN lim h t _).2
    rw [hd]; exact hpd.sublist (List.drop_sublist _ _)
  · have hx2 : x ∈ (en (Et S t) (beg h w (Bt S t) st)).2 := by
      have : x ∈ (popN lim h t (en (Et S t) (beg h w (Bt S t) st))).2 := hx
      rw [hd] at this; exact List.mem_of_mem_drop this
    rcases List.mem_append.1 hx2 with h1 | h1
    · obtain ⟨h2, h3⟩ := I.from_ x (hbeg x h1).1
      exact ⟨by omega, h3⟩
    · obtain ⟨s, hs, rfl⟩ := List.mem_map.1 h1
      obtain ⟨u, hu, rfl, hut⟩ := hEm s hs
      exact ⟨by show u.t ≤ t; omega, u, hu, rfl, rfl⟩
  · have hx2 : x ∈ (en (Et S t) (beg h w (Bt S t) st)).2 := by
      have : x ∈ (popN lim h t (en (Et S t) (beg h w (Bt S t) st))).2 := hx
      rw [hd] at this; exact List.mem_of_mem_drop this
    rcases List.mem_append.1 hx2 with h1 | h1
    · exact (hbeg x h1).2 v hv hp hf
    · obtain ⟨s, hs, rfl⟩ := List.mem_map.1 h1
      obtain ⟨u, hu, rfl, hut⟩ := hEm s hs
      have : u.t < v.f := hf
      omega
end Go.Proofs.Ytnkkhbmbbkmfhaa.Py
namespace Go.Proofs.Ytnkkhbmbbkmfhaa.Py

theorem pd_eq {q : List Wt} (h : PD q) {x y : Wt} (hx : x ∈ q) (hy : y ∈ q) (hp : x.p = y.p) : x = y := by
  induction q with
  | nil => cases hx
  | cons z q ih =>
    obtain ⟨h1, h2⟩ := List.pairwise_cons.1 h
    rcases List.mem_cons.1 hx with rfl | kx
    · rcases List.mem_cons.1 hy with rfl | ky
      · rfl
      · exact absurd hp (h1 y ky)
    · rcases List.mem_cons.1 hy with rfl | ky
      · exact absurd hp.symm (h1 x kx)
      · exact ih h2 kx ky
theorem findW_some {p : Int} {q : List Wt} {x : Wt} (h : findW p q = some x) : x ∈ q ∧ x.p = p := by
  unfold findW at h
  exact ⟨List.mem_of_find?_eq_some h, by simpa using List.find?_some h⟩
theorem findW_none {p : Int} {q : List Wt} : findW p q = none ↔ ∀ x, x ∈ q → x.p ≠ p := by unfold findW; rw [List.find?_eq_none]; simp
theorem findW_is {p : Int} {q : List Wt} (h : PD q) {x : Wt} (hx : x ∈ q) (hp : x.p = p) : findW p q = some x := by
  cases e : findW p q with
  | none => exact absurd hp (findW_none.1 e x hx)
  | some y =>
    obtain ⟨h1, h2⟩ := findW_some e
    rw [pd_eq h h1 hx (h2.trans hp.symm)]
theorem findW_perm {p : Int} {q H : List Wt} (hp : H.Perm q) (h : PD q) : findW p H = findW p q := by
  cases e : findW p H with
  | none =>
    symm; rw [findW_none]
    intro x hx; exact findW_none.1 e x (hp.mem_iff.2 hx)
  | some x =>
    obtain ⟨h1, h2⟩ := findW_some e
    exact (findW_is h (hp.mem_iff.1 h1) h2).symm
theorem PD.perm {q H : List Wt} (h : PD q) (hp : H.Perm q) : PD H := List.Pairwise.perm h hp.symm fun h e => h e.symm
/-- Taking the place of a page out. -/
theorem del_at {p : Int} {q : List Wt} (h : PD q) {k : Nat} {x : Wt} (hk : q[k]? = some x) (hp : x.p = p) : q.eraseIdx k = delW p q := by
  induction q generalizing k with
  | nil => simp at hk
  | cons z q ih =>
    obtain ⟨h1, h2⟩ := List.pairwise_cons.1 h
    cases k with
    | zero =>
      have e : z = x := by simpa using hk
      subst e
      show q = delW p (z :: q)
      unfold delW
      rw [List.filter_cons, if_neg (by simp [hp])]
      symm
      rw [List.filter_eq_self]
      intro y hy
      have := h1 y hy
      rw [hp] at this
      simp; exact fun e => this e.symm
    | succ k =>
      have hk' : q[k]? = some x := by simpa using hk
      show z :: q.eraseIdx k = delW p (z :: q)
      have hne : z.p ≠ p := by rw [← hp]; exact h1 x (List.mem_of_getElem? hk')
      unfold delW
      rw [List.filter_cons, if_pos (by simp [hne]), ih h2 hk']; rfl
theorem del_none {p : Int} {q : List Wt} (h : findW p q = none) : delW p q = q := by
  unfold delW
  rw [List.filter_eq_self]
  intro x hx
  have := findW_none.1 h x hx
  simp [this]
/-- Same numbers, the same pages in another order. -/
structure Same (st st' : PS) : Prop where
  n : st'.1 = st.1
  q : st'.2.Perm st.2
theorem bg_same {h w a p : Int} {st st' : PS} (hs : Same st st') (hd : PD st.2) : Same (bg h w st a p) (bg h w st' a p) ∧ PD (bg h w st a p).2 := by
  refine ⟨⟨?_, hs.q.filter _⟩, hd.sublist List.filter_sublist⟩
  show st'.1 + _ = st.1 + _
  rw [hs.n, findW_perm hs.q hd]
def begR (h w t : Int) (L : List PU) (st : PS) : PS := L.foldl (fun st u => if u.f = t then bg h w st t u.p else st) st
def enR (t : Int) (L : List PU) (H : List Wt) : List Wt := L.foldl (fun H u => if u.t = t then H ++ [⟨t, u.p⟩] else H) H
theorem begR_beg (h w t : Int) : ∀ (L : List PU) (st : PS), begR h w t L st = beg h w ((L.filter fun u => decide (u.f = t)).map bgS) st
  | [], st => rfl
  | u :: L, st => by
    show begR h w t L (if u.f = t then bg h w st t u.p else st) = _
    by_cases e : u.f = t
    · rw [if_pos e, List.filter_cons, if_pos (by simpa using e), begR_beg h w t L]
      show _ = beg h w (bgS u :: _) st
      show _ = beg h w _ (bg h w st u.f u.p)
      rw [e]
    · rw [if_neg e, List.filter_cons, if_neg (by simpa using e), begR_beg h w t L]
theorem enR_is (t : Int) : ∀ (L : List PU) (H : List Wt), enR t L H = H ++ ((L.filter fun u => decide (u.t = t)).map enS).map fun s => (⟨s.a, s.p⟩ : Wt)
  | [], H => by simp [enR]
  | u :: L, H => by
    show enR t L (if u.t = t then H ++ [⟨t, u.p⟩] else H) = _
    by_cases e : u.t = t
    · rw [if_pos e, List.filter_cons, if_pos (by simpa using e), enR_is t L]
      simp [enS, e]
    · rw [if_neg e, List.filter_cons, if_neg (by simpa using e), enR_is t L]
theorem beg_same {h w : Int} : ∀ (B : List St) {st st' : PS}, Same st st' → PD st.2 → Same (beg h w B st) (beg h w B st') ∧ PD (beg h w B st).2
  | [], _, _, hs, hd => ⟨hs, hd⟩
  | _s :: B, _, _, hs, hd => beg_same B (bg_same hs hd).1 (bg_same hs hd).2

/-- The index of the page that waits longest. -/
def wltb (x y : Wt) : Bool := decide (x.s < y.s) || (decide (x.s = y.s) && decide (x.p < y.p))
theorem wltb_iff {x y : Wt} : wltb x y = true ↔ wlt x y := by unfold wltb wlt; simp
abbrev wt (H : List Wt) (i : Nat) : Wt := H.getD i default
theorem wt_get {H : List Wt} {i : Nat} (h : i < H.length) : H[i]? = some (wt H i) := by
  unfold wt; rw [List.getD_eq_getElem?_getD, List.getElem?_eq_getElem h]; rfl
def minI (H : List Wt) : Nat → Nat
  | 0 => 0
  | k + 1 => if wltb (wt H k) (wt H (minI H k)) then k else minI H k
theorem minI_lt (H : List Wt) : ∀ k, 0 < k → minI H k < k
  | 0, h => by omega
  | 1, _ => by unfold minI; split <;> simp [minI]
  | k + 2, _ => by
    have := minI_lt H (k + 1) (by omega)
    unfold minI; split <;> omega
theorem minI_least (H : List Wt) : ∀ k j, j < k → wltb (wt H j) (wt H (minI H k)) = false
  | 0, j, h => by omega
  | k + 1, j, h => by
    have ih := minI_least H k
    unfold minI
    split
    · next h1 =>
      rcases Nat.lt_or_ge j k with h2 | h2
      · have h3 := ih j h2
        cases e : wltb (wt H j) (wt H k) with
        | false => rfl
        | true =>
          rw [wltb_iff] at h1 e
          have : wlt (wt H j) (wt H (minI H k)) := by unfold wlt at *; omega
          rw [← wltb_iff, h3] at this; cases this
      · obtain rfl : j = k := by omega
        cases e : wltb (wt H j) (wt H j) with
        | false => rfl
        | true => rw [wltb_iff] at e; unfold wlt at e; omega
    · next h1 =>
      rcases Nat.lt_or_ge j k with h2 | h2
      · exact ih j h2
      · obtain rfl : j = k := by omega
        simpa using h1
theorem erase_perm {α : Type} : ∀ {l : List α} {i : Nat} {x : α}, l[i]? = some x → l.Perm (x :: l.eraseIdx i)
  | [], i, x, h => by simp at h
  | y :: l, 0, x, h => by
    have : y = x := by simpa using h
    subst this; exact .refl _
  | y :: l, i + 1, x, h => by
    have h' : l[i]? = some x := by simpa using h
    exact ((erase_perm h').cons y).trans (List.Perm.swap x y _)
theorem min_head {H q : List Wt} {x : Wt} (hp : H.Perm (x :: q)) (hs : (x :: q).Pairwise wlt) : H[minI H H.length]? = some x ∧ (H.eraseIdx (minI H H.length)).Perm q := by
  have hlen := hp.length_eq
  simp only [List.length_cons] at hlen
  have hlt := minI_lt H H.length (by omega)
  have e := wt_get hlt
  have hm : wt H (minI H H.length) ∈ x :: q := hp.mem_iff.1 (List.mem_of_getElem? e)
  have hx : wt H (minI H H.length) = x := by
    rcases List.mem_cons.1 hm with h1 | h1
    · exact h1
    · exfalso
      have h2 := (List.pairwise_cons.1 hs).1 _ h1
      have h3 : x ∈ H := hp.mem_iff.2 (List.mem_cons_self ..)
      obtain ⟨j, hj, rfl⟩ := List.mem_iff_getElem.1 h3
      have h4 := minI_least H H.length j hj
      have e2 : wt H j = H[j] := by unfold wt; rw [List.getD_eq_getElem?_getD, List.getElem?_eq_getElem hj]; rfl
      rw [e2] at h4
      rw [← wltb_iff, h4] at h2; cases h2
  rw [hx] at e
  exact ⟨e, ((erase_perm e).symm.trans hp).cons_inv⟩
def popR (lim : Nat) (h t : Int) : Nat → PS → PS
  | 0, st => st
  | f + 1, st => if lim < st.2.length then popR lim h t f (st.1 + (t - (wt st.2 (minI st.2 st.2.length)).s) * h, st.2.eraseIdx (minI st.2 st.2.length)) else st
theorem popR_id {lim : Nat} (h t : Int) {st : PS} (hl : st.2.length ≤ lim) : ∀ f, popR lim h t f st = st
  | 0 => rfl
  | f + 1 => by unfold popR; rw [if_neg (by omega)]
theorem pop_same (lim : Nat) (h t : Int) : ∀ (f : Nat) (q : List Wt) (n : Int) (st' : PS), Same (n, q) st' → q.Pairwise wlt → f = st'.2.length → Same (popN lim h t (n, q)) (popR lim h t f st')
  | 0, q, n, st', hs, _, hf => by
    have h1 := hs.q.length_eq
    rw [popN_id h t (by show q.length ≤ lim; dsimp only at h1; omega)]
    exact hs
  | f + 1, q, n, st', hs, hq, hf => by
    have h1 := hs.q.length_eq
    dsimp only at h1
    by_cases hl : lim < st'.2.length
    · obtain ⟨x, q', rfl⟩ : ∃ x q', q = x :: q' := by
        cases q with
        | nil => rw [List.length_nil] at h1; omega
        | cons x q' => exact ⟨x, q', rfl⟩
      obtain ⟨m1, m2⟩ := min_head hs.q hq
      simp only [List.length_cons] at h1
      have hlt := minI_lt st'.2 st'.2.length (by omega)
      have e : wt st'.2 (minI st'.2 st'.2.length) = x := by
        have := wt_get hlt
        rw [m1] at this; injection this with this; exact this.symm
      have ih := pop_same lim h t f q' (n + (t - x.s) * h) (st'.1 + (t - x.s) * h, st'.2.eraseIdx (minI st'.2 st'.2.length)) ⟨by show _ = _; rw [hs.n], m2⟩ (List.pairwise_cons.1 hq).2 (by have := m2.length_eq; dsimp only; omega)
      have e1 : popN lim h t (n, x :: q') = popN lim h t (n + (t - x.s) * h, q') := by
        unfold popN
        have e2 : (x :: q').length - lim = (q'.length - lim) + 1 := by simp only [List.length_cons]; omega
        dsimp only
        rw [e2, List.take_succ_cons, List.drop_succ_cons, List.map_cons, List.sum_cons, Int.add_assoc]
      rw [e1]
      show Same _ (popR lim h t (f + 1) st')
      unfold popR
      rw [if_pos hl, e]
      exact ih
    · rw [popN_id h t (by show q.length ≤ lim; omega), popR_id h t (by omega)]
      exact hs
def tickR (h w : Int) (lim : Nat) (L : List PU) (t : Int) (st : PS) : PS :=
  let a := begR h w t L st
  let H := enR t L a.2
  popR lim h t H.length (a.1, H)
theorem tick_same {L : List PU} {S : List St} (hL : OkL L) (hS : IsS L S) (h w : Int) {lim : Nat} {τ t : Int} (hlt : τ < t) (hno : ∀ s, s ∈ S → τ < s.a → t ≤ s.a) {st st' : PS} (I : Inv L lim τ st.2) (hs : Same st st') :
    Same (tickP h w lim S t st) (tickR h w lim L t st') := by
  obtain ⟨_, _, i3⟩ := I.tick hL hS h w hlt hno
  obtain ⟨b1, b2⟩ := beg_same (h := h) (w := w) (Bt S t) hs I.pd
  unfold tickP tickR
  dsimp only
  rw [begR_beg, ← Bt_is hL hS t, enR_is]
  refine pop_same lim h t _ (en (Et S t) (beg h w (Bt S t) st)).2 (en (Et S t) (beg h w (Bt S t) st)).1 (_, _) ⟨b1.n, ?_⟩ i3 rfl
  refine (List.Perm.append_right _ b1.q).trans ?_
  exact List.Perm.append_left _ ((Et_is hS t).symm.map _)
/-- The next tick at which something is. -/
def aft1 (τ b : Int) (u : PU) : Int :=
  let b1 := if τ < u.f then min b u.f else b
  if τ < u.t then min b1 u.t else b1
def afterV (L : List PU) (τ : Int) : Int := L.foldl (aft1 τ) (endV L)
theorem aft_fold (τ : Int) : ∀ (L : List PU) (b : Int), L.foldl (aft1 τ) b ≤ b ∧ (τ < b → τ < L.foldl (aft1 τ) b) ∧ ∀ u, u ∈ L → (τ < u.f → L.foldl (aft1 τ) b ≤ u.f) ∧ (τ < u.t → L.foldl (aft1 τ) b ≤ u.t)
  | [], b => ⟨Int.le_refl _, fun h => h, fun u hu => by cases hu⟩
  | v :: L, b => by
    obtain ⟨h1, h2, h3⟩ := aft_fold τ L (aft1 τ b v)
    have e : aft1 τ b v ≤ b ∧ (τ < b → τ < aft1 τ b v) ∧ (τ < v.f → aft1 τ b v ≤ v.f) ∧ (τ < v.t → aft1 τ b v ≤ v.t) := by
      unfold aft1
      dsimp only
      split <;> split <;> omega
    refine ⟨by show L.foldl (aft1 τ) (aft1 τ b v) ≤ b; omega, fun h => h2 (e.2.1 h), fun u hu => ?_⟩
    rcases List.mem_cons.1 hu with rfl | hu
    · exact ⟨fun h => by have := e.2.2.1 h; show L.foldl (aft1 τ) (aft1 τ b u) ≤ _; omega, fun h => by have := e.2.2.2 h; show L.foldl (aft1 τ) (aft1 τ b u) ≤ _; omega⟩
    · exact h3 u hu
theorem afterV_bd {L : List PU} {τ : Int} (h : τ < endV L) : τ < afterV L τ ∧ afterV L τ ≤ endV L := ⟨(aft_fold τ L _).2.1 h, (aft_fold τ L _).1⟩
theorem afterV_no {L : List PU} {S : List St} (hS : IsS L S) (τ : Int) : ∀ s, s ∈ S → τ < s.a → afterV L τ ≤ s.a := by
  intro s hs hlt
  obtain ⟨u, hu, rfl | rfl⟩ := mem_rawS.1 (hS.perm.mem_iff.1 hs)
  · exact ((aft_fold τ L _).2.2 u hu).1 hlt
  · exact ((aft_fold τ L _).2.2 u hu).2 hlt
theorem Rt_start {L : List PU} {S : List St} (hL : OkL L) (hS : IsS L S) : Rt S (-1) = S := by
  unfold Rt
  rw [List.filter_eq_self]
  intro s hs
  obtain ⟨u, hu, rfl | rfl⟩ := mem_rawS.1 (hS.perm.mem_iff.1 hs)
  · have := (hL.ok u hu).f0; unfold bgS; simp; omega
  · have := (hL.ok u hu).f0; have := (hL.ok u hu).ft; unfold enS; simp; omega
theorem Rt_end {L : List PU} {S : List St} (hL : OkL L) (hS : IsS L S) {τ : Int} (h : endV L ≤ τ) : Rt S τ = [] := by
  unfold Rt
  rw [List.filter_eq_nil_iff]
  intro s hs
  obtain ⟨u, hu, rfl | rfl⟩ := mem_rawS.1 (hS.perm.mem_iff.1 hs)
  · have := endV_ge hu; have := (hL.ok u hu).ft; unfold bgS; simp; omega
  · have := endV_ge hu; unfold enS; simp; omega
/-- What holds of both ways at a tick. -/
structure Tk (L : List PU) (S : List St) (h w : Int) (lim : Nat) (τ : Int) (st st' : PS) : Prop where
  inv : Inv L lim τ st.2
  same : Same st st'
  run : runP h w lim (Rt S τ) st = runP h w lim S (0, [])
theorem Tk.start {L : List PU} {S : List St} (hL : OkL L) (hS : IsS L S) (h w : Int) (lim : Nat) : Tk L S h w lim (-1) (0, []) (0, []) :=
  ⟨Inv.start L lim, ⟨rfl, .refl _⟩, by rw [Rt_start hL hS]⟩
theorem Tk.next {L : List PU} {S : List St} (hL : OkL L) (hS : IsS L S) {h w : Int} {lim : Nat} {τ : Int} {st st' : PS} (T : Tk L S h w lim τ st st') (hlt : τ < endV L) :
    Tk L S h w lim (afterV L τ) (tickP h w lim S (afterV L τ) st) (tickR h w lim L (afterV L τ) st') := by
  have hb := afterV_bd hlt
  have hno := afterV_no hS τ
  exact ⟨(T.inv.tick hL hS h w hb.1 hno).1, tick_same hL hS h w hb.1 hno T.inv T.same, by rw [← run_tick hS h w hb.1 hno T.inv.len]; exact T.run⟩
theorem Tk.fin {L : List PU} {S : List St} (hL : OkL L) (hS : IsS L S) {h w : Int} {lim : Nat} {τ : Int} {st st' : PS} (T : Tk L S h w lim τ st st') (hge : endV L ≤ τ) :
    st'.1 + restS h (endV L) st'.2 = mostV L S h w lim := by
  have h1 := T.run
  rw [Rt_end hL hS hge] at h1
  have h2 : st = runP h w lim S (0, []) := h1
  unfold mostV
  rw [← h2, T.same.n]
  unfold restS
  rw [perm_sum _ T.same.q]
end Go.Proofs.Ytnkkhbmbbkmfhaa.Py
