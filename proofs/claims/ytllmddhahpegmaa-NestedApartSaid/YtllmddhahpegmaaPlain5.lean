/- The plain laws on trees: what Rewind and End leave is a tree as it should be. -/
import Derived.Test.YtllmddhahpegmaaPlain4
namespace Go.Proofs.Ytllmddhahpegmaa
namespace Ne

theorem trim_take (t : Tr) (m : Nat) (hm : m ≤ t.length) (h1 : ∀ j, m ≤ j → j < t.length → t[j]? = some none) (h2 : 0 < m ∧ t[m - 1]? ≠ some none) : trim t = t.take m := by
  have e : t = t.take m ++ t.drop m := (List.take_append_drop m t).symm
  have hd : ∀ x ∈ (t.drop m).reverse, x.isNone = true := by
    intro x hx
    rw [List.mem_reverse] at hx
    obtain ⟨j, hj⟩ := List.mem_iff_getElem?.1 hx
    rw [List.getElem?_drop] at hj
    have hl := (List.getElem?_eq_some_iff.1 hj).1
    rw [h1 _ (by omega) hl] at hj
    injection hj with hj
    rw [← hj]; rfl
  have hm1 : m - 1 < t.length := by omega
  obtain ⟨x, hx⟩ : ∃ x, t[m - 1]? = some x := ⟨_, List.getElem?_eq_getElem hm1⟩
  have hc : x.isNone = false := by
    cases x with
    | none => exact absurd hx h2.2
    | some n => rfl
  have ht : (t.take m).reverse.dropWhile (fun x => x.isNone) = (t.take m).reverse := by
    have : t.take m = t.take (m - 1) ++ [x] := by
      have := List.take_succ_eq_append_getElem hm1
      rw [show m - 1 + 1 = m by omega] at this
      rw [this]
      obtain ⟨_, e⟩ := List.getElem?_eq_some_iff.1 hx
      rw [e]
    rw [this, List.reverse_append]
    simp [hc]
  unfold trim
  conv => lhs; rw [e]
  rw [List.reverse_append, List.dropWhile_append_of_pos hd, ht, List.reverse_reverse]

theorem tidy_take (l : List Item) (m : Nat) (hm : m ≤ l.length) (h1 : ∀ j x, m ≤ j → l[j]? = some x → x.c = -2) (h2 : m = 0 ∨ ∃ x, l[m - 1]? = some x ∧ x.c ≠ -2) : tidy l = l.take m := by
  have e : l = l.take m ++ l.drop m := (List.take_append_drop m l).symm
  have hd : ∀ x ∈ (l.drop m).reverse, (x.c == -2) = true := by
    intro x hx
    rw [List.mem_reverse] at hx
    obtain ⟨j, hj⟩ := List.mem_iff_getElem?.1 hx
    rw [List.getElem?_drop] at hj
    simpa using h1 _ x (by omega) hj
  have ht : (l.take m).reverse.dropWhile (fun x => x.c == -2) = (l.take m).reverse := by
    rcases h2 with rfl | ⟨x, hx, hc⟩
    · simp
    · have hm1 : m - 1 < l.length := (List.getElem?_eq_some_iff.1 hx).1
      have hm0 : m ≠ 0 := by
        intro e0
        subst e0
        exact hc (h1 0 x (Nat.le_refl _) (by simpa using hx))
      have : l.take m = l.take (m - 1) ++ [x] := by
        have := List.take_succ_eq_append_getElem hm1
        rw [show m - 1 + 1 = m by omega] at this
        rw [this]
        obtain ⟨_, e⟩ := List.getElem?_eq_some_iff.1 hx
        rw [e]
      rw [this, List.reverse_append]
      simp [hc]
  unfold tidy
  conv => lhs; rw [e]
  rw [List.reverse_append, List.dropWhile_append_of_pos hd, ht, List.reverse_reverse]


theorem Anc.inv {t : Tr} {c a : Nat} (h : Anc t c a) : c = a ∨ ∃ p k, t[c]? = some (some k) ∧ k.p = ((p : Nat) : Int) ∧ Anc t p a := by
  cases h with
  | refl => exact .inl rfl
  | step _ p _ k h1 h2 h3 => exact .inr ⟨p, k, h1, h2, h3⟩

theorem trim_exists (t : Tr) (h : ∃ (j : Nat) (n : Node), t[j]? = some (some n)) : ∃ m, 0 < m ∧ m ≤ t.length ∧ trim t = t.take m ∧ (∀ j, m ≤ j → j < t.length → t[j]? = some none) ∧ t[m - 1]? ≠ some none := by
  have key : ∀ k, k ≤ t.length → (∀ j, k ≤ j → j < t.length → t[j]? = some none) → ∃ m, 0 < m ∧ m ≤ t.length ∧ (∀ j, m ≤ j → j < t.length → t[j]? = some none) ∧ t[m - 1]? ≠ some none := by
    intro k
    induction k with
    | zero =>
      intro _ hk
      obtain ⟨j, n, hj⟩ := h
      have := hk j (Nat.zero_le _) (List.getElem?_eq_some_iff.1 hj).1
      rw [hj] at this
      cases this
    | succ k ih =>
      intro hl hk
      by_cases e : t[k]? = some none
      · exact ih (by omega) fun j h1 h2 => by
          by_cases e' : j = k
          · rw [e']; exact e
          · exact hk j (by omega) h2
      · exact ⟨k + 1, by omega, hl, hk, by rw [show k + 1 - 1 = k by omega]; exact e⟩
  obtain ⟨m, h1, h2, h3, h4⟩ := key t.length (Nat.le_refl _) (fun j h1 h2 => by omega)
  exact ⟨m, h1, h2, trim_take t m h2 h3 ⟨h1, h4⟩, h3, h4⟩

theorem trim_open {t : Tr} {j : Nat} {n : Node} : (trim t)[j]? = some (some n) ↔ t[j]? = some (some n) := by
  by_cases h : ∃ (j : Nat) (n : Node), t[j]? = some (some n)
  · obtain ⟨m, h1, h2, h3, h4, h5⟩ := trim_exists t h
    rw [h3, List.getElem?_take]
    by_cases hj : j < m
    · rw [if_pos hj]
    · rw [if_neg hj]
      constructor
      · intro e; cases e
      · intro e
        have := h4 j (by omega) (List.getElem?_eq_some_iff.1 e).1
        rw [e] at this; cases this
  · have hall : ∀ x ∈ t.reverse, x.isNone = true := by
      intro x hx
      rw [List.mem_reverse] at hx
      obtain ⟨i, hi⟩ := List.mem_iff_getElem?.1 hx
      cases x with
      | none => rfl
      | some n => exact (h ⟨i, n, hi⟩).elim
    have : trim t = [] := by
      unfold trim
      have := List.dropWhile_append_of_pos (l₂ := []) hall
      rw [List.append_nil] at this
      rw [this]; rfl
    rw [this]
    constructor
    · intro e; simp at e
    · intro e; exact (h ⟨j, n, e⟩).elim

theorem trim_length (t : Tr) : (trim t).length ≤ t.length := by
  unfold trim
  rw [List.length_reverse]
  have := (List.dropWhile_sublist (l := t.reverse) (fun x => x.isNone)).length_le
  simpa using this

theorem trim_last (t : Tr) (h : ∃ (j : Nat) (n : Node), t[j]? = some (some n)) : (trim t).getLast? ≠ some none := by
  obtain ⟨m, h1, h2, h3, h4, h5⟩ := trim_exists t h
  rw [h3, List.getLast?_eq_getElem?, List.length_take, Nat.min_eq_left h2, List.getElem?_take, if_pos (by omega)]
  exact h5

/-- The items that an arena keeps. -/
structure Pruned (n : Node) (l l' : List Item) : Prop where
  seq : Seq n.a (n.a + n.s) l'
  last : ∀ x, l'.getLast? = some x → x.c ≠ -2
  low : ∀ x ∈ l', -2 ≤ x.c
  len : l'.length ≤ 200
  uniq : l'.Pairwise (fun x y => 0 ≤ x.c → x.c ≠ y.c)
  old : ∀ x ∈ l', 0 ≤ x.c → x ∈ n.l ∧ ∀ y ∈ l, 0 ≤ y.c → y.c ≠ x.c
  keep : ∀ x ∈ n.l, 0 ≤ x.c → (∀ y ∈ l, 0 ≤ y.c → y.c ≠ x.c) → x ∈ l'

section
variable {M : Tr} (h : Good M) {d : Nat → Nat} {D : Nat} (hr : Ranked M d D) {i : Nat} {n : Node} (hi : M[i]? = some (some n)) {l : List Item} (hl : l.Sublist n.l) {F : Nat} (hF : D - d i < F)
include h hr hi hl hF

theorem shut_good : ShutOk F M l ∧ (∀ c, Gone M l c → c < M.length → (shut F M l)[c]? = some none) ∧ ∀ c, ¬ Gone M l c → (shut F M l)[c]? = M[c]? :=
  shut_spec h hr F i n l M hi hl hF rfl (fun _ _ => rfl)

omit hF in
theorem not_gone : ¬ Gone M l i := by
  rintro ⟨x, hx, h0, hA⟩
  have := hr.kid i n hi x (hl.subset hx) h0
  have := hA.rank h hr
  omega

omit hr hF in
theorem root_stays : ¬ Gone M l 0 := by
  rintro ⟨x, hx, h0, hA⟩
  obtain ⟨r, hr0, _⟩ := h.root
  obtain ⟨k, hk, hp, _⟩ := h.kid hi (hl.subset hx) h0
  rcases hA.inv with e | ⟨p, k', h1, hp', _⟩
  · have h1 := (h.node _ _ hk).root (by omega)
    omega
  · rw [hr0] at h1
    injection h1 with h1
    injection h1 with h1
    subst h1
    have := (h.node 0 r hr0).root rfl
    omega

theorem prune_good {l' : List Item} (hp : Pruned n l l') : Good ((trim (shut F M l)).set i (some { n with l := l' })) := by
  obtain ⟨_, s1, s2⟩ := shut_good h hr hi hl hF
  have hgi := not_gone h hr hi hl
  have hg0 := root_stays h hi hl
  have hopen : ∀ (j : Nat) (k : Node), (trim (shut F M l))[j]? = some (some k) ↔ M[j]? = some (some k) ∧ ¬ Gone M l j := by
    intro j k
    rw [trim_open]
    by_cases hg : Gone M l j
    · constructor
      · intro e
        by_cases hj : j < M.length
        · rw [s1 j hg hj] at e; cases e
        · obtain ⟨x, hx, h0, hA⟩ := hg
          have hlen : (shut F M l).length = M.length := by
            have : ∀ (f : Nat) (t : Tr) (l : List Item), (shut f t l).length = t.length := by
              intro f
              induction f with
              | zero => intro t l; rfl
              | succ f ih =>
                intro t l
                unfold shut
                induction l generalizing t with
                | nil => rfl
                | cons x l ih2 =>
                  rw [List.foldl_cons, ih2]
                  split
                  · rw [List.length_set, ih]
                  · rfl
            exact this F M l
          have := (List.getElem?_eq_some_iff.1 e).1
          omega
      · intro e; exact absurd hg e.2
    · rw [s2 j hg]
      exact ⟨fun e => ⟨e, hg⟩, fun e => e.1⟩
  have hgp : ∀ (j : Nat) (k : Node) (p : Nat), M[j]? = some (some k) → k.p = (p : Int) → ¬ Gone M l j → ¬ Gone M l p := by
    rintro j k p hj hkp hg ⟨x, hx, h0, hA⟩
    exact hg ⟨x, hx, h0, .step j p _ k hj hkp hA⟩
  have hti := (hopen i n).2 ⟨hi, hgi⟩
  have hiT : i < (trim (shut F M l)).length := (List.getElem?_eq_some_iff.1 hti).1
  generalize hT : trim (shut F M l) = T at *
  have hget : ∀ (j : Nat) (k : Node), (T.set i (some { n with l := l' }))[j]? = some (some k) → (j = i ∧ k = { n with l := l' }) ∨ (j ≠ i ∧ M[j]? = some (some k) ∧ ¬ Gone M l j) := by
    intro j k hk
    by_cases e : i = j
    · subst e
      rw [List.getElem?_set_self hiT] at hk
      injection hk with hk
      injection hk with hk
      exact .inl ⟨rfl, hk.symm⟩
    · rw [List.getElem?_set_ne e] at hk
      exact .inr ⟨fun e' => e e'.symm, (hopen j k).1 hk⟩
  have hput : ∀ (j : Nat) (k : Node), M[j]? = some (some k) → ¬ Gone M l j → ∃ k' : Node, (T.set i (some { n with l := l' }))[j]? = some (some k') ∧ k'.p = k.p ∧ k'.a = k.a ∧ k'.s = k.s ∧ (j ≠ i → k' = k) ∧ (j = i → k'.l = l') := by
    intro j k hk hg
    by_cases e : j = i
    · subst e
      rw [hi] at hk
      injection hk with hk
      injection hk with hk
      subst hk
      exact ⟨{ n with l := l' }, List.getElem?_set_self hiT, rfl, rfl, rfl, fun e => absurd rfl e, fun _ => rfl⟩
    · exact ⟨k, by rw [List.getElem?_set_ne (fun e' => e e'.symm)]; exact (hopen j k).2 ⟨hk, hg⟩, rfl, rfl, rfl, fun _ => rfl, fun e' => absurd e' e⟩
  -- a child that is not among those that go
  have hkidg : ∀ (j : Nat) (k : Node), M[j]? = some (some k) → ¬ Gone M l j → ∀ y ∈ k.l, 0 ≤ y.c → (j = i → ∀ z ∈ l, 0 ≤ z.c → z.c ≠ y.c) → ¬ Gone M l y.c.toNat := by
    rintro j k hk hg y hy h0 hne ⟨z, hz, hz0, hA⟩
    obtain ⟨k1, hk1, hp1, _⟩ := h.kid hk hy h0
    rcases hA.inv with e | ⟨p, k', h1, hp', hA⟩
    · obtain ⟨k2, hk2, hp2, _⟩ := h.kid hi (hl.subset hz) hz0
      rw [← e, hk1] at hk2
      injection hk2 with hk2
      injection hk2 with hk2
      subst hk2
      have hji : j = i := by omega
      exact hne hji z hz hz0 (by omega)
    · rw [hk1] at h1
      injection h1 with h1
      injection h1 with h1
      subst h1
      have : p = j := by omega
      subst this
      exact hg ⟨z, hz, hz0, hA⟩
  have hkid : ∀ (j : Nat) (k : Node), M[j]? = some (some k) → ¬ Gone M l j → ∀ y ∈ k.l, 0 ≤ y.c → (j = i → ∀ z ∈ l, 0 ≤ z.c → z.c ≠ y.c) → ∃ k' : Node, (T.set i (some { n with l := l' }))[y.c.toNat]? = some (some k') ∧ k'.p = j ∧ k'.a = y.a ∧ k'.s = y.s := by
    intro j k hk hg y hy h0 hne
    obtain ⟨k1, hk1, e1, e2, e3⟩ := h.kid hk hy h0
    obtain ⟨k2, hk2, f1, f2, f3, _⟩ := hput _ _ hk1 (hkidg j k hk hg y hy h0 hne)
    exact ⟨k2, hk2, f1.trans e1, f2.trans e2, f3.trans e3⟩
  have hpar : ∀ (j : Nat) (k : Node), M[j]? = some (some k) → ¬ Gone M l j → j ≠ 0 → 0 ≤ k.p ∧ ∃ q : Node, (T.set i (some { n with l := l' }))[k.p.toNat]? = some (some q) ∧ ∃ y ∈ q.l, y.c = j := by
    intro j k hk hg hj
    obtain ⟨h0, q, hq, y, hy, hyc⟩ := (h.node j k hk).par hj
    have hgq := hgp j k k.p.toNat hk (by omega) hg
    obtain ⟨k2, hk2, _, _, _, f4, f5⟩ := hput _ _ hq hgq
    refine ⟨h0, k2, hk2, y, ?_, hyc⟩
    by_cases e : k.p.toNat = i
    · rw [f5 e]
      rw [e, hi] at hq
      injection hq with hq
      injection hq with hq
      subst hq
      refine hp.keep y hy (by omega) fun z hz hz0 hzy => hg ⟨z, hz, hz0, ?_⟩
      rw [hzy, hyc, Int.toNat_natCast]
      exact .refl _
    · rw [f4 e]; exact hy
  have hsome : ∃ (j : Nat) (n : Node), (shut F M l)[j]? = some (some n) := ⟨i, n, by rw [s2 i hgi]; exact hi⟩
  refine ⟨?_, ?_, ?_, fun j k hk => ?_, d, D, hr.top, fun j k hk y hy h0 => ?_⟩
  · rw [List.length_set, ← hT]
    have h1 := trim_length (shut F M l)
    have h2 : (shut F M l).length = M.length := by
      have : ∀ (f : Nat) (t : Tr) (l : List Item), (shut f t l).length = t.length := by
        intro f
        induction f with
        | zero => intro t l; rfl
        | succ f ih =>
          intro t l
          unfold shut
          induction l generalizing t with
          | nil => rfl
          | cons x l ih2 =>
            rw [List.foldl_cons, ih2]
            split
            · rw [List.length_set, ih]
            · rfl
      exact this F M l
    have := h.len
    omega
  · obtain ⟨r, hr0, hra⟩ := h.root
    obtain ⟨k', hk', _, e, _⟩ := hput _ _ hr0 hg0
    exact ⟨k', hk', e.trans hra⟩
  · refine getLast_set ?_ (by simp)
    rw [← hT]
    exact trim_last _ hsome
  · rcases hget j k hk with ⟨rfl, rfl⟩ | ⟨hne, hk, hg⟩
    · have hok := h.node j n hi
      exact ⟨hok.s1, hok.a0, hok.top, hp.len, hp.seq, hp.last, hp.low, fun y hy h0 => hkid j n hi hgi y (hp.old y hy h0).1 h0 (fun _ => (hp.old y hy h0).2), hp.uniq, hok.root, hpar j n hi hgi⟩
    · have hk' := h.node j k hk
      exact ⟨hk'.s1, hk'.a0, hk'.top, hk'.len, hk'.seq, hk'.last, hk'.low, fun y hy h0 => hkid j k hk hg y hy h0 (fun e => absurd e hne), hk'.uniq, hk'.root, hpar j k hk hg⟩
  · rcases hget j k hk with ⟨rfl, rfl⟩ | ⟨hne, hk, hg⟩
    · exact hr.kid j n hi y (hp.old y hy h0).1 h0
    · exact hr.kid j k hk y hy h0
end
end Ne
end Go.Proofs.Ytllmddhahpegmaa
