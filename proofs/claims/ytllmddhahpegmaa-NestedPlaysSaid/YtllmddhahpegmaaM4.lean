/- The plain laws on trees: what Rewind and End leave is a tree as it should be. The plain laws on trees: Rewind, End and Live as functions. The walks of the search among items, and of Owner. -/
import Derived.Test.YtllmddhahpegmaaM2
import Derived.Test.YtllmddhahpegmaaM3
namespace Go.Proofs.Ytllmddhahpegmaa
namespace Ne

theorem trim_take (t : Tr) (m : Nat) (hm : m ≤ t.length) (h1 : ∀ j, m ≤ j → j < t.length → t[j]? = some none) (h2 : 0 < m ∧ t[m - 1]? ≠ some none) : trim t = t.take m := by
  have e : t = t.take m ++ t.drop m := (List.take_append_drop m t).symm
  have hd : ∀ x ∈ (t.drop m).reverse, x.isNone = true := by
    intro x hx
    rw [List.mem_reverse] at hx
    obtain ⟨j, hj⟩ := List.mem_iff_getElem?.1 hx
    rw [List.getElem?_drop] at hj
    have hl := (List.getElem?_eq_some_iff.1 hj).1
    rw [h1 _ (by omega) hl] at hj
    injection hj with hj
    rw [← hj]; rfl
  have hm1 : m - 1 < t.length := by omega
  obtain ⟨x, hx⟩ : ∃ x, t[m - 1]? = some x := ⟨_, List.getElem?_eq_getElem hm1⟩
  have hc : x.isNone = false := by
    cases x with
    | none => exact absurd hx h2.2
    | some n => rfl
  have ht : (t.take m).reverse.dropWhile (fun x => x.isNone) = (t.take m).reverse := by
    have : t.take m = t.take (m - 1) ++ [x] := by
      have := List.take_succ_eq_append_getElem hm1
      rw [show m - 1 + 1 = m by omega] at this
      rw [this]
      obtain ⟨_, e⟩ := List.getElem?_eq_some_iff.1 hx
      rw [e]
    rw [this, List.reverse_append]
    simp [hc]
  unfold trim
  conv => lhs; rw [e]
  rw [List.reverse_append, List.dropWhile_append_of_pos hd, ht, List.reverse_reverse]

theorem tidy_take (l : List Item) (m : Nat) (hm : m ≤ l.length) (h1 : ∀ j x, m ≤ j → l[j]? = some x → x.c = -2) (h2 : m = 0 ∨ ∃ x, l[m - 1]? = some x ∧ x.c ≠ -2) : tidy l = l.take m := by
  have e : l = l.take m ++ l.drop m := (List.take_append_drop m l).symm
  have hd : ∀ x ∈ (l.drop m).reverse, (x.c == -2) = true := by
    intro x hx
    rw [List.mem_reverse] at hx
    obtain ⟨j, hj⟩ := List.mem_iff_getElem?.1 hx
    rw [List.getElem?_drop] at hj
    simpa using h1 _ x (by omega) hj
  have ht : (l.take m).reverse.dropWhile (fun x => x.c == -2) = (l.take m).reverse := by
    rcases h2 with rfl | ⟨x, hx, hc⟩
    · simp
    · have hm1 : m - 1 < l.length := (List.getElem?_eq_some_iff.1 hx).1
      have hm0 : m ≠ 0 := by
        intro e0
        subst e0
        exact hc (h1 0 x (Nat.le_refl _) (by simpa using hx))
      have : l.take m = l.take (m - 1) ++ [x] := by
        have := List.take_succ_eq_append_getElem hm1
        rw [show m - 1 + 1 = m by omega] at this
        rw [this]
        obtain ⟨_, e⟩ := List.getElem?_eq_some_iff.1 hx
        rw [e]
      rw [this, List.reverse_append]
      simp [hc]
  unfold tidy
  conv => lhs; rw [e]
  rw [List.reverse_append, List.dropWhile_append_of_pos hd, ht, List.reverse_reverse]


theorem Anc.inv {t : Tr} {c a : Nat} (h : Anc t c a) : c = a ∨ ∃ p k, t[c]? = some (some k) ∧ k.p = ((p : Nat) : Int) ∧ Anc t p a := by
  cases h with
  | refl => exact .inl rfl
  | step _ p _ k h1 h2 h3 => exact .inr ⟨p, k, h1, h2, h3⟩

theorem trim_exists (t : Tr) (h : ∃ (j : Nat) (n : Node), t[j]? = some (some n)) : ∃ m, 0 < m ∧ m ≤ t.length ∧ trim t = t.take m ∧ (∀ j, m ≤ j → j < t.length → t[j]? = some none) ∧ t[m - 1]? ≠ some none := by
  have key : ∀ k, k ≤ t.length → (∀ j, k ≤ j → j < t.length → t[j]? = some none) → ∃ m, 0 < m ∧ m ≤ t.length ∧ (∀ j, m ≤ j → j < t.length → t[j]? = some none) ∧ t[m - 1]? ≠ some none := by
    intro k
    induction k with
    | zero =>
      intro _ hk
      obtain ⟨j, n, hj⟩ := h
      have := hk j (Nat.zero_le _) (List.getElem?_eq_some_iff.1 hj).1
      rw [hj] at this
      cases this
    | succ k ih =>
      intro hl hk
      by_cases e : t[k]? = some none
      · exact ih (by omega) fun j h1 h2 => by
          by_cases e' : j = k
          · rw [e']; exact e
          · exact hk j (by omega) h2
      · exact ⟨k + 1, by omega, hl, hk, by rw [show k + 1 - 1 = k by omega]; exact e⟩
  obtain ⟨m, h1, h2, h3, h4⟩ := key t.length (Nat.le_refl _) (fun j h1 h2 => by omega)
  exact ⟨m, h1, h2, trim_take t m h2 h3 ⟨h1, h4⟩, h3, h4⟩

theorem trim_open {t : Tr} {j : Nat} {n : Node} : (trim t)[j]? = some (some n) ↔ t[j]? = some (some n) := by
  by_cases h : ∃ (j : Nat) (n : Node), t[j]? = some (some n)
  · obtain ⟨m, h1, h2, h3, h4, h5⟩ := trim_exists t h
    rw [h3, List.getElem?_take]
    by_cases hj : j < m
    · rw [if_pos hj]
    · rw [if_neg hj]
      constructor
      · intro e; cases e
      · intro e
        have := h4 j (by omega) (List.getElem?_eq_some_iff.1 e).1
        rw [e] at this; cases this
  · have hall : ∀ x ∈ t.reverse, x.isNone = true := by
      intro x hx
      rw [List.mem_reverse] at hx
      obtain ⟨i, hi⟩ := List.mem_iff_getElem?.1 hx
      cases x with
      | none => rfl
      | some n => exact (h ⟨i, n, hi⟩).elim
    have : trim t = [] := by
      unfold trim
      have := List.dropWhile_append_of_pos (l₂ := []) hall
      rw [List.append_nil] at this
      rw [this]; rfl
    rw [this]
    constructor
    · intro e; simp at e
    · intro e; exact (h ⟨j, n, e⟩).elim

theorem trim_length (t : Tr) : (trim t).length ≤ t.length := by
  unfold trim
  rw [List.length_reverse]
  have := (List.dropWhile_sublist (l := t.reverse) (fun x => x.isNone)).length_le
  simpa using this

theorem trim_last (t : Tr) (h : ∃ (j : Nat) (n : Node), t[j]? = some (some n)) : (trim t).getLast? ≠ some none := by
  obtain ⟨m, h1, h2, h3, h4, h5⟩ := trim_exists t h
  rw [h3, List.getLast?_eq_getElem?, List.length_take, Nat.min_eq_left h2, List.getElem?_take, if_pos (by omega)]
  exact h5

/-- The items that an arena keeps. -/
structure Pruned (n : Node) (l l' : List Item) : Prop where
  seq : Seq n.a (n.a + n.s) l'
  last : ∀ x, l'.getLast? = some x → x.c ≠ -2
  low : ∀ x ∈ l', -2 ≤ x.c
  len : l'.length ≤ 200
  uniq : l'.Pairwise (fun x y => 0 ≤ x.c → x.c ≠ y.c)
  old : ∀ x ∈ l', 0 ≤ x.c → x ∈ n.l ∧ ∀ y ∈ l, 0 ≤ y.c → y.c ≠ x.c
  keep : ∀ x ∈ n.l, 0 ≤ x.c → (∀ y ∈ l, 0 ≤ y.c → y.c ≠ x.c) → x ∈ l'

section
variable {M : Tr} (h : Good M) {d : Nat → Nat} {D : Nat} (hr : Ranked M d D) {i : Nat} {n : Node} (hi : M[i]? = some (some n)) {l : List Item} (hl : l.Sublist n.l) {F : Nat} (hF : D - d i < F)
include h hr hi hl hF

theorem shut_good : ShutOk F M l ∧ (∀ c, Gone M l c → c < M.length → (shut F M l)[c]? = some none) ∧ ∀ c, ¬ Gone M l c → (shut F M l)[c]? = M[c]? :=
  shut_spec h hr F i n l M hi hl hF rfl (fun _ _ => rfl)

omit hF in
theorem not_gone : ¬ Gone M l i := by
  rintro ⟨x, hx, h0, hA⟩
  have := hr.kid i n hi x (hl.subset hx) h0
  have := hA.rank h hr
  omega

omit hr hF in
theorem root_stays : ¬ Gone M l 0 := by
  rintro ⟨x, hx, h0, hA⟩
  obtain ⟨r, hr0, _⟩ := h.root
  obtain ⟨k, hk, hp, _⟩ := h.kid hi (hl.subset hx) h0
  rcases hA.inv with e | ⟨p, k', h1, hp', _⟩
  · have h1 := (h.node _ _ hk).root (by omega)
    omega
  · rw [hr0] at h1
    injection h1 with h1
    injection h1 with h1
    subst h1
    have := (h.node 0 r hr0).root rfl
    omega

theorem prune_good {l' : List Item} (hp : Pruned n l l') : Good ((trim (shut F M l)).set i (some { n with l := l' })) := by
  obtain ⟨_, s1, s2⟩ := shut_good h hr hi hl hF
  have hgi := not_gone h hr hi hl
  have hg0 := root_stays h hi hl
  have hopen : ∀ (j : Nat) (k : Node), (trim (shut F M l))[j]? = some (some k) ↔ M[j]? = some (some k) ∧ ¬ Gone M l j := by
    intro j k
    rw [trim_open]
    by_cases hg : Gone M l j
    · constructor
      · intro e
        by_cases hj : j < M.length
        · rw [s1 j hg hj] at e; cases e
        · obtain ⟨x, hx, h0, hA⟩ := hg
          have hlen : (shut F M l).length = M.length := by
            have : ∀ (f : Nat) (t : Tr) (l : List Item), (shut f t l).length = t.length := by
              intro f
              induction f with
              | zero => intro t l; rfl
              | succ f ih =>
                intro t l
                unfold shut
                induction l generalizing t with
                | nil => rfl
                | cons x l ih2 =>
                  rw [List.foldl_cons, ih2]
                  split
                  · rw [List.length_set, ih]
                  · rfl
            exact this F M l
          have := (List.getElem?_eq_some_iff.1 e).1
          omega
      · intro e; exact absurd hg e.2
    · rw [s2 j hg]
      exact ⟨fun e => ⟨e, hg⟩, fun e => e.1⟩
  have hgp : ∀ (j : Nat) (k : Node) (p : Nat), M[j]? = some (some k) → k.p = (p : Int) → ¬ Gone M l j → ¬ Gone M l p := by
    rintro j k p hj hkp hg ⟨x, hx, h0, hA⟩
    exact hg ⟨x, hx, h0, .step j p _ k hj hkp hA⟩
  have hti := (hopen i n).2 ⟨hi, hgi⟩
  have hiT : i < (trim (shut F M l)).length := (List.getElem?_eq_some_iff.1 hti).1
  generalize hT : trim (shut F M l) = T at *
  have hget : ∀ (j : Nat) (k : Node), (T.set i (some { n with l := l' }))[j]? = some (some k) → (j = i ∧ k = { n with l := l' }) ∨ (j ≠ i ∧ M[j]? = some (some k) ∧ ¬ Gone M l j) := by
    intro j k hk
    by_cases e : i = j
    · subst e
      rw [List.getElem?_set_self hiT] at hk
      injection hk with hk
      injection hk with hk
      exact .inl ⟨rfl, hk.symm⟩
    · rw [List.getElem?_set_ne e] at hk
      exact .inr ⟨fun e' => e e'.symm, (hopen j k).1 hk⟩
  have hput : ∀ (j : Nat) (k : Node), M[j]? = some (some k) → ¬ Gone M l j → ∃ k' : Node, (T.set i (some { n with l := l' }))[j]? = some (some k') ∧ k'.p = k.p ∧ k'.a = k.a ∧ k'.s = k.s ∧ (j ≠ i → k' = k) ∧ (j = i → k'.l = l') := by
    intro j k hk hg
    by_cases e : j = i
    · subst e
      rw [hi] at hk
      injection hk with hk
      injection hk with hk
      subst hk
      exact ⟨{ n with l := l' }, List.getElem?_set_self hiT, rfl, rfl, rfl, fun e => absurd rfl e, fun _ => rfl⟩
    · exact ⟨k, by rw [List.getElem?_set_ne (fun e' => e e'.symm)]; exact (hopen j k).2 ⟨hk, hg⟩, rfl, rfl, rfl, fun _ => rfl, fun e' => absurd e' e⟩
  -- a child that is not among those that go
  have hkidg : ∀ (j : Nat) (k : Node), M[j]? = some (some k) → ¬ Gone M l j → ∀ y ∈ k.l, 0 ≤ y.c → (j = i → ∀ z ∈ l, 0 ≤ z.c → z.c ≠ y.c) → ¬ Gone M l y.c.toNat := by
    rintro j k hk hg y hy h0 hne ⟨z, hz, hz0, hA⟩
    obtain ⟨k1, hk1, hp1, _⟩ := h.kid hk hy h0
    rcases hA.inv with e | ⟨p, k', h1, hp', hA⟩
    · obtain ⟨k2, hk2, hp2, _⟩ := h.kid hi (hl.subset hz) hz0
      rw [← e, hk1] at hk2
      injection hk2 with hk2
      injection hk2 with hk2
      subst hk2
      have hji : j = i := by omega
      exact hne hji z hz hz0 (by omega)
    · rw [hk1] at h1
      injection h1 with h1
      injection h1 with h1
      subst h1
      have : p = j := by omega
      subst this
      exact hg ⟨z, hz, hz0, hA⟩
  have hkid : ∀ (j : Nat) (k : Node), M[j]? = some (some k) → ¬ Gone M l j → ∀ y ∈ k.l, 0 ≤ y.c → (j = i → ∀ z ∈ l, 0 ≤ z.c → z.c ≠ y.c) → ∃ k' : Node, (T.set i (some { n with l := l' }))[y.c.toNat]? = some (some k') ∧ k'.p = j ∧ k'.a = y.a ∧ k'.s = y.s := by
    intro j k hk hg y hy h0 hne
    obtain ⟨k1, hk1, e1, e2, e3⟩ := h.kid hk hy h0
    obtain ⟨k2, hk2, f1, f2, f3, _⟩ := hput _ _ hk1 (hkidg j k hk hg y hy h0 hne)
    exact ⟨k2, hk2, f1.trans e1, f2.trans e2, f3.trans e3⟩
  have hpar : ∀ (j : Nat) (k : Node), M[j]? = some (some k) → ¬ Gone M l j → j ≠ 0 → 0 ≤ k.p ∧ ∃ q : Node, (T.set i (some { n with l := l' }))[k.p.toNat]? = some (some q) ∧ ∃ y ∈ q.l, y.c = j := by
    intro j k hk hg hj
    obtain ⟨h0, q, hq, y, hy, hyc⟩ := (h.node j k hk).par hj
    have hgq := hgp j k k.p.toNat hk (by omega) hg
    obtain ⟨k2, hk2, _, _, _, f4, f5⟩ := hput _ _ hq hgq
    refine ⟨h0, k2, hk2, y, ?_, hyc⟩
    by_cases e : k.p.toNat = i
    · rw [f5 e]
      rw [e, hi] at hq
      injection hq with hq
      injection hq with hq
      subst hq
      refine hp.keep y hy (by omega) fun z hz hz0 hzy => hg ⟨z, hz, hz0, ?_⟩
      rw [hzy, hyc, Int.toNat_natCast]
      exact .refl _
    · rw [f4 e]; exact hy
  have hsome : ∃ (j : Nat) (n : Node), (shut F M l)[j]? = some (some n) := ⟨i, n, by rw [s2 i hgi]; exact hi⟩
  refine ⟨?_, ?_, ?_, fun j k hk => ?_, d, D, hr.top, fun j k hk y hy h0 => ?_⟩
  · rw [List.length_set, ← hT]
    have h1 := trim_length (shut F M l)
    have h2 : (shut F M l).length = M.length := by
      have : ∀ (f : Nat) (t : Tr) (l : List Item), (shut f t l).length = t.length := by
        intro f
        induction f with
        | zero => intro t l; rfl
        | succ f ih =>
          intro t l
          unfold shut
          induction l generalizing t with
          | nil => rfl
          | cons x l ih2 =>
            rw [List.foldl_cons, ih2]
            split
            · rw [List.length_set, ih]
            · rfl
      exact this F M l
    have := h.len
    omega
  · obtain ⟨r, hr0, hra⟩ := h.root
    obtain ⟨k', hk', _, e, _⟩ := hput _ _ hr0 hg0
    exact ⟨k', hk', e.trans hra⟩
  · refine getLast_set ?_ (by simp)
    rw [← hT]
    exact trim_last _ hsome
  · rcases hget j k hk with ⟨rfl, rfl⟩ | ⟨hne, hk, hg⟩
    · have hok := h.node j n hi
      exact ⟨hok.s1, hok.a0, hok.top, hp.len, hp.seq, hp.last, hp.low, fun y hy h0 => hkid j n hi hgi y (hp.old y hy h0).1 h0 (fun _ => (hp.old y hy h0).2), hp.uniq, hok.root, hpar j n hi hgi⟩
    · have hk' := h.node j k hk
      exact ⟨hk'.s1, hk'.a0, hk'.top, hk'.len, hk'.seq, hk'.last, hk'.low, fun y hy h0 => hkid j k hk hg y hy h0 (fun e => absurd e hne), hk'.uniq, hk'.root, hpar j k hk hg⟩
  · rcases hget j k hk with ⟨rfl, rfl⟩ | ⟨hne, hk, hg⟩
    · exact hr.kid j n hi y (hp.old y hy h0).1 h0
    · exact hr.kid j k hk y hy h0
end
end Ne
end Go.Proofs.Ytllmddhahpegmaa
namespace Go.Proofs.Ytllmddhahpegmaa
namespace Ne

def asHole (x : Item) : Item := { x with c := -2 }
def fidx (p : Item → Bool) (l : List Item) : Int := if l.findIdx p < l.length then (l.findIdx p : Int) else -1

/-- A depth that no tree of these ranks has. -/
def Big (M : Tr) (F : Nat) : Prop := ∃ d D, Ranked M d D ∧ D < F
theorem Good.big {M : Tr} (h : Good M) : ∃ F, Big M F := by
  obtain ⟨d, D, hr⟩ := h.ranked
  exact ⟨D + 1, d, D, hr, by omega⟩

def rewindTo (M : Tr) (F : Nat) (i m : Int) : Tr × Int := match find M i with
  | none => (M, 4)
  | some n => if m < 0 ∨ n.l.length < m then (M, 7) else ((trim (shut F M (n.l.drop m.toNat))).set i.toNat (some { n with l := tidy (n.l.take m.toNat) }), 0)

theorem tidy_prefix (l : List Item) : ∃ m, m ≤ l.length ∧ tidy l = l.take m ∧ (∀ j x, m ≤ j → l[j]? = some x → x.c = -2) ∧ (m = 0 ∨ ∃ x, l[m - 1]? = some x ∧ x.c ≠ -2) := by
  have key : ∀ k, k ≤ l.length → (∀ (j : Nat) (x : Item), k ≤ j → l[j]? = some x → x.c = -2) → ∃ m, m ≤ l.length ∧ (∀ (j : Nat) (x : Item), m ≤ j → l[j]? = some x → x.c = -2) ∧ (m = 0 ∨ ∃ x, l[m - 1]? = some x ∧ x.c ≠ -2) := by
    intro k
    induction k with
    | zero => intro h1 h2; exact ⟨0, h1, h2, .inl rfl⟩
    | succ k ih =>
      intro h1 h2
      obtain ⟨x, hx⟩ : ∃ x, l[k]? = some x := ⟨_, List.getElem?_eq_getElem (by omega)⟩
      by_cases hc : x.c = -2
      · exact ih (by omega) fun j y h3 h4 => by
          by_cases e : j = k
          · subst e
            rw [hx] at h4
            injection h4 with h4
            rw [← h4]; exact hc
          · exact h2 j y (by omega) h4
      · exact ⟨k + 1, h1, h2, .inr ⟨x, by rw [show k + 1 - 1 = k by omega]; exact hx, hc⟩⟩
  obtain ⟨m, h1, h2, h3⟩ := key l.length (Nat.le_refl _) (fun j x h1 h2 => by have := (List.getElem?_eq_some_iff.1 h2).1; omega)
  exact ⟨m, h1, tidy_take l m h1 h2 h3, h2, h3⟩

theorem tidy_sub (l : List Item) : (tidy l).Sublist l := by
  obtain ⟨m, _, h, _⟩ := tidy_prefix l
  rw [h]; exact List.take_sublist _ _

theorem tidy_last (l : List Item) : ∀ x, (tidy l).getLast? = some x → x.c ≠ -2 := by
  obtain ⟨m, h1, h2, h3, h4⟩ := tidy_prefix l
  intro x hx
  rw [h2, List.getLast?_eq_getElem?, List.length_take, Nat.min_eq_left h1, List.getElem?_take] at hx
  rcases h4 with rfl | ⟨y, hy, hc⟩
  · simp at hx
  · split at hx
    · rw [hy] at hx
      injection hx with hx
      rw [← hx]; exact hc
    · cases hx

theorem tidy_mem {l : List Item} {x : Item} (hx : x ∈ l) (hc : x.c ≠ -2) : x ∈ tidy l := by
  obtain ⟨m, h1, h2, h3, h4⟩ := tidy_prefix l
  obtain ⟨j, hj⟩ := List.mem_iff_getElem?.1 hx
  rw [h2]
  by_cases hjm : j < m
  · exact List.mem_iff_getElem?.2 ⟨j, by rw [List.getElem?_take, if_pos hjm]; exact hj⟩
  · exact absurd (h3 j x (by omega) hj) hc

section
variable {M : Tr} (h : Good M) {i : Nat} {n : Node} (hi : M[i]? = some (some n))
include h hi

theorem rewind_pruned (m : Nat) : Pruned n (n.l.drop m) (tidy (n.l.take m)) := by
  have hok := h.node i n hi
  have hsub : (tidy (n.l.take m)).Sublist n.l := (tidy_sub _).trans (List.take_sublist _ _)
  have hpw : (n.l.take m ++ n.l.drop m).Pairwise (fun x y => 0 ≤ x.c → x.c ≠ y.c) := by rw [List.take_append_drop]; exact hok.uniq
  rw [List.pairwise_append] at hpw
  refine ⟨hok.seq.sub hsub, tidy_last _, fun x hx => hok.low x (hsub.subset hx), Nat.le_trans hsub.length_le hok.len, hok.uniq.sublist hsub, fun x hx h0 => ⟨hsub.subset hx, fun y hy hy0 e => ?_⟩, fun x hx h0 hne => ?_⟩
  · exact hpw.2.2 x ((tidy_sub _).subset hx) y hy h0 e.symm
  · rw [← List.take_append_drop m n.l] at hx
    rcases List.mem_append.1 hx with hx | hx
    · exact tidy_mem hx (by omega)
    · exact absurd rfl (hne x hx h0)

theorem stop_pruned (j : Nat) (x : Item) (hx : n.l[j]? = some x) (hc : 0 ≤ x.c) : Pruned n [x] (tidy (n.l.set j (asHole x))) := by
  have hok := h.node i n hi
  have hsub := tidy_sub (n.l.set j (asHole x))
  have hjl := (List.getElem?_eq_some_iff.1 hx).1
  have hmem : ∀ y ∈ n.l.set j (asHole x), 0 ≤ y.c → ∃ j', j' ≠ j ∧ n.l[j']? = some y := by
    intro y hy h0
    obtain ⟨j', hj'⟩ := List.mem_iff_getElem?.1 hy
    by_cases e : j = j'
    · subst e
      rw [List.getElem?_set_self hjl] at hj'
      injection hj' with hj'
      rw [← hj'] at h0
      exact absurd h0 (by show ¬ (0 : Int) ≤ -2; omega)
    · rw [List.getElem?_set_ne e] at hj'
      exact ⟨j', fun e' => e e'.symm, hj'⟩
  have hne : ∀ j' y, j' ≠ j → n.l[j']? = some y → y.c ≠ x.c := by
    intro j' y hj hy e
    obtain ⟨a1, a2⟩ := List.getElem?_eq_some_iff.1 hy
    obtain ⟨b1, b2⟩ := List.getElem?_eq_some_iff.1 hx
    rcases Nat.lt_or_gt_of_ne hj with hlt | hgt
    · have := List.pairwise_iff_getElem.1 hok.uniq j' j a1 b1 hlt
      rw [a2, b2] at this
      exact this (by omega) e
    · have := List.pairwise_iff_getElem.1 hok.uniq j j' b1 a1 hgt
      rw [a2, b2] at this
      exact this hc e.symm
  have huniq : (n.l.set j (asHole x)).Pairwise (fun x y => 0 ≤ x.c → x.c ≠ y.c) := by
    rw [List.pairwise_iff_getElem]
    intro a b ha hb hab h0
    rw [List.length_set] at ha hb
    rw [List.getElem_set] at h0 ⊢
    split at h0
    · exact absurd h0 (by show ¬ (0 : Int) ≤ -2; omega)
    · next e =>
      rw [if_neg e, List.getElem_set]
      split
      · show _ ≠ (-2 : Int)
        omega
      · exact List.pairwise_iff_getElem.1 hok.uniq a b ha hb hab h0
  refine ⟨?_, tidy_last _, fun y hy => ?_, ?_, huniq.sublist hsub, fun y hy h0 => ?_, fun y hy h0 hny => ?_⟩
  · exact (hok.seq.hole j x hx).sub hsub
  · obtain ⟨j', hj'⟩ := List.mem_iff_getElem?.1 (hsub.subset hy)
    by_cases e : j = j'
    · subst e
      rw [List.getElem?_set_self hjl] at hj'
      injection hj' with hj'
      rw [← hj']; exact Int.le_refl _
    · rw [List.getElem?_set_ne e] at hj'
      exact hok.low y (List.mem_of_getElem? hj')
  · have := hsub.length_le
    rw [List.length_set] at this
    have := hok.len
    omega
  · obtain ⟨j', h1, h2⟩ := hmem y (hsub.subset hy) h0
    refine ⟨List.mem_of_getElem? h2, fun z hz hz0 e => ?_⟩
    rw [List.mem_singleton] at hz
    subst hz
    exact hne j' y h1 h2 e.symm
  · obtain ⟨j', hj'⟩ := List.mem_iff_getElem?.1 hy
    have e : j ≠ j' := fun e => by
      subst e
      rw [hx] at hj'
      injection hj' with hj'
      subst hj'
      exact hny x (List.mem_singleton.2 rfl) h0 rfl
    refine tidy_mem (List.mem_iff_getElem?.2 ⟨j', by rw [List.getElem?_set_ne e]; exact hj'⟩) (by omega)
end

theorem rewind_good {M : Tr} (h : Good M) {F : Nat} (hF : Big M F) (i m : Int) : Good (rewindTo M F i m).1 := by
  obtain ⟨d, D, hr, hD⟩ := hF
  unfold rewindTo
  cases hf : find M i with
  | none => exact h
  | some n =>
    have h0 : M[i.toNat]? = some (some n) := by
      unfold find at hf
      split at hf
      · cases hf
      · cases e : M[i.toNat]? with
        | none => rw [e] at hf; cases hf
        | some o => rw [e] at hf; simp at hf; rw [hf]
    dsimp only
    split
    · exact h
    · exact prune_good h hr h0 (List.drop_sublist _ _) (by omega) (rewind_pruned h h0 _)

/-- The place of an arena among its parent's items. -/
def placeOf (q : Node) (i : Int) : Nat := q.l.findIdx (fun y => y.c == i)

def stopAt (M : Tr) (F : Nat) (i : Int) : Tr × Int := match find M i with
  | none => (M, 4)
  | some n => if i = 0 then (M, 2) else match M[n.p.toNat]? with
    | some (some q) => match q.l[placeOf q i]? with
      | some x => ((trim (shut F M [x])).set n.p.toNat (some { q with l := tidy (q.l.set (placeOf q i) (asHole x)) }), 0)
      | none => (M, 0)
    | _ => (M, 0)

/-- What End finds. -/
theorem stop_finds {M : Tr} (h : Good M) {i : Nat} {n : Node} (hi : M[i]? = some (some n)) (h0 : i ≠ 0) :
    0 ≤ n.p ∧ ∃ q x, M[n.p.toNat]? = some (some q) ∧ q.l[placeOf q i]? = some x ∧ x.c = (i : Int) ∧ fidx (fun y => y.c == (i : Int)) q.l = (placeOf q i : Nat) := by
  obtain ⟨hp, q, hq, x, hx, hxc⟩ := (h.node i n hi).par h0
  have hlt : placeOf q i < q.l.length := List.findIdx_lt_length_of_exists ⟨x, hx, by simp [hxc]⟩
  refine ⟨hp, q, q.l[placeOf q i], hq, List.getElem?_eq_getElem hlt, ?_, ?_⟩
  · have := List.findIdx_getElem (w := hlt)
    exact beq_iff_eq.1 this
  · unfold fidx
    exact if_pos hlt

theorem stop_good {M : Tr} (h : Good M) {F : Nat} (hF : Big M F) (i : Int) : Good (stopAt M F i).1 := by
  obtain ⟨d, D, hr, hD⟩ := hF
  unfold stopAt
  cases hf : find M i with
  | none => exact h
  | some n =>
    have h0 : 0 ≤ i ∧ M[i.toNat]? = some (some n) := by
      unfold find at hf
      split at hf
      · cases hf
      · refine ⟨by omega, ?_⟩
        cases e : M[i.toNat]? with
        | none => rw [e] at hf; cases hf
        | some o => rw [e] at hf; simp at hf; rw [hf]
    dsimp only
    split
    · exact h
    · next hi0 =>
      obtain ⟨hp, q, x, hq, hx, hxc, _⟩ := stop_finds h h0.2 (by omega)
      rw [show ((i.toNat : Nat) : Int) = i by omega] at hx hxc
      rw [hq]
      dsimp only
      rw [hx]
      dsimp only
      exact prune_good h hr hq (List.singleton_sublist.2 (List.mem_of_getElem? hx)) (by omega) (stop_pruned h hq _ x hx (by omega))

/-- What lives in an arena stays within its size. -/
theorem live_ok {M : Tr} (h : Good M) {d : Nat → Nat} {D : Nat} (hr : Ranked M d D) (F : Nat) : ∀ (i : Nat) (n : Node), M[i]? = some (some n) → D - d i < F → LiveOk M F n.l ∧ 0 ≤ live M F n.l ∧ live M F n.l ≤ n.s := by
  induction F with
  | zero => intro i n _ hF; omega
  | succ F ih =>
    intro i n hi hF
    have hok := h.node i n hi
    have hD := hr.top i
    have hkid : ∀ x ∈ n.l, 0 ≤ x.c → ∃ k, M[x.c.toNat]? = some (some k) ∧ k.l.length ≤ 200 ∧ LiveOk M F k.l ∧ 0 ≤ live M F k.l ∧ live M F k.l ≤ x.s := by
      intro x hx h0
      obtain ⟨k, hk, _, _, hs⟩ := h.kid hi hx h0
      have hd := hr.kid i n hi x hx h0
      have hDk := hr.top x.c.toNat
      obtain ⟨r1, r2, r3⟩ := ih _ k hk (by omega)
      exact ⟨k, hk, (h.node _ k hk).len, r1, r2, by omega⟩
    have hof : ∀ x ∈ n.l, 0 ≤ liveOf M F x ∧ liveOf M F x ≤ x.s := by
      intro x hx
      have := hok.seq.mem x hx
      unfold liveOf
      split
      · next h0 =>
        obtain ⟨k, hk, _, _, r2, r3⟩ := hkid x hx h0
        rw [itemsOf, hk]
        exact ⟨r2, r3⟩
      · split <;> omega
    have hsum : ∀ (l : List Item) (lo : Int), Seq lo (n.a + n.s) l → (∀ x ∈ l, 0 ≤ liveOf M F x ∧ liveOf M F x ≤ x.s) → 0 ≤ live M (F + 1) l ∧ (live M (F + 1) l ≤ n.a + n.s - lo ∨ l = []) := by
      intro l
      induction l with
      | nil => intro lo _ _; exact ⟨Int.le_refl _, .inr rfl⟩
      | cons x l ih2 =>
        intro lo hs hx
        obtain ⟨a, b, c, e⟩ := hs
        obtain ⟨r1, r2⟩ := ih2 _ e (fun y hy => hx y (List.mem_cons_of_mem _ hy))
        have hx0 := hx x List.mem_cons_self
        have he : live M (F + 1) (x :: l) = liveOf M F x + live M (F + 1) l := by simp [live, liveOf]
        rw [he]
        refine ⟨by omega, .inl ?_⟩
        rcases r2 with r2 | rfl
        · omega
        · have : live M (F + 1) [] = 0 := rfl
          omega
    have hs1 := hok.s1
    have htop := hok.top
    have ha0 := hok.a0
    have hpre : ∀ j, 0 ≤ live M (F + 1) (n.l.take j) ∧ live M (F + 1) (n.l.take j) ≤ n.s := by
      intro j
      obtain ⟨r1, r2⟩ := hsum (n.l.take j) n.a (hok.seq.sub (List.take_sublist _ _)) (fun x hx => hof x (List.take_subset _ _ hx))
      refine ⟨r1, ?_⟩
      rcases r2 with r2 | r2
      · omega
      · rw [r2]; show (0 : Int) ≤ _; omega
    refine ⟨⟨fun x hx h0 => ?_, fun j => ⟨(hpre j).1, by have := (hpre j).2; omega⟩, fun x hx => ?_⟩, ?_⟩
    · obtain ⟨k, hk, hl, r1, _⟩ := hkid x hx h0
      exact ⟨k, hk, hl, r1⟩
    · have := hok.seq.mem x hx
      omega
    · have := hpre n.l.length
      rw [List.take_length] at this
      exact this

theorem find_some {M : Tr} {i : Int} {n : Node} (hf : find M i = some n) : 0 ≤ i ∧ M[i.toNat]? = some (some n) := by
  unfold find at hf
  split at hf
  · cases hf
  · refine ⟨by omega, ?_⟩
    cases e : M[i.toNat]? with
    | none => rw [e] at hf; cases hf
    | some o => rw [e] at hf; simp at hf; rw [hf]

/-- What give gives lies inside of the arena, behind all that it has given. -/
theorem give_gives {M : Tr} (h : Good M) {i sz al : Int} (hg : (give M i sz al).2 = 0) :
    ∃ n, find M i = some n ∧ 0 ≤ i ∧ M[i.toNat]? = some (some n) ∧ n.fin ≤ (give M i sz al).1 ∧ 1 ≤ sz ∧ (give M i sz al).1 + sz ≤ n.a + n.s ∧ n.l.length < 200 ∧ badArg sz al = false ∧ (give M i sz al).1 = up n.fin al := by
  unfold give at hg ⊢
  cases hf : find M i with
  | none => rw [hf] at hg; simp at hg
  | some n =>
    rw [hf] at hg
    dsimp only at hg ⊢
    obtain ⟨h0, h1⟩ := find_some hf
    have hlen := (h.node _ _ h1).len
    by_cases hb : badArg sz al = true
    · rw [if_pos hb] at hg; simp at hg
    · have hb' : badArg sz al = false := by simpa using hb
      obtain ⟨g1, g2, g3, g4, g5⟩ := badArg_no hb'
      rw [if_neg hb] at hg ⊢
      by_cases hc : n.a + n.s < up n.fin al + sz ∨ n.l.length = 200
      · rw [if_pos hc] at hg; simp at hg
      · rw [if_neg hc]
        exact ⟨n, rfl, h0, h1, up_ge _ _ g3, g1, by show up n.fin al + sz ≤ _; omega, by omega, hb', rfl⟩

theorem alloc_keeps {M : Tr} (h : Good M) (i sz al : Int) : Good (alloc M i sz al).1 := by
  unfold alloc
  split
  · next hg =>
    obtain ⟨n, _, h0, h1, h2, h3, h4, h5, _⟩ := give_gives h hg
    dsimp only
    rw [show addItem M i.toNat ⟨(give M i sz al).1, sz, -1⟩ = M.set i.toNat (some { n with l := n.l ++ [⟨(give M i sz al).1, sz, -1⟩] }) by simp [addItem, h1]]
    exact alloc_good h h1 rfl h2 h3 h4 h5
  · exact h

theorem begin_keeps {M : Tr} (h : Good M) (i sz al : Int) : Good (begin_ M i sz al).1 := by
  unfold begin_
  split
  · next hg =>
    obtain ⟨n, _, h0, h1, h2, h3, h4, h5, _⟩ := give_gives h hg
    split
    · exact h
    · next hk =>
      have := begin_good h h1 h2 h3 h4 h5 hk
      rw [show ((i.toNat : Nat) : Int) = i by omega] at this
      exact this
  · exact h
end Ne
end Go.Proofs.Ytllmddhahpegmaa
namespace Go.Proofs.Ytllmddhahpegmaa
open Go.RowKit
namespace Ne


theorem findIdx_no {p : Item → Bool} {l : List Item} {j : Nat} {x : Item} (h : l[j]? = some x) (hj : j < l.findIdx p) : p x = false := by
  have := List.not_of_lt_findIdx hj
  obtain ⟨hl, rfl⟩ := List.getElem?_eq_some_iff.1 h
  simpa using this
theorem findIdx_yes {p : Item → Bool} {l : List Item} {x : Item} (h : l[l.findIdx p]? = some x) : p x = true := by
  obtain ⟨hl, rfl⟩ := List.getElem?_eq_some_iff.1 h
  exact List.findIdx_getElem (w := hl)

set_option maxHeartbeats 1000000 in
theorem indexFunc_35 (q : Value) (p : Item → Bool) (l : List Item) (A : Option Addr) (c : Nat) (w : World) (hlen : l.length ≤ 200) (hrow : w.ownsRow 0 54 3 (.slice A l.length c) l.length (icells l))
    (hp : ∀ x ∈ l, ∀ w2, Below w.heap.size w w2 → Calls Try.prog 35 #[.agg #[.int .i64 x.a, .int .i64 x.s, .int .i64 x.c], q] w2 fun e w' => e = .returned (.bool (p x)) ∧ Below w2.heap.size w2 w') :
    Calls Try.prog 34 #[.slice A l.length c, .func (.func 35) #[] #[q]] w fun e w' => e = .returned (.int .i64 (fidx p l)) ∧ Below w.heap.size w w' := by
  obtain ⟨hlc, hcm, hcell⟩ := rowCells hrow
  have HP := Lib.hid hp
  have HC := Lib.hid hcell
  have hle : l.findIdx p ≤ l.length := List.findIdx_le_length
  have HNo := Lib.hid (fun j x (h : l[j]? = some x) hj => findIdx_no (p := p) h hj)
  have HYes := Lib.hid (fun x (h : l[l.findIdx p]? = some x) => findIdx_yes h)
  obtain ⟨r, hr⟩ : ∃ r, r = fidx p l := ⟨_, rfl⟩
  rw [← hr]
  unfold fidx at hr
  have HR := Lib.hid hr
  clear hr hcell hp hrow
  unfold maxLen at hcm
  generalize l.findIdx p = k at *
  generalize hL : l.length = L at *
  have HL := Lib.hid hL
  clear hL
  go_enter Try.func34, Try.ntmps34
  go_wp2_with fail
  go_loopw [5, 8] (fun a i wr => ∃ j : Nat, j ≤ k ∧ i = .int .i64 j ∧ Below w.heap.size w wr) (fun _ i _ => L - (intOf i).toNat)
  case atStart => exact ⟨0, Nat.zero_le _, rfl, Below.refl _ _⟩
  case round =>
    obtain ⟨j, hj, rfl, hb⟩ := hrel
    by_cases hjl : j < L
    · obtain ⟨x, hx⟩ : ∃ x, l[j]? = some x := ⟨_, List.getElem?_eq_getElem (by rw [HL.out]; exact hjl)⟩
      have hxm := List.mem_of_getElem? hx
      obtain ⟨g', rfl, hg', k1, k2, k3⟩ := HC.out j x hx
      have k1 := (hb.cell (p := ⟨g', j * 3, none⟩) hg').trans k1
      have k2 := (hb.cell (p := ⟨g', j * 3 + 1, none⟩) hg').trans k2
      have k3 := (hb.cell (p := ⟨g', j * 3 + 2, none⟩) hg').trans k3
      have HCall := Lib.hid (HP.out x hxm wr hb)
      by_cases hjk : j < k
      · have hpx := HNo.out j x hx hjk
        rw [hpx] at HCall
        clear hpx hx
        go_wp2_with (go_at_call 35; refine HCall.out.mono ?_; rintro e w' ⟨rfl, hb1⟩)
        go_roundw
        case rel => exact ⟨j + 1, by omega, by go_num, hb.trans (hb1.mono hb.size)⟩
        case measure => simp [intOf]; omega
      · obtain rfl : j = k := by omega
        have hpx := HYes.out x hx
        rw [hpx] at HCall
        clear hpx hx
        go_wp2_with (go_at_call 35; refine HCall.out.mono ?_; rintro e w' ⟨rfl, hb1⟩)
        go_ret
        exact ⟨by rw [HR.out, if_pos hjl]; rfl, hb.trans (hb1.mono hb.size)⟩
    · obtain rfl : j = L := by omega
      go_wp2
      go_ret
      exact ⟨by rw [HR.out, if_neg (by omega)]; rfl, hb⟩

set_option maxHeartbeats 1000000 in
theorem indexFunc_39 (q : Value) (p : Item → Bool) (l : List Item) (A : Option Addr) (c : Nat) (w : World) (hlen : l.length ≤ 200) (hrow : w.ownsRow 0 54 3 (.slice A l.length c) l.length (icells l))
    (hp : ∀ x ∈ l, ∀ w2, Below w.heap.size w w2 → Calls Try.prog 39 #[.agg #[.int .i64 x.a, .int .i64 x.s, .int .i64 x.c], q] w2 fun e w' => e = .returned (.bool (p x)) ∧ Below w2.heap.size w2 w') :
    Calls Try.prog 34 #[.slice A l.length c, .func (.func 39) #[] #[q]] w fun e w' => e = .returned (.int .i64 (fidx p l)) ∧ Below w.heap.size w w' := by
  obtain ⟨hlc, hcm, hcell⟩ := rowCells hrow
  have HP := Lib.hid hp
  have HC := Lib.hid hcell
  have hle : l.findIdx p ≤ l.length := List.findIdx_le_length
  have HNo := Lib.hid (fun j x (h : l[j]? = some x) hj => findIdx_no (p := p) h hj)
  have HYes := Lib.hid (fun x (h : l[l.findIdx p]? = some x) => findIdx_yes h)
  obtain ⟨r, hr⟩ : ∃ r, r = fidx p l := ⟨_, rfl⟩
  rw [← hr]
  unfold fidx at hr
  have HR := Lib.hid hr
  clear hr hcell hp hrow
  unfold maxLen at hcm
  generalize l.findIdx p = k at *
  generalize hL : l.length = L at *
  have HL := Lib.hid hL
  clear hL
  go_enter Try.func34, Try.ntmps34
  go_wp2_with fail
  go_loopw [5, 8] (fun a i wr => ∃ j : Nat, j ≤ k ∧ i = .int .i64 j ∧ Below w.heap.size w wr) (fun _ i _ => L - (intOf i).toNat)
  case atStart => exact ⟨0, Nat.zero_le _, rfl, Below.refl _ _⟩
  case round =>
    obtain ⟨j, hj, rfl, hb⟩ := hrel
    by_cases hjl : j < L
    · obtain ⟨x, hx⟩ : ∃ x, l[j]? = some x := ⟨_, List.getElem?_eq_getElem (by rw [HL.out]; exact hjl)⟩
      have hxm := List.mem_of_getElem? hx
      obtain ⟨g', rfl, hg', k1, k2, k3⟩ := HC.out j x hx
      have k1 := (hb.cell (p := ⟨g', j * 3, none⟩) hg').trans k1
      have k2 := (hb.cell (p := ⟨g', j * 3 + 1, none⟩) hg').trans k2
      have k3 := (hb.cell (p := ⟨g', j * 3 + 2, none⟩) hg').trans k3
      have HCall := Lib.hid (HP.out x hxm wr hb)
      by_cases hjk : j < k
      · have hpx := HNo.out j x hx hjk
        rw [hpx] at HCall
        clear hpx hx
        go_wp2_with (go_at_call 39; refine HCall.out.mono ?_; rintro e w' ⟨rfl, hb1⟩)
        go_roundw
        case rel => exact ⟨j + 1, by omega, by go_num, hb.trans (hb1.mono hb.size)⟩
        case measure => simp [intOf]; omega
      · obtain rfl : j = k := by omega
        have hpx := HYes.out x hx
        rw [hpx] at HCall
        clear hpx hx
        go_wp2_with (go_at_call 39; refine HCall.out.mono ?_; rintro e w' ⟨rfl, hb1⟩)
        go_ret
        exact ⟨by rw [HR.out, if_pos hjl]; rfl, hb.trans (hb1.mono hb.size)⟩
    · obtain rfl : j = L := by omega
      go_wp2
      go_ret
      exact ⟨by rw [HR.out, if_neg (by omega)]; rfl, hb⟩

set_option maxHeartbeats 400000 in
theorem isChild_ok (w : World) (q : Nat) (x : Item) (y : Int) (hq : w.cell? ⟨q, 0, none⟩ = some (.int .i64 y)) :
    Calls Try.prog 39 #[.agg #[.int .i64 x.a, .int .i64 x.s, .int .i64 x.c], .pointer (some ⟨q, 0, none⟩)] w fun e w' => e = .returned (.bool (x.c == y)) ∧ Below w.heap.size w w' := by
  have hlt : q < w.heap.size := World.block_lt_of_cell? w _ hq
  go_enter Try.func39, Try.ntmps39
  go_wp2
  go_ret
  exact ⟨rfl, (Below.refl _ _).alloc (Nat.le_refl _) _⟩

def hasByte (y : Int) (x : Item) : Bool := decide (x.a ≤ y) && decide (y < x.a + x.s)

set_option maxHeartbeats 400000 in
theorem hasByte_ok (w : World) (q : Nat) (x : Item) (y : Int) (hq : w.cell? ⟨q, 0, none⟩ = some (.int .i64 y)) (h1 : 0 ≤ x.a) (h2 : 0 ≤ x.s) (h3 : x.a + x.s ≤ 65536) :
    Calls Try.prog 35 #[.agg #[.int .i64 x.a, .int .i64 x.s, .int .i64 x.c], .pointer (some ⟨q, 0, none⟩)] w fun e w' => e = .returned (.bool (hasByte y x)) ∧ Below w.heap.size w w' := by
  have hlt : q < w.heap.size := World.block_lt_of_cell? w _ hq
  generalize hr : hasByte y x = r
  unfold hasByte at hr
  have HR := Lib.hid hr
  clear hr
  by_cases c1 : x.a ≤ y
  · by_cases c2 : y < x.a + x.s
    all_goals
      go_enter Try.func35, Try.ntmps35
      go_wp2
      go_ret
      exact ⟨by rw [← HR.out]; simp [c1, c2], (Below.refl _ _).alloc (Nat.le_refl _) _⟩
  · go_enter Try.func35, Try.ntmps35
    go_wp2
    go_ret
    exact ⟨by rw [← HR.out, decide_eq_false (show ¬ x.a ≤ y by omega)]; rfl, (Below.refl _ _).alloc (Nat.le_refl _) _⟩

/-- The innermost arena that has a byte, and its item. -/
def Owns (M : Tr) (y : Int) (k : Nat) (i : Int) : Prop :=
  ∃ n, M[k]? = some (some n) ∧ n.a ≤ y ∧ y < n.a + n.s ∧ i = fidx (hasByte y) n.l ∧ ∀ x, 0 ≤ i → n.l[i.toNat]? = some x → x.c < 0

theorem fidx_at {p : Item → Bool} {l : List Item} (h : 0 ≤ fidx p l) : ∃ (j : Nat) (x : Item), fidx p l = (j : Int) ∧ j < l.length ∧ l[j]? = some x ∧ p x = true := by
  unfold fidx at h ⊢
  split at h
  · next hl =>
    rw [if_pos hl]
    exact ⟨_, l[l.findIdx p], rfl, hl, List.getElem?_eq_getElem hl, List.findIdx_getElem (w := hl)⟩
  · omega

theorem fidx_lt {p : Item → Bool} {l : List Item} (h : ¬ 0 ≤ fidx p l) : fidx p l = -1 := by
  unfold fidx at h ⊢
  split at h
  · omega
  · next hl => rw [if_neg hl]

set_option maxHeartbeats 400000 in
theorem owner_out (w : World) (own : Nat → Option Nat) (t g cap : Nat) (cs : Array Value) (M : Tr) (y : Int) (r : Node) (h : TreeAt w own t g cap cs M) (hg : Good M) (hr : M[0]? = some (some r)) (hy : y < 0 ∨ r.s ≤ y) :
    Calls Try.prog 14 #[.pointer (some ⟨t, 0, none⟩), .int .i64 y] w fun e w' => e = .returned (.tuple #[.int .i64 0, .int .i64 0, .int .i64 7]) ∧ Below w.heap.size w w' := by
  have hp := hg.pos
  have hm := hg.len
  have hlen := h.len
  have hmost := h.most
  unfold maxLen at hmost
  have hT : w.cell? ⟨t, 0, none⟩ = some (.slice (some ⟨g, 0, none⟩) M.length cap) := by simp [World.cell?, h.top]
  have htl := lt_of_heap h.top
  have hgl := lt_of_heap h.row
  obtain ⟨v, hv, b, iv, rfl, hob, hbh, hil⟩ := h.node _ _ hr
  have hN : w.cell? ⟨g, 0, none⟩ = some (.pointer (some ⟨b, 0, none⟩)) := by rw [cell_of_row w g _ cs _ _ h.row, hv]
  obtain ⟨c0, c1, c2, c3, c4, _⟩ := nodeOpen hbh
  have hbl := lt_of_heap hbh
  have HM := fun w2 (hw : w2.cell? ⟨t, 0, none⟩ = some (.slice (some ⟨g, 0, none⟩) M.length cap)) => made_ok w2 t _ _ _ hp hw
  have HMM := Lib.hid HM
  clear h hg hr hbh hil hv hob HM
  generalize M.length = L at *
  by_cases hy0 : y < 0
  · go_enter Try.func14, Try.ntmps14
    go_wp2_with (go_at_call 29; refine (HMM.out _ (by rw [World.cell?_alloc_lt _ _ _ htl]; exact hT)).mono ?_; rintro e w' ⟨rfl, rfl⟩)
    go_quiet (fail)
    go_wp2
    go_ret3
    exact ⟨rfl, below_drewN ((Below.refl _ _).alloc (Nat.le_refl _) _) _⟩
  · have hy1 : r.s ≤ y := by omega
    have hd : decide (y < 0) = false := by simpa using hy0
    go_enter Try.func14, Try.ntmps14
    go_wp2_with (go_at_call 29; refine (HMM.out _ (by rw [World.cell?_alloc_lt _ _ _ htl]; exact hT)).mono ?_; rintro e w' ⟨rfl, rfl⟩)
    go_quiet (fail)
    go_wp2
    go_ret3
    exact ⟨rfl, below_drewN ((Below.refl _ _).alloc (Nat.le_refl _) _) _⟩
end Ne
end Go.Proofs.Ytllmddhahpegmaa
