/- The plain laws on trees: Rewind, End and Live as functions. -/
import Derived.Test.YtllmddhahpegmaaPlain5
namespace Go.Proofs.Ytllmddhahpegmaa
namespace Ne

def asHole (x : Item) : Item := { x with c := -2 }
def fidx (p : Item → Bool) (l : List Item) : Int := if l.findIdx p < l.length then (l.findIdx p : Int) else -1

/-- A depth that no tree of these ranks has. -/
def Big (M : Tr) (F : Nat) : Prop := ∃ d D, Ranked M d D ∧ D < F
theorem Good.big {M : Tr} (h : Good M) : ∃ F, Big M F := by
  obtain ⟨d, D, hr⟩ := h.ranked
  exact ⟨D + 1, d, D, hr, by omega⟩

def rewindTo (M : Tr) (F : Nat) (i m : Int) : Tr × Int := match find M i with
  | none => (M, 4)
  | some n => if m < 0 ∨ n.l.length < m then (M, 7) else ((trim (shut F M (n.l.drop m.toNat))).set i.toNat (some { n with l := tidy (n.l.take m.toNat) }), 0)

theorem tidy_prefix (l : List Item) : ∃ m, m ≤ l.length ∧ tidy l = l.take m ∧ (∀ j x, m ≤ j → l[j]? = some x → x.c = -2) ∧ (m = 0 ∨ ∃ x, l[m - 1]? = some x ∧ x.c ≠ -2) := by
  have key : ∀ k, k ≤ l.length → (∀ (j : Nat) (x : Item), k ≤ j → l[j]? = some x → x.c = -2) → ∃ m, m ≤ l.length ∧ (∀ (j : Nat) (x : Item), m ≤ j → l[j]? = some x → x.c = -2) ∧ (m = 0 ∨ ∃ x, l[m - 1]? = some x ∧ x.c ≠ -2) := by
    intro k
    induction k with
    | zero => intro h1 h2; exact ⟨0, h1, h2, .inl rfl⟩
    | succ k ih =>
      intro h1 h2
      obtain ⟨x, hx⟩ : ∃ x, l[k]? = some x := ⟨_, List.getElem?_eq_getElem (by omega)⟩
      by_cases hc : x.c = -2
      · exact ih (by omega) fun j y h3 h4 => by
          by_cases e : j = k
          · subst e
            rw [hx] at h4
            injection h4 with h4
            rw [← h4]; exact hc
          · exact h2 j y (by omega) h4
      · exact ⟨k + 1, h1, h2, .inr ⟨x, by rw [show k + 1 - 1 = k by omega]; exact hx, hc⟩⟩
  obtain ⟨m, h1, h2, h3⟩ := key l.length (Nat.le_refl _) (fun j x h1 h2 => by have := (List.getElem?_eq_some_iff.1 h2).1; omega)
  exact ⟨m, h1, tidy_take l m h1 h2 h3, h2, h3⟩

theorem tidy_sub (l : List Item) : (tidy l).Sublist l := by
  obtain ⟨m, _, h, _⟩ := tidy_prefix l
  rw [h]; exact List.take_sublist _ _

theorem tidy_last (l : List Item) : ∀ x, (tidy l).getLast? = some x → x.c ≠ -2 := by
  obtain ⟨m, h1, h2, h3, h4⟩ := tidy_prefix l
  intro x hx
  rw [h2, List.getLast?_eq_getElem?, List.length_take, Nat.min_eq_left h1, List.getElem?_take] at hx
  rcases h4 with rfl | ⟨y, hy, hc⟩
  · simp at hx
  · split at hx
    · rw [hy] at hx
      injection hx with hx
      rw [← hx]; exact hc
    · cases hx

theorem tidy_mem {l : List Item} {x : Item} (hx : x ∈ l) (hc : x.c ≠ -2) : x ∈ tidy l := by
  obtain ⟨m, h1, h2, h3, h4⟩ := tidy_prefix l
  obtain ⟨j, hj⟩ := List.mem_iff_getElem?.1 hx
  rw [h2]
  by_cases hjm : j < m
  · exact List.mem_iff_getElem?.2 ⟨j, by rw [List.getElem?_take, if_pos hjm]; exact hj⟩
  · exact absurd (h3 j x (by omega) hj) hc

section
variable {M : Tr} (h : Good M) {i : Nat} {n : Node} (hi : M[i]? = some (some n))
include h hi

theorem rewind_pruned (m : Nat) : Pruned n (n.l.drop m) (tidy (n.l.take m)) := by
  have hok := h.node i n hi
  have hsub : (tidy (n.l.take m)).Sublist n.l := (tidy_sub _).trans (List.take_sublist _ _)
  have hpw : (n.l.take m ++ n.l.drop m).Pairwise (fun x y => 0 ≤ x.c → x.c ≠ y.c) := by rw [List.take_append_drop]; exact hok.uniq
  rw [List.pairwise_append] at hpw
  refine ⟨hok.seq.sub hsub, tidy_last _, fun x hx => hok.low x (hsub.subset hx), Nat.le_trans hsub.length_le hok.len, hok.uniq.sublist hsub, fun x hx h0 => ⟨hsub.subset hx, fun y hy hy0 e => ?_⟩, fun x hx h0 hne => ?_⟩
  · exact hpw.2.2 x ((tidy_sub _).subset hx) y hy h0 e.symm
  · rw [← List.take_append_drop m n.l] at hx
    rcases List.mem_append.1 hx with hx | hx
    · exact tidy_mem hx (by omega)
    · exact absurd rfl (hne x hx h0)

theorem stop_pruned (j : Nat) (x : Item) (hx : n.l[j]? = some x) (hc : 0 ≤ x.c) : Pruned n [x] (tidy (n.l.set j (asHole x))) := by
  have hok := h.node i n hi
  have hsub := tidy_sub (n.l.set j (asHole x))
  have hjl := (List.getElem?_eq_some_iff.1 hx).1
  have hmem : ∀ y ∈ n.l.set j (asHole x), 0 ≤ y.c → ∃ j', j' ≠ j ∧ n.l[j']? = some y := by
    intro y hy h0
    obtain ⟨j', hj'⟩ := List.mem_iff_getElem?.1 hy
    by_cases e : j = j'
    · subst e
      rw [List.getElem?_set_self hjl] at hj'
      injection hj' with hj'
      rw [← hj'] at h0
      exact absurd h0 (by show ¬ (0 : Int) ≤ -2; omega)
    · rw [List.getElem?_set_ne e] at hj'
      exact ⟨j', fun e' => e e'.symm, hj'⟩
  have hne : ∀ j' y, j' ≠ j → n.l[j']? = some y → y.c ≠ x.c := by
    intro j' y hj hy e
    obtain ⟨a1, a2⟩ := List.getElem?_eq_some_iff.1 hy
    obtain ⟨b1, b2⟩ := List.getElem?_eq_some_iff.1 hx
    rcases Nat.lt_or_gt_of_ne hj with hlt | hgt
    · have := List.pairwise_iff_getElem.1 hok.uniq j' j a1 b1 hlt
      rw [a2, b2] at this
      exact this (by omega) e
    · have := List.pairwise_iff_getElem.1 hok.uniq j j' b1 a1 hgt
      rw [a2, b2] at this
      exact this hc e.symm
  have huniq : (n.l.set j (asHole x)).Pairwise (fun x y => 0 ≤ x.c → x.c ≠ y.c) := by
    rw [List.pairwise_iff_getElem]
    intro a b ha hb hab h0
    rw [List.length_set] at ha hb
    rw [List.getElem_set] at h0 ⊢
    split at h0
    · exact absurd h0 (by show ¬ (0 : Int) ≤ -2; omega)
    · next e =>
      rw [if_neg e, List.getElem_set]
      split
      · show _ ≠ (-2 : Int)
        omega
      · exact List.pairwise_iff_getElem.1 hok.uniq a b ha hb hab h0
  refine ⟨?_, tidy_last _, fun y hy => ?_, ?_, huniq.sublist hsub, fun y hy h0 => ?_, fun y hy h0 hny => ?_⟩
  · exact (hok.seq.hole j x hx).sub hsub
  · obtain ⟨j', hj'⟩ := List.mem_iff_getElem?.1 (hsub.subset hy)
    by_cases e : j = j'
    · subst e
      rw [List.getElem?_set_self hjl] at hj'
      injection hj' with hj'
      rw [← hj']; exact Int.le_refl _
    · rw [List.getElem?_set_ne e] at hj'
      exact hok.low y (List.mem_of_getElem? hj')
  · have := hsub.length_le
    rw [List.length_set] at this
    have := hok.len
    omega
  · obtain ⟨j', h1, h2⟩ := hmem y (hsub.subset hy) h0
    refine ⟨List.mem_of_getElem? h2, fun z hz hz0 e => ?_⟩
    rw [List.mem_singleton] at hz
    subst hz
    exact hne j' y h1 h2 e.symm
  · obtain ⟨j', hj'⟩ := List.mem_iff_getElem?.1 hy
    have e : j ≠ j' := fun e => by
      subst e
      rw [hx] at hj'
      injection hj' with hj'
      subst hj'
      exact hny x (List.mem_singleton.2 rfl) h0 rfl
    refine tidy_mem (List.mem_iff_getElem?.2 ⟨j', by rw [List.getElem?_set_ne e]; exact hj'⟩) (by omega)
end

theorem rewind_good {M : Tr} (h : Good M) {F : Nat} (hF : Big M F) (i m : Int) : Good (rewindTo M F i m).1 := by
  obtain ⟨d, D, hr, hD⟩ := hF
  unfold rewindTo
  cases hf : find M i with
  | none => exact h
  | some n =>
    have h0 : M[i.toNat]? = some (some n) := by
      unfold find at hf
      split at hf
      · cases hf
      · cases e : M[i.toNat]? with
        | none => rw [e] at hf; cases hf
        | some o => rw [e] at hf; simp at hf; rw [hf]
    dsimp only
    split
    · exact h
    · exact prune_good h hr h0 (List.drop_sublist _ _) (by omega) (rewind_pruned h h0 _)

/-- The place of an arena among its parent's items. -/
def placeOf (q : Node) (i : Int) : Nat := q.l.findIdx (fun y => y.c == i)

def stopAt (M : Tr) (F : Nat) (i : Int) : Tr × Int := match find M i with
  | none => (M, 4)
  | some n => if i = 0 then (M, 2) else match M[n.p.toNat]? with
    | some (some q) => match q.l[placeOf q i]? with
      | some x => ((trim (shut F M [x])).set n.p.toNat (some { q with l := tidy (q.l.set (placeOf q i) (asHole x)) }), 0)
      | none => (M, 0)
    | _ => (M, 0)

/-- What End finds. -/
theorem stop_finds {M : Tr} (h : Good M) {i : Nat} {n : Node} (hi : M[i]? = some (some n)) (h0 : i ≠ 0) :
    0 ≤ n.p ∧ ∃ q x, M[n.p.toNat]? = some (some q) ∧ q.l[placeOf q i]? = some x ∧ x.c = (i : Int) ∧ fidx (fun y => y.c == (i : Int)) q.l = (placeOf q i : Nat) := by
  obtain ⟨hp, q, hq, x, hx, hxc⟩ := (h.node i n hi).par h0
  have hlt : placeOf q i < q.l.length := List.findIdx_lt_length_of_exists ⟨x, hx, by simp [hxc]⟩
  refine ⟨hp, q, q.l[placeOf q i], hq, List.getElem?_eq_getElem hlt, ?_, ?_⟩
  · have := List.findIdx_getElem (w := hlt)
    exact beq_iff_eq.1 this
  · unfold fidx
    exact if_pos hlt

theorem stop_good {M : Tr} (h : Good M) {F : Nat} (hF : Big M F) (i : Int) : Good (stopAt M F i).1 := by
  obtain ⟨d, D, hr, hD⟩ := hF
  unfold stopAt
  cases hf : find M i with
  | none => exact h
  | some n =>
    have h0 : 0 ≤ i ∧ M[i.toNat]? = some (some n) := by
      unfold find at hf
      split at hf
      · cases hf
      · refine ⟨by omega, ?_⟩
        cases e : M[i.toNat]? with
        | none => rw [e] at hf; cases hf
        | some o => rw [e] at hf; simp at hf; rw [hf]
    dsimp only
    split
    · exact h
    · next hi0 =>
      obtain ⟨hp, q, x, hq, hx, hxc, _⟩ := stop_finds h h0.2 (by omega)
      rw [show ((i.toNat : Nat) : Int) = i by omega] at hx hxc
      rw [hq]
      dsimp only
      rw [hx]
      dsimp only
      exact prune_good h hr hq (List.singleton_sublist.2 (List.mem_of_getElem? hx)) (by omega) (stop_pruned h hq _ x hx (by omega))

/-- What lives in an arena stays within its size. -/
theorem live_ok {M : Tr} (h : Good M) {d : Nat → Nat} {D : Nat} (hr : Ranked M d D) (F : Nat) : ∀ (i : Nat) (n : Node), M[i]? = some (some n) → D - d i < F → LiveOk M F n.l ∧ 0 ≤ live M F n.l ∧ live M F n.l ≤ n.s := by
  induction F with
  | zero => intro i n _ hF; omega
  | succ F ih =>
    intro i n hi hF
    have hok := h.node i n hi
    have hD := hr.top i
    have hkid : ∀ x ∈ n.l, 0 ≤ x.c → ∃ k, M[x.c.toNat]? = some (some k) ∧ k.l.length ≤ 200 ∧ LiveOk M F k.l ∧ 0 ≤ live M F k.l ∧ live M F k.l ≤ x.s := by
      intro x hx h0
      obtain ⟨k, hk, _, _, hs⟩ := h.kid hi hx h0
      have hd := hr.kid i n hi x hx h0
      have hDk := hr.top x.c.toNat
      obtain ⟨r1, r2, r3⟩ := ih _ k hk (by omega)
      exact ⟨k, hk, (h.node _ k hk).len, r1, r2, by omega⟩
    have hof : ∀ x ∈ n.l, 0 ≤ liveOf M F x ∧ liveOf M F x ≤ x.s := by
      intro x hx
      have := hok.seq.mem x hx
      unfold liveOf
      split
      · next h0 =>
        obtain ⟨k, hk, _, _, r2, r3⟩ := hkid x hx h0
        rw [itemsOf, hk]
        exact ⟨r2, r3⟩
      · split <;> omega
    have hsum : ∀ (l : List Item) (lo : Int), Seq lo (n.a + n.s) l → (∀ x ∈ l, 0 ≤ liveOf M F x ∧ liveOf M F x ≤ x.s) → 0 ≤ live M (F + 1) l ∧ (live M (F + 1) l ≤ n.a + n.s - lo ∨ l = []) := by
      intro l
      induction l with
      | nil => intro lo _ _; exact ⟨Int.le_refl _, .inr rfl⟩
      | cons x l ih2 =>
        intro lo hs hx
        obtain ⟨a, b, c, e⟩ := hs
        obtain ⟨r1, r2⟩ := ih2 _ e (fun y hy => hx y (List.mem_cons_of_mem _ hy))
        have hx0 := hx x List.mem_cons_self
        have he : live M (F + 1) (x :: l) = liveOf M F x + live M (F + 1) l := by simp [live, liveOf]
        rw [he]
        refine ⟨by omega, .inl ?_⟩
        rcases r2 with r2 | rfl
        · omega
        · have : live M (F + 1) [] = 0 := rfl
          omega
    have hs1 := hok.s1
    have htop := hok.top
    have ha0 := hok.a0
    have hpre : ∀ j, 0 ≤ live M (F + 1) (n.l.take j) ∧ live M (F + 1) (n.l.take j) ≤ n.s := by
      intro j
      obtain ⟨r1, r2⟩ := hsum (n.l.take j) n.a (hok.seq.sub (List.take_sublist _ _)) (fun x hx => hof x (List.take_subset _ _ hx))
      refine ⟨r1, ?_⟩
      rcases r2 with r2 | r2
      · omega
      · rw [r2]; show (0 : Int) ≤ _; omega
    refine ⟨⟨fun x hx h0 => ?_, fun j => ⟨(hpre j).1, by have := (hpre j).2; omega⟩, fun x hx => ?_⟩, ?_⟩
    · obtain ⟨k, hk, hl, r1, _⟩ := hkid x hx h0
      exact ⟨k, hk, hl, r1⟩
    · have := hok.seq.mem x hx
      omega
    · have := hpre n.l.length
      rw [List.take_length] at this
      exact this

theorem find_some {M : Tr} {i : Int} {n : Node} (hf : find M i = some n) : 0 ≤ i ∧ M[i.toNat]? = some (some n) := by
  unfold find at hf
  split at hf
  · cases hf
  · refine ⟨by omega, ?_⟩
    cases e : M[i.toNat]? with
    | none => rw [e] at hf; cases hf
    | some o => rw [e] at hf; simp at hf; rw [hf]

/-- What give gives lies inside of the arena, behind all that it has given. -/
theorem give_gives {M : Tr} (h : Good M) {i sz al : Int} (hg : (give M i sz al).2 = 0) :
    ∃ n, find M i = some n ∧ 0 ≤ i ∧ M[i.toNat]? = some (some n) ∧ n.fin ≤ (give M i sz al).1 ∧ 1 ≤ sz ∧ (give M i sz al).1 + sz ≤ n.a + n.s ∧ n.l.length < 200 ∧ badArg sz al = false ∧ (give M i sz al).1 = up n.fin al := by
  unfold give at hg ⊢
  cases hf : find M i with
  | none => rw [hf] at hg; simp at hg
  | some n =>
    rw [hf] at hg
    dsimp only at hg ⊢
    obtain ⟨h0, h1⟩ := find_some hf
    have hlen := (h.node _ _ h1).len
    by_cases hb : badArg sz al = true
    · rw [if_pos hb] at hg; simp at hg
    · have hb' : badArg sz al = false := by simpa using hb
      obtain ⟨g1, g2, g3, g4, g5⟩ := badArg_no hb'
      rw [if_neg hb] at hg ⊢
      by_cases hc : n.a + n.s < up n.fin al + sz ∨ n.l.length = 200
      · rw [if_pos hc] at hg; simp at hg
      · rw [if_neg hc]
        exact ⟨n, rfl, h0, h1, up_ge _ _ g3, g1, by show up n.fin al + sz ≤ _; omega, by omega, hb', rfl⟩

theorem alloc_keeps {M : Tr} (h : Good M) (i sz al : Int) : Good (alloc M i sz al).1 := by
  unfold alloc
  split
  · next hg =>
    obtain ⟨n, _, h0, h1, h2, h3, h4, h5, _⟩ := give_gives h hg
    dsimp only
    rw [show addItem M i.toNat ⟨(give M i sz al).1, sz, -1⟩ = M.set i.toNat (some { n with l := n.l ++ [⟨(give M i sz al).1, sz, -1⟩] }) by simp [addItem, h1]]
    exact alloc_good h h1 rfl h2 h3 h4 h5
  · exact h

theorem begin_keeps {M : Tr} (h : Good M) (i sz al : Int) : Good (begin_ M i sz al).1 := by
  unfold begin_
  split
  · next hg =>
    obtain ⟨n, _, h0, h1, h2, h3, h4, h5, _⟩ := give_gives h hg
    split
    · exact h
    · next hk =>
      have := begin_good h h1 h2 h3 h4 h5 hk
      rw [show ((i.toNat : Nat) : Int) = i by omega] at this
      exact this
  · exact h
end Ne
end Go.Proofs.Ytllmddhahpegmaa
