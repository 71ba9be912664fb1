/- Painting arenas from outside to inside, and counting bytes: the law of NestedApart. -/
import Derived.Test.YtllmddhahpegmaaPlain12
namespace Go.Proofs.Ytllmddhahpegmaa
namespace Ne

/-- Each byte has the innermost of the arenas that were drawn. -/
def Painted (M : Tr) (Q : Nat → Prop) (N : Nat) (dr : Nat → Int) : Prop :=
  ∀ p : Nat, p < N → (dr p = -1 ∧ ∀ j, Q j → ¬ Has M j p) ∨ ∃ j : Nat, dr p = j ∧ Q j ∧ Has M j p ∧ ∀ j', Q j' → Has M j' p → Anc M j j'

/-- The arenas that were drawn: those less deep, and of this depth those with lesser numbers. -/
def Proc (M : Tr) (deep i j : Nat) : Prop := ∃ r, Dep M j (r + 1) ∧ (r < deep ∨ (r = deep ∧ j < i))

theorem Painted.congr {M : Tr} {Q Q' : Nat → Prop} {N : Nat} {dr : Nat → Int} (h : Painted M Q N dr) (hq : ∀ j, Q' j ↔ Q j) : Painted M Q' N dr := by
  intro p hp
  rcases h p hp with ⟨h1, h2⟩ | ⟨j, h1, h2, h3, h4⟩
  · exact .inl ⟨h1, fun j hj => h2 j ((hq j).1 hj)⟩
  · exact .inr ⟨j, h1, (hq j).2 h2, h3, fun j' hj' => h4 j' ((hq j').1 hj')⟩

theorem Painted.start (M : Tr) (N : Nat) : Painted M (Proc M 0 0) N (fun _ => -1) := fun p _ => .inl ⟨rfl, fun j hj => by
  obtain ⟨r, _, h | h⟩ := hj <;> omega⟩

theorem proc_next (M : Tr) (deep : Nat) {m : Nat} (hm : m = M.length) (j : Nat) : Proc M (deep + 1) 0 j ↔ Proc M deep m j := by
  constructor
  · rintro ⟨r, hd, h | h⟩
    · by_cases e : r = deep
      · subst e
        obtain ⟨l, hl, _⟩ := hd
        obtain ⟨n, hn⟩ := hl.opn
        exact ⟨r, ⟨l, hl, by assumption⟩, .inr ⟨rfl, by rw [hm]; exact (List.getElem?_eq_some_iff.1 hn).1⟩⟩
      · exact ⟨r, hd, .inl (by omega)⟩
    · omega
  · rintro ⟨r, hd, h | h⟩
    · exact ⟨r, hd, .inl (by omega)⟩
    · exact ⟨r, hd, .inl (by omega)⟩

theorem proc_skip {M : Tr} {deep i : Nat} (h : ¬ Dep M i (deep + 1)) (j : Nat) : Proc M deep (i + 1) j ↔ Proc M deep i j := by
  constructor
  · rintro ⟨r, hd, h' | ⟨rfl, h'⟩⟩
    · exact ⟨r, hd, .inl h'⟩
    · exact ⟨r, hd, .inr ⟨rfl, by
        have : j ≠ i := fun e => by subst e; exact h hd
        omega⟩⟩
  · rintro ⟨r, hd, h' | ⟨rfl, h'⟩⟩
    · exact ⟨r, hd, .inl h'⟩
    · exact ⟨r, hd, .inr ⟨rfl, by omega⟩⟩

theorem proc_step {M : Tr} {deep i : Nat} (h : Dep M i (deep + 1)) (j : Nat) : Proc M deep (i + 1) j ↔ (j = i ∨ Proc M deep i j) := by
  constructor
  · rintro ⟨r, hd, h' | ⟨rfl, h'⟩⟩
    · exact .inr ⟨r, hd, .inl h'⟩
    · by_cases e : j = i
      · exact .inl e
      · exact .inr ⟨r, hd, .inr ⟨rfl, by omega⟩⟩
  · rintro (rfl | ⟨r, hd, h' | ⟨rfl, h'⟩⟩)
    · exact ⟨deep, h, .inr ⟨rfl, by omega⟩⟩
    · exact ⟨r, hd, .inl h'⟩
    · exact ⟨r, hd, .inr ⟨rfl, by omega⟩⟩

theorem proc_not {M : Tr} {deep i : Nat} (h : Dep M i (deep + 1)) : ¬ Proc M deep i i := by
  rintro ⟨r, hd, h' | ⟨_, h'⟩⟩
  · have := hd.unique h; omega
  · omega

theorem proc_dep {M : Tr} {deep i j : Nat} (h : Proc M deep i j) : ∃ r, Dep M j r ∧ r ≤ deep + 1 := by
  obtain ⟨r, hd, h' | ⟨rfl, _⟩⟩ := h
  · exact ⟨_, hd, by omega⟩
  · exact ⟨_, hd, Nat.le_refl _⟩

theorem paint_parent {M : Tr} (h : Good M) {deep i N : Nat} {dr : Nat → Int} (hP : Painted M (Proc M deep i) N dr) (hd : Dep M i (deep + 1)) {n : Node} (hi : M[i]? = some (some n)) {p : Nat} (hp : p < N) (hh : Has M i p) : dr p = n.p := by
  cases deep with
  | zero =>
    have hi0 := hd.one
    subst hi0
    rcases hP p hp with ⟨h1, _⟩ | ⟨j, _, ⟨r, _, h2 | h2⟩, _⟩
    · rw [h1, (h.node 0 n hi).root rfl]
    · omega
    · omega
  | succ d =>
    obtain ⟨q, n', hn', hq, hdq⟩ := hd.up
    rw [hi] at hn'
    injection hn' with hn'; injection hn' with hn'
    subst hn'
    have hhq := hh.up h hi hq
    have hpq : Proc M (d + 1) i q := ⟨d, hdq, .inl (by omega)⟩
    rcases hP p hp with ⟨_, h2⟩ | ⟨j, h1, h2, h3, h4⟩
    · exact absurd hhq (h2 q hpq)
    · have hA := h4 q hpq hhq
      obtain ⟨r, hdj, hr⟩ := proc_dep h2
      have hA2 := laminar h r j hdj h3 (d + 1 + 1) i hd hr hh
      rcases hA2.inv with e | ⟨q', k, hk, hkp, hA3⟩
      · subst e
        exact absurd h2 (proc_not hd)
      · rw [hi] at hk
        injection hk with hk; injection hk with hk
        subst hk
        obtain rfl : q = q' := by omega
        rw [h1, hq, anc_both h hhq.opn hA3 hA]

theorem paint_done {M : Tr} (h : Good M) {deep i N : Nat} {dr dr' : Nat → Int} (hP : Painted M (Proc M deep i) N dr) (hd : Dep M i (deep + 1)) (h1 : ∀ p : Nat, p < N → Has M i p → dr' p = i) (h2 : ∀ p : Nat, p < N → ¬ Has M i p → dr' p = dr p) :
    Painted M (Proc M deep (i + 1)) N dr' := by
  intro p hp
  by_cases hh : Has M i p
  · refine .inr ⟨i, h1 p hp hh, (proc_step hd i).2 (.inl rfl), hh, fun j' hj' hhj => ?_⟩
    obtain ⟨r, hdj, hr⟩ := proc_dep hj'
    exact laminar h r j' hdj hhj (deep + 1) i hd hr hh
  · rw [h2 p hp hh]
    rcases hP p hp with ⟨a1, a2⟩ | ⟨j, a1, a2, a3, a4⟩
    · refine .inl ⟨a1, fun j hj => ?_⟩
      rcases (proc_step hd j).1 hj with rfl | hj
      · exact hh
      · exact a2 j hj
    · refine .inr ⟨j, a1, (proc_step hd j).2 (.inr a2), a3, fun j' hj' hhj => ?_⟩
      rcases (proc_step hd j').1 hj' with rfl | hj'
      · exact absurd hhj hh
      · exact a4 j' hj' hhj

theorem proc_all {M : Tr} (h : Good M) (j : Nat) : Opn M j ↔ Proc M 64 0 j := by
  constructor
  · intro ho
    obtain ⟨r, hr, hr64⟩ := h.dep ho
    have := hr.pos
    obtain ⟨r', rfl⟩ : ∃ r', r = r' + 1 := ⟨r - 1, by omega⟩
    exact ⟨r', hr, .inl (by omega)⟩
  · rintro ⟨r, ⟨l, hl, _⟩, _⟩
    exact hl.opn

/-- An item of bytes has a byte. -/
def Byte (M : Tr) (p : Int) (j k : Nat) : Prop := ∃ n x, M[j]? = some (some n) ∧ n.l[k]? = some x ∧ x.c = -1 ∧ x.a ≤ p ∧ p < x.a + x.s

theorem byte_one {M : Tr} (h : Good M) {p : Int} {j k j' k' : Nat} (h1 : Byte M p j k) (h2 : Byte M p j' k') : j = j' ∧ k = k' := by
  obtain ⟨n, x, hn, hx, hc, a1, a2⟩ := h1
  obtain ⟨n', x', hn', hx', hc', b1, b2⟩ := h2
  obtain ⟨hh, hA⟩ := bytes_inner h hn (List.mem_of_getElem? hx) (by omega) a1 a2
  obtain ⟨hh', hA'⟩ := bytes_inner h hn' (List.mem_of_getElem? hx') (by omega) b1 b2
  have := anc_both h hh.opn (hA j' hh') (hA' j hh)
  subst this
  rw [hn] at hn'
  injection hn' with hn'; injection hn' with hn'
  subst hn'
  exact ⟨rfl, seq_one (h.node _ _ hn).seq hx hx' a1 a2 b1 b2⟩

/-- Each byte has the number of the items of bytes that have it, of those that were looked at. -/
def Counted (M : Tr) (Dn : Nat → Nat → Prop) (N : Nat) (ct : Nat → Int) : Prop :=
  ∀ p : Nat, p < N → (ct p = 0 ∧ ∀ j k, Dn j k → ¬ Byte M p j k) ∨ (ct p = 1 ∧ ∃ j k, Dn j k ∧ Byte M p j k)

theorem Counted.congr {M : Tr} {Q Q' : Nat → Nat → Prop} {N : Nat} {ct : Nat → Int} (h : Counted M Q N ct) (hq : ∀ (p : Int) j k, Byte M p j k → (Q' j k ↔ Q j k)) : Counted M Q' N ct := by
  intro p hp
  rcases h p hp with ⟨h1, h2⟩ | ⟨h1, j, k, h2, h3⟩
  · exact .inl ⟨h1, fun j k hj hb => h2 j k ((hq p j k hb).1 hj) hb⟩
  · exact .inr ⟨h1, j, k, (hq p j k h3).2 h2, h3⟩

theorem Counted.start (M : Tr) (N : Nat) (Q : Nat → Nat → Prop) (hq : ∀ j k, ¬ Q j k) : Counted M Q N (fun _ => 0) := fun _ _ => .inl ⟨rfl, fun j k hj => absurd hj (hq j k)⟩

/-- What was looked at, within an arena. -/
def Seen (Q : Nat → Prop) (i k : Nat) : Nat → Nat → Prop := fun j k' => Q j ∨ (j = i ∧ k' < k)

theorem count_zero {M : Tr} (h : Good M) {Q : Nat → Prop} {i k N : Nat} {ct : Nat → Int} (hC : Counted M (Seen Q i k) N ct) (hi : ¬ Q i) {p : Nat} (hp : p < N) (hb : Byte M p i k) : ct p = 0 := by
  rcases hC p hp with ⟨h1, _⟩ | ⟨_, j, k', hs, hb'⟩
  · exact h1
  · obtain ⟨rfl, rfl⟩ := byte_one h hb hb'
    rcases hs with hs | ⟨_, hs⟩
    · exact absurd hs hi
    · omega

theorem count_done {M : Tr} {Q : Nat → Prop} {i k N : Nat} {ct ct' : Nat → Int} (hC : Counted M (Seen Q i k) N ct) (h1 : ∀ p : Nat, p < N → Byte M p i k → ct' p = 1) (h2 : ∀ p : Nat, p < N → ¬ Byte M p i k → ct' p = ct p) : Counted M (Seen Q i (k + 1)) N ct' := by
  intro p hp
  by_cases hb : Byte M p i k
  · exact .inr ⟨h1 p hp hb, i, k, .inr ⟨rfl, by omega⟩, hb⟩
  · rw [h2 p hp hb]
    rcases hC p hp with ⟨a1, a2⟩ | ⟨a1, j, k', hs, hb'⟩
    · refine .inl ⟨a1, fun j k' hs hb' => ?_⟩
      rcases hs with hs | ⟨rfl, hs⟩
      · exact a2 j k' (.inl hs) hb'
      · by_cases e : k' = k
        · subst e; exact hb hb'
        · exact a2 j k' (.inr ⟨rfl, by omega⟩) hb'
    · refine .inr ⟨a1, j, k', ?_, hb'⟩
      rcases hs with hs | ⟨e, hs⟩
      · exact .inl hs
      · exact .inr ⟨e, by omega⟩

/-- The innermost arena with a byte is the one that was drawn. -/
theorem drawn_owner {M : Tr} (h : Good M) {N : Nat} {dr : Nat → Int} (hP : Painted M (Opn M) N dr) {p : Nat} (hp : p < N) {k : Nat} {n : Node} (hk : M[k]? = some (some n)) (h1 : n.a ≤ p) (h2 : (p : Int) < n.a + n.s)
    (hno : ∀ y ∈ n.l, y.a ≤ p → (p : Int) < y.a + y.s → y.c < 0) : dr p = k := by
  have hh : Has M k p := ⟨n, hk, h1, h2⟩
  rcases hP p hp with ⟨_, a2⟩ | ⟨j, a1, _, a3, a4⟩
  · exact absurd hh (a2 k ⟨n, hk⟩)
  · have hA := a4 k ⟨n, hk⟩ hh
    by_cases e : j = k
    · rw [a1, e]
    · obtain ⟨y, hy, hy0, hy1, hy2⟩ := inner_item h hk hA e a3
      have := hno y hy hy1 hy2
      omega

theorem byte_owner {M : Tr} (h : Good M) {p : Nat} {k j k' : Nat} {n : Node} (hk : M[k]? = some (some n)) (h1 : n.a ≤ p) (h2 : (p : Int) < n.a + n.s)
    (hno : ∀ y ∈ n.l, y.a ≤ p → (p : Int) < y.a + y.s → y.c < 0) (hb : Byte M p j k') : ∃ x ∈ n.l, x.a ≤ p ∧ (p : Int) < x.a + x.s := by
  obtain ⟨n', x, hn', hx, hc, a1, a2⟩ := hb
  have hxm := List.mem_of_getElem? hx
  obtain ⟨hh, hA⟩ := bytes_inner h hn' hxm (by omega) a1 a2
  have hhk : Has M k p := ⟨n, hk, h1, h2⟩
  have hA1 := hA k hhk
  by_cases e : j = k
  · subst e
    rw [hk] at hn'
    injection hn' with hn'; injection hn' with hn'
    subst hn'
    exact ⟨x, hxm, a1, a2⟩
  · obtain ⟨y, hy, hy0, hy1, hy2⟩ := inner_item h hk hA1 e hh
    exact ⟨y, hy, hy1, hy2⟩

theorem in_root {M : Tr} (h : Good M) {z : Int} {r : Node} (hr : M[0]? = some (some r)) (hz : r.s = z) {i : Nat} {n : Node} (hi : M[i]? = some (some n)) : 0 ≤ n.a ∧ n.a + n.s ≤ z := by
  have hs := (h.node i n hi).s1
  obtain ⟨l, hl⟩ := h.chn ⟨n, hi⟩
  have hA := root_anc hl
  obtain ⟨r0, hr0, hra⟩ := h.root
  rw [hr] at hr0
  injection hr0 with hr0; injection hr0 with hr0
  subst hr0
  obtain ⟨r1, e1, a1, _⟩ := Has.anc h hA (p := n.a) ⟨n, hi, by omega, by omega⟩
  obtain ⟨r2, e2, _, b2⟩ := Has.anc h hA (p := n.a + n.s - 1) ⟨n, hi, by omega, by omega⟩
  rw [hr] at e1 e2
  injection e1 with e1; injection e1 with e1
  injection e2 with e2; injection e2 with e2
  subst e1
  subst e2
  exact ⟨by omega, by omega⟩
end Ne
end Go.Proofs.Ytllmddhahpegmaa
