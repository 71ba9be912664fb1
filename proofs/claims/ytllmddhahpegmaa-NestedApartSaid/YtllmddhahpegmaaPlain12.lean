/- Open arenas that have a byte lie one inside of the other. -/
import Derived.Test.YtllmddhahpegmaaPlain10
namespace Go.Proofs.Ytllmddhahpegmaa
namespace Ne

/-- An arena has a byte. -/
def Has (M : Tr) (i : Nat) (p : Int) : Prop := ∃ n, M[i]? = some (some n) ∧ n.a ≤ p ∧ p < n.a + n.s

theorem Chn.unique {M : Tr} {c : Nat} {l : List Nat} (h : Chn M c l) : ∀ {l'}, Chn M c l' → l = l' := by
  induction h with
  | root n h hp =>
    intro l' h'
    cases h' with
    | root _ _ _ => rfl
    | step _ p n' l2 h1 h2 _ =>
      rw [h] at h1
      injection h1 with h1; injection h1 with h1
      subst h1
      omega
  | step c p n l h1 hp _ ih =>
    intro l' h'
    cases h' with
    | root n' h2 hp2 =>
      rw [h1] at h2
      injection h2 with h2; injection h2 with h2
      subst h2
      omega
    | step _ p' n' l2 h2 hp2 hc2 =>
      rw [h1] at h2
      injection h2 with h2; injection h2 with h2
      subst h2
      obtain rfl : p = p' := by omega
      rw [ih hc2]

/-- How deep an arena is. -/
def Dep (M : Tr) (i r : Nat) : Prop := ∃ l, Chn M i l ∧ l.length = r

theorem Dep.unique {M : Tr} {i r r' : Nat} (h : Dep M i r) (h' : Dep M i r') : r = r' := by
  obtain ⟨l, h1, e1⟩ := h
  obtain ⟨l', h2, e2⟩ := h'
  rw [← e1, ← e2, h1.unique h2]

theorem Dep.one {M : Tr} {i : Nat} (h : Dep M i 1) : i = 0 := by
  obtain ⟨l, h, e⟩ := h
  cases h with
  | root _ _ _ => rfl
  | step _ p n l h1 h2 h3 =>
    have := h3.ne
    simp at e
    exact absurd e this

theorem Dep.up {M : Tr} {i r : Nat} (h : Dep M i (r + 2)) : ∃ p n, M[i]? = some (some n) ∧ n.p = ((p : Nat) : Int) ∧ Dep M p (r + 1) := by
  obtain ⟨l, h, e⟩ := h
  cases h with
  | root _ _ _ => simp at e
  | step _ p n l h1 h2 h3 => exact ⟨p, n, h1, h2, l, h3, by simpa using e⟩

theorem Dep.pos {M : Tr} {i r : Nat} (h : Dep M i r) : 0 < r := by
  obtain ⟨l, h, e⟩ := h
  have := List.length_pos_iff.2 h.ne
  omega

theorem Good.dep {M : Tr} (h : Good M) {i : Nat} (hi : Opn M i) : ∃ r, Dep M i r ∧ r ≤ 64 := by
  obtain ⟨l, hl⟩ := h.chn hi
  exact ⟨_, ⟨l, hl, rfl⟩, hl.len h⟩

theorem Dep.anc {M : Tr} {i r : Nat} (h : Dep M i r) {a : Nat} (hA : Anc M i a) : ∃ r', Dep M a r' ∧ r' ≤ r ∧ (r' = r → a = i) := by
  induction hA generalizing r with
  | refl c => exact ⟨r, h, Nat.le_refl _, fun _ => rfl⟩
  | step c p a k h1 hp _ ih =>
    obtain ⟨l, hl, e⟩ := h
    cases hl with
    | root n h2 hp2 =>
      rw [h1] at h2
      injection h2 with h2; injection h2 with h2
      subst h2
      omega
    | step _ p' n' l2 h2 hp2 hc2 =>
      rw [h1] at h2
      injection h2 with h2; injection h2 with h2
      subst h2
      obtain rfl : p = p' := by omega
      obtain ⟨r', d1, d2, _⟩ := ih ⟨l2, hc2, rfl⟩
      simp at e
      exact ⟨r', d1, by omega, fun x => by omega⟩

theorem Has.up {M : Tr} (h : Good M) {i q : Nat} {n : Node} (hi : M[i]? = some (some n)) (hp : n.p = (q : Int)) {p : Int} (hh : Has M i p) : Has M q p := by
  obtain ⟨n', hn', h1, h2⟩ := hh
  rw [hi] at hn'
  injection hn' with hn'; injection hn' with hn'
  subst hn'
  obtain ⟨_, z, hz, x, hx, hxc⟩ := h.parent hi hp
  obtain ⟨k, hk, _, ka, ks⟩ := h.kid hz hx (by omega)
  rw [hxc, Int.toNat_natCast, hi] at hk
  injection hk with hk; injection hk with hk
  subst hk
  obtain ⟨m1, m2, m3⟩ := (h.node _ _ hz).seq.mem x hx
  exact ⟨z, hz, by omega, by omega⟩

theorem Has.anc {M : Tr} (h : Good M) {i a : Nat} (hA : Anc M i a) {p : Int} : Has M i p → Has M a p := by
  induction hA with
  | refl c => exact id
  | step c q a k h1 hp _ ih => exact fun hh => ih (hh.up h h1 hp)

theorem Has.opn {M : Tr} {i : Nat} {p : Int} (h : Has M i p) : Opn M i := by
  obtain ⟨n, hn, _⟩ := h
  exact ⟨n, hn⟩

/-- Items that have a byte in common are one. -/
theorem seq_one {lo hi : Int} {l : List Item} (h : Seq lo hi l) {i j : Nat} {x y : Item} (hx : l[i]? = some x) (hy : l[j]? = some y) {p : Int} (h1 : x.a ≤ p) (h2 : p < x.a + x.s) (h3 : y.a ≤ p) (h4 : p < y.a + y.s) : i = j := by
  induction l generalizing lo i j with
  | nil => simp at hx
  | cons z l ih =>
    obtain ⟨s1, s2, s3, s4⟩ := h
    match i, j with
    | 0, 0 => rfl
    | 0, j + 1 =>
      have e : z = x := by simpa using hx
      have hy' : l[j]? = some y := by simpa using hy
      have := s4.mem y (List.mem_of_getElem? hy')
      subst e
      omega
    | i + 1, 0 =>
      have e : z = y := by simpa using hy
      have hx' : l[i]? = some x := by simpa using hx
      have := s4.mem x (List.mem_of_getElem? hx')
      subst e
      omega
    | i + 1, j + 1 =>
      have := ih (i := i) (j := j) s4 (by simpa using hx) (by simpa using hy)
      rw [this]

theorem Has.sib {M : Tr} (h : Good M) {i j q : Nat} {n m : Node} (hi : M[i]? = some (some n)) (hj : M[j]? = some (some m)) (hn : n.p = (q : Int)) (hm : m.p = (q : Int)) {p : Int} (h1 : Has M i p) (h2 : Has M j p) : i = j := by
  obtain ⟨n', hn', a1, a2⟩ := h1
  rw [hi] at hn'
  injection hn' with hn'; injection hn' with hn'
  subst hn'
  obtain ⟨m', hm', b1, b2⟩ := h2
  rw [hj] at hm'
  injection hm' with hm'; injection hm' with hm'
  subst hm'
  obtain ⟨_, z, hz, x, hx, hxc⟩ := h.parent hi hn
  obtain ⟨_, z', hz', y, hy, hyc⟩ := h.parent hj hm
  rw [hz] at hz'
  injection hz' with hz'; injection hz' with hz'
  subst hz'
  obtain ⟨k, hk, _, ka, ks⟩ := h.kid hz hx (by omega)
  rw [hxc, Int.toNat_natCast, hi] at hk
  injection hk with hk; injection hk with hk
  subst hk
  obtain ⟨k', hk', _, ka', ks'⟩ := h.kid hz hy (by omega)
  rw [hyc, Int.toNat_natCast, hj] at hk'
  injection hk' with hk'; injection hk' with hk'
  subst hk'
  obtain ⟨u, hu⟩ := List.getElem?_of_mem hx
  obtain ⟨v, hv⟩ := List.getElem?_of_mem hy
  have := seq_one (h.node _ _ hz).seq hu hv (p := p) (by omega) (by omega) (by omega) (by omega)
  subst this
  rw [hu] at hv
  injection hv with hv
  subst hv
  omega

theorem root_anc {M : Tr} {j : Nat} {l : List Nat} (h : Chn M j l) : Anc M j 0 := by
  induction h with
  | root _ _ _ => exact .refl 0
  | step c p n l h1 hp _ ih => exact .step c p 0 n h1 hp ih

/-- Of two arenas that have a byte the deeper one is inside of the other. -/
theorem laminar {M : Tr} (h : Good M) {p : Int} : ∀ (r i : Nat), Dep M i r → Has M i p → ∀ (s j : Nat), Dep M j s → r ≤ s → Has M j p → Anc M j i := by
  intro r
  induction r with
  | zero => intro i hi; have := hi.pos; omega
  | succ r ihr =>
    intro i hi hhi s
    cases r with
    | zero =>
      intro j hj _ _
      rw [hi.one]
      obtain ⟨l, hl, _⟩ := hj
      exact root_anc hl
    | succ r =>
      induction s with
      | zero => intro j hj; have := hj.pos; omega
      | succ s ihs =>
        intro j hj hrs hhj
        obtain ⟨qi, n, hn, hnp, hdq⟩ := hi.up
        obtain ⟨s', rfl⟩ : ∃ s', s = s' + 1 := ⟨s - 1, by omega⟩
        obtain ⟨qj, m, hm, hmp, hdqj⟩ := hj.up
        by_cases e : r + 2 ≤ s' + 1
        · exact .step j qj i m hm hmp (ihs qj hdqj e (hhj.up h hm hmp))
        · have e' : s' = r := by omega
          subst e'
          have hA := ihr qi hdq (hhi.up h hn hnp) (s' + 1) qj hdqj (Nat.le_refl _) (hhj.up h hm hmp)
          obtain ⟨r2, d2, _, d4⟩ := hdqj.anc hA
          have : qi = qj := d4 (d2.unique hdq)
          subst this
          rw [Has.sib h hn hm hnp hmp hhi hhj]
          exact .refl _

theorem anc_both {M : Tr} (h : Good M) {i j : Nat} (hi : Opn M i) (h1 : Anc M i j) (h2 : Anc M j i) : i = j := by
  obtain ⟨r, hr, _⟩ := h.dep hi
  obtain ⟨r', d1, d2, d3⟩ := hr.anc h1
  obtain ⟨r2, d4, d5, _⟩ := d1.anc h2
  have := d4.unique hr
  exact (d3 (by omega)).symm

theorem lam {M : Tr} (h : Good M) {p : Int} {i j : Nat} (hi : Has M i p) (hj : Has M j p) : Anc M i j ∨ Anc M j i := by
  obtain ⟨r, hr, _⟩ := h.dep hi.opn
  obtain ⟨s, hs, _⟩ := h.dep hj.opn
  rcases Nat.le_total r s with e | e
  · exact .inr (laminar h r i hr hi s j hs e hj)
  · exact .inl (laminar h s j hs hj r i hr e hi)

/-- A proper inner arena with a byte lies in an item with it. -/
theorem inner_item {M : Tr} (h : Good M) {j j' : Nat} {n : Node} (hj : M[j]? = some (some n)) (hA : Anc M j' j) (hne : j' ≠ j) {p : Int} (hh : Has M j' p) : ∃ y ∈ n.l, 0 ≤ y.c ∧ y.a ≤ p ∧ p < y.a + y.s := by
  induction hA with
  | refl c => exact absurd rfl hne
  | step c q a k h1 hp hA ih =>
    by_cases e : q = a
    · subst e
      obtain ⟨_, z, hz, x, hx, hxc⟩ := h.parent h1 hp
      rw [hj] at hz
      injection hz with hz; injection hz with hz
      subst hz
      obtain ⟨k', hk', _, ka, ks⟩ := h.kid hj hx (by omega)
      rw [hxc, Int.toNat_natCast, h1] at hk'
      injection hk' with hk'; injection hk' with hk'
      subst hk'
      obtain ⟨n', hn', a1, a2⟩ := hh
      rw [h1] at hn'
      injection hn' with hn'; injection hn' with hn'
      subst hn'
      exact ⟨x, hx, by omega, by omega, by omega⟩
    · exact ih hj e (hh.up h h1 hp)

/-- An arena whose bytes (no arena's) have a byte is the innermost one. -/
theorem bytes_inner {M : Tr} (h : Good M) {j : Nat} {n : Node} (hj : M[j]? = some (some n)) {x : Item} (hx : x ∈ n.l) (hc : x.c < 0) {p : Int} (h1 : x.a ≤ p) (h2 : p < x.a + x.s) : Has M j p ∧ ∀ j', Has M j' p → Anc M j j' := by
  obtain ⟨m1, m2, m3⟩ := (h.node _ _ hj).seq.mem x hx
  have hh : Has M j p := ⟨n, hj, by omega, by omega⟩
  refine ⟨hh, fun j' hj' => ?_⟩
  rcases lam h hh hj' with hA | hA
  · exact hA
  · by_cases e : j' = j
    · rw [e]; exact .refl _
    · obtain ⟨y, hy, hy0, hy1, hy2⟩ := inner_item h hj hA e hj'
      obtain ⟨u, hu⟩ := List.getElem?_of_mem hx
      obtain ⟨v, hv⟩ := List.getElem?_of_mem hy
      have := seq_one (h.node _ _ hj).seq hu hv (p := p) h1 h2 hy1 hy2
      subst this
      rw [hu] at hv
      injection hv with hv
      subst hv
      omega
end Ne
end Go.Proofs.Ytllmddhahpegmaa
