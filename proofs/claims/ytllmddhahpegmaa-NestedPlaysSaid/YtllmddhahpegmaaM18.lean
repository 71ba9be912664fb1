/- Painting arenas from outside to inside, and counting bytes: the law of NestedApart. Rows of integers that are written in place. The walk of paint. -/
import Derived.Test.YtllmddhahpegmaaM13
import Derived.Test.YtllmddhahpegmaaM17
import Derived.Test.YtllmddhahpegmaaM10
namespace Go.Proofs.Ytllmddhahpegmaa
namespace Ne

/-- Each byte has the innermost of the arenas that were drawn. -/
def Painted (M : Tr) (Q : Nat → Prop) (N : Nat) (dr : Nat → Int) : Prop :=
  ∀ p : Nat, p < N → (dr p = -1 ∧ ∀ j, Q j → ¬ Has M j p) ∨ ∃ j : Nat, dr p = j ∧ Q j ∧ Has M j p ∧ ∀ j', Q j' → Has M j' p → Anc M j j'

/-- The arenas that were drawn: those less deep, and of this depth those with lesser numbers. -/
def Proc (M : Tr) (deep i j : Nat) : Prop := ∃ r, Dep M j (r + 1) ∧ (r < deep ∨ (r = deep ∧ j < i))

theorem Painted.congr {M : Tr} {Q Q' : Nat → Prop} {N : Nat} {dr : Nat → Int} (h : Painted M Q N dr) (hq : ∀ j, Q' j ↔ Q j) : Painted M Q' N dr := by
  intro p hp
  rcases h p hp with ⟨h1, h2⟩ | ⟨j, h1, h2, h3, h4⟩
  · exact .inl ⟨h1, fun j hj => h2 j ((hq j).1 hj)⟩
  · exact .inr ⟨j, h1, (hq j).2 h2, h3, fun j' hj' => h4 j' ((hq j').1 hj')⟩

theorem Painted.start (M : Tr) (N : Nat) : Painted M (Proc M 0 0) N (fun _ => -1) := fun p _ => .inl ⟨rfl, fun j hj => by
  obtain ⟨r, _, h | h⟩ := hj <;> omega⟩

theorem proc_next (M : Tr) (deep : Nat) {m : Nat} (hm : m = M.length) (j : Nat) : Proc M (deep + 1) 0 j ↔ Proc M deep m j := by
  constructor
  · rintro ⟨r, hd, h | h⟩
    · by_cases e : r = deep
      · subst e
        obtain ⟨l, hl, _⟩ := hd
        obtain ⟨n, hn⟩ := hl.opn
        exact ⟨r, ⟨l, hl, by assumption⟩, .inr ⟨rfl, by rw [hm]; exact (List.getElem?_eq_some_iff.1 hn).1⟩⟩
      · exact ⟨r, hd, .inl (by omega)⟩
    · omega
  · rintro ⟨r, hd, h | h⟩
    · exact ⟨r, hd, .inl (by omega)⟩
    · exact ⟨r, hd, .inl (by omega)⟩

theorem proc_skip {M : Tr} {deep i : Nat} (h : ¬ Dep M i (deep + 1)) (j : Nat) : Proc M deep (i + 1) j ↔ Proc M deep i j := by
  constructor
  · rintro ⟨r, hd, h' | ⟨rfl, h'⟩⟩
    · exact ⟨r, hd, .inl h'⟩
    · exact ⟨r, hd, .inr ⟨rfl, by
        have : j ≠ i := fun e => by subst e; exact h hd
        omega⟩⟩
  · rintro ⟨r, hd, h' | ⟨rfl, h'⟩⟩
    · exact ⟨r, hd, .inl h'⟩
    · exact ⟨r, hd, .inr ⟨rfl, by omega⟩⟩

theorem proc_step {M : Tr} {deep i : Nat} (h : Dep M i (deep + 1)) (j : Nat) : Proc M deep (i + 1) j ↔ (j = i ∨ Proc M deep i j) := by
  constructor
  · rintro ⟨r, hd, h' | ⟨rfl, h'⟩⟩
    · exact .inr ⟨r, hd, .inl h'⟩
    · by_cases e : j = i
      · exact .inl e
      · exact .inr ⟨r, hd, .inr ⟨rfl, by omega⟩⟩
  · rintro (rfl | ⟨r, hd, h' | ⟨rfl, h'⟩⟩)
    · exact ⟨deep, h, .inr ⟨rfl, by omega⟩⟩
    · exact ⟨r, hd, .inl h'⟩
    · exact ⟨r, hd, .inr ⟨rfl, by omega⟩⟩

theorem proc_not {M : Tr} {deep i : Nat} (h : Dep M i (deep + 1)) : ¬ Proc M deep i i := by
  rintro ⟨r, hd, h' | ⟨_, h'⟩⟩
  · have := hd.unique h; omega
  · omega

theorem proc_dep {M : Tr} {deep i j : Nat} (h : Proc M deep i j) : ∃ r, Dep M j r ∧ r ≤ deep + 1 := by
  obtain ⟨r, hd, h' | ⟨rfl, _⟩⟩ := h
  · exact ⟨_, hd, by omega⟩
  · exact ⟨_, hd, Nat.le_refl _⟩

theorem paint_parent {M : Tr} (h : Good M) {deep i N : Nat} {dr : Nat → Int} (hP : Painted M (Proc M deep i) N dr) (hd : Dep M i (deep + 1)) {n : Node} (hi : M[i]? = some (some n)) {p : Nat} (hp : p < N) (hh : Has M i p) : dr p = n.p := by
  cases deep with
  | zero =>
    have hi0 := hd.one
    subst hi0
    rcases hP p hp with ⟨h1, _⟩ | ⟨j, _, ⟨r, _, h2 | h2⟩, _⟩
    · rw [h1, (h.node 0 n hi).root rfl]
    · omega
    · omega
  | succ d =>
    obtain ⟨q, n', hn', hq, hdq⟩ := hd.up
    rw [hi] at hn'
    injection hn' with hn'; injection hn' with hn'
    subst hn'
    have hhq := hh.up h hi hq
    have hpq : Proc M (d + 1) i q := ⟨d, hdq, .inl (by omega)⟩
    rcases hP p hp with ⟨_, h2⟩ | ⟨j, h1, h2, h3, h4⟩
    · exact absurd hhq (h2 q hpq)
    · have hA := h4 q hpq hhq
      obtain ⟨r, hdj, hr⟩ := proc_dep h2
      have hA2 := laminar h r j hdj h3 (d + 1 + 1) i hd hr hh
      rcases hA2.inv with e | ⟨q', k, hk, hkp, hA3⟩
      · subst e
        exact absurd h2 (proc_not hd)
      · rw [hi] at hk
        injection hk with hk; injection hk with hk
        subst hk
        obtain rfl : q = q' := by omega
        rw [h1, hq, anc_both h hhq.opn hA3 hA]

theorem paint_done {M : Tr} (h : Good M) {deep i N : Nat} {dr dr' : Nat → Int} (hP : Painted M (Proc M deep i) N dr) (hd : Dep M i (deep + 1)) (h1 : ∀ p : Nat, p < N → Has M i p → dr' p = i) (h2 : ∀ p : Nat, p < N → ¬ Has M i p → dr' p = dr p) :
    Painted M (Proc M deep (i + 1)) N dr' := by
  intro p hp
  by_cases hh : Has M i p
  · refine .inr ⟨i, h1 p hp hh, (proc_step hd i).2 (.inl rfl), hh, fun j' hj' hhj => ?_⟩
    obtain ⟨r, hdj, hr⟩ := proc_dep hj'
    exact laminar h r j' hdj hhj (deep + 1) i hd hr hh
  · rw [h2 p hp hh]
    rcases hP p hp with ⟨a1, a2⟩ | ⟨j, a1, a2, a3, a4⟩
    · refine .inl ⟨a1, fun j hj => ?_⟩
      rcases (proc_step hd j).1 hj with rfl | hj
      · exact hh
      · exact a2 j hj
    · refine .inr ⟨j, a1, (proc_step hd j).2 (.inr a2), a3, fun j' hj' hhj => ?_⟩
      rcases (proc_step hd j').1 hj' with rfl | hj'
      · exact absurd hhj hh
      · exact a4 j' hj' hhj

theorem proc_all {M : Tr} (h : Good M) (j : Nat) : Opn M j ↔ Proc M 64 0 j := by
  constructor
  · intro ho
    obtain ⟨r, hr, hr64⟩ := h.dep ho
    have := hr.pos
    obtain ⟨r', rfl⟩ : ∃ r', r = r' + 1 := ⟨r - 1, by omega⟩
    exact ⟨r', hr, .inl (by omega)⟩
  · rintro ⟨r, ⟨l, hl, _⟩, _⟩
    exact hl.opn

/-- An item of bytes has a byte. -/
def Byte (M : Tr) (p : Int) (j k : Nat) : Prop := ∃ n x, M[j]? = some (some n) ∧ n.l[k]? = some x ∧ x.c = -1 ∧ x.a ≤ p ∧ p < x.a + x.s

theorem byte_one {M : Tr} (h : Good M) {p : Int} {j k j' k' : Nat} (h1 : Byte M p j k) (h2 : Byte M p j' k') : j = j' ∧ k = k' := by
  obtain ⟨n, x, hn, hx, hc, a1, a2⟩ := h1
  obtain ⟨n', x', hn', hx', hc', b1, b2⟩ := h2
  obtain ⟨hh, hA⟩ := bytes_inner h hn (List.mem_of_getElem? hx) (by omega) a1 a2
  obtain ⟨hh', hA'⟩ := bytes_inner h hn' (List.mem_of_getElem? hx') (by omega) b1 b2
  have := anc_both h hh.opn (hA j' hh') (hA' j hh)
  subst this
  rw [hn] at hn'
  injection hn' with hn'; injection hn' with hn'
  subst hn'
  exact ⟨rfl, seq_one (h.node _ _ hn).seq hx hx' a1 a2 b1 b2⟩

/-- Each byte has the number of the items of bytes that have it, of those that were looked at. -/
def Counted (M : Tr) (Dn : Nat → Nat → Prop) (N : Nat) (ct : Nat → Int) : Prop :=
  ∀ p : Nat, p < N → (ct p = 0 ∧ ∀ j k, Dn j k → ¬ Byte M p j k) ∨ (ct p = 1 ∧ ∃ j k, Dn j k ∧ Byte M p j k)

theorem Counted.congr {M : Tr} {Q Q' : Nat → Nat → Prop} {N : Nat} {ct : Nat → Int} (h : Counted M Q N ct) (hq : ∀ (p : Int) j k, Byte M p j k → (Q' j k ↔ Q j k)) : Counted M Q' N ct := by
  intro p hp
  rcases h p hp with ⟨h1, h2⟩ | ⟨h1, j, k, h2, h3⟩
  · exact .inl ⟨h1, fun j k hj hb => h2 j k ((hq p j k hb).1 hj) hb⟩
  · exact .inr ⟨h1, j, k, (hq p j k h3).2 h2, h3⟩

theorem Counted.start (M : Tr) (N : Nat) (Q : Nat → Nat → Prop) (hq : ∀ j k, ¬ Q j k) : Counted M Q N (fun _ => 0) := fun _ _ => .inl ⟨rfl, fun j k hj => absurd hj (hq j k)⟩

/-- What was looked at, within an arena. -/
def Seen (Q : Nat → Prop) (i k : Nat) : Nat → Nat → Prop := fun j k' => Q j ∨ (j = i ∧ k' < k)

theorem count_zero {M : Tr} (h : Good M) {Q : Nat → Prop} {i k N : Nat} {ct : Nat → Int} (hC : Counted M (Seen Q i k) N ct) (hi : ¬ Q i) {p : Nat} (hp : p < N) (hb : Byte M p i k) : ct p = 0 := by
  rcases hC p hp with ⟨h1, _⟩ | ⟨_, j, k', hs, hb'⟩
  · exact h1
  · obtain ⟨rfl, rfl⟩ := byte_one h hb hb'
    rcases hs with hs | ⟨_, hs⟩
    · exact absurd hs hi
    · omega

theorem count_done {M : Tr} {Q : Nat → Prop} {i k N : Nat} {ct ct' : Nat → Int} (hC : Counted M (Seen Q i k) N ct) (h1 : ∀ p : Nat, p < N → Byte M p i k → ct' p = 1) (h2 : ∀ p : Nat, p < N → ¬ Byte M p i k → ct' p = ct p) : Counted M (Seen Q i (k + 1)) N ct' := by
  intro p hp
  by_cases hb : Byte M p i k
  · exact .inr ⟨h1 p hp hb, i, k, .inr ⟨rfl, by omega⟩, hb⟩
  · rw [h2 p hp hb]
    rcases hC p hp with ⟨a1, a2⟩ | ⟨a1, j, k', hs, hb'⟩
    · refine .inl ⟨a1, fun j k' hs hb' => ?_⟩
      rcases hs with hs | ⟨rfl, hs⟩
      · exact a2 j k' (.inl hs) hb'
      · by_cases e : k' = k
        · subst e; exact hb hb'
        · exact a2 j k' (.inr ⟨rfl, by omega⟩) hb'
    · refine .inr ⟨a1, j, k', ?_, hb'⟩
      rcases hs with hs | ⟨e, hs⟩
      · exact .inl hs
      · exact .inr ⟨e, by omega⟩

/-- The innermost arena with a byte is the one that was drawn. -/
theorem drawn_owner {M : Tr} (h : Good M) {N : Nat} {dr : Nat → Int} (hP : Painted M (Opn M) N dr) {p : Nat} (hp : p < N) {k : Nat} {n : Node} (hk : M[k]? = some (some n)) (h1 : n.a ≤ p) (h2 : (p : Int) < n.a + n.s)
    (hno : ∀ y ∈ n.l, y.a ≤ p → (p : Int) < y.a + y.s → y.c < 0) : dr p = k := by
  have hh : Has M k p := ⟨n, hk, h1, h2⟩
  rcases hP p hp with ⟨_, a2⟩ | ⟨j, a1, _, a3, a4⟩
  · exact absurd hh (a2 k ⟨n, hk⟩)
  · have hA := a4 k ⟨n, hk⟩ hh
    by_cases e : j = k
    · rw [a1, e]
    · obtain ⟨y, hy, hy0, hy1, hy2⟩ := inner_item h hk hA e a3
      have := hno y hy hy1 hy2
      omega

theorem byte_owner {M : Tr} (h : Good M) {p : Nat} {k j k' : Nat} {n : Node} (hk : M[k]? = some (some n)) (h1 : n.a ≤ p) (h2 : (p : Int) < n.a + n.s)
    (hno : ∀ y ∈ n.l, y.a ≤ p → (p : Int) < y.a + y.s → y.c < 0) (hb : Byte M p j k') : ∃ x ∈ n.l, x.a ≤ p ∧ (p : Int) < x.a + x.s := by
  obtain ⟨n', x, hn', hx, hc, a1, a2⟩ := hb
  have hxm := List.mem_of_getElem? hx
  obtain ⟨hh, hA⟩ := bytes_inner h hn' hxm (by omega) a1 a2
  have hhk : Has M k p := ⟨n, hk, h1, h2⟩
  have hA1 := hA k hhk
  by_cases e : j = k
  · subst e
    rw [hk] at hn'
    injection hn' with hn'; injection hn' with hn'
    subst hn'
    exact ⟨x, hxm, a1, a2⟩
  · obtain ⟨y, hy, hy0, hy1, hy2⟩ := inner_item h hk hA1 e hh
    exact ⟨y, hy, hy1, hy2⟩

theorem in_root {M : Tr} (h : Good M) {z : Int} {r : Node} (hr : M[0]? = some (some r)) (hz : r.s = z) {i : Nat} {n : Node} (hi : M[i]? = some (some n)) : 0 ≤ n.a ∧ n.a + n.s ≤ z := by
  have hs := (h.node i n hi).s1
  obtain ⟨l, hl⟩ := h.chn ⟨n, hi⟩
  have hA := root_anc hl
  obtain ⟨r0, hr0, hra⟩ := h.root
  rw [hr] at hr0
  injection hr0 with hr0; injection hr0 with hr0
  subst hr0
  obtain ⟨r1, e1, a1, _⟩ := Has.anc h hA (p := n.a) ⟨n, hi, by omega, by omega⟩
  obtain ⟨r2, e2, _, b2⟩ := Has.anc h hA (p := n.a + n.s - 1) ⟨n, hi, by omega, by omega⟩
  rw [hr] at e1 e2
  injection e1 with e1; injection e1 with e1
  injection e2 with e2; injection e2 with e2
  subst e1
  subst e2
  exact ⟨by omega, by omega⟩
end Ne
end Go.Proofs.Ytllmddhahpegmaa
namespace Go.Proofs.Ytllmddhahpegmaa
open Go.RowKit
namespace Ne

def IntsAt (w : World) (g N : Nat) (f : Nat → Int) : Prop := ∃ cs, w.heap[g]? = some (.cells cs 3 (0, 0)) ∧ cs.size = N ∧ ∀ p, p < N → cs[p]? = some (.int .i64 (f p))

theorem IntsAt.cell {w : World} {g N : Nat} {f : Nat → Int} (h : IntsAt w g N f) {p : Nat} (hp : p < N) : w.cell? ⟨g, p, none⟩ = some (.int .i64 (f p)) := by
  obtain ⟨cs, h1, h2, h3⟩ := h
  simp [World.cell?, h1, h3 p hp]
theorem IntsAt.frozen {w : World} {g N : Nat} {f : Nat → Int} (h : IntsAt w g N f) (p : Nat) : w.frozen? ⟨g, p, none⟩ = false := by
  obtain ⟨cs, h1, h2, h3⟩ := h
  simp [World.frozen?, h1]
theorem IntsAt.lt {w : World} {g N : Nat} {f : Nat → Int} (h : IntsAt w g N f) : g < w.heap.size := by
  obtain ⟨cs, h1, _⟩ := h
  exact lt_of_heap h1
theorem IntsAt.keep {w w' : World} {g N : Nat} {f : Nat → Int} (h : IntsAt w g N f) (hk : w'.heap[g]? = w.heap[g]?) : IntsAt w' g N f := by
  obtain ⟨cs, h1, h2⟩ := h
  exact ⟨cs, hk.trans h1, h2⟩
theorem IntsAt.set {w : World} {g N : Nat} {f f' : Nat → Int} (h : IntsAt w g N f) {p : Nat} {v : Int} (hp : p < N) (h1 : f' p = v) (h2 : ∀ q, q ≠ p → f' q = f q) : IntsAt (w.setCell ⟨g, p, none⟩ (.int .i64 v)) g N f' := by
  obtain ⟨cs, a1, a2, a3⟩ := h
  refine ⟨cs.setIfInBounds p (.int .i64 v), setCell_at _ _ _ _ _ _ a1, by simpa using a2, fun q hq => ?_⟩
  by_cases e : q = p
  · subst e
    rw [Array.getElem?_setIfInBounds]
    simp [a2, hp, h1]
  · rw [Array.getElem?_setIfInBounds, if_neg (Ne.symm e), a3 q hq, h2 q e]
theorem IntsAt.congr {w : World} {g N : Nat} {f f' : Nat → Int} (h : IntsAt w g N f) (he : ∀ p, p < N → f' p = f p) : IntsAt w g N f' := by
  obtain ⟨cs, a1, a2, a3⟩ := h
  exact ⟨cs, a1, a2, fun p hp => by rw [a3 p hp, he p hp]⟩

/-- All but two blocks stay. -/
structure PK (gc gd : Nat) (w w' : World) : Prop where
  os : w'.os = w.os
  tape : w'.tape = w.tape
  output : w'.output = w.output
  size : w.heap.size ≤ w'.heap.size
  block : ∀ k, k < w.heap.size → k ≠ gc → k ≠ gd → w'.heap[k]? = w.heap[k]?

theorem PK.refl (gc gd : Nat) (w : World) : PK gc gd w w := ⟨rfl, rfl, rfl, Nat.le_refl _, fun _ _ _ _ => rfl⟩
theorem PK.trans {gc gd : Nat} {a b c : World} (h : PK gc gd a b) (k : PK gc gd b c) : PK gc gd a c :=
  ⟨k.os.trans h.os, k.tape.trans h.tape, k.output.trans h.output, Nat.le_trans h.size k.size, fun i hi h1 h2 => (k.block i (Nat.lt_of_lt_of_le hi h.size) h1 h2).trans (h.block i hi h1 h2)⟩
theorem PK.below {gc gd : Nat} {a b : World} (h : Below a.heap.size a b) : PK gc gd a b := ⟨h.os, h.tape, h.output, h.size, fun k hk _ _ => h.block k hk⟩
theorem PK.setC {gc gd : Nat} (w : World) (p : Nat) (v : Value) : PK gc gd w (w.setCell ⟨gc, p, none⟩ v) := ⟨rfl, rfl, rfl, by rw [setCell_size]; exact Nat.le_refl _, fun k _ h1 _ => setCell_far _ _ _ _ h1⟩
theorem PK.setD {gc gd : Nat} (w : World) (p : Nat) (v : Value) : PK gc gd w (w.setCell ⟨gd, p, none⟩ v) := ⟨rfl, rfl, rfl, by rw [setCell_size]; exact Nat.le_refl _, fun k _ _ h2 => setCell_far _ _ _ _ h2⟩
theorem PK.cell {gc gd : Nat} {w w' : World} (h : PK gc gd w w') {b o : Nat} {v : Value} (hb : b < w.heap.size) (h1 : b ≠ gc) (h2 : b ≠ gd) (hv : w.cell? ⟨b, o, none⟩ = some v) : w'.cell? ⟨b, o, none⟩ = some v :=
  (World.cell?_of_block (a := ⟨b, o, none⟩) (h.block b hb h1 h2)).trans hv
theorem PK.st {gc gd : Nat} {w w' : World} (h : PK gc gd w w') {K : Nat → Prop} (hK : ∀ k, K k → k ≠ gc ∧ k ≠ gd) {A : Option Addr} {c : Nat} {s : List SN} (hs : StK K w A c s) : StK K w' A c s :=
  hs.keep fun k hk hl => ⟨h.block k hl (hK k hk).1 (hK k hk).2, hk⟩
theorem PK.drewN {gc gd : Nat} (w : World) (n : Nat) : PK gc gd w (w.drewN n) := by
  have := below_drewN (Below.refl w.heap.size w) n
  exact .below this

theorem st_atK {K : Nat → Prop} {w : World} {A : Option Addr} {c : Nat} {M : Tr} (h : StK K w A c (save M)) {j : Nat} {o : Option Node} (hj : M[j]? = some o) :
    ∃ g f B cB, A = some ⟨g, f, none⟩ ∧ K g ∧ g < w.heap.size ∧ w.cell? ⟨g, f + j * 5, none⟩ = some (.int .i64 (saveNode o).p) ∧ w.cell? ⟨g, f + j * 5 + 1, none⟩ = some (.int .i64 (saveNode o).a) ∧ w.cell? ⟨g, f + j * 5 + 2, none⟩ = some (.int .i64 (saveNode o).s) ∧
      w.cell? ⟨g, f + j * 5 + 3, none⟩ = some (.slice B (saveNode o).l.length cB) ∧ w.cell? ⟨g, f + j * 5 + 4, none⟩ = some (.bool (saveNode o).cl) ∧ RowK K w B cB (saveNode o).l := by
  obtain ⟨g, f, B, cB, rfl, hK, ⟨cur, hcur⟩, p0, p1, p2, p3, p4, hR⟩ := h.2.2 j (saveNode o) (by rw [save, List.getElem?_map, hj]; rfl)
  exact ⟨g, f, B, cB, rfl, hK, lt_of_heap hcur, p0, p1, p2, p3, p4, hR⟩

theorem row_atK {K : Nat → Prop} {w : World} {A : Option Addr} {c : Nat} {l : List Item} (h : RowK K w A c l) {j : Nat} {x : Item} (hj : l[j]? = some x) :
    ∃ g f, A = some ⟨g, f, none⟩ ∧ K g ∧ g < w.heap.size ∧ w.cell? ⟨g, f + j * 3, none⟩ = some (.int .i64 x.a) ∧ w.cell? ⟨g, f + j * 3 + 1, none⟩ = some (.int .i64 x.s) ∧ w.cell? ⟨g, f + j * 3 + 2, none⟩ = some (.int .i64 x.c) := by
  obtain ⟨g, f, rfl, hK, ⟨cur, hcur⟩, s0, s1, s2⟩ := h.2.2 j x hj
  exact ⟨g, f, rfl, hK, lt_of_heap hcur, s0, s1, s2⟩

/-- What holds while arenas are painted. -/
structure Inv (M : Tr) (gc gd z : Nat) (W : World) (d i : Nat) (w : World) : Prop where
  frame : PK gc gd W w
  both : ∃ ct dr, IntsAt w gc z ct ∧ IntsAt w gd z dr ∧ Painted M (Proc M d i) z dr ∧ Counted M (fun j _ => Proc M d i j) z ct

theorem Inv.skip {M : Tr} {gc gd z : Nat} {W w w' : World} {d i : Nat} (h : Inv M gc gd z W d i w) (hn : ¬ Dep M i (d + 1)) (hb : Below w.heap.size w w') : Inv M gc gd z W d (i + 1) w' := by
  obtain ⟨hf, ct, dr, h1, h2, h3, h4⟩ := h
  exact ⟨hf.trans (.below hb), ct, dr, h1.keep (hb.block _ h1.lt), h2.keep (hb.block _ h2.lt), h3.congr fun j => proc_skip hn j, h4.congr fun _ j _ _ => proc_skip hn j⟩
end Ne
end Go.Proofs.Ytllmddhahpegmaa
namespace Go.Proofs.Ytllmddhahpegmaa
open Go.RowKit
namespace Ne

theorem dep_of_chn {M : Tr} {i : Nat} {L : List Nat} (h : Chn M i L) {r : Nat} : Dep M i r ↔ L.length = r := by
  constructor
  · rintro ⟨l, hl, e⟩; rw [h.unique hl, e]
  · intro e; exact ⟨L, h, e⟩

theorem find_none_opn {M : Tr} {i : Nat} (h : find M (i : Int) = none) : ¬ Opn M i := by
  rintro ⟨q, hq⟩
  unfold find at h
  rw [if_neg (by omega), Int.toNat_natCast, hq] at h
  cases h

theorem Dep.opn {M : Tr} {i r : Nat} (h : Dep M i r) : Opn M i := by
  obtain ⟨l, hl, _⟩ := h
  exact hl.opn

set_option maxRecDepth 100000 in
set_option maxHeartbeats 4000000 in
theorem paint_ok (K : Nat → Prop) (w : World) (A : Option Addr) (c : Nat) (M : Tr) (gc gd z : Nat) (r : Node) (h : StK K w A c (save M)) (hg : Good M) (hr : M[0]? = some (some r)) (hrz : r.s = z) (hz3 : z ≤ 3000)
    (hne : gc ≠ gd) (hK : ∀ k, K k → k ≠ gc ∧ k ≠ gd) (hC : IntsAt w gc z (fun _ => 0)) (hD : IntsAt w gd z (fun _ => -1)) :
    Calls Try.prog 13 #[.agg #[.slice A M.length c], .int .i64 z, .slice (some ⟨gc, 0, none⟩) z z, .slice (some ⟨gd, 0, none⟩) z z] w fun e w' => e = .returned (.bool true) ∧
      PK gc gd w w' ∧ ∃ ct dr, IntsAt w' gc z ct ∧ IntsAt w' gd z dr ∧ Painted M (Opn M) z dr ∧ Counted M (fun j _ => Opn M j) z ct := by
  obtain ⟨hc1, hc2⟩ := st_len h
  have hm := hg.len
  have hb0 := below_box w (.cells #[.slice A M.length c] 28)
  have b4 : (w.alloc (.cells #[.slice A M.length c] 28)).cell? ⟨w.heap.size, 0, none⟩ = some (.slice A M.length c) := by rw [World.cell?_alloc_at _ _ _ _ rfl]; rfl
  have hsz : (w.alloc (.cells #[.slice A M.length c] 28)).heap.size = w.heap.size + 1 := by simp
  have hgcl := hC.lt
  have hgdl := hD.lt
  have HI0 : Inv M gc gd z w 0 0 (w.alloc (.cells #[.slice A M.length c] 28)) := ⟨.below hb0, _, _, hC.keep (hb0.block _ hgcl), hD.keep (hb0.block _ hgdl), Painted.start M z, Counted.start M z _ fun j _ hj => by obtain ⟨r, _, h | h⟩ := hj <;> omega⟩
  have H := Lib.hid (And.intro h (And.intro hg (And.intro hK HI0)))
  have HR := Lib.hid (And.intro hr hrz)
  clear h hg hK HI0 hC hD hr hrz hb0
  go_enter Try.func13, Try.ntmps13
  go_wp2_with fail
  generalize (w.alloc (.cells #[.slice A M.length c] 28)) = W1 at *
  have hbx1 : w.heap.size ≠ gc := by omega
  have hbx2 : w.heap.size ≠ gd := by omega
  go_loopw [9, 10, 11, 12, 13, 14, 15, 16, 17] (fun d _ _ _ _ _ _ _ _ wr => ∃ dd : Nat, dd ≤ 64 ∧ d = .int .i64 dd ∧ Inv M gc gd z w dd 0 wr ∧ PK gc gd W1 wr) (fun d _ _ _ _ _ _ _ _ _ => 64 - (intOf d).toNat)
  case atStart => exact ⟨0, by omega, rfl, H.out.2.2.2, PK.refl _ _ _⟩
  case round =>
    obtain ⟨d, hd, rfl, hI, hP⟩ := hrel
    by_cases hdl : d < 64
    · have hdb : decide ((d : Int) < 64) = true := decide_eq_true (by omega)
      have HI := Lib.hid (And.intro hI hP)
      clear hI hP
      go_wp2_with fail
      go_loopw [10, 11, 12, 13, 14, 15, 16, 17] (fun i _ _ _ _ _ _ _ wr => ∃ ii : Nat, ii ≤ M.length ∧ i = .int .i64 ii ∧ Inv M gc gd z w d ii wr ∧ PK gc gd W1 wr) (fun i _ _ _ _ _ _ _ _ => M.length - (intOf i).toNat)
      case atStart => exact ⟨0, Nat.zero_le _, rfl, HI.out.1, HI.out.2⟩
      case round =>
        obtain ⟨i, hi, rfl, hI, hP⟩ := hrel
        have b4 := hP.cell (show w.heap.size < W1.heap.size by omega) hbx1 hbx2 b4
        have hPs := hP.size
        have HI := Lib.hid (And.intro hI hP)
        clear hI hP
        by_cases hil : i < M.length
        · have hch := Lib.hid (chainR_ok K wr A c M i (HI.out.1.frame.st H.out.2.2.1 H.out.1) H.out.2.1)
          go_wp2_with (go_at_call 33; fail)
          refine hch.out.mono ?_
          rintro e w3 ⟨(⟨hnone, rfl⟩ | ⟨A3, c3, L, _, hL, rfl, _⟩), hb3⟩
          · have HB3 := Lib.hid (And.intro hb3 hnone)
            clear hb3 hnone hch
            go_wp2
            go_roundw
            case rel => exact ⟨i + 1, by omega, by go_num, HI.out.1.skip (fun hd => find_none_opn HB3.out.2 hd.opn) HB3.out.1, HI.out.2.trans (.below HB3.out.1)⟩
            case measure => simp [intOf]; omega
          · rw [Int.toNat_natCast] at hL
            have hL64 := hL.len H.out.2.1
            by_cases hLd : L.length = d + 1
            · have hbb : ((L.length : Int) == (d : Int) + 1) = true := by rw [beq_iff_eq]; omega
              have hbb2 : ((L.length : Int) != (d : Int) + 1) = false := by rw [bne, hbb]; rfl
              obtain ⟨n, hn⟩ := hL.opn
              have hdep : Dep M i (d + 1) := (dep_of_chn hL).2 hLd
              obtain ⟨hna, hns⟩ := in_root H.out.2.1 HR.out.1 HR.out.2 hn
              have hok := H.out.2.1.node i n hn
              have hs1 := hok.s1
              have hln := hok.len
              have hb3s := hb3.size
              have hP3 := HI.out.1.frame.trans (.below hb3)
              obtain ⟨g, f, B, cB, rfl, hKg, hgl, p0, p1, p2, p3, p4, hR⟩ := st_atK H.out.1 hn
              obtain ⟨hk1, hk2⟩ := H.out.2.2.1 g hKg
              replace p0 : w3.cell? ⟨g, f + i * 5, none⟩ = some (.int .i64 n.p) := hP3.cell hgl hk1 hk2 p0
              replace p1 : w3.cell? ⟨g, f + i * 5 + 1, none⟩ = some (.int .i64 n.a) := hP3.cell hgl hk1 hk2 p1
              replace p2 : w3.cell? ⟨g, f + i * 5 + 2, none⟩ = some (.int .i64 n.s) := hP3.cell hgl hk1 hk2 p2
              replace p3 : w3.cell? ⟨g, f + i * 5 + 3, none⟩ = some (.slice B n.l.length cB) := hP3.cell hgl hk1 hk2 p3
              replace p4 : w3.cell? ⟨g, f + i * 5 + 4, none⟩ = some (.bool false) := hP3.cell hgl hk1 hk2 p4
              have b4 := (hb3.cell (p := ⟨w.heap.size, _, none⟩) (show w.heap.size < wr.heap.size by omega)).trans b4
              obtain ⟨hr1, hr2⟩ := row_len hR
              replace hr1 : n.l.length ≤ cB := hr1
              obtain ⟨N0, hN0⟩ := Int.eq_ofNat_of_zero_le hna
              obtain ⟨S0, hS0⟩ := Int.eq_ofNat_of_zero_le (show 0 ≤ n.s by omega)
              have HN := Lib.hid (And.intro hn (And.intro hdep (And.intro hok (And.intro (show RowK K w B cB n.l from hR) (And.intro hN0 hS0)))))
              have HB3 := Lib.hid (And.intro hb3 hP3)
              rw [hN0] at p1 hns hna
              rw [hS0] at p2 hns hs1
              clear hch hL hLd hn hdep hok hb3 hP3 hR hKg hN0 hS0
              have g1 : decide ((N0 : Int) < 0) = false := decide_eq_false (by omega)
              have g2 : decide ((S0 : Int) < 1) = false := decide_eq_false (by omega)
              have g3 : decide ((z : Int) < (N0 : Int) + (S0 : Int)) = false := decide_eq_false (by omega)
              have hq0 := below_box w3 (.cells #[.int .i64 n.p, .int .i64 N0, .int .i64 S0, .slice B n.l.length cB, .bool false] 35)
              have hsz3 : (w3.alloc (.cells #[.int .i64 n.p, .int .i64 N0, .int .i64 S0, .slice B n.l.length cB, .bool false] 35)).heap.size = w3.heap.size + 1 := by simp
              have d13 : ∀ o v, (#[.int .i64 n.p, .int .i64 N0, .int .i64 S0, .slice B n.l.length cB, .bool false] : Array Value)[o]? = some v → (w3.alloc (.cells #[.int .i64 n.p, .int .i64 N0, .int .i64 S0, .slice B n.l.length cB, .bool false] 35)).cell? ⟨w3.heap.size, o, none⟩ = some v := by
                intro o v hv
                rw [World.cell?_alloc_at _ _ _ _ rfl]; exact hv
              have d0 := d13 0 _ rfl
              have d1 := d13 1 _ rfl
              have d2 := d13 2 _ rfl
              have d3 := d13 3 _ rfl
              have HQ := Lib.hid hq0
              clear d13 hq0
              go_wp2_with fail
              generalize (w3.alloc (.cells #[.int .i64 n.p, .int .i64 N0, .int .i64 S0, .slice B n.l.length cB, .bool false] 35)) = w4 at *
              obtain ⟨ct, dr, hct, hdr, hpt, hcn⟩ := HI.out.1.both
              have hct4 := hct.keep ((HB3.out.1.trans (HQ.out.mono hb3s)).block _ hct.lt)
              have hdr4 := hdr.keep ((HB3.out.1.trans (HQ.out.mono hb3s)).block _ hdr.lt)
              have hP4 : PK gc gd W1 w4 := HI.out.2.trans (.below (HB3.out.1.trans (HQ.out.mono hb3s)))
              have hF4 : PK gc gd w w4 := HI.out.1.frame.trans (.below (HB3.out.1.trans (HQ.out.mono hb3s)))
              have hgcr := hct.lt
              have hgdr := hdr.lt
              have hw3c : w3.heap.size ≠ gc := by omega
              have hw3d : w3.heap.size ≠ gd := by omega
              have HT := Lib.hid (And.intro hct4 (And.intro hdr4 (And.intro hP4 (And.intro hF4 (And.intro hpt hcn)))))
              clear hct hdr hpt hcn hct4 hdr4 hP4 hF4 p0 p1 p2 p3 p4
              go_loopw [14] (fun pp wr' => ∃ (q : Nat) (f' : Nat → Int), N0 ≤ q ∧ q ≤ N0 + S0 ∧ pp = .int .i64 q ∧ PK gc gd w4 wr' ∧ IntsAt wr' gc z ct ∧ IntsAt wr' gd z f' ∧ (∀ p, N0 ≤ p → p < q → f' p = i) ∧ (∀ p, (p < N0 ∨ q ≤ p) → f' p = dr p)) (fun pp _ => N0 + S0 - (intOf pp).toNat)
              case atStart => exact ⟨N0, dr, Nat.le_refl _, by omega, rfl, PK.refl _ _ _, HT.out.1, HT.out.2.1, fun p h1 h2 => by omega, fun _ _ => rfl⟩
              case round =>
                obtain ⟨q, f', hq1, hq2, rfl, hPq, hcq, hdq, hf1, hf2⟩ := hrel
                have e0 := hPq.cell (show w3.heap.size < w4.heap.size by omega) hw3c hw3d d0
                have e1 := hPq.cell (show w3.heap.size < w4.heap.size by omega) hw3c hw3d d1
                have e2 := hPq.cell (show w3.heap.size < w4.heap.size by omega) hw3c hw3d d2
                have e3 := hPq.cell (show w3.heap.size < w4.heap.size by omega) hw3c hw3d d3
                by_cases hql : q < N0 + S0
                · have hqz : q < z := by omega
                  have hhas : Has M i q := ⟨n, HN.out.1, by rw [HN.out.2.2.2.2.1]; omega, by rw [HN.out.2.2.2.2.1, HN.out.2.2.2.2.2]; omega⟩
                  have hval := paint_parent H.out.2.1 HT.out.2.2.2.2.1 HN.out.2.1 HN.out.1 hqz hhas
                  have hcell := hdq.cell hqz
                  rw [hf2 q (.inr (Nat.le_refl _)), hval] at hcell
                  have hfz := hdq.frozen q
                  have b1 : (0 : Int) ≤ (q : Int) := by omega
                  have b2 : (q : Int) < (z : Int) := by omega
                  have HE := Lib.hid (And.intro hPq (And.intro hcq (And.intro hdq (And.intro hf1 hf2))))
                  clear hPq hcq hdq hf1 hf2 hhas hval
                  go_wp2_with fail
                  go_quiet (fail)
                  go_wp2
                  go_roundw
                  case rel =>
                    obtain ⟨hPq, hcq, hdq, hf1, hf2⟩ := HE.out
                    have hdn : ∀ g, g < wr.heap.size → (wr.drewN nq).heap[g]? = wr.heap[g]? := fun g hg => (below_drewN (Below.refl wr.heap.size wr) nq).block g hg
                    refine ⟨q + 1, fun p => if p = q then (i : Int) else f' p, by omega, by omega, by go_num, hPq.trans ((PK.drewN wr nq).trans (PK.setD _ _ _)), (hcq.keep (hdn _ hcq.lt)).keep (setCell_far _ _ _ _ hne), (hdq.keep (hdn _ hdq.lt)).set hqz (by simp) (fun p hp => by simp [hp]), fun p h1 h2 => ?_, fun p h => ?_⟩
                    · by_cases e : p = q
                      · simp [e]
                      · simp [e]; exact hf1 p h1 (by omega)
                    · have e : p ≠ q := by omega
                      simp [e]; exact hf2 p (by omega)
                  case measure => simp [intOf]; omega
                · have hqe : q = N0 + S0 := by omega
                  have HQE := Lib.hid hqe
                  clear hqe
                  have hiff : ∀ p : Nat, Has M i p ↔ (N0 ≤ p ∧ p < N0 + S0) := by
                    intro p
                    constructor
                    · rintro ⟨n', hn', a1, a2⟩
                      rw [HN.out.1] at hn'
                      injection hn' with hn'; injection hn' with hn'
                      subst hn'
                      rw [HN.out.2.2.2.2.1] at a1 a2
                      rw [HN.out.2.2.2.2.2] at a2
                      omega
                    · rintro ⟨a1, a2⟩
                      exact ⟨n, HN.out.1, by rw [HN.out.2.2.2.2.1]; omega, by rw [HN.out.2.2.2.2.1, HN.out.2.2.2.2.2]; omega⟩
                  have hpd := paint_done H.out.2.1 HT.out.2.2.2.2.1 HN.out.2.1 (dr' := f') (fun p hp hh => by obtain ⟨a1, a2⟩ := (hiff p).1 hh; exact hf1 p a1 (by have := HQE.out; omega)) (fun p hp hh => hf2 p (by
                    rcases Nat.lt_or_ge p N0 with a | a
                    · exact .inl a
                    · refine .inr (Nat.le_of_not_lt fun b => hh ((hiff p).2 ⟨a, by have := HQE.out; omega⟩))))
                  have HE := Lib.hid (And.intro hPq (And.intro hcq (And.intro hdq hpd)))
                  have hwr4 := hPq.size
                  clear hPq hcq hdq hpd hf1 hf2 hiff
                  go_wp2_with fail
                  go_loopw [15, 16, 17] (fun kk _ _ wr' => ∃ (k : Nat) (ct' : Nat → Int), k ≤ n.l.length ∧ kk = .int .i64 k ∧ PK gc gd w4 wr' ∧ IntsAt wr' gc z ct' ∧ IntsAt wr' gd z f' ∧ Counted M (Seen (Proc M d i) i k) z ct') (fun kk _ _ _ => n.l.length - (intOf kk).toNat)
                  case atStart => exact ⟨0, ct, Nat.zero_le _, rfl, HE.out.1, HE.out.2.1, HE.out.2.2.1, HT.out.2.2.2.2.2.congr fun _ j k _ => ⟨fun h => by rcases h with h | h; exact h; omega, .inl⟩⟩
                  case round =>
                    obtain ⟨k, ct', hk, rfl, hPk, hck, hdk, hcn⟩ := hrel
                    have e0 := hPk.cell (show w3.heap.size < w4.heap.size by omega) hw3c hw3d d0
                    have e1 := hPk.cell (show w3.heap.size < w4.heap.size by omega) hw3c hw3d d1
                    have e2 := hPk.cell (show w3.heap.size < w4.heap.size by omega) hw3c hw3d d2
                    have e3 := hPk.cell (show w3.heap.size < w4.heap.size by omega) hw3c hw3d d3
                    have hwrk := hPk.size
                    by_cases hkl : k < n.l.length
                    · obtain ⟨x, hx⟩ : ∃ x, n.l[k]? = some x := ⟨_, List.getElem?_eq_getElem hkl⟩
                      obtain ⟨m1, m2, m3⟩ := HN.out.2.2.1.seq.mem x (List.mem_of_getElem? hx)
                      obtain ⟨g2, f2, rfl, hKg2, hg2, s0, s1, s2⟩ := row_atK HN.out.2.2.2.1 hx
                      obtain ⟨hk3, hk4⟩ := H.out.2.2.1 g2 hKg2
                      have hFk := HT.out.2.2.2.1.trans hPk
                      replace s0 := hFk.cell hg2 hk3 hk4 s0
                      replace s1 := hFk.cell hg2 hk3 hk4 s1
                      replace s2 := hFk.cell hg2 hk3 hk4 s2
                      rw [HN.out.2.2.2.2.1] at m1 m3
                      rw [HN.out.2.2.2.2.2] at m3
                      obtain ⟨X0, hX0⟩ := Int.eq_ofNat_of_zero_le (show 0 ≤ x.a by omega)
                      obtain ⟨XS, hXS⟩ := Int.eq_ofNat_of_zero_le (show 0 ≤ x.s by omega)
                      have hby : ∀ p : Nat, Byte M p i k ↔ (x.c = -1 ∧ X0 ≤ p ∧ p < X0 + XS) := by
                        intro p
                        constructor
                        · rintro ⟨n', x', hn', hx', hc, a1, a2⟩
                          rw [HN.out.1] at hn'
                          injection hn' with hn'; injection hn' with hn'
                          subst hn'
                          rw [hx] at hx'
                          injection hx' with hx'
                          subst hx'
                          exact ⟨hc, by omega, by omega⟩
                        · rintro ⟨hc, a1, a2⟩
                          exact ⟨n, x, HN.out.1, hx, hc, by omega, by omega⟩
                      rw [hX0] at s0 m1 m3
                      rw [hXS] at s1 m2 m3
                      have hPA := hPk.trans (.below (below_box wr (.cells #[.int .i64 X0, .int .i64 XS, .int .i64 x.c] 54)))
                      have hcA := hck.keep ((below_box wr (.cells #[.int .i64 X0, .int .i64 XS, .int .i64 x.c] 54)).block _ hck.lt)
                      have hdA := hdk.keep ((below_box wr (.cells #[.int .i64 X0, .int .i64 XS, .int .i64 x.c] 54)).block _ hdk.lt)
                      have hgcl' := hck.lt
                      have hgdl' := hdk.lt
                      have hwc : wr.heap.size ≠ gc := by omega
                      have hwd : wr.heap.size ≠ gd := by omega
                      have v16 : ∀ o v, (#[.int .i64 X0, .int .i64 XS, .int .i64 x.c] : Array Value)[o]? = some v → (wr.alloc (.cells #[.int .i64 X0, .int .i64 XS, .int .i64 x.c] 54)).cell? ⟨wr.heap.size, o, none⟩ = some v := by
                        intro o v hv
                        rw [World.cell?_alloc_at _ _ _ _ rfl]; exact hv
                      have v0 := v16 0 _ rfl
                      have v1 := v16 1 _ rfl
                      have v2 := v16 2 _ rfl
                      have hszk : (wr.alloc (.cells #[.int .i64 X0, .int .i64 XS, .int .i64 x.c] 54)).heap.size = wr.heap.size + 1 := by simp
                      have HK := Lib.hid (And.intro hPA (And.intro hcA (And.intro hdA (And.intro hcn hby))))
                      clear hPk hck hdk hcn hx hKg2 hFk hX0 hXS hby v16 hPA hcA hdA
                      by_cases hc1' : x.c = -1
                      · rw [hc1'] at s2 v2 v0 v1 hszk
                        have HC1 := Lib.hid hc1'
                        rw [hc1'] at HK
                        clear hc1'
                        go_wp2_with fail
                        generalize (wr.alloc (.cells #[.int .i64 X0, .int .i64 XS, .int .i64 (-1)] 54)) = w5 at *
                        obtain ⟨wo, rfl⟩ : ∃ wo : World, wo = wr := ⟨_, rfl⟩
                        go_loopw [17] (fun pp wr' => ∃ (q : Nat) (f'' : Nat → Int), X0 ≤ q ∧ q ≤ X0 + XS ∧ pp = .int .i64 q ∧ PK gc gd w5 wr' ∧ IntsAt wr' gc z f'' ∧ IntsAt wr' gd z f' ∧ (∀ p, X0 ≤ p → p < q → f'' p = 1) ∧ (∀ p, (p < X0 ∨ q ≤ p) → f'' p = ct' p)) (fun pp _ => X0 + XS - (intOf pp).toNat)
                        case atStart => exact ⟨X0, ct', Nat.le_refl _, by omega, rfl, PK.refl _ _ _, HK.out.2.1, HK.out.2.2.1, fun p h1 h2 => by omega, fun _ _ => rfl⟩
                        case round =>
                          obtain ⟨q, f'', hq1, hq2, rfl, hPq, hcq, hdq, hf1, hf2⟩ := hrel
                          have v0 := hPq.cell (show wo.heap.size < w5.heap.size by omega) hwc hwd v0
                          have v1 := hPq.cell (show wo.heap.size < w5.heap.size by omega) hwc hwd v1
                          have v2 := hPq.cell (show wo.heap.size < w5.heap.size by omega) hwc hwd v2
                          have hPq4 := HK.out.1.trans hPq
                          have e0 := hPq4.cell (show w3.heap.size < w4.heap.size by omega) hw3c hw3d d0
                          have e1 := hPq4.cell (show w3.heap.size < w4.heap.size by omega) hw3c hw3d d1
                          have e2 := hPq4.cell (show w3.heap.size < w4.heap.size by omega) hw3c hw3d d2
                          by_cases hql : q < X0 + XS
                          · have hqz : q < z := by omega
                            have hz0 := count_zero H.out.2.1 HK.out.2.2.2.1 (proc_not HN.out.2.1) hqz ((HK.out.2.2.2.2 q).2 ⟨by trivial, hq1, hql⟩)
                            have hcell := hcq.cell hqz
                            rw [hf2 q (.inr (Nat.le_refl _)), hz0] at hcell
                            have hfz := hcq.frozen q
                            have b1 : (0 : Int) ≤ (q : Int) := by omega
                            have b2 : (q : Int) < (z : Int) := by omega
                            have HE2 := Lib.hid (And.intro hPq (And.intro hcq (And.intro hdq (And.intro hf1 hf2))))
                            clear hPq hPq4 hcq hdq hf1 hf2 hz0
                            go_wp2
                            go_roundw
                            case rel =>
                              obtain ⟨hPq, hcq, hdq, hf1, hf2⟩ := HE2.out
                              refine ⟨q + 1, fun p => if p = q then 1 else f'' p, by omega, by omega, by go_num, hPq.trans (PK.setC _ _ _), hcq.set hqz (by simp) (fun p hp => by simp [hp]), hdq.keep (setCell_far _ _ _ _ (Ne.symm hne)), fun p h1 h2 => ?_, fun p h => ?_⟩
                              · by_cases e : p = q
                                · simp [e]
                                · simp [e]; exact hf1 p h1 (by omega)
                              · have e : p ≠ q := by omega
                                simp [e]; exact hf2 p (by omega)
                            case measure => simp [intOf]; omega
                          · obtain rfl : q = X0 + XS := by omega
                            have hcd := count_done (ct' := f'') HK.out.2.2.2.1 (fun p hp hb => by obtain ⟨_, a1, a2⟩ := (HK.out.2.2.2.2 p).1 hb; exact hf1 p a1 a2) (fun p hp hb => hf2 p (by
                              rcases Nat.lt_or_ge p X0 with a | a
                              · exact .inl a
                              · refine .inr (Nat.le_of_not_lt fun b => hb ((HK.out.2.2.2.2 p).2 ⟨by trivial, a, b⟩))))
                            have HE2 := Lib.hid (And.intro hPq4 (And.intro hcq (And.intro hdq hcd)))
                            clear hPq hPq4 hcq hdq hf1 hf2 hcd
                            go_wp2
                            go_roundw
                            case rel => exact ⟨k + 1, f'', by omega, by go_num, HE2.out.1, HE2.out.2.1, HE2.out.2.2.1, HE2.out.2.2.2⟩
                            case measure => simp [intOf]; omega
                      · have hcb : (x.c == -1) = false := by rw [beq_eq_false_iff_ne]; exact hc1'
                        have HC1 := Lib.hid hc1'
                        clear hc1'
                        generalize x.c = xc at *
                        go_wp2_with fail
                        generalize (wr.alloc (.cells #[.int .i64 X0, .int .i64 XS, .int .i64 xc] 54)) = w5 at *
                        go_loopw [17] (fun pp wr' => pp = .int .i64 X0 ∧ wr' = w5) (fun _ _ => 0)
                        case atStart => exact ⟨rfl, rfl⟩
                        case round =>
                          obtain ⟨rfl, rfl⟩ := hrel
                          have hcd := count_done (ct' := ct') HK.out.2.2.2.1 (fun p hp hb => absurd ((HK.out.2.2.2.2 p).1 hb).1 HC1.out) (fun _ _ _ => rfl)
                          have HCD := Lib.hid hcd
                          clear hcd
                          go_wp2
                          go_roundw
                          case rel => exact ⟨k + 1, ct', by omega, by go_num, HK.out.1, HK.out.2.1, HK.out.2.2.1, HCD.out⟩
                          case measure => simp [intOf]; omega
                    · obtain rfl : k = n.l.length := by omega
                      have HE2 := Lib.hid (And.intro hPk (And.intro hck (And.intro hdk hcn)))
                      clear hPk hck hdk hcn
                      go_wp2
                      go_roundw
                      case rel =>
                        obtain ⟨hPk, hck, hdk, hcn⟩ := HE2.out
                        refine ⟨i + 1, by omega, by go_num, ⟨HT.out.2.2.2.1.trans hPk, ct', f', hck, hdk, HE.out.2.2.2, hcn.congr fun p j k' hb => ?_⟩, HT.out.2.2.1.trans hPk⟩
                        rw [proc_step HN.out.2.1]
                        constructor
                        · rintro (rfl | h)
                          · obtain ⟨n', x', hn', hx', _⟩ := hb
                            rw [HN.out.1] at hn'
                            injection hn' with hn'; injection hn' with hn'
                            subst hn'
                            exact .inr ⟨rfl, (List.getElem?_eq_some_iff.1 hx').1⟩
                          · exact .inl h
                        · rintro (h | ⟨h, _⟩)
                          · exact .inr h
                          · exact .inl h
                      case measure => simp [intOf]; omega
            · have hbb : ((L.length : Int) == (d : Int) + 1) = false := by rw [beq_eq_false_iff_ne]; omega
              have HB3 := Lib.hid (And.intro hb3 (And.intro hL hLd))
              clear hb3 hL hLd hch
              go_wp2
              go_roundw
              case rel => exact ⟨i + 1, by omega, by go_num, HI.out.1.skip (fun hd => HB3.out.2.2 ((dep_of_chn HB3.out.2.1).1 hd)) HB3.out.1, HI.out.2.trans (.below HB3.out.1)⟩
              case measure => simp [intOf]; omega
        · obtain rfl : i = M.length := by omega
          go_wp2
          go_roundw
          case rel =>
            obtain ⟨hf, ct, dr, h1, h2, h3, h4⟩ := HI.out.1
            exact ⟨d + 1, by omega, by go_num, ⟨hf, ct, dr, h1, h2, h3.congr fun j => proc_next M d rfl j, h4.congr fun _ j _ _ => proc_next M d rfl j⟩, HI.out.2⟩
          case measure => simp [intOf]; omega
    · obtain rfl : d = 64 := by omega
      have HI := Lib.hid (And.intro hI hP)
      clear hI hP
      go_wp2
      go_ret
      obtain ⟨hf, ct, dr, h1, h2, h3, h4⟩ := HI.out.1
      exact ⟨rfl, hf, ct, dr, h1, h2, h3.congr fun j => proc_all H.out.2.1 j, h4.congr fun _ j _ _ => proc_all H.out.2.1 j⟩
end Ne
end Go.Proofs.Ytllmddhahpegmaa
