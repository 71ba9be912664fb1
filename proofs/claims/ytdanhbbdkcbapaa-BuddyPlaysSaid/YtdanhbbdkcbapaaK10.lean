/- Lists of blocks: what the specification says of them, in plain words. No program here. The operations of the specification on lists of blocks. No program here. The specification's small functions; how lists of blocks lie in memory. -/
import Derived.Test.YtdanhbbdkcbapaaK0
import Derived.Test.YtdanhbbdkcbapaaK3
namespace Go.Proofs.Ytdanhbbdkcbapaa
namespace Bu

/-- A block: its page, and its order. -/
abbrev Blk := Nat × Nat
def Blk.hi (x : Blk) : Nat := x.1 + 2 ^ x.2
def InB (N : Nat) (x : Blk) : Prop := x.2 ≤ N ∧ x.1 % 2 ^ x.2 = 0 ∧ x.1 + 2 ^ x.2 ≤ 2 ^ N

instance (N : Nat) (x : Blk) : Decidable (InB N x) := by unfold InB; infer_instance

/-- A valid state. -/
structure St (N : Nat) (L : List Blk) : Prop where
  n10 : N ≤ 10
  inb : ∀ x ∈ L, InB N x
  asc : L.Pairwise fun a b => a.1 + 2 ^ a.2 ≤ b.1

/-- The given blocks of a list. -/
def LG (L : List Blk) : Bl := fun k i => (i * 2 ^ k, k) ∈ L

theorem pow_pos2 (k : Nat) : 0 < 2 ^ k := Nat.pow_pos (by decide)
theorem within {p k x : Nat} (h : p % 2 ^ k = 0) : (p ≤ x ∧ x < p + 2 ^ k) ↔ x / 2 ^ k = p / 2 ^ k := by
  have hp := pow_pos2 k
  have h1 := Nat.div_add_mod p (2 ^ k)
  rw [h, Nat.add_zero] at h1
  constructor
  · rintro ⟨a, b⟩
    refine Nat.div_eq_of_lt_le ?_ ?_
    · rw [Nat.mul_comm, h1]; exact a
    · rw [Nat.add_mul, Nat.one_mul, Nat.mul_comm (p / 2 ^ k), h1]; exact b
  · intro e
    have h2 := Nat.div_add_mod x (2 ^ k)
    have h3 := Nat.mod_lt x hp
    rw [e, h1] at h2
    omega

theorem mul_div {p k : Nat} (h : p % 2 ^ k = 0) : p / 2 ^ k * 2 ^ k = p := Nat.div_mul_cancel (Nat.dvd_of_mod_eq_zero h)

theorem mem_LG {L : List Blk} {p k : Nat} (h : p % 2 ^ k = 0) : LG L k (p / 2 ^ k) ↔ (p, k) ∈ L := by
  unfold LG; rw [mul_div h]

theorem asc_one {L : List Blk} (h : L.Pairwise fun a b => a.1 + 2 ^ a.2 ≤ b.1) {a b : Blk} (ha : a ∈ L) (hb : b ∈ L) {x : Nat} (h1 : a.1 ≤ x) (h2 : x < a.1 + 2 ^ a.2) (h3 : b.1 ≤ x) (h4 : x < b.1 + 2 ^ b.2) : a = b := by
  induction L with
  | nil => cases ha
  | cons y L ih =>
    rw [List.pairwise_cons] at h
    rcases List.mem_cons.1 ha with rfl | ha'
    · rcases List.mem_cons.1 hb with rfl | hb'
      · rfl
      · have := h.1 b hb'; omega
    · rcases List.mem_cons.1 hb with rfl | hb'
      · have := h.1 a ha'; omega
      · exact ih h.2 ha' hb'

theorem St.ok {N : Nat} {L : List Blk} (h : St N L) : Ok (LG L) N := by
  refine ⟨fun k i hg => ?_, fun k i k' i' x hg hg' h1 h2 => ?_⟩
  · obtain ⟨h1, h2, h3⟩ := h.inb _ hg
    refine ⟨h1, ?_⟩
    have h3 : i * 2 ^ k + 2 ^ k ≤ 2 ^ N := h3
    have h1 : k ≤ N := h1
    rw [show 2 ^ N = 2 ^ (N - k) * 2 ^ k by rw [← Nat.pow_add, Nat.sub_add_cancel h1]] at h3
    have : (i + 1) * 2 ^ k ≤ 2 ^ (N - k) * 2 ^ k := by rw [Nat.add_mul, Nat.one_mul]; exact h3
    exact Nat.le_of_mul_le_mul_right this (pow_pos2 k)
  · have e1 := (within (x := x) (Nat.mul_mod_left i (2 ^ k))).2 (by rw [first]; exact h1)
    have e2 := (within (x := x) (Nat.mul_mod_left i' (2 ^ k'))).2 (by rw [first]; exact h2)
    have := asc_one h.asc hg hg' e1.1 e1.2 e2.1 e2.2
    injection this with e3 e4
    subst e4
    exact ⟨rfl, Nat.eq_of_mul_eq_mul_right (pow_pos2 k) e3⟩

/-- A page is one of a block's. -/
def hasP (x : Blk) (p : Nat) : Bool := decide (x.1 ≤ p ∧ p < x.1 + 2 ^ x.2)
def anyP (L : List Blk) (p : Nat) : Bool := L.any (hasP · p)

theorem used_LG {N : Nat} {L : List Blk} (h : ∀ x ∈ L, InB N x) {p : Nat} : Used (LG L) p ↔ anyP L p = true := by
  unfold anyP hasP
  rw [List.any_eq_true]
  constructor
  · rintro ⟨k, hk⟩
    refine ⟨_, hk, ?_⟩
    rw [decide_eq_true_eq]
    exact (within (Nat.mul_mod_left _ _)).2 (by rw [first])
  · rintro ⟨x, hx, hp⟩
    rw [decide_eq_true_eq] at hp
    obtain ⟨_, h2, _⟩ := h x hx
    refine ⟨x.2, ?_⟩
    rw [(within h2).1 hp]
    exact (mem_LG h2).2 hx

/-- Are all pages free? -/
def freeB (L : List Blk) (p n : Nat) : Bool := (List.range (2 ^ n)).all fun d => !anyP L (p + d)

theorem freeB_iff {N : Nat} {L : List Blk} (h : ∀ x ∈ L, InB N x) {p n : Nat} (hp : p % 2 ^ n = 0) : freeB L p n = true ↔ Free (LG L) n (p / 2 ^ n) := by
  unfold freeB
  rw [List.all_eq_true]
  constructor
  · intro hf x hx hu
    rw [used_LG h] at hu
    have := (within hp).2 hx
    have h2 := hf (x - p) (List.mem_range.2 (by omega))
    rw [show p + (x - p) = x by omega, hu] at h2
    cases h2
  · intro hf d hd
    have := hf (p + d) ((within hp).1 ⟨by omega, by have := List.mem_range.1 hd; omega⟩)
    rw [used_LG h] at this
    simpa using this

/-- The greatest order up to n of a free block that begins at a page. -/
def bestB (L : List Blk) (p : Nat) : Nat → Option Nat
  | 0 => if freeB L p 0 then some 0 else none
  | n + 1 => if p % 2 ^ (n + 1) = 0 ∧ freeB L p (n + 1) = true then some (n + 1) else bestB L p n

theorem bestB_some {L : List Blk} {p : Nat} : ∀ {n k : Nat}, bestB L p n = some k → k ≤ n ∧ p % 2 ^ k = 0 ∧ freeB L p k = true ∧ ∀ j, k < j → j ≤ n → ¬ (p % 2 ^ j = 0 ∧ freeB L p j = true) := by
  intro n
  induction n with
  | zero =>
    intro k h
    rw [bestB] at h
    split at h
    · next e => injection h with h; subst h; exact ⟨Nat.le_refl _, Nat.mod_one _, e, fun j h1 h2 => by omega⟩
    · cases h
  | succ n ih =>
    intro k h
    rw [bestB] at h
    split at h
    · next e => injection h with h; subst h; exact ⟨Nat.le_refl _, e.1, e.2, fun j h1 h2 => by omega⟩
    · next e =>
      obtain ⟨h1, h2, h3, h4⟩ := ih h
      refine ⟨by omega, h2, h3, fun j g1 g2 => ?_⟩
      by_cases ej : j = n + 1
      · subst ej; exact e
      · exact h4 j g1 (by omega)
theorem bestB_none {L : List Blk} {p : Nat} : ∀ {n : Nat}, bestB L p n = none → freeB L p 0 = false := by
  intro n
  induction n with
  | zero =>
    intro h
    rw [bestB] at h
    split at h
    · cases h
    · next e => simpa using e
  | succ n ih =>
    intro h
    rw [bestB] at h
    split at h
    · cases h
    · exact ih h

/-- The free blocks from a page on. -/
def blkFrom (N : Nat) (L : List Blk) : Nat → Nat → List Blk
  | 0, _ => []
  | f + 1, p => if p < 2 ^ N then match bestB L p N with | none => blkFrom N L f (p + 1) | some n => (p, n) :: blkFrom N L f (p + 2 ^ n) else []

/-- The free blocks, as the specification lists them. -/
def blocksB (N : Nat) (L : List Blk) : List Blk := blkFrom N L (2 ^ N) 0

/-- No free block lies about a page. -/
def Bd (G : Bl) (N p : Nat) : Prop := ∀ k i, k ≤ N → Free G k i → i * 2 ^ k < p → i * 2 ^ k + 2 ^ k ≤ p

theorem used_free {G : Bl} {k i x : Nat} (h : Free G k i) (h1 : i * 2 ^ k ≤ x) (h2 : x < i * 2 ^ k + 2 ^ k) : ¬ Used G x :=
  h x (by have := (within (x := x) (Nat.mul_mod_left i (2 ^ k))).1 ⟨h1, h2⟩; rwa [first] at this)

theorem mod_mul_of_le {p k n : Nat} (h : k ≤ n) (hp : p % 2 ^ n = 0) : p % 2 ^ k = 0 := by
  obtain ⟨m, rfl⟩ := Nat.exists_eq_add_of_le h
  have hd : 2 ^ (k + m) ∣ p := Nat.dvd_of_mod_eq_zero hp
  exact Nat.mod_eq_zero_of_dvd (Nat.dvd_trans ⟨2 ^ m, Nat.pow_add 2 k m⟩ hd)

/-- Two blocks that have a page in common: the lesser one lies in the other. -/
theorem nested {p k q n x : Nat} (hp : p % 2 ^ k = 0) (hq : q % 2 ^ n = 0) (hkn : k ≤ n) (h1 : p ≤ x) (h2 : x < p + 2 ^ k) (h3 : q ≤ x) (h4 : x < q + 2 ^ n) : q ≤ p ∧ p + 2 ^ k ≤ q + 2 ^ n := by
  obtain ⟨m, rfl⟩ := Nat.exists_eq_add_of_le hkn
  have e1 := (within hp).1 ⟨h1, h2⟩
  have e2 := (within hq).1 ⟨h3, h4⟩
  have hq2 := mod_mul_of_le (Nat.le_add_right k m) hq
  have hpe := mul_div hp
  have hqe := mul_div hq2
  have hP : 2 ^ (k + m) = 2 ^ m * 2 ^ k := by rw [Nat.pow_add, Nat.mul_comm]
  have hqq : q / 2 ^ k % 2 ^ m = 0 := by
    have := mul_div hq
    rw [hP, ← Nat.mul_assoc] at this
    have e3 : q / 2 ^ (k + m) * 2 ^ m * 2 ^ k = q := by rw [hP]; exact this
    rw [← e3, Nat.mul_div_cancel _ (pow_pos2 k)]
    exact Nat.mul_mod_left _ _
  have e4 : p / 2 ^ k / 2 ^ m = q / 2 ^ k / 2 ^ m := by rw [← div_pow, ← div_pow, ← e2, div_pow, div_pow, e1]
  have e5 := (within (x := p / 2 ^ k) hqq).2 e4
  obtain ⟨a, ha⟩ : ∃ a, a = p / 2 ^ k := ⟨_, rfl⟩
  obtain ⟨b, hb⟩ : ∃ b, b = q / 2 ^ k := ⟨_, rfl⟩
  rw [← ha, ← hb] at e5
  rw [← ha] at hpe
  rw [← hb] at hqe
  constructor
  · rw [← hpe, ← hqe]; exact Nat.mul_le_mul_right _ e5.1
  · rw [← hpe, ← hqe, hP, ← Nat.add_mul]
    have : (a + 1) * 2 ^ k ≤ (b + 2 ^ m) * 2 ^ k := Nat.mul_le_mul_right _ e5.2
    rw [Nat.add_mul, Nat.one_mul] at this
    exact this

/-- A free block in the list's own words. -/
def IsFree (N : Nat) (L : List Blk) (x : Blk) : Prop := x.1 % 2 ^ x.2 = 0 ∧ MaxFree (LG L) N x.2 (x.1 / 2 ^ x.2)

theorem IsFree.lt {N : Nat} {L : List Blk} {x : Blk} (h : IsFree N L x) : x.1 + 2 ^ x.2 ≤ 2 ^ N ∧ x.2 ≤ N := by
  obtain ⟨h1, h2, h3, _⟩ := h
  refine ⟨?_, h2⟩
  have := mul_div h1
  have h4 : (x.1 / 2 ^ x.2 + 1) * 2 ^ x.2 ≤ 2 ^ (N - x.2) * 2 ^ x.2 := Nat.mul_le_mul_right _ h3
  rw [Nat.add_mul, Nat.one_mul, this, ← Nat.pow_add, Nat.sub_add_cancel h2] at h4
  exact h4

theorem isFree_one {N : Nat} {L : List Blk} {a b : Blk} (ha : IsFree N L a) (hb : IsFree N L b) {x : Nat} (h1 : a.1 ≤ x) (h2 : x < a.1 + 2 ^ a.2) (h3 : b.1 ≤ x) (h4 : x < b.1 + 2 ^ b.2) : a = b := by
  have e1 := (within ha.1).1 ⟨h1, h2⟩
  have e2 := (within hb.1).1 ⟨h3, h4⟩
  have hA : MaxFree (LG L) N (0 + a.2) (x / 2 ^ a.2) := by rw [Nat.zero_add, e1]; exact ha.2
  have hB : MaxFree (LG L) N (0 + b.2) (x / 2 ^ b.2) := by rw [Nat.zero_add, e2]; exact hb.2
  have := around_one hA hB
  obtain ⟨p, k⟩ := a
  obtain ⟨q, n⟩ := b
  dsimp only at *
  subst this
  rw [e1] at e2
  have h5 := mul_div ha.1
  have h6 := mul_div hb.1
  dsimp only at h5 h6
  rw [e2, h6] at h5
  rw [h5]

theorem best_free {N : Nat} {L : List Blk} (h : St N L) {p n : Nat} (hp : p < 2 ^ N) (hb : Bd (LG L) N p) (hbest : bestB L p N = some n) : IsFree N L (p, n) := by
  obtain ⟨h1, h2, h3, h4⟩ := bestB_some hbest
  have hf := (freeB_iff h.inb h2).1 h3
  refine ⟨h2, h1, ?_, hf, ?_⟩
  · rw [Nat.div_lt_iff_lt_mul (pow_pos2 n), ← Nat.pow_add, Nat.sub_add_cancel h1]; exact hp
  · by_cases e : n = N
    · exact .inl e
    · refine .inr fun hpf => ?_
      have hpe := mul_div h2
      obtain ⟨i, hi⟩ : ∃ i, i = p / 2 ^ n := ⟨_, rfl⟩
      rw [← hi] at hpf hpe
      have hP : 2 ^ (n + 1) = 2 * 2 ^ n := by rw [Nat.pow_succ, Nat.mul_comm]
      rcases Nat.mod_two_eq_zero_or_one i with ev | od
      · refine h4 (n + 1) (by omega) (by omega) ?_
        have e1 : i / 2 * 2 ^ (n + 1) = p := by
          rw [hP, ← Nat.mul_assoc, show i / 2 * 2 = i by omega, hpe]
        have e2 : p % 2 ^ (n + 1) = 0 := by rw [← e1]; exact Nat.mul_mod_left _ _
        refine ⟨e2, (freeB_iff h.inb e2).2 ?_⟩
        rw [← e1, first]; exact hpf
      · have h0 := pow_pos2 n
        have e1 : i / 2 * 2 ^ (n + 1) + 2 ^ n = p := by
          rw [hP, ← Nat.mul_assoc, ← hpe]
          have : i = i / 2 * 2 + 1 := by omega
          rw [this, Nat.add_mul, Nat.one_mul, show (i / 2 * 2 + 1) / 2 = i / 2 by omega]
        have := hb (n + 1) (i / 2) (by omega) hpf (by omega)
        omega

theorem bd_used {N : Nat} {L : List Blk} (h : St N L) {p : Nat} (hb : Bd (LG L) N p) (hn : bestB L p N = none) : Bd (LG L) N (p + 1) ∧ ∀ x, IsFree N L x → x.1 ≠ p := by
  have h0 := bestB_none hn
  have hu : Used (LG L) p := by
    refine Classical.byContradiction fun hnu => ?_
    have : freeB L p 0 = true := by
      unfold freeB
      rw [Nat.pow_zero, List.all_eq_true]
      intro d hd
      have : d = 0 := by have := List.mem_range.1 hd; omega
      subst this
      rw [used_LG h.inb] at hnu
      simpa using hnu
    rw [this] at h0; cases h0
  refine ⟨fun k i hk hf hi => ?_, fun x hx e => ?_⟩
  · refine Nat.le_of_not_lt fun hlt => ?_
    exact used_free hf (Nat.lt_succ_iff.1 hi) (by omega) hu
  · have := pow_pos2 x.2
    have h1 := hx.2.2.2.1
    have := used_free h1 (x := p) (by rw [mul_div hx.1]; omega) (by rw [mul_div hx.1]; omega)
    exact this hu

theorem bd_best {N : Nat} {L : List Blk} (h : St N L) {p n : Nat} (hb : Bd (LG L) N p) (hbest : bestB L p N = some n) : Bd (LG L) N (p + 2 ^ n) := by
  obtain ⟨h1, h2, h3, h4⟩ := bestB_some hbest
  intro k i hk hf hi
  have h0 := pow_pos2 k
  by_cases e : i * 2 ^ k < p
  · have := hb k i hk hf e; omega
  · by_cases hkn : k ≤ n
    · exact (nested (x := i * 2 ^ k) (Nat.mul_mod_left i (2 ^ k)) h2 hkn (Nat.le_refl _) (by omega) (by omega) hi).2
    · have hn := pow_pos2 n
      have := nested (x := i * 2 ^ k) h2 (Nat.mul_mod_left i (2 ^ k)) (by omega) (by omega) hi (Nat.le_refl _) (by omega)
      have hpe : i * 2 ^ k = p := by omega
      have e2 : p % 2 ^ k = 0 := by rw [← hpe]; exact Nat.mul_mod_left _ _
      exact absurd ⟨e2, (freeB_iff h.inb e2).2 (by rw [← hpe, first]; exact hf)⟩ (h4 k (by omega) hk)

theorem blkFrom_mem {N : Nat} {L : List Blk} (h : St N L) : ∀ (f p : Nat), 2 ^ N ≤ p + f → Bd (LG L) N p → ∀ x, x ∈ blkFrom N L f p ↔ p ≤ x.1 ∧ IsFree N L x := by
  intro f
  induction f with
  | zero =>
    intro p hf hb x
    rw [blkFrom]
    refine ⟨fun hx => (by cases hx), fun ⟨h1, h2⟩ => ?_⟩
    have := h2.lt.1
    have := pow_pos2 x.2
    omega
  | succ f ih =>
    intro p hf hb x
    rw [blkFrom]
    by_cases hp : p < 2 ^ N
    · rw [if_pos hp]
      cases hbe : bestB L p N with
      | none =>
        obtain ⟨g1, g2⟩ := bd_used h hb hbe
        show x ∈ blkFrom N L f (p + 1) ↔ _
        rw [ih (p + 1) (by omega) g1 x]
        exact ⟨fun ⟨a, b⟩ => ⟨by omega, b⟩, fun ⟨a, b⟩ => ⟨by have := g2 x b; omega, b⟩⟩
      | some n =>
        show x ∈ (p, n) :: blkFrom N L f (p + 2 ^ n) ↔ _
        have h0 := pow_pos2 n
        have hfr := best_free h hp hb hbe
        rw [List.mem_cons, ih (p + 2 ^ n) (by omega) (bd_best h hb hbe) x]
        constructor
        · rintro (rfl | ⟨a, b⟩)
          · exact ⟨Nat.le_refl _, hfr⟩
          · exact ⟨by omega, b⟩
        · rintro ⟨a, b⟩
          by_cases e : x.1 < p + 2 ^ n
          · exact .inl (isFree_one b hfr (x := x.1) (Nat.le_refl _) (by have := pow_pos2 x.2; omega) a e)
          · exact .inr ⟨by omega, b⟩
    · rw [if_neg hp]
      refine ⟨fun hx => (by cases hx), fun ⟨h1, h2⟩ => ?_⟩
      have := h2.lt.1
      have := pow_pos2 x.2
      omega

theorem blkFrom_asc {N : Nat} {L : List Blk} (h : St N L) : ∀ (f p : Nat), 2 ^ N ≤ p + f → Bd (LG L) N p → (blkFrom N L f p).Pairwise fun a b => a.1 + 2 ^ a.2 ≤ b.1 := by
  intro f
  induction f with
  | zero => intro p _ _; rw [blkFrom]; exact List.Pairwise.nil
  | succ f ih =>
    intro p hf hb
    rw [blkFrom]
    by_cases hp : p < 2 ^ N
    · rw [if_pos hp]
      cases hbe : bestB L p N with
      | none => exact ih (p + 1) (by omega) (bd_used h hb hbe).1
      | some n =>
        have h0 := pow_pos2 n
        show ((p, n) :: blkFrom N L f (p + 2 ^ n)).Pairwise _
        refine List.pairwise_cons.2 ⟨fun x hx => ?_, ih _ (by omega) (bd_best h hb hbe)⟩
        exact ((blkFrom_mem h f (p + 2 ^ n) (by omega) (bd_best h hb hbe) x).1 hx).1
    · rw [if_neg hp]; exact List.Pairwise.nil

theorem bd_zero (G : Bl) (N : Nat) : Bd G N 0 := fun _ _ _ _ h => by omega
theorem mem_blocks {N : Nat} {L : List Blk} (h : St N L) (x : Blk) : x ∈ blocksB N L ↔ IsFree N L x := by
  unfold blocksB
  rw [blkFrom_mem h _ _ (by omega) (bd_zero _ _) x]
  exact ⟨fun h => h.2, fun h => ⟨Nat.zero_le _, h⟩⟩
theorem blocks_asc {N : Nat} {L : List Blk} (h : St N L) : (blocksB N L).Pairwise fun a b => a.1 + 2 ^ a.2 ≤ b.1 := blkFrom_asc h _ _ (by omega) (bd_zero _ _)

theorem blkFrom_enough {N : Nat} {L : List Blk} : ∀ (f g p : Nat), 2 ^ N ≤ p + f → f ≤ g → blkFrom N L g p = blkFrom N L f p := by
  intro f
  induction f with
  | zero =>
    intro g p hf _
    cases g with
    | zero => rfl
    | succ g => rw [blkFrom, blkFrom, if_neg (by omega)]
  | succ f ih =>
    intro g p hf hg
    cases g with
    | zero => omega
    | succ g =>
      rw [blkFrom, blkFrom]
      by_cases hp : p < 2 ^ N
      · rw [if_pos hp, if_pos hp]
        cases bestB L p N with
        | none => exact ih g (p + 1) (by omega) (by omega)
        | some n =>
          have := pow_pos2 n
          show (p, n) :: blkFrom N L g (p + 2 ^ n) = (p, n) :: blkFrom N L f (p + 2 ^ n)
          rw [ih g (p + 2 ^ n) (by omega) (by omega)]
      · rw [if_neg hp, if_neg hp]

/-- Ascending lists with the same members are one. -/
theorem asc_eq : ∀ {A B : List Blk}, A.Pairwise (fun a b => a.1 < b.1) → B.Pairwise (fun a b => a.1 < b.1) → (∀ x, x ∈ A ↔ x ∈ B) → A = B := by
  intro A
  induction A with
  | nil =>
    intro B _ _ h
    cases B with
    | nil => rfl
    | cons y B => exact absurd ((h y).2 (List.mem_cons_self ..)) (by simp)
  | cons x A ih =>
    intro B hA hB h
    cases B with
    | nil => exact absurd ((h x).1 (List.mem_cons_self ..)) (by simp)
    | cons y B =>
      rw [List.pairwise_cons] at hA hB
      have e : x = y := by
        rcases List.mem_cons.1 ((h x).1 (List.mem_cons_self ..)) with e | e
        · exact e
        · rcases List.mem_cons.1 ((h y).2 (List.mem_cons_self ..)) with e2 | e2
          · exact e2.symm
          · have := hB.1 x e; have := hA.1 y e2; omega
      subst e
      congr 1
      refine ih hA.2 hB.2 fun z => ⟨fun hz => ?_, fun hz => ?_⟩
      · rcases List.mem_cons.1 ((h z).1 (List.mem_cons_of_mem _ hz)) with e | e
        · subst e; have := hA.1 _ hz; omega
        · exact e
      · rcases List.mem_cons.1 ((h z).2 (List.mem_cons_of_mem _ hz)) with e | e
        · subst e; have := hB.1 _ hz; omega
        · exact e

theorem asc_lt {L : List Blk} (h : L.Pairwise fun a b => a.1 + 2 ^ a.2 ≤ b.1) : L.Pairwise fun a b => a.1 < b.1 :=
  h.imp fun {a b} hab => by have := pow_pos2 a.2; omega
end Bu
end Go.Proofs.Ytdanhbbdkcbapaa
namespace Go.Proofs.Ytdanhbbdkcbapaa
namespace Bu

/-- One block more. -/
def putB : List Blk → Blk → List Blk
  | [], x => [x]
  | y :: L, x => if x.1 < y.1 then x :: y :: L else y :: putB L x

theorem mem_putB {L : List Blk} {x z : Blk} : z ∈ putB L x ↔ z = x ∨ z ∈ L := by
  induction L with
  | nil => simp [putB]
  | cons y L ih =>
    rw [putB]
    split
    · simp
    · rw [List.mem_cons, ih, List.mem_cons]
      constructor
      · rintro (h | h | h)
        · exact .inr (.inl h)
        · exact .inl h
        · exact .inr (.inr h)
      · rintro (h | h | h)
        · exact .inr (.inl h)
        · exact .inl h
        · exact .inr (.inr h)

theorem putB_len (L : List Blk) (x : Blk) : (putB L x).length = L.length + 1 := by
  induction L with
  | nil => rfl
  | cons y L ih =>
    rw [putB]
    split
    · rfl
    · simp [ih]

theorem disj_of {N : Nat} {L : List Blk} {x y : Blk} (h : ∀ z ∈ L, InB N z) (hx : InB N x) (hf : Free (LG L) x.2 (x.1 / 2 ^ x.2)) (hy : y ∈ L) : x.1 + 2 ^ x.2 ≤ y.1 ∨ y.1 + 2 ^ y.2 ≤ x.1 := by
  refine Classical.byContradiction fun hn => ?_
  have h1 := pow_pos2 x.2
  have h2 := pow_pos2 y.2
  have key : ∀ q, x.1 ≤ q → q < x.1 + 2 ^ x.2 → y.1 ≤ q → q < y.1 + 2 ^ y.2 → False := fun q a b c d => by
    refine hf q ((within hx.2.1).1 ⟨a, b⟩) ((used_LG h).2 ?_)
    unfold anyP hasP
    rw [List.any_eq_true]
    exact ⟨y, hy, by rw [decide_eq_true_eq]; exact ⟨c, d⟩⟩
  by_cases e : x.1 ≤ y.1
  · exact key y.1 e (by omega) (Nat.le_refl _) (by omega)
  · exact key x.1 (Nat.le_refl _) (by omega) (by omega) (by omega)

theorem putB_asc {L : List Blk} {x : Blk} (h : L.Pairwise fun a b => a.1 + 2 ^ a.2 ≤ b.1) (hd : ∀ y ∈ L, x.1 + 2 ^ x.2 ≤ y.1 ∨ y.1 + 2 ^ y.2 ≤ x.1) : (putB L x).Pairwise fun a b => a.1 + 2 ^ a.2 ≤ b.1 := by
  induction L with
  | nil => rw [putB]; exact List.pairwise_singleton _ _
  | cons y L ih =>
    rw [List.pairwise_cons] at h
    have h1 := pow_pos2 x.2
    have h2 := pow_pos2 y.2
    have hy := hd y (List.mem_cons_self ..)
    rw [putB]
    by_cases e : x.1 < y.1
    · rw [if_pos e]
      refine List.pairwise_cons.2 ⟨fun z hz => ?_, List.pairwise_cons.2 h⟩
      rcases List.mem_cons.1 hz with rfl | hz
      · omega
      · have := h.1 z hz; omega
    · rw [if_neg e]
      refine List.pairwise_cons.2 ⟨fun z hz => ?_, ih h.2 fun z hz => hd z (List.mem_cons_of_mem _ hz)⟩
      rcases mem_putB.1 hz with rfl | hz
      · omega
      · exact h.1 z hz

theorem St.put {N : Nat} {L : List Blk} {x : Blk} (h : St N L) (hx : InB N x) (hf : Free (LG L) x.2 (x.1 / 2 ^ x.2)) : St N (putB L x) :=
  ⟨h.n10, fun z hz => (mem_putB.1 hz).elim (fun e => e ▸ hx) (h.inb z), putB_asc h.asc fun _ hy => disj_of h.inb hx hf hy⟩

theorem LG_put {L : List Blk} {x : Blk} (hx : x.1 % 2 ^ x.2 = 0) : LG (putB L x) = add (LG L) x.2 (x.1 / 2 ^ x.2) := by
  funext k i
  refine propext ?_
  unfold LG add
  rw [mem_putB]
  constructor
  · rintro (rfl | h)
    · exact .inl ⟨rfl, (first k i).symm⟩
    · exact .inr h
  · rintro (⟨rfl, rfl⟩ | h)
    · exact .inl (by rw [mul_div hx])
    · exact .inr h

/-- A block less. -/
def delB (L : List Blk) (x : Blk) : List Blk := L.filter fun y => y != x

theorem mem_delB {L : List Blk} {x z : Blk} : z ∈ delB L x ↔ z ∈ L ∧ z ≠ x := by
  unfold delB; rw [List.mem_filter, bne_iff_ne]
theorem St.del {N : Nat} {L : List Blk} {x : Blk} (h : St N L) : St N (delB L x) :=
  ⟨h.n10, fun z hz => h.inb z (mem_delB.1 hz).1, h.asc.filter _⟩
theorem LG_del {L : List Blk} {x : Blk} (hx : x.1 % 2 ^ x.2 = 0) : LG (delB L x) = del (LG L) x.2 (x.1 / 2 ^ x.2) := by
  funext k i
  refine propext ?_
  unfold LG del
  rw [mem_delB]
  constructor
  · rintro ⟨h, hne⟩
    refine ⟨fun ⟨e1, e2⟩ => hne ?_, h⟩
    subst e1
    rw [e2, mul_div hx]
  · rintro ⟨hne, h⟩
    refine ⟨h, fun e => hne ?_⟩
    subst e
    exact ⟨rfl, (first k i).symm⟩

/-- What Alloc chooses: the least order that suffices, and of these the first. -/
def bestOf (n : Nat) : Option Blk → List Blk → Option Blk
  | a, [] => a
  | a, x :: l => bestOf n (if n ≤ x.2 ∧ (∀ y, a = some y → x.2 < y.2) then some x else a) l

def Best (n : Nat) (B : List Blk) (o : Option Blk) : Prop :=
  match o with
  | none => ∀ y ∈ B, y.2 < n
  | some x => x ∈ B ∧ n ≤ x.2 ∧ ∀ y ∈ B, n ≤ y.2 → x.2 < y.2 ∨ (x.2 = y.2 ∧ x.1 ≤ y.1)

theorem bestOf_spec {n : Nat} : ∀ {l : List Blk} {a : Option Blk} {pre : List Blk}, (pre ++ l).Pairwise (fun a b => a.1 < b.1) → Best n pre a → Best n (pre ++ l) (bestOf n a l) := by
  intro l
  induction l with
  | nil => intro a pre _ h; rw [List.append_nil, bestOf]; exact h
  | cons x l ih =>
    intro a pre hp h
    rw [bestOf]
    have e : pre ++ x :: l = (pre ++ [x]) ++ l := by simp
    rw [e] at hp ⊢
    refine ih hp ?_
    have hlt : ∀ y ∈ pre, y.1 < x.1 := fun y hy => by
      have h2 := (List.pairwise_append.1 (List.pairwise_append.1 hp).1).2.2
      exact h2 y hy x (List.mem_singleton.2 rfl)
    by_cases c : n ≤ x.2 ∧ (∀ y, a = some y → x.2 < y.2)
    · rw [if_pos c]
      refine ⟨by simp, c.1, fun y hy hn => ?_⟩
      rcases List.mem_append.1 hy with hy | hy
      · cases a with
        | none => have := h y hy; omega
        | some z =>
          have h3 := c.2 z rfl
          rcases h.2.2 y hy hn with h4 | h4
          · exact .inl (by omega)
          · exact .inl (by omega)
      · rw [List.mem_singleton] at hy
        subst hy
        exact .inr ⟨rfl, Nat.le_refl _⟩
    · rw [if_neg c]
      cases a with
      | none =>
        intro y hy
        rcases List.mem_append.1 hy with hy | hy
        · exact h y hy
        · rw [List.mem_singleton] at hy
          subst hy
          exact Nat.lt_of_not_le fun hn => c ⟨hn, fun y e => by cases e⟩
      | some z =>
        refine ⟨List.mem_append.2 (.inl h.1), h.2.1, fun y hy hn => ?_⟩
        rcases List.mem_append.1 hy with hy | hy
        · exact h.2.2 y hy hn
        · rw [List.mem_singleton] at hy
          subst hy
          have h5 : ¬ y.2 < z.2 := fun h6 => c ⟨hn, fun q e => by injection e with e; subst e; exact h6⟩
          by_cases e6 : z.2 = y.2
          · exact .inr ⟨e6, Nat.le_of_lt (hlt z h.1)⟩
          · exact .inl (by omega)

theorem asc_uniq {B : List Blk} (hB : B.Pairwise fun a b => a.1 < b.1) : ∀ x ∈ B, ∀ y ∈ B, x.1 = y.1 → x = y := by
  induction B with
  | nil => intro x hx; cases hx
  | cons z B ih =>
    intro x hx y hy e
    rw [List.pairwise_cons] at hB
    rcases List.mem_cons.1 hx with rfl | hx'
    · rcases List.mem_cons.1 hy with rfl | hy'
      · rfl
      · have := hB.1 y hy'; omega
    · rcases List.mem_cons.1 hy with rfl | hy'
      · have := hB.1 x hx'; omega
      · exact ih hB.2 x hx' y hy' e

theorem best_one {n : Nat} {B : List Blk} (hB : B.Pairwise fun a b => a.1 < b.1) {o o' : Option Blk} (h : Best n B o) (h' : Best n B o') : o = o' := by
  have uniq := asc_uniq hB
  cases o with
  | none =>
    cases o' with
    | none => rfl
    | some y => have := h y h'.1; have := h'.2.1; omega
  | some x =>
    cases o' with
    | none => have := h' x h.1; have := h.2.1; omega
    | some y =>
      congr 1
      have h1 := h.2.2 y h'.1 h'.2.1
      have h2 := h'.2.2 x h.1 h.2.1
      exact uniq x h.1 y h'.1 (by omega)

/-- Alloc: the block that is given, and the list. -/
def allocB (N : Nat) (L : List Blk) (n : Nat) : Option (Nat × List Blk) := (bestOf n none (blocksB N L)).map fun x => (x.1, putB L (x.1, n))

theorem alloc_best {N : Nat} {L : List Blk} (h : St N L) (n : Nat) : Best n (blocksB N L) (bestOf n none (blocksB N L)) := by
  have := bestOf_spec (n := n) (l := blocksB N L) (a := none) (pre := []) (by simpa using asc_lt (blocks_asc h)) (fun y hy => by cases hy)
  simpa using this

theorem IsFree.sub {N : Nat} {L : List Blk} {x : Blk} (h : IsFree N L x) {n : Nat} (hn : n ≤ x.2) : InB N (x.1, n) ∧ Free (LG L) n (x.1 / 2 ^ n) := by
  obtain ⟨h1, h2⟩ := h.lt
  have hm := mod_mul_of_le hn h.1
  have hle : 2 ^ n ≤ 2 ^ x.2 := Nat.pow_le_pow_right (by decide) hn
  refine ⟨⟨by show n ≤ N; omega, hm, by show x.1 + 2 ^ n ≤ 2 ^ N; omega⟩, ?_⟩
  obtain ⟨m, hmm⟩ := Nat.exists_eq_add_of_le hn
  refine Free.mono m ?_
  rw [← div_pow, ← hmm]
  exact h.2.2.2.1

theorem alloc_st {N : Nat} {L : List Blk} (h : St N L) {n p : Nat} {L' : List Blk} (ha : allocB N L n = some (p, L')) : St N L' := by
  unfold allocB at ha
  have hb := alloc_best h n
  cases e : bestOf n none (blocksB N L) with
  | none => rw [e] at ha; cases ha
  | some x =>
    rw [e] at ha hb
    injection ha with ha
    injection ha with h1 h2
    subst h2
    have := ((mem_blocks h x).1 hb.1).sub hb.2.1
    exact h.put this.1 this.2

/-- How many pages blocks of an order have room for. -/
def roomB (n : Nat) (B : List Blk) : Nat := (B.map fun x => if n ≤ x.2 then 2 ^ (x.2 - n) else 0).sum
/-- The greatest order. -/
def largeB : Option Nat → List Blk → Option Nat
  | a, [] => a
  | a, x :: l => largeB (some (max (a.getD 0) x.2)) l
/-- The first block that has a page. -/
def ownerB (L : List Blk) (p : Nat) : Option Blk := L.find? (hasP · p)

theorem ownerB_some {L : List Blk} {p : Nat} {x : Blk} (h : ownerB L p = some x) : x ∈ L ∧ x.1 ≤ p ∧ p < x.1 + 2 ^ x.2 := by
  unfold ownerB at h
  have h1 := List.find?_some h
  unfold hasP at h1
  rw [decide_eq_true_eq] at h1
  exact ⟨List.mem_of_find?_eq_some h, h1⟩
theorem ownerB_none {L : List Blk} {p : Nat} (h : ownerB L p = none) {x : Blk} (hx : x ∈ L) : ¬ (x.1 ≤ p ∧ p < x.1 + 2 ^ x.2) := by
  unfold ownerB at h
  have := List.find?_eq_none.1 h x hx
  unfold hasP at this
  simpa using this
theorem ownerB_of {N : Nat} {L : List Blk} (h : St N L) {p : Nat} {x : Blk} (hx : x ∈ L) (h1 : x.1 ≤ p) (h2 : p < x.1 + 2 ^ x.2) : ownerB L p = some x := by
  cases e : ownerB L p with
  | none => exact absurd ⟨h1, h2⟩ (ownerB_none e hx)
  | some y =>
    obtain ⟨g1, g2, g3⟩ := ownerB_some e
    rw [asc_one h.asc g1 hx g2 g3 h1 h2]
end Bu
end Go.Proofs.Ytdanhbbdkcbapaa
namespace Go.Proofs.Ytdanhbbdkcbapaa
open Go.RowKit
namespace Bu

theorem below_drewN {n : Nat} {w w' : World} (h : Below n w w') (q : Nat) : Below n w (w'.drewN q) := ⟨h.os, h.tape, h.output, h.size, h.block⟩
/-- A slice of blocks, with whatever numbers. -/
def ZAt (w : World) (A : Option Addr) (c : Nat) (L : List (Int × Int)) : Prop :=
  L.length ≤ c ∧ c ≤ maxLen ∧ ∀ (j : Nat) (x : Int × Int), L[j]? = some x → ∃ g o, A = some ⟨g, o, none⟩ ∧ g < w.heap.size ∧ w.cell? ⟨g, o + j * 2, none⟩ = some (.int .i64 x.1) ∧ w.cell? ⟨g, o + j * 2 + 1, none⟩ = some (.int .i64 x.2)

theorem ZAt.keep {w w' : World} {A : Option Addr} {c : Nat} {L : List (Int × Int)} (h : ZAt w A c L) (hs : w.heap.size ≤ w'.heap.size) (hk : ∀ g, A.map (·.block) = some g → g < w.heap.size → w'.heap[g]? = w.heap[g]?) : ZAt w' A c L := by
  refine ⟨h.1, h.2.1, fun j x hx => ?_⟩
  obtain ⟨g, o, hA, hg, h1, h2⟩ := h.2.2 j x hx
  have e := hk g (by rw [hA]; rfl) hg
  exact ⟨g, o, hA, by omega, (World.cell?_of_block (a := ⟨g, _, none⟩) e).trans h1, (World.cell?_of_block (a := ⟨g, _, none⟩) e).trans h2⟩
theorem ZAt.below {w w' : World} {A : Option Addr} {c : Nat} {L : List (Int × Int)} (h : ZAt w A c L) (hb : Below w.heap.size w w') : ZAt w' A c L :=
  h.keep hb.size fun g _ hg => hb.block g hg

def zb (x : Blk) : Int × Int := ((x.1 : Int), (x.2 : Int))
/-- A slice that reads as blocks. -/
def BlkAt (w : World) (A : Option Addr) (c : Nat) (L : List Blk) : Prop := ZAt w A c (L.map zb)
theorem BlkAt.keep {w w' : World} {A : Option Addr} {c : Nat} {L : List Blk} (h : BlkAt w A c L) (hs : w.heap.size ≤ w'.heap.size) (hk : ∀ g, A.map (·.block) = some g → g < w.heap.size → w'.heap[g]? = w.heap[g]?) : BlkAt w' A c L := ZAt.keep h hs hk
theorem BlkAt.below {w w' : World} {A : Option Addr} {c : Nat} {L : List Blk} (h : BlkAt w A c L) (hb : Below w.heap.size w w') : BlkAt w' A c L := ZAt.below h hb
theorem BlkAt.at {w : World} {A : Option Addr} {c : Nat} {L : List Blk} (h : BlkAt w A c L) {j : Nat} {x : Blk} (hx : L[j]? = some x) :
    ∃ g o, A = some ⟨g, o, none⟩ ∧ g < w.heap.size ∧ w.cell? ⟨g, o + j * 2, none⟩ = some (.int .i64 (x.1 : Int)) ∧ w.cell? ⟨g, o + j * 2 + 1, none⟩ = some (.int .i64 (x.2 : Int)) :=
  h.2.2 j (zb x) (by rw [List.getElem?_map, hx]; rfl)
theorem BlkAt.len {w : World} {A : Option Addr} {c : Nat} {L : List Blk} (h : BlkAt w A c L) : L.length ≤ c ∧ c ≤ maxLen := by
  have := h.1; rw [List.length_map] at this; exact ⟨this, h.2.1⟩

/-- A state as a value. -/
abbrev sv (N : Int) (A : Option Addr) (n c : Nat) : Value := .agg #[.int .i64 N, .slice A n c]

theorem order_ok (n : Int) (w : World) : Calls Try.prog 28 #[.int .i64 n] w fun e w' => e = .returned (.bool (decide (0 ≤ n ∧ n ≤ 10))) ∧ w = w' := by
  have hc : (n < 0) ∨ (0 ≤ n ∧ n ≤ 10) ∨ (0 ≤ n ∧ 10 < n) := by omega
  rcases hc with h | ⟨h, h2⟩ | ⟨h, h2⟩
  · go_enter Try.func28, Try.ntmps28
    go_wp2
    go_ret
    exact ⟨congrArg (fun x => Ending.returned (.bool x)) (by simp; omega), rfl⟩
  · go_enter Try.func28, Try.ntmps28
    go_wp2
    go_ret
    exact ⟨congrArg (fun x => Ending.returned (.bool x)) (by simp; omega), rfl⟩
  · go_enter Try.func28, Try.ntmps28
    go_wp2
    go_ret
    exact ⟨congrArg (fun x => Ending.returned (.bool x)) (by simp; omega), rfl⟩

theorem size_ok (n : Nat) (w : World) (hn : n ≤ 11) : Calls Try.prog 15 #[.int .i64 (n : Int)] w fun e w' => e = .returned (.int .i64 ((2 ^ n : Nat) : Int)) ∧ w = w' := by
  have hp := pow_w64 n hn
  have hu : IntKind.u64.wrap (n : Int) = (n : Int) := by simp [IntKind.wrap, IntKind.bits, IntKind.signed]; omega
  have h0 : (0 : Int) ≤ (n : Int) := by omega
  have hmin : min n 64 = n := by omega
  obtain ⟨M, hM⟩ : ∃ M : Nat, M = 2 ^ n := ⟨_, rfl⟩
  rw [← hM] at hp ⊢
  clear hM
  go_enter Try.func15, Try.ntmps15
  go_wp2
  go_ret
  exact ⟨congrArg (fun x => Ending.returned (.int .i64 x)) hp, rfl⟩

/-- In, of whatever numbers. -/
def inZ (N : Nat) (p n : Int) : Bool := decide (0 ≤ n ∧ n ≤ 10 ∧ n ≤ N ∧ 0 ≤ p ∧ InB N (p.toNat, n.toNat))

theorem inZ_nat {N : Nat} (hN : N ≤ 10) (p n : Nat) : inZ N (p : Int) (n : Int) = decide (InB N (p, n)) := by
  unfold inZ
  rw [decide_eq_decide]
  constructor
  · rintro ⟨_, _, _, _, h⟩; simpa using h
  · intro h
    have h1 : n ≤ N := h.1
    exact ⟨by omega, by omega, by omega, by omega, by simpa using h⟩
theorem inZ_true {N : Nat} {p n : Int} (h : inZ N p n = true) : ∃ q k : Nat, p = q ∧ n = k ∧ InB N (q, k) := by
  unfold inZ at h
  rw [decide_eq_true_eq] at h
  exact ⟨p.toNat, n.toNat, by omega, by omega, h.2.2.2.2⟩

set_option maxRecDepth 100000 in
set_option maxHeartbeats 1000000 in
theorem inR_nat (N p n : Nat) (hN : N ≤ 10) (hn : n ≤ N) (w : World) :
    Calls Try.prog 17 #[.int .i64 (N : Int), .int .i64 (p : Int), .int .i64 (n : Int)] w fun e w' => e = .returned (.bool (decide (InB N (p, n)))) ∧ w = w' := by
  have HO0 := order_ok (n : Int) w
  rw [decide_eq_true (show (0 : Int) ≤ (n : Int) ∧ (n : Int) ≤ 10 by omega)] at HO0
  have HO := Lib.hid HO0
  have HN := Lib.hid (size_ok N w (by omega))
  have Hn := Lib.hid (size_ok n w (by omega))
  have hle : 2 ^ n ≤ 2 ^ N := Nat.pow_le_pow_right (by decide) hn
  have hlt : 2 ^ N ≤ 1024 := by
    have : 2 ^ N ≤ 2 ^ 10 := Nat.pow_le_pow_right (by omega) hN
    omega
  have hpos := pow_pos2 n
  have hin : InB N (p, n) ↔ p % 2 ^ n = 0 ∧ p + 2 ^ n ≤ 2 ^ N := ⟨fun h => h.2, fun h => ⟨hn, h⟩⟩
  obtain ⟨M, hM⟩ : ∃ M : Nat, M = 2 ^ N := ⟨_, rfl⟩
  obtain ⟨m, hm⟩ : ∃ m : Nat, m = 2 ^ n := ⟨_, rfl⟩
  rw [← hM] at HN hle hlt hin
  rw [← hm] at Hn hle hpos hin
  have e1 : (0 : Int) ≤ (n : Int) := by omega
  have e2 : (n : Int) ≤ (N : Int) := by omega
  have e3 : (0 : Int) ≤ (p : Int) := by omega
  have hsub : IntKind.i64.wrap ((M : Int) - (m : Int)) = ((M - m : Nat) : Int) := by rw [IntWalk.i64_in _ (by omega)]; omega
  have hsub2 : (M : Int) - (m : Int) = ((M - m : Nat) : Int) := by omega
  have H2 := Lib.hid hsub2
  have HI := Lib.hid hin
  clear HO0 hM hm hin hsub2
  by_cases hp : p ≤ M - m
  · have e4 : (p : Int) ≤ ((M - m : Nat) : Int) := by omega
    have e5 : (p : Int) ≤ (M : Int) - (m : Int) := by omega
    have hmm : ((m : Nat) : Int) ≠ 0 := by omega
    have hdec : decide (InB N (p, n)) = (((p : Int) % (m : Int)) == 0) := by
      rw [Bool.eq_iff_iff, decide_eq_true_eq, beq_iff_eq, HI.out]
      omega
    have HD := Lib.hid hdec
    clear hdec
    go_enter Try.func17, Try.ntmps17
    go_wp2_with (first | (go_at_call 28; refine HO.out.mono ?_; rintro e w' ⟨rfl, rfl⟩) | (go_at_call 15; refine HN.out.mono ?_; rintro e w' ⟨rfl, rfl⟩) | (go_at_call 15; refine Hn.out.mono ?_; rintro e w' ⟨rfl, rfl⟩))
    go_ret
    exact ⟨congrArg (fun x => Ending.returned (.bool x)) HD.out.symm, rfl⟩
  · have e4 : (((M - m : Nat) : Int)) < (p : Int) := by omega
    have e5 : ¬ (p : Int) ≤ (M : Int) - (m : Int) := by omega
    have hdec : decide (InB N (p, n)) = false := by rw [decide_eq_false_iff_not, HI.out]; omega
    have HD := Lib.hid hdec
    clear hdec
    go_enter Try.func17, Try.ntmps17
    go_wp2_with (first | (go_at_call 28; refine HO.out.mono ?_; rintro e w' ⟨rfl, rfl⟩) | (go_at_call 15; refine HN.out.mono ?_; rintro e w' ⟨rfl, rfl⟩) | (go_at_call 15; refine Hn.out.mono ?_; rintro e w' ⟨rfl, rfl⟩))
    go_ret
    exact ⟨congrArg (fun x => Ending.returned (.bool x)) HD.out.symm, rfl⟩

set_option maxRecDepth 100000 in
set_option maxHeartbeats 1000000 in
theorem inR_bad (N : Nat) (p n : Int) (hN : N ≤ 10) (h : n < 0 ∨ 10 < n ∨ (0 ≤ n ∧ n ≤ 10 ∧ (N : Int) < n) ∨ (0 ≤ n ∧ n ≤ 10 ∧ n ≤ N ∧ p < 0)) (w : World) :
    Calls Try.prog 17 #[.int .i64 (N : Int), .int .i64 p, .int .i64 n] w fun e w' => e = .returned (.bool false) ∧ w = w' := by
  have HO0 := order_ok n w
  rcases h with h | h | ⟨h, h2, h3⟩ | ⟨h, h2, h3, h4⟩
  · rw [decide_eq_false (show ¬ ((0 : Int) ≤ n ∧ n ≤ 10) by omega)] at HO0
    have HO := Lib.hid HO0
    clear HO0
    go_enter Try.func17, Try.ntmps17
    go_wp2_with (go_at_call 28; refine HO.out.mono ?_; rintro e w' ⟨rfl, rfl⟩)
    go_ret
    exact ⟨rfl, rfl⟩
  · rw [decide_eq_false (show ¬ ((0 : Int) ≤ n ∧ n ≤ 10) by omega)] at HO0
    have HO := Lib.hid HO0
    clear HO0
    go_enter Try.func17, Try.ntmps17
    go_wp2_with (go_at_call 28; refine HO.out.mono ?_; rintro e w' ⟨rfl, rfl⟩)
    go_ret
    exact ⟨rfl, rfl⟩
  · rw [decide_eq_true (show ((0 : Int) ≤ n ∧ n ≤ 10) by omega)] at HO0
    have HO := Lib.hid HO0
    clear HO0
    go_enter Try.func17, Try.ntmps17
    go_wp2_with (go_at_call 28; refine HO.out.mono ?_; rintro e w' ⟨rfl, rfl⟩)
    go_ret
    exact ⟨rfl, rfl⟩
  · rw [decide_eq_true (show ((0 : Int) ≤ n ∧ n ≤ 10) by omega)] at HO0
    have HO := Lib.hid HO0
    clear HO0
    go_enter Try.func17, Try.ntmps17
    go_wp2_with (go_at_call 28; refine HO.out.mono ?_; rintro e w' ⟨rfl, rfl⟩)
    go_ret
    exact ⟨rfl, rfl⟩

theorem inR_ok (N : Nat) (p n : Int) (hN : N ≤ 10) (w : World) :
    Calls Try.prog 17 #[.int .i64 (N : Int), .int .i64 p, .int .i64 n] w fun e w' => e = .returned (.bool (inZ N p n)) ∧ w = w' := by
  by_cases h : 0 ≤ n ∧ n ≤ 10 ∧ n ≤ N ∧ 0 ≤ p
  · obtain ⟨h1, h2, h3, h4⟩ := h
    obtain ⟨k, rfl⟩ := Int.eq_ofNat_of_zero_le h1
    obtain ⟨q, rfl⟩ := Int.eq_ofNat_of_zero_le h4
    rw [inZ_nat hN]
    exact inR_nat N q k hN (by omega) w
  · have e : inZ N p n = false := by
      unfold inZ
      rw [decide_eq_false_iff_not]
      rintro ⟨h1, h2, h3, h4, _⟩
      exact h ⟨h1, h2, h3, h4⟩
    rw [e]
    exact inR_bad N p n hN (by omega) w
end Bu
end Go.Proofs.Ytdanhbbdkcbapaa
