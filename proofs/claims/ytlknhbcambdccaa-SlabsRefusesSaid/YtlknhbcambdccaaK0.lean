/- Blocks of powers of two pages: the plain law of the buddy allocator. No program here. Lists of blocks: what the specification says of them, in plain words. No program here. The operations of the specification on lists of blocks. No program here. Room counts the free blocks of an order. No program here. -/
namespace Go.Proofs.Ytlknhbcambdccaa
namespace Bu

/-- Given blocks: G k i: the block of order k with the index i (its pages are i * 2^k up to (i + 1) * 2^k) is given. -/
abbrev Bl := Nat → Nat → Prop

def Used (G : Bl) (x : Nat) : Prop := ∃ k, G k (x / 2 ^ k)
def Free (G : Bl) (k i : Nat) : Prop := ∀ x, x / 2 ^ k = i → ¬ Used G x

/-- A free block that is no half of a free block. -/
def MaxFree (G : Bl) (N k i : Nat) : Prop := k ≤ N ∧ i < 2 ^ (N - k) ∧ Free G k i ∧ (k = N ∨ ¬ Free G (k + 1) (i / 2))

/-- Given blocks lie in the range, and have no page in common. -/
structure Ok (G : Bl) (N : Nat) : Prop where
  low : ∀ k i, G k i → k ≤ N ∧ i < 2 ^ (N - k)
  one : ∀ k i k' i' x, G k i → G k' i' → x / 2 ^ k = i → x / 2 ^ k' = i' → k = k' ∧ i = i'

theorem div_pow (x k m : Nat) : x / 2 ^ (k + m) = x / 2 ^ k / 2 ^ m := by
  rw [Nat.pow_add, Nat.div_div_eq_div_mul]

theorem first (k i : Nat) : i * 2 ^ k / 2 ^ k = i := Nat.mul_div_cancel _ (Nat.pow_pos (by decide))

theorem Free.mono {G : Bl} {k i : Nat} (m : Nat) (h : Free G (k + m) (i / 2 ^ m)) : Free G k i := fun x hx => h x (by rw [div_pow, hx])

theorem free_up {G : Bl} {k i : Nat} : Free G (k + 1) i ↔ Free G k (2 * i) ∧ Free G k (2 * i + 1) := by
  constructor
  · intro h
    constructor
    · exact Free.mono 1 (by rw [Nat.pow_one, Nat.mul_div_cancel_left _ (by decide)]; exact h)
    · exact Free.mono 1 (by rw [Nat.pow_one, show (2 * i + 1) / 2 = i by omega]; exact h)
  · rintro ⟨h1, h2⟩ x hx
    rw [div_pow, Nat.pow_one] at hx
    have : x / 2 ^ k = 2 * i ∨ x / 2 ^ k = 2 * i + 1 := by omega
    rcases this with e | e
    · exact h1 x e
    · exact h2 x e

/-- A given block is not free, and neither is a block around it, or one within it. -/
theorem not_free {G : Bl} {k i : Nat} (h : G k i) (m : Nat) : ¬ Free G (k + m) (i / 2 ^ m) := fun hf => by
  have := hf (i * 2 ^ k) (by rw [div_pow, first])
  exact this ⟨k, by rw [first]; exact h⟩

theorem free_iff {G : Bl} {k i : Nat} : Free G k i ↔ (∀ m, ¬ G (k + m) (i / 2 ^ m)) ∧ ∀ m j, k = j + m → ∀ a, a / 2 ^ m = i → ¬ G j a := by
  constructor
  · intro h
    refine ⟨fun m hg => h (i * 2 ^ k) (first k i) ⟨k + m, by rw [div_pow, first]; exact hg⟩, fun m j hj a ha hg => ?_⟩
    refine h (a * 2 ^ j) (by rw [hj, div_pow, first, ha]) ⟨j, by rw [first]; exact hg⟩
  · rintro ⟨h1, h2⟩ x hx ⟨j, hg⟩
    rcases Nat.le_total k j with e | e
    · obtain ⟨m, rfl⟩ := Nat.exists_eq_add_of_le e
      rw [div_pow, hx] at hg
      exact h1 m hg
    · obtain ⟨m, rfl⟩ := Nat.exists_eq_add_of_le e
      exact h2 m j rfl (x / 2 ^ j) (by rw [← div_pow, hx]) hg

/-- Each free block lies in one that is no half of a free block. -/
theorem around {G : Bl} {N k i : Nat} (hk : k ≤ N) (hi : i < 2 ^ (N - k)) (h : Free G k i) : ∃ m, MaxFree G N (k + m) (i / 2 ^ m) := by
  obtain ⟨n, hn⟩ : ∃ n, n = N - k := ⟨_, rfl⟩
  induction n generalizing k i with
  | zero => exact ⟨0, hk, by simpa using hi, by simpa using h, .inl (by omega)⟩
  | succ n ih =>
    by_cases hf : Free G (k + 1) (i / 2)
    · have hi' : i / 2 < 2 ^ (N - (k + 1)) := by
        have : 2 ^ (N - k) = 2 * 2 ^ (N - (k + 1)) := by rw [show N - k = N - (k + 1) + 1 by omega, Nat.pow_succ]; omega
        omega
      obtain ⟨m, hm⟩ := ih (by omega) hi' hf (by omega)
      refine ⟨m + 1, ?_⟩
      rw [show k + (m + 1) = k + 1 + m by omega, show 2 ^ (m + 1) = 2 * 2 ^ m by rw [Nat.pow_succ]; omega, ← Nat.div_div_eq_div_mul]
      exact hm
    · exact ⟨0, hk, by simpa using hi, by simpa using h, .inr (by simpa using hf)⟩

/-- .. and in one alone. -/
theorem around_one {G : Bl} {N k i m m' : Nat} (h : MaxFree G N (k + m) (i / 2 ^ m)) (h' : MaxFree G N (k + m') (i / 2 ^ m')) : m = m' := by
  have key : ∀ a b, a < b → MaxFree G N (k + a) (i / 2 ^ a) → MaxFree G N (k + b) (i / 2 ^ b) → False := by
    intro a b hab ha hb
    obtain ⟨_, _, _, h4⟩ := ha
    obtain ⟨b1, _, b3, _⟩ := hb
    rcases h4 with h4 | h4
    · omega
    · refine h4 (Free.mono (b - a - 1) ?_)
      obtain ⟨c, hc⟩ : ∃ c, b = a + 1 + c := ⟨b - a - 1, by omega⟩
      subst hc
      rw [show a + 1 + c - a - 1 = c by omega, show k + a + 1 + c = k + (a + 1 + c) by omega, Nat.div_div_eq_div_mul, Nat.div_div_eq_div_mul, show 2 ^ a * (2 * 2 ^ c) = 2 ^ (a + 1 + c) by rw [Nat.pow_add, Nat.pow_add, Nat.pow_one, Nat.mul_assoc]]
      exact b3
  rcases Nat.lt_trichotomy m m' with e | e | e
  · exact (key m m' e h h').elim
  · exact e
  · exact (key m' m e h' h).elim

def add (G : Bl) (k i : Nat) : Bl := fun a b => (a = k ∧ b = i) ∨ G a b
def del (G : Bl) (k i : Nat) : Bl := fun a b => ¬ (a = k ∧ b = i) ∧ G a b

theorem used_add {G : Bl} {k i x : Nat} : Used (add G k i) x ↔ x / 2 ^ k = i ∨ Used G x := by
  constructor
  · rintro ⟨a, ⟨rfl, e⟩ | h⟩
    · exact .inl e
    · exact .inr ⟨a, h⟩
  · rintro (e | ⟨a, h⟩)
    · exact ⟨k, .inl ⟨rfl, e⟩⟩
    · exact ⟨a, .inr h⟩

theorem Ok.add {G : Bl} {N k i : Nat} (h : Ok G N) (hk : k ≤ N) (hi : i < 2 ^ (N - k)) (hf : Free G k i) : Ok (add G k i) N := by
  refine ⟨?_, ?_⟩
  · rintro a b (⟨rfl, rfl⟩ | hg)
    · exact ⟨hk, hi⟩
    · exact h.low a b hg
  · rintro a b a' b' x (⟨rfl, rfl⟩ | hg) (⟨rfl, rfl⟩ | hg') h1 h2
    · exact ⟨rfl, rfl⟩
    · exact absurd ⟨a', by rw [h2]; exact hg'⟩ (hf x h1)
    · exact absurd ⟨a, by rw [h1]; exact hg⟩ (hf x h2)
    · exact h.one a b a' b' x hg hg' h1 h2

theorem Ok.del {G : Bl} {N k i : Nat} (h : Ok G N) : Ok (del G k i) N :=
  ⟨fun a b hg => h.low a b hg.2, fun a b a' b' x hg hg' h1 h2 => h.one a b a' b' x hg.2 hg'.2 h1 h2⟩

theorem used_del {G : Bl} {N k i x : Nat} (h : Ok G N) (hg : G k i) : Used (del G k i) x ↔ Used G x ∧ x / 2 ^ k ≠ i := by
  constructor
  · rintro ⟨a, hn, ha⟩
    refine ⟨⟨a, ha⟩, fun e => ?_⟩
    obtain ⟨e1, e2⟩ := h.one a _ k i x ha hg rfl e
    exact hn ⟨e1, e2⟩
  · rintro ⟨⟨a, ha⟩, hne⟩
    exact ⟨a, fun ⟨e1, e2⟩ => hne (by rw [← e1]; exact e2), ha⟩

/-- The other half. -/
def sib (i : Nat) : Nat := if i % 2 = 0 then i + 1 else i - 1

theorem sib_half (i : Nat) : sib i / 2 = i / 2 := by unfold sib; split <;> omega
theorem sib_ne (i : Nat) : sib i ≠ i := by unfold sib; split <;> omega
theorem sib_of {a b : Nat} (h : a / 2 = b / 2) (hne : a ≠ b) : b = sib a := by unfold sib; split <;> omega

theorem pow_split (N k : Nat) (h : k + 1 ≤ N) : 2 ^ (N - k) = 2 * 2 ^ (N - (k + 1)) := by
  rw [show N - k = N - (k + 1) + 1 by omega, Nat.pow_succ]; omega

theorem div_step (i j : Nat) : i / 2 ^ (j + 1) = i / 2 ^ j / 2 := by rw [Nat.pow_succ, Nat.div_div_eq_div_mul]

theorem free_add {G : Bl} {k i a b : Nat} : Free (add G k i) a b ↔ Free G a b ∧ ∀ x, x / 2 ^ a = b → x / 2 ^ k ≠ i := by
  constructor
  · intro h
    exact ⟨fun x hx hu => h x hx (used_add.2 (.inr hu)), fun x hx e => h x hx (used_add.2 (.inl e))⟩
  · rintro ⟨h1, h2⟩ x hx hu
    rcases used_add.1 hu with e | e
    · exact h2 x hx e
    · exact h1 x hx e

/-- A block is carved out of the free block around it: the other halves become free blocks. -/
theorem carve {G : Bl} {N k i m : Nat} (hB : MaxFree G N (k + m) (i / 2 ^ m)) (a b : Nat) :
    MaxFree (add G k i) N a b ↔ (MaxFree G N a b ∧ ¬ (a = k + m ∧ b = i / 2 ^ m)) ∨ ∃ j, j < m ∧ a = k + j ∧ b = sib (i / 2 ^ j) := by
  obtain ⟨B1, B2, B3, B4⟩ := hB
  constructor
  · rintro ⟨h1, h2, h3, h4⟩
    obtain ⟨hf, hd⟩ := free_add.1 h3
    by_cases hp : a = N ∨ ¬ Free G (a + 1) (b / 2)
    · refine .inl ⟨⟨h1, h2, hf, hp⟩, ?_⟩
      rintro ⟨rfl, rfl⟩
      exact hd (i * 2 ^ k) (by rw [div_pow, first]) (first k i)
    · obtain ⟨hne, hpf⟩ := not_or.1 hp
      have hpf : Free G (a + 1) (b / 2) := Classical.not_not.1 hpf
      rcases h4 with h4 | h4
      · exact absurd h4 hne
      · -- the parent meets the block that was given
        have hm : ∃ x, x / 2 ^ (a + 1) = b / 2 ∧ x / 2 ^ k = i := by
          refine Classical.byContradiction fun hno => h4 (free_add.2 ⟨hpf, fun x hx e => hno ⟨x, hx, e⟩⟩)
        obtain ⟨x, hx, hxi⟩ := hm
        have hka : k ≤ a := by
          refine Nat.le_of_not_lt fun hlt => ?_
          obtain ⟨c, hc⟩ : ∃ c, k = a + 1 + c := ⟨k - (a + 1), by omega⟩
          refine hd (b * 2 ^ a) (first a b) ?_
          rw [hc, div_pow, div_pow (b * 2 ^ a) a 1, first, Nat.pow_one, ← hx, ← div_pow, ← hc, hxi]
        obtain ⟨j, rfl⟩ := Nat.exists_eq_add_of_le hka
        have e1 : i / 2 ^ j / 2 = b / 2 := by
          rw [← hx, ← hxi, ← div_step, ← div_pow, show k + (j + 1) = k + j + 1 by omega]
        have e2 : i / 2 ^ j ≠ b := by
          intro e
          exact hd (i * 2 ^ k) (by rw [div_pow, first, e]) (first k i)
        refine .inr ⟨j, ?_, rfl, sib_of e1 e2⟩
        refine Nat.lt_of_not_le fun hmj => ?_
        rcases B4 with B4 | B4
        · omega
        · refine B4 ?_
          obtain ⟨c, rfl⟩ := Nat.exists_eq_add_of_le hmj
          refine Free.mono c ?_
          rw [show k + m + 1 + c = k + (m + c) + 1 by omega, Nat.div_div_eq_div_mul, Nat.div_div_eq_div_mul, show 2 ^ m * (2 * 2 ^ c) = 2 ^ (m + c) * 2 by rw [Nat.pow_add, Nat.mul_comm 2 (2 ^ c), Nat.mul_assoc], ← Nat.div_div_eq_div_mul, e1]
          exact hpf
  · rintro (⟨⟨h1, h2, h3, h4⟩, hne⟩ | ⟨j, hj, rfl, rfl⟩)
    · have hd : ∀ x, x / 2 ^ a = b → x / 2 ^ k ≠ i := by
        intro x hx hxi
        rcases Nat.le_total k a with e | e
        · obtain ⟨j, rfl⟩ := Nat.exists_eq_add_of_le e
          rw [div_pow, hxi] at hx
          subst hx
          have := around_one ⟨h1, h2, h3, h4⟩ ⟨B1, B2, B3, B4⟩
          subst this
          exact hne ⟨rfl, rfl⟩
        · by_cases e' : a = k
          · subst e'
            rw [hx] at hxi
            subst hxi
            have h5 : MaxFree G N (a + 0) (b / 2 ^ 0) := by rw [Nat.pow_zero, Nat.div_one]; exact ⟨h1, h2, h3, h4⟩
            have := around_one h5 ⟨B1, B2, B3, B4⟩
            subst this
            exact hne ⟨rfl, by simp⟩
          · rcases h4 with h4 | h4
            · omega
            · obtain ⟨c, rfl⟩ : ∃ c, k = a + 1 + c := ⟨k - (a + 1), by omega⟩
              refine h4 (Free.mono (c + m) ?_)
              have : b / 2 / 2 ^ (c + m) = i / 2 ^ m := by
                rw [← hxi, ← hx, Nat.pow_add, ← Nat.div_div_eq_div_mul, div_pow x (a + 1) c, div_pow x a 1, Nat.pow_one]
              rw [this, show a + 1 + (c + m) = a + 1 + c + m by omega]
              exact B3
      refine ⟨h1, h2, free_add.2 ⟨h3, hd⟩, h4.imp id fun h4 hf => h4 (free_add.1 hf).1⟩
    · obtain ⟨c, rfl⟩ : ∃ c, m = j + 1 + c := ⟨m - (j + 1), by omega⟩
      have hpar : Free G (k + j + 1) (i / 2 ^ j / 2) := by
        refine Free.mono c ?_
        rw [show k + j + 1 + c = k + (j + 1 + c) by omega, ← div_step, Nat.div_div_eq_div_mul, ← Nat.pow_add]
        exact B3
      have hsf : Free G (k + j) (sib (i / 2 ^ j)) := Free.mono 1 (by rw [Nat.pow_one, sib_half]; exact hpar)
      refine ⟨by omega, ?_, free_add.2 ⟨hsf, fun x hx hxi => ?_⟩, .inr fun hf => ?_⟩
      · have hb : i / 2 ^ j / 2 < 2 ^ (N - (k + j + 1)) := by
          have : i / 2 ^ j / 2 / 2 ^ c < 2 ^ (N - (k + (j + 1 + c))) := by
            rw [← div_step, Nat.div_div_eq_div_mul, ← Nat.pow_add]; exact B2
          have h2 := (Nat.div_lt_iff_lt_mul (Nat.pow_pos (by decide))).1 this
          rw [← Nat.pow_add, show N - (k + (j + 1 + c)) + c = N - (k + j + 1) by omega] at h2
          exact h2
        have := pow_split N (k + j) (by omega)
        have := sib_half (i / 2 ^ j)
        omega
      · rw [div_pow, hxi] at hx
        exact sib_ne _ hx.symm
      · refine (free_add.1 hf).2 (i * 2 ^ k) ?_ (first k i)
        rw [div_pow _ (k + j) 1, div_pow, first, Nat.pow_one, sib_half]

/-- A block is taken back: halves are put together. -/
theorem merge {G : Bl} {N k i m : Nat} (hG : Ok G N) (hg : G k i) (hB : MaxFree (del G k i) N (k + m) (i / 2 ^ m)) (a b : Nat) :
    MaxFree (del G k i) N a b ↔ (MaxFree G N a b ∧ ¬ ∃ j, j < m ∧ a = k + j ∧ b = sib (i / 2 ^ j)) ∨ (a = k + m ∧ b = i / 2 ^ m) := by
  have hc := carve hB a b
  have e : add (del G k i) k i = G := by
    funext a b
    refine propext ⟨?_, fun h => ?_⟩
    · rintro (⟨rfl, rfl⟩ | h)
      · exact hg
      · exact h.2
    · by_cases e : a = k ∧ b = i
      · exact .inl e
      · exact .inr ⟨e, h⟩
  rw [e] at hc
  constructor
  · intro h
    by_cases hb : a = k + m ∧ b = i / 2 ^ m
    · exact .inr hb
    · refine .inl ⟨hc.2 (.inl ⟨h, hb⟩), ?_⟩
      rintro ⟨j, hj, rfl, rfl⟩
      obtain ⟨_, _, _, h4⟩ := h
      rcases h4 with h4 | h4
      · have := hB.1; omega
      · refine h4 ?_
        obtain ⟨c, rfl⟩ : ∃ c, m = j + 1 + c := ⟨m - (j + 1), by omega⟩
        rw [sib_half]
        refine Free.mono c ?_
        rw [show k + j + 1 + c = k + (j + 1 + c) by omega, ← div_step, Nat.div_div_eq_div_mul, ← Nat.pow_add]
        exact hB.2.2.1
  · rintro (⟨h, hno⟩ | ⟨rfl, rfl⟩)
    · rcases hc.1 h with h | h
      · exact h.1
      · exact absurd h hno
    · exact hB

theorem free_del_self {G : Bl} {N k i : Nat} (hG : Ok G N) (hg : G k i) : Free (del G k i) k i := fun x hx hu => ((used_del hG hg).1 hu).2 hx

/-- The halves are put together as long as the other half is a free block. -/
theorem merge_on {G : Bl} {N k i m : Nat} (hG : Ok G N) (hg : G k i) (hf : Free (del G k i) (k + m) (i / 2 ^ m)) (hs : MaxFree G N (k + m) (sib (i / 2 ^ m))) : Free (del G k i) (k + (m + 1)) (i / 2 ^ (m + 1)) := by
  rw [show k + (m + 1) = k + m + 1 by omega, div_step]
  have h2 : Free (del G k i) (k + m) (sib (i / 2 ^ m)) := fun x hx hu => hs.2.2.1 x hx ((used_del hG hg).1 hu).1
  rw [free_up]
  have h3 := sib_half (i / 2 ^ m)
  have h4 := sib_ne (i / 2 ^ m)
  by_cases e : i / 2 ^ m % 2 = 0
  · have e1 : 2 * (i / 2 ^ m / 2) = i / 2 ^ m := by omega
    have e2 : sib (i / 2 ^ m) = i / 2 ^ m + 1 := by unfold sib; rw [if_pos e]
    rw [e1, ← e2]
    exact ⟨hf, h2⟩
  · have e1 : 2 * (i / 2 ^ m / 2) + 1 = i / 2 ^ m := by omega
    have e2 : sib (i / 2 ^ m) = 2 * (i / 2 ^ m / 2) := by unfold sib; rw [if_neg e]; omega
    rw [e1, ← e2]
    exact ⟨h2, hf⟩

theorem merge_end {G : Bl} {N k i m : Nat} (hG : Ok G N) (hg : G k i) (hf : Free (del G k i) (k + m) (i / 2 ^ m)) (hm : k + m ≤ N) (hs : k + m = N ∨ ¬ MaxFree G N (k + m) (sib (i / 2 ^ m))) : MaxFree (del G k i) N (k + m) (i / 2 ^ m) := by
  have hlow := hG.low k i hg
  have hidx : ∀ m, k + m ≤ N → i / 2 ^ m < 2 ^ (N - (k + m)) := by
    intro m hm
    rw [Nat.div_lt_iff_lt_mul (Nat.pow_pos (by decide)), ← Nat.pow_add, show N - (k + m) + m = N - k by omega]
    exact hlow.2
  by_cases hN : k + m = N
  · exact ⟨hm, hidx m hm, hf, .inl hN⟩
  · refine ⟨hm, hidx m hm, hf, hs.imp id fun hs hp => hs ?_⟩
    have hsf : Free (del G k i) (k + m) (sib (i / 2 ^ m)) := Free.mono 1 (by rw [Nat.pow_one, sib_half]; exact hp)
    refine ⟨hm, ?_, fun x hx hu => ?_, .inr fun hpf => ?_⟩
    · have h1 := hidx (m + 1) (by omega)
      rw [div_step] at h1
      have := pow_split N (k + m) (by omega)
      have := sib_half (i / 2 ^ m)
      rw [show k + (m + 1) = k + m + 1 by omega] at h1
      omega
    · refine hsf x hx ((used_del hG hg).2 ⟨hu, fun e => ?_⟩)
      rw [div_pow, e] at hx
      exact sib_ne _ hx.symm
    · rw [sib_half, ← div_step, show k + m + 1 = k + (m + 1) by omega] at hpf
      exact not_free hg (m + 1) hpf
end Bu
end Go.Proofs.Ytlknhbcambdccaa
namespace Go.Proofs.Ytlknhbcambdccaa
namespace Bu

/-- A block: its page, and its order. -/
abbrev Blk := Nat × Nat
def Blk.hi (x : Blk) : Nat := x.1 + 2 ^ x.2
def InB (N : Nat) (x : Blk) : Prop := x.2 ≤ N ∧ x.1 % 2 ^ x.2 = 0 ∧ x.1 + 2 ^ x.2 ≤ 2 ^ N

instance (N : Nat) (x : Blk) : Decidable (InB N x) := by unfold InB; infer_instance

/-- A valid state. -/
structure St (N : Nat) (L : List Blk) : Prop where
  n10 : N ≤ 10
  inb : ∀ x ∈ L, InB N x
  asc : L.Pairwise fun a b => a.1 + 2 ^ a.2 ≤ b.1

/-- The given blocks of a list. -/
def LG (L : List Blk) : Bl := fun k i => (i * 2 ^ k, k) ∈ L

theorem pow_pos2 (k : Nat) : 0 < 2 ^ k := Nat.pow_pos (by decide)
theorem within {p k x : Nat} (h : p % 2 ^ k = 0) : (p ≤ x ∧ x < p + 2 ^ k) ↔ x / 2 ^ k = p / 2 ^ k := by
  have hp := pow_pos2 k
  have h1 := Nat.div_add_mod p (2 ^ k)
  rw [h, Nat.add_zero] at h1
  constructor
  · rintro ⟨a, b⟩
    refine Nat.div_eq_of_lt_le ?_ ?_
    · rw [Nat.mul_comm, h1]; exact a
    · rw [Nat.add_mul, Nat.one_mul, Nat.mul_comm (p / 2 ^ k), h1]; exact b
  · intro e
    have h2 := Nat.div_add_mod x (2 ^ k)
    have h3 := Nat.mod_lt x hp
    rw [e, h1] at h2
    omega

theorem mul_div {p k : Nat} (h : p % 2 ^ k = 0) : p / 2 ^ k * 2 ^ k = p := Nat.div_mul_cancel (Nat.dvd_of_mod_eq_zero h)

theorem mem_LG {L : List Blk} {p k : Nat} (h : p % 2 ^ k = 0) : LG L k (p / 2 ^ k) ↔ (p, k) ∈ L := by
  unfold LG; rw [mul_div h]

theorem asc_one {L : List Blk} (h : L.Pairwise fun a b => a.1 + 2 ^ a.2 ≤ b.1) {a b : Blk} (ha : a ∈ L) (hb : b ∈ L) {x : Nat} (h1 : a.1 ≤ x) (h2 : x < a.1 + 2 ^ a.2) (h3 : b.1 ≤ x) (h4 : x < b.1 + 2 ^ b.2) : a = b := by
  induction L with
  | nil => cases ha
  | cons y L ih =>
    rw [List.pairwise_cons] at h
    rcases List.mem_cons.1 ha with rfl | ha'
    · rcases List.mem_cons.1 hb with rfl | hb'
      · rfl
      · have := h.1 b hb'; omega
    · rcases List.mem_cons.1 hb with rfl | hb'
      · have := h.1 a ha'; omega
      · exact ih h.2 ha' hb'

theorem St.ok {N : Nat} {L : List Blk} (h : St N L) : Ok (LG L) N := by
  refine ⟨fun k i hg => ?_, fun k i k' i' x hg hg' h1 h2 => ?_⟩
  · obtain ⟨h1, h2, h3⟩ := h.inb _ hg
    refine ⟨h1, ?_⟩
    have h3 : i * 2 ^ k + 2 ^ k ≤ 2 ^ N := h3
    have h1 : k ≤ N := h1
    rw [show 2 ^ N = 2 ^ (N - k) * 2 ^ k by rw [← Nat.pow_add, Nat.sub_add_cancel h1]] at h3
    have : (i + 1) * 2 ^ k ≤ 2 ^ (N - k) * 2 ^ k := by rw [Nat.add_mul, Nat.one_mul]; exact h3
    exact Nat.le_of_mul_le_mul_right this (pow_pos2 k)
  · have e1 := (within (x := x) (Nat.mul_mod_left i (2 ^ k))).2 (by rw [first]; exact h1)
    have e2 := (within (x := x) (Nat.mul_mod_left i' (2 ^ k'))).2 (by rw [first]; exact h2)
    have := asc_one h.asc hg hg' e1.1 e1.2 e2.1 e2.2
    injection this with e3 e4
    subst e4
    exact ⟨rfl, Nat.eq_of_mul_eq_mul_right (pow_pos2 k) e3⟩

/-- A page is one of a block's. -/
def hasP (x : Blk) (p : Nat) : Bool := decide (x.1 ≤ p ∧ p < x.1 + 2 ^ x.2)
def anyP (L : List Blk) (p : Nat) : Bool := L.any (hasP · p)

theorem used_LG {N : Nat} {L : List Blk} (h : ∀ x ∈ L, InB N x) {p : Nat} : Used (LG L) p ↔ anyP L p = true := by
  unfold anyP hasP
  rw [List.any_eq_true]
  constructor
  · rintro ⟨k, hk⟩
    refine ⟨_, hk, ?_⟩
    rw [decide_eq_true_eq]
    exact (within (Nat.mul_mod_left _ _)).2 (by rw [first])
  · rintro ⟨x, hx, hp⟩
    rw [decide_eq_true_eq] at hp
    obtain ⟨_, h2, _⟩ := h x hx
    refine ⟨x.2, ?_⟩
    rw [(within h2).1 hp]
    exact (mem_LG h2).2 hx

/-- Are all pages free? -/
def freeB (L : List Blk) (p n : Nat) : Bool := (List.range (2 ^ n)).all fun d => !anyP L (p + d)

theorem freeB_iff {N : Nat} {L : List Blk} (h : ∀ x ∈ L, InB N x) {p n : Nat} (hp : p % 2 ^ n = 0) : freeB L p n = true ↔ Free (LG L) n (p / 2 ^ n) := by
  unfold freeB
  rw [List.all_eq_true]
  constructor
  · intro hf x hx hu
    rw [used_LG h] at hu
    have := (within hp).2 hx
    have h2 := hf (x - p) (List.mem_range.2 (by omega))
    rw [show p + (x - p) = x by omega, hu] at h2
    cases h2
  · intro hf d hd
    have := hf (p + d) ((within hp).1 ⟨by omega, by have := List.mem_range.1 hd; omega⟩)
    rw [used_LG h] at this
    simpa using this

/-- The greatest order up to n of a free block that begins at a page. -/
def bestB (L : List Blk) (p : Nat) : Nat → Option Nat
  | 0 => if freeB L p 0 then some 0 else none
  | n + 1 => if p % 2 ^ (n + 1) = 0 ∧ freeB L p (n + 1) = true then some (n + 1) else bestB L p n

theorem bestB_some {L : List Blk} {p : Nat} : ∀ {n k : Nat}, bestB L p n = some k → k ≤ n ∧ p % 2 ^ k = 0 ∧ freeB L p k = true ∧ ∀ j, k < j → j ≤ n → ¬ (p % 2 ^ j = 0 ∧ freeB L p j = true) := by
  intro n
  induction n with
  | zero =>
    intro k h
    rw [bestB] at h
    split at h
    · next e => injection h with h; subst h; exact ⟨Nat.le_refl _, Nat.mod_one _, e, fun j h1 h2 => by omega⟩
    · cases h
  | succ n ih =>
    intro k h
    rw [bestB] at h
    split at h
    · next e => injection h with h; subst h; exact ⟨Nat.le_refl _, e.1, e.2, fun j h1 h2 => by omega⟩
    · next e =>
      obtain ⟨h1, h2, h3, h4⟩ := ih h
      refine ⟨by omega, h2, h3, fun j g1 g2 => ?_⟩
      by_cases ej : j = n + 1
      · subst ej; exact e
      · exact h4 j g1 (by omega)
theorem bestB_none {L : List Blk} {p : Nat} : ∀ {n : Nat}, bestB L p n = none → freeB L p 0 = false := by
  intro n
  induction n with
  | zero =>
    intro h
    rw [bestB] at h
    split at h
    · cases h
    · next e => simpa using e
  | succ n ih =>
    intro h
    rw [bestB] at h
    split at h
    · cases h
    · exact ih h

/-- The free blocks from a page on. -/
def blkFrom (N : Nat) (L : List Blk) : Nat → Nat → List Blk
  | 0, _ => []
  | f + 1, p => if p < 2 ^ N then match bestB L p N with | none => blkFrom N L f (p + 1) | some n => (p, n) :: blkFrom N L f (p + 2 ^ n) else []

/-- The free blocks, as the specification lists them. -/
def blocksB (N : Nat) (L : List Blk) : List Blk := blkFrom N L (2 ^ N) 0

/-- No free block lies about a page. -/
def Bd (G : Bl) (N p : Nat) : Prop := ∀ k i, k ≤ N → Free G k i → i * 2 ^ k < p → i * 2 ^ k + 2 ^ k ≤ p

theorem used_free {G : Bl} {k i x : Nat} (h : Free G k i) (h1 : i * 2 ^ k ≤ x) (h2 : x < i * 2 ^ k + 2 ^ k) : ¬ Used G x :=
  h x (by have := (within (x := x) (Nat.mul_mod_left i (2 ^ k))).1 ⟨h1, h2⟩; rwa [first] at this)

theorem mod_mul_of_le {p k n : Nat} (h : k ≤ n) (hp : p % 2 ^ n = 0) : p % 2 ^ k = 0 := by
  obtain ⟨m, rfl⟩ := Nat.exists_eq_add_of_le h
  have hd : 2 ^ (k + m) ∣ p := Nat.dvd_of_mod_eq_zero hp
  exact Nat.mod_eq_zero_of_dvd (Nat.dvd_trans ⟨2 ^ m, Nat.pow_add 2 k m⟩ hd)

/-- Two blocks that have a page in common: the lesser one lies in the other. -/
theorem nested {p k q n x : Nat} (hp : p % 2 ^ k = 0) (hq : q % 2 ^ n = 0) (hkn : k ≤ n) (h1 : p ≤ x) (h2 : x < p + 2 ^ k) (h3 : q ≤ x) (h4 : x < q + 2 ^ n) : q ≤ p ∧ p + 2 ^ k ≤ q + 2 ^ n := by
  obtain ⟨m, rfl⟩ := Nat.exists_eq_add_of_le hkn
  have e1 := (within hp).1 ⟨h1, h2⟩
  have e2 := (within hq).1 ⟨h3, h4⟩
  have hq2 := mod_mul_of_le (Nat.le_add_right k m) hq
  have hpe := mul_div hp
  have hqe := mul_div hq2
  have hP : 2 ^ (k + m) = 2 ^ m * 2 ^ k := by rw [Nat.pow_add, Nat.mul_comm]
  have hqq : q / 2 ^ k % 2 ^ m = 0 := by
    have := mul_div hq
    rw [hP, ← Nat.mul_assoc] at this
    have e3 : q / 2 ^ (k + m) * 2 ^ m * 2 ^ k = q := by rw [hP]; exact this
    rw [← e3, Nat.mul_div_cancel _ (pow_pos2 k)]
    exact Nat.mul_mod_left _ _
  have e4 : p / 2 ^ k / 2 ^ m = q / 2 ^ k / 2 ^ m := by rw [← div_pow, ← div_pow, ← e2, div_pow, div_pow, e1]
  have e5 := (within (x := p / 2 ^ k) hqq).2 e4
  obtain ⟨a, ha⟩ : ∃ a, a = p / 2 ^ k := ⟨_, rfl⟩
  obtain ⟨b, hb⟩ : ∃ b, b = q / 2 ^ k := ⟨_, rfl⟩
  rw [← ha, ← hb] at e5
  rw [← ha] at hpe
  rw [← hb] at hqe
  constructor
  · rw [← hpe, ← hqe]; exact Nat.mul_le_mul_right _ e5.1
  · rw [← hpe, ← hqe, hP, ← Nat.add_mul]
    have : (a + 1) * 2 ^ k ≤ (b + 2 ^ m) * 2 ^ k := Nat.mul_le_mul_right _ e5.2
    rw [Nat.add_mul, Nat.one_mul] at this
    exact this

/-- A free block in the list's own words. -/
def IsFree (N : Nat) (L : List Blk) (x : Blk) : Prop := x.1 % 2 ^ x.2 = 0 ∧ MaxFree (LG L) N x.2 (x.1 / 2 ^ x.2)

theorem IsFree.lt {N : Nat} {L : List Blk} {x : Blk} (h : IsFree N L x) : x.1 + 2 ^ x.2 ≤ 2 ^ N ∧ x.2 ≤ N := by
  obtain ⟨h1, h2, h3, _⟩ := h
  refine ⟨?_, h2⟩
  have := mul_div h1
  have h4 : (x.1 / 2 ^ x.2 + 1) * 2 ^ x.2 ≤ 2 ^ (N - x.2) * 2 ^ x.2 := Nat.mul_le_mul_right _ h3
  rw [Nat.add_mul, Nat.one_mul, this, ← Nat.pow_add, Nat.sub_add_cancel h2] at h4
  exact h4

theorem isFree_one {N : Nat} {L : List Blk} {a b : Blk} (ha : IsFree N L a) (hb : IsFree N L b) {x : Nat} (h1 : a.1 ≤ x) (h2 : x < a.1 + 2 ^ a.2) (h3 : b.1 ≤ x) (h4 : x < b.1 + 2 ^ b.2) : a = b := by
  have e1 := (within ha.1).1 ⟨h1, h2⟩
  have e2 := (within hb.1).1 ⟨h3, h4⟩
  have hA : MaxFree (LG L) N (0 + a.2) (x / 2 ^ a.2) := by rw [Nat.zero_add, e1]; exact ha.2
  have hB : MaxFree (LG L) N (0 + b.2) (x / 2 ^ b.2) := by rw [Nat.zero_add, e2]; exact hb.2
  have := around_one hA hB
  obtain ⟨p, k⟩ := a
  obtain ⟨q, n⟩ := b
  dsimp only at *
  subst this
  rw [e1] at e2
  have h5 := mul_div ha.1
  have h6 := mul_div hb.1
  dsimp only at h5 h6
  rw [e2, h6] at h5
  rw [h5]

theorem best_free {N : Nat} {L : List Blk} (h : St N L) {p n : Nat} (hp : p < 2 ^ N) (hb : Bd (LG L) N p) (hbest : bestB L p N = some n) : IsFree N L (p, n) := by
  obtain ⟨h1, h2, h3, h4⟩ := bestB_some hbest
  have hf := (freeB_iff h.inb h2).1 h3
  refine ⟨h2, h1, ?_, hf, ?_⟩
  · rw [Nat.div_lt_iff_lt_mul (pow_pos2 n), ← Nat.pow_add, Nat.sub_add_cancel h1]; exact hp
  · by_cases e : n = N
    · exact .inl e
    · refine .inr fun hpf => ?_
      have hpe := mul_div h2
      obtain ⟨i, hi⟩ : ∃ i, i = p / 2 ^ n := ⟨_, rfl⟩
      rw [← hi] at hpf hpe
      have hP : 2 ^ (n + 1) = 2 * 2 ^ n := by rw [Nat.pow_succ, Nat.mul_comm]
      rcases Nat.mod_two_eq_zero_or_one i with ev | od
      · refine h4 (n + 1) (by omega) (by omega) ?_
        have e1 : i / 2 * 2 ^ (n + 1) = p := by
          rw [hP, ← Nat.mul_assoc, show i / 2 * 2 = i by omega, hpe]
        have e2 : p % 2 ^ (n + 1) = 0 := by rw [← e1]; exact Nat.mul_mod_left _ _
        refine ⟨e2, (freeB_iff h.inb e2).2 ?_⟩
        rw [← e1, first]; exact hpf
      · have h0 := pow_pos2 n
        have e1 : i / 2 * 2 ^ (n + 1) + 2 ^ n = p := by
          rw [hP, ← Nat.mul_assoc, ← hpe]
          have : i = i / 2 * 2 + 1 := by omega
          rw [this, Nat.add_mul, Nat.one_mul, show (i / 2 * 2 + 1) / 2 = i / 2 by omega]
        have := hb (n + 1) (i / 2) (by omega) hpf (by omega)
        omega

theorem bd_used {N : Nat} {L : List Blk} (h : St N L) {p : Nat} (hb : Bd (LG L) N p) (hn : bestB L p N = none) : Bd (LG L) N (p + 1) ∧ ∀ x, IsFree N L x → x.1 ≠ p := by
  have h0 := bestB_none hn
  have hu : Used (LG L) p := by
    refine Classical.byContradiction fun hnu => ?_
    have : freeB L p 0 = true := by
      unfold freeB
      rw [Nat.pow_zero, List.all_eq_true]
      intro d hd
      have : d = 0 := by have := List.mem_range.1 hd; omega
      subst this
      rw [used_LG h.inb] at hnu
      simpa using hnu
    rw [this] at h0; cases h0
  refine ⟨fun k i hk hf hi => ?_, fun x hx e => ?_⟩
  · refine Nat.le_of_not_lt fun hlt => ?_
    exact used_free hf (Nat.lt_succ_iff.1 hi) (by omega) hu
  · have := pow_pos2 x.2
    have h1 := hx.2.2.2.1
    have := used_free h1 (x := p) (by rw [mul_div hx.1]; omega) (by rw [mul_div hx.1]; omega)
    exact this hu

theorem bd_best {N : Nat} {L : List Blk} (h : St N L) {p n : Nat} (hb : Bd (LG L) N p) (hbest : bestB L p N = some n) : Bd (LG L) N (p + 2 ^ n) := by
  obtain ⟨h1, h2, h3, h4⟩ := bestB_some hbest
  intro k i hk hf hi
  have h0 := pow_pos2 k
  by_cases e : i * 2 ^ k < p
  · have := hb k i hk hf e; omega
  · by_cases hkn : k ≤ n
    · exact (nested (x := i * 2 ^ k) (Nat.mul_mod_left i (2 ^ k)) h2 hkn (Nat.le_refl _) (by omega) (by omega) hi).2
    · have hn := pow_pos2 n
      have := nested (x := i * 2 ^ k) h2 (Nat.mul_mod_left i (2 ^ k)) (by omega) (by omega) hi (Nat.le_refl _) (by omega)
      have hpe : i * 2 ^ k = p := by omega
      have e2 : p % 2 ^ k = 0 := by rw [← hpe]; exact Nat.mul_mod_left _ _
      exact absurd ⟨e2, (freeB_iff h.inb e2).2 (by rw [← hpe, first]; exact hf)⟩ (h4 k (by omega) hk)

theorem blkFrom_mem {N : Nat} {L : List Blk} (h : St N L) : ∀ (f p : Nat), 2 ^ N ≤ p + f → Bd (LG L) N p → ∀ x, x ∈ blkFrom N L f p ↔ p ≤ x.1 ∧ IsFree N L x := by
  intro f
  induction f with
  | zero =>
    intro p hf hb x
    rw [blkFrom]
    refine ⟨fun hx => (by cases hx), fun ⟨h1, h2⟩ => ?_⟩
    have := h2.lt.1
    have := pow_pos2 x.2
    omega
  | succ f ih =>
    intro p hf hb x
    rw [blkFrom]
    by_cases hp : p < 2 ^ N
    · rw [if_pos hp]
      cases hbe : bestB L p N with
      | none =>
        obtain ⟨g1, g2⟩ := bd_used h hb hbe
        show x ∈ blkFrom N L f (p + 1) ↔ _
        rw [ih (p + 1) (by omega) g1 x]
        exact ⟨fun ⟨a, b⟩ => ⟨by omega, b⟩, fun ⟨a, b⟩ => ⟨by have := g2 x b; omega, b⟩⟩
      | some n =>
        show x ∈ (p, n) :: blkFrom N L f (p + 2 ^ n) ↔ _
        have h0 := pow_pos2 n
        have hfr := best_free h hp hb hbe
        rw [List.mem_cons, ih (p + 2 ^ n) (by omega) (bd_best h hb hbe) x]
        constructor
        · rintro (rfl | ⟨a, b⟩)
          · exact ⟨Nat.le_refl _, hfr⟩
          · exact ⟨by omega, b⟩
        · rintro ⟨a, b⟩
          by_cases e : x.1 < p + 2 ^ n
          · exact .inl (isFree_one b hfr (x := x.1) (Nat.le_refl _) (by have := pow_pos2 x.2; omega) a e)
          · exact .inr ⟨by omega, b⟩
    · rw [if_neg hp]
      refine ⟨fun hx => (by cases hx), fun ⟨h1, h2⟩ => ?_⟩
      have := h2.lt.1
      have := pow_pos2 x.2
      omega

theorem blkFrom_asc {N : Nat} {L : List Blk} (h : St N L) : ∀ (f p : Nat), 2 ^ N ≤ p + f → Bd (LG L) N p → (blkFrom N L f p).Pairwise fun a b => a.1 + 2 ^ a.2 ≤ b.1 := by
  intro f
  induction f with
  | zero => intro p _ _; rw [blkFrom]; exact List.Pairwise.nil
  | succ f ih =>
    intro p hf hb
    rw [blkFrom]
    by_cases hp : p < 2 ^ N
    · rw [if_pos hp]
      cases hbe : bestB L p N with
      | none => exact ih (p + 1) (by omega) (bd_used h hb hbe).1
      | some n =>
        have h0 := pow_pos2 n
        show ((p, n) :: blkFrom N L f (p + 2 ^ n)).Pairwise _
        refine List.pairwise_cons.2 ⟨fun x hx => ?_, ih _ (by omega) (bd_best h hb hbe)⟩
        exact ((blkFrom_mem h f (p + 2 ^ n) (by omega) (bd_best h hb hbe) x).1 hx).1
    · rw [if_neg hp]; exact List.Pairwise.nil

theorem bd_zero (G : Bl) (N : Nat) : Bd G N 0 := fun _ _ _ _ h => by omega
theorem mem_blocks {N : Nat} {L : List Blk} (h : St N L) (x : Blk) : x ∈ blocksB N L ↔ IsFree N L x := by
  unfold blocksB
  rw [blkFrom_mem h _ _ (by omega) (bd_zero _ _) x]
  exact ⟨fun h => h.2, fun h => ⟨Nat.zero_le _, h⟩⟩
theorem blocks_asc {N : Nat} {L : List Blk} (h : St N L) : (blocksB N L).Pairwise fun a b => a.1 + 2 ^ a.2 ≤ b.1 := blkFrom_asc h _ _ (by omega) (bd_zero _ _)

theorem blkFrom_enough {N : Nat} {L : List Blk} : ∀ (f g p : Nat), 2 ^ N ≤ p + f → f ≤ g → blkFrom N L g p = blkFrom N L f p := by
  intro f
  induction f with
  | zero =>
    intro g p hf _
    cases g with
    | zero => rfl
    | succ g => rw [blkFrom, blkFrom, if_neg (by omega)]
  | succ f ih =>
    intro g p hf hg
    cases g with
    | zero => omega
    | succ g =>
      rw [blkFrom, blkFrom]
      by_cases hp : p < 2 ^ N
      · rw [if_pos hp, if_pos hp]
        cases bestB L p N with
        | none => exact ih g (p + 1) (by omega) (by omega)
        | some n =>
          have := pow_pos2 n
          show (p, n) :: blkFrom N L g (p + 2 ^ n) = (p, n) :: blkFrom N L f (p + 2 ^ n)
          rw [ih g (p + 2 ^ n) (by omega) (by omega)]
      · rw [if_neg hp, if_neg hp]

/-- Ascending lists with the same members are one. -/
theorem asc_eq : ∀ {A B : List Blk}, A.Pairwise (fun a b => a.1 < b.1) → B.Pairwise (fun a b => a.1 < b.1) → (∀ x, x ∈ A ↔ x ∈ B) → A = B := by
  intro A
  induction A with
  | nil =>
    intro B _ _ h
    cases B with
    | nil => rfl
    | cons y B => exact absurd ((h y).2 (List.mem_cons_self ..)) (by simp)
  | cons x A ih =>
    intro B hA hB h
    cases B with
    | nil => exact absurd ((h x).1 (List.mem_cons_self ..)) (by simp)
    | cons y B =>
      rw [List.pairwise_cons] at hA hB
      have e : x = y := by
        rcases List.mem_cons.1 ((h x).1 (List.mem_cons_self ..)) with e | e
        · exact e
        · rcases List.mem_cons.1 ((h y).2 (List.mem_cons_self ..)) with e2 | e2
          · exact e2.symm
          · have := hB.1 x e; have := hA.1 y e2; omega
      subst e
      congr 1
      refine ih hA.2 hB.2 fun z => ⟨fun hz => ?_, fun hz => ?_⟩
      · rcases List.mem_cons.1 ((h z).1 (List.mem_cons_of_mem _ hz)) with e | e
        · subst e; have := hA.1 _ hz; omega
        · exact e
      · rcases List.mem_cons.1 ((h z).2 (List.mem_cons_of_mem _ hz)) with e | e
        · subst e; have := hB.1 _ hz; omega
        · exact e

theorem asc_lt {L : List Blk} (h : L.Pairwise fun a b => a.1 + 2 ^ a.2 ≤ b.1) : L.Pairwise fun a b => a.1 < b.1 :=
  h.imp fun {a b} hab => by have := pow_pos2 a.2; omega
end Bu
end Go.Proofs.Ytlknhbcambdccaa
namespace Go.Proofs.Ytlknhbcambdccaa
namespace Bu

/-- One block more. -/
def putB : List Blk → Blk → List Blk
  | [], x => [x]
  | y :: L, x => if x.1 < y.1 then x :: y :: L else y :: putB L x

theorem mem_putB {L : List Blk} {x z : Blk} : z ∈ putB L x ↔ z = x ∨ z ∈ L := by
  induction L with
  | nil => simp [putB]
  | cons y L ih =>
    rw [putB]
    split
    · simp
    · rw [List.mem_cons, ih, List.mem_cons]
      constructor
      · rintro (h | h | h)
        · exact .inr (.inl h)
        · exact .inl h
        · exact .inr (.inr h)
      · rintro (h | h | h)
        · exact .inr (.inl h)
        · exact .inl h
        · exact .inr (.inr h)

theorem putB_len (L : List Blk) (x : Blk) : (putB L x).length = L.length + 1 := by
  induction L with
  | nil => rfl
  | cons y L ih =>
    rw [putB]
    split
    · rfl
    · simp [ih]

theorem disj_of {N : Nat} {L : List Blk} {x y : Blk} (h : ∀ z ∈ L, InB N z) (hx : InB N x) (hf : Free (LG L) x.2 (x.1 / 2 ^ x.2)) (hy : y ∈ L) : x.1 + 2 ^ x.2 ≤ y.1 ∨ y.1 + 2 ^ y.2 ≤ x.1 := by
  refine Classical.byContradiction fun hn => ?_
  have h1 := pow_pos2 x.2
  have h2 := pow_pos2 y.2
  have key : ∀ q, x.1 ≤ q → q < x.1 + 2 ^ x.2 → y.1 ≤ q → q < y.1 + 2 ^ y.2 → False := fun q a b c d => by
    refine hf q ((within hx.2.1).1 ⟨a, b⟩) ((used_LG h).2 ?_)
    unfold anyP hasP
    rw [List.any_eq_true]
    exact ⟨y, hy, by rw [decide_eq_true_eq]; exact ⟨c, d⟩⟩
  by_cases e : x.1 ≤ y.1
  · exact key y.1 e (by omega) (Nat.le_refl _) (by omega)
  · exact key x.1 (Nat.le_refl _) (by omega) (by omega) (by omega)

theorem putB_asc {L : List Blk} {x : Blk} (h : L.Pairwise fun a b => a.1 + 2 ^ a.2 ≤ b.1) (hd : ∀ y ∈ L, x.1 + 2 ^ x.2 ≤ y.1 ∨ y.1 + 2 ^ y.2 ≤ x.1) : (putB L x).Pairwise fun a b => a.1 + 2 ^ a.2 ≤ b.1 := by
  induction L with
  | nil => rw [putB]; exact List.pairwise_singleton _ _
  | cons y L ih =>
    rw [List.pairwise_cons] at h
    have h1 := pow_pos2 x.2
    have h2 := pow_pos2 y.2
    have hy := hd y (List.mem_cons_self ..)
    rw [putB]
    by_cases e : x.1 < y.1
    · rw [if_pos e]
      refine List.pairwise_cons.2 ⟨fun z hz => ?_, List.pairwise_cons.2 h⟩
      rcases List.mem_cons.1 hz with rfl | hz
      · omega
      · have := h.1 z hz; omega
    · rw [if_neg e]
      refine List.pairwise_cons.2 ⟨fun z hz => ?_, ih h.2 fun z hz => hd z (List.mem_cons_of_mem _ hz)⟩
      rcases mem_putB.1 hz with rfl | hz
      · omega
      · exact h.1 z hz

theorem St.put {N : Nat} {L : List Blk} {x : Blk} (h : St N L) (hx : InB N x) (hf : Free (LG L) x.2 (x.1 / 2 ^ x.2)) : St N (putB L x) :=
  ⟨h.n10, fun z hz => (mem_putB.1 hz).elim (fun e => e ▸ hx) (h.inb z), putB_asc h.asc fun _ hy => disj_of h.inb hx hf hy⟩

theorem LG_put {L : List Blk} {x : Blk} (hx : x.1 % 2 ^ x.2 = 0) : LG (putB L x) = add (LG L) x.2 (x.1 / 2 ^ x.2) := by
  funext k i
  refine propext ?_
  unfold LG add
  rw [mem_putB]
  constructor
  · rintro (rfl | h)
    · exact .inl ⟨rfl, (first k i).symm⟩
    · exact .inr h
  · rintro (⟨rfl, rfl⟩ | h)
    · exact .inl (by rw [mul_div hx])
    · exact .inr h

/-- A block less. -/
def delB (L : List Blk) (x : Blk) : List Blk := L.filter fun y => y != x

theorem mem_delB {L : List Blk} {x z : Blk} : z ∈ delB L x ↔ z ∈ L ∧ z ≠ x := by
  unfold delB; rw [List.mem_filter, bne_iff_ne]
theorem St.del {N : Nat} {L : List Blk} {x : Blk} (h : St N L) : St N (delB L x) :=
  ⟨h.n10, fun z hz => h.inb z (mem_delB.1 hz).1, h.asc.filter _⟩
theorem LG_del {L : List Blk} {x : Blk} (hx : x.1 % 2 ^ x.2 = 0) : LG (delB L x) = del (LG L) x.2 (x.1 / 2 ^ x.2) := by
  funext k i
  refine propext ?_
  unfold LG del
  rw [mem_delB]
  constructor
  · rintro ⟨h, hne⟩
    refine ⟨fun ⟨e1, e2⟩ => hne ?_, h⟩
    subst e1
    rw [e2, mul_div hx]
  · rintro ⟨hne, h⟩
    refine ⟨h, fun e => hne ?_⟩
    subst e
    exact ⟨rfl, (first k i).symm⟩

/-- What Alloc chooses: the least order that suffices, and of these the first. -/
def bestOf (n : Nat) : Option Blk → List Blk → Option Blk
  | a, [] => a
  | a, x :: l => bestOf n (if n ≤ x.2 ∧ (∀ y, a = some y → x.2 < y.2) then some x else a) l

def Best (n : Nat) (B : List Blk) (o : Option Blk) : Prop :=
  match o with
  | none => ∀ y ∈ B, y.2 < n
  | some x => x ∈ B ∧ n ≤ x.2 ∧ ∀ y ∈ B, n ≤ y.2 → x.2 < y.2 ∨ (x.2 = y.2 ∧ x.1 ≤ y.1)

theorem bestOf_spec {n : Nat} : ∀ {l : List Blk} {a : Option Blk} {pre : List Blk}, (pre ++ l).Pairwise (fun a b => a.1 < b.1) → Best n pre a → Best n (pre ++ l) (bestOf n a l) := by
  intro l
  induction l with
  | nil => intro a pre _ h; rw [List.append_nil, bestOf]; exact h
  | cons x l ih =>
    intro a pre hp h
    rw [bestOf]
    have e : pre ++ x :: l = (pre ++ [x]) ++ l := by simp
    rw [e] at hp ⊢
    refine ih hp ?_
    have hlt : ∀ y ∈ pre, y.1 < x.1 := fun y hy => by
      have h2 := (List.pairwise_append.1 (List.pairwise_append.1 hp).1).2.2
      exact h2 y hy x (List.mem_singleton.2 rfl)
    by_cases c : n ≤ x.2 ∧ (∀ y, a = some y → x.2 < y.2)
    · rw [if_pos c]
      refine ⟨by simp, c.1, fun y hy hn => ?_⟩
      rcases List.mem_append.1 hy with hy | hy
      · cases a with
        | none => have := h y hy; omega
        | some z =>
          have h3 := c.2 z rfl
          rcases h.2.2 y hy hn with h4 | h4
          · exact .inl (by omega)
          · exact .inl (by omega)
      · rw [List.mem_singleton] at hy
        subst hy
        exact .inr ⟨rfl, Nat.le_refl _⟩
    · rw [if_neg c]
      cases a with
      | none =>
        intro y hy
        rcases List.mem_append.1 hy with hy | hy
        · exact h y hy
        · rw [List.mem_singleton] at hy
          subst hy
          exact Nat.lt_of_not_le fun hn => c ⟨hn, fun y e => by cases e⟩
      | some z =>
        refine ⟨List.mem_append.2 (.inl h.1), h.2.1, fun y hy hn => ?_⟩
        rcases List.mem_append.1 hy with hy | hy
        · exact h.2.2 y hy hn
        · rw [List.mem_singleton] at hy
          subst hy
          have h5 : ¬ y.2 < z.2 := fun h6 => c ⟨hn, fun q e => by injection e with e; subst e; exact h6⟩
          by_cases e6 : z.2 = y.2
          · exact .inr ⟨e6, Nat.le_of_lt (hlt z h.1)⟩
          · exact .inl (by omega)

theorem asc_uniq {B : List Blk} (hB : B.Pairwise fun a b => a.1 < b.1) : ∀ x ∈ B, ∀ y ∈ B, x.1 = y.1 → x = y := by
  induction B with
  | nil => intro x hx; cases hx
  | cons z B ih =>
    intro x hx y hy e
    rw [List.pairwise_cons] at hB
    rcases List.mem_cons.1 hx with rfl | hx'
    · rcases List.mem_cons.1 hy with rfl | hy'
      · rfl
      · have := hB.1 y hy'; omega
    · rcases List.mem_cons.1 hy with rfl | hy'
      · have := hB.1 x hx'; omega
      · exact ih hB.2 x hx' y hy' e

theorem best_one {n : Nat} {B : List Blk} (hB : B.Pairwise fun a b => a.1 < b.1) {o o' : Option Blk} (h : Best n B o) (h' : Best n B o') : o = o' := by
  have uniq := asc_uniq hB
  cases o with
  | none =>
    cases o' with
    | none => rfl
    | some y => have := h y h'.1; have := h'.2.1; omega
  | some x =>
    cases o' with
    | none => have := h' x h.1; have := h.2.1; omega
    | some y =>
      congr 1
      have h1 := h.2.2 y h'.1 h'.2.1
      have h2 := h'.2.2 x h.1 h.2.1
      exact uniq x h.1 y h'.1 (by omega)

/-- Alloc: the block that is given, and the list. -/
def allocB (N : Nat) (L : List Blk) (n : Nat) : Option (Nat × List Blk) := (bestOf n none (blocksB N L)).map fun x => (x.1, putB L (x.1, n))

theorem alloc_best {N : Nat} {L : List Blk} (h : St N L) (n : Nat) : Best n (blocksB N L) (bestOf n none (blocksB N L)) := by
  have := bestOf_spec (n := n) (l := blocksB N L) (a := none) (pre := []) (by simpa using asc_lt (blocks_asc h)) (fun y hy => by cases hy)
  simpa using this

theorem IsFree.sub {N : Nat} {L : List Blk} {x : Blk} (h : IsFree N L x) {n : Nat} (hn : n ≤ x.2) : InB N (x.1, n) ∧ Free (LG L) n (x.1 / 2 ^ n) := by
  obtain ⟨h1, h2⟩ := h.lt
  have hm := mod_mul_of_le hn h.1
  have hle : 2 ^ n ≤ 2 ^ x.2 := Nat.pow_le_pow_right (by decide) hn
  refine ⟨⟨by show n ≤ N; omega, hm, by show x.1 + 2 ^ n ≤ 2 ^ N; omega⟩, ?_⟩
  obtain ⟨m, hmm⟩ := Nat.exists_eq_add_of_le hn
  refine Free.mono m ?_
  rw [← div_pow, ← hmm]
  exact h.2.2.2.1

theorem alloc_st {N : Nat} {L : List Blk} (h : St N L) {n p : Nat} {L' : List Blk} (ha : allocB N L n = some (p, L')) : St N L' := by
  unfold allocB at ha
  have hb := alloc_best h n
  cases e : bestOf n none (blocksB N L) with
  | none => rw [e] at ha; cases ha
  | some x =>
    rw [e] at ha hb
    injection ha with ha
    injection ha with h1 h2
    subst h2
    have := ((mem_blocks h x).1 hb.1).sub hb.2.1
    exact h.put this.1 this.2

/-- How many pages blocks of an order have room for. -/
def roomB (n : Nat) (B : List Blk) : Nat := (B.map fun x => if n ≤ x.2 then 2 ^ (x.2 - n) else 0).sum
/-- The greatest order. -/
def largeB : Option Nat → List Blk → Option Nat
  | a, [] => a
  | a, x :: l => largeB (some (max (a.getD 0) x.2)) l
/-- The first block that has a page. -/
def ownerB (L : List Blk) (p : Nat) : Option Blk := L.find? (hasP · p)

theorem ownerB_some {L : List Blk} {p : Nat} {x : Blk} (h : ownerB L p = some x) : x ∈ L ∧ x.1 ≤ p ∧ p < x.1 + 2 ^ x.2 := by
  unfold ownerB at h
  have h1 := List.find?_some h
  unfold hasP at h1
  rw [decide_eq_true_eq] at h1
  exact ⟨List.mem_of_find?_eq_some h, h1⟩
theorem ownerB_none {L : List Blk} {p : Nat} (h : ownerB L p = none) {x : Blk} (hx : x ∈ L) : ¬ (x.1 ≤ p ∧ p < x.1 + 2 ^ x.2) := by
  unfold ownerB at h
  have := List.find?_eq_none.1 h x hx
  unfold hasP at this
  simpa using this
theorem ownerB_of {N : Nat} {L : List Blk} (h : St N L) {p : Nat} {x : Blk} (hx : x ∈ L) (h1 : x.1 ≤ p) (h2 : p < x.1 + 2 ^ x.2) : ownerB L p = some x := by
  cases e : ownerB L p with
  | none => exact absurd ⟨h1, h2⟩ (ownerB_none e hx)
  | some y =>
    obtain ⟨g1, g2, g3⟩ := ownerB_some e
    rw [asc_one h.asc g1 hx g2 g3 h1 h2]
end Bu
end Go.Proofs.Ytlknhbcambdccaa
namespace Go.Proofs.Ytlknhbcambdccaa
namespace Bu

/-- The indices of the free blocks of an order. -/
def freeIdx (N : Nat) (L : List Blk) (n : Nat) : List Nat := (List.range (2 ^ (N - n))).filter fun i => freeB L (i * 2 ^ n) n

theorem natasc_eq : ∀ {A B : List Nat}, A.Pairwise (· < ·) → B.Pairwise (· < ·) → (∀ x, x ∈ A ↔ x ∈ B) → A = B := by
  intro A
  induction A with
  | nil =>
    intro B _ _ h
    cases B with
    | nil => rfl
    | cons y B => exact absurd ((h y).2 (List.mem_cons_self ..)) (by simp)
  | cons x A ih =>
    intro B hA hB h
    cases B with
    | nil => exact absurd ((h x).1 (List.mem_cons_self ..)) (by simp)
    | cons y B =>
      rw [List.pairwise_cons] at hA hB
      have e : x = y := by
        rcases List.mem_cons.1 ((h x).1 (List.mem_cons_self ..)) with e | e
        · exact e
        · rcases List.mem_cons.1 ((h y).2 (List.mem_cons_self ..)) with e2 | e2
          · exact e2.symm
          · have := hB.1 x e; have := hA.1 y e2; omega
      subst e
      congr 1
      refine ih hA.2 hB.2 fun z => ⟨fun hz => ?_, fun hz => ?_⟩
      · rcases List.mem_cons.1 ((h z).1 (List.mem_cons_of_mem _ hz)) with e | e
        · subst e; have := hA.1 _ hz; omega
        · exact e
      · rcases List.mem_cons.1 ((h z).2 (List.mem_cons_of_mem _ hz)) with e | e
        · subst e; have := hB.1 _ hz; omega
        · exact e

/-- The blocks of an order that lie in a block. -/
def parts (n : Nat) (x : Blk) : List Nat := if n ≤ x.2 then (List.range (2 ^ (x.2 - n))).map fun d => x.1 / 2 ^ n + d else []

theorem parts_len (n : Nat) (x : Blk) : (parts n x).length = if n ≤ x.2 then 2 ^ (x.2 - n) else 0 := by
  unfold parts; split <;> simp

theorem mem_parts {n : Nat} {x : Blk} (hx : x.1 % 2 ^ x.2 = 0) {i : Nat} : i ∈ parts n x ↔ n ≤ x.2 ∧ x.1 ≤ i * 2 ^ n ∧ i * 2 ^ n < x.1 + 2 ^ x.2 := by
  unfold parts
  by_cases h : n ≤ x.2
  · rw [if_pos h, List.mem_map]
    have hm := mul_div (mod_mul_of_le h hx)
    have hp := pow_pos2 n
    obtain ⟨q, hq⟩ : ∃ q, q = x.1 / 2 ^ n := ⟨_, rfl⟩
    rw [← hq] at hm ⊢
    have hs : 2 ^ x.2 = 2 ^ (x.2 - n) * 2 ^ n := by rw [← Nat.pow_add, Nat.sub_add_cancel h]
    constructor
    · rintro ⟨d, hd, rfl⟩
      have hd := List.mem_range.1 hd
      refine ⟨h, ?_, ?_⟩
      · rw [← hm]; exact Nat.mul_le_mul_right _ (by omega)
      · rw [← hm, hs, ← Nat.add_mul]; exact Nat.mul_lt_mul_of_pos_right (by omega) hp
    · rintro ⟨_, h1, h2⟩
      rw [← hm] at h1
      rw [← hm, hs, ← Nat.add_mul] at h2
      have g1 := Nat.le_of_mul_le_mul_right h1 hp
      have g2 := Nat.lt_of_mul_lt_mul_right h2
      exact ⟨i - q, List.mem_range.2 (by omega), by omega⟩
  · rw [if_neg h]
    exact ⟨fun hx => (by cases hx), fun hx => absurd hx.1 h⟩

theorem parts_asc (n : Nat) (x : Blk) : (parts n x).Pairwise (· < ·) := by
  unfold parts
  split
  · refine List.pairwise_map.2 ?_
    exact List.pairwise_lt_range.imp (by intro a b h; omega)
  · exact List.Pairwise.nil

theorem flat_asc {n : Nat} : ∀ {B : List Blk}, (∀ x ∈ B, x.1 % 2 ^ x.2 = 0) → B.Pairwise (fun a b => a.1 + 2 ^ a.2 ≤ b.1) → (B.flatMap (parts n)).Pairwise (· < ·) := by
  intro B
  induction B with
  | nil => intro _ _; exact List.Pairwise.nil
  | cons x B ih =>
    intro ha hp
    rw [List.pairwise_cons] at hp
    rw [List.flatMap_cons, List.pairwise_append]
    refine ⟨parts_asc n x, ih (fun y hy => ha y (List.mem_cons_of_mem _ hy)) hp.2, fun i hi j hj => ?_⟩
    obtain ⟨y, hy, hj⟩ := List.mem_flatMap.1 hj
    obtain ⟨_, _, h2⟩ := (mem_parts (ha x (List.mem_cons_self ..))).1 hi
    obtain ⟨_, h3, _⟩ := (mem_parts (ha y (List.mem_cons_of_mem _ hy))).1 hj
    have := hp.1 y hy
    exact Nat.lt_of_mul_lt_mul_right (a := 2 ^ n) (by omega)

theorem mem_free_parts {N : Nat} {L : List Blk} (hS : St N L) {n : Nat} (hn : n ≤ N) (i : Nat) : i ∈ (blocksB N L).flatMap (parts n) ↔ i ∈ freeIdx N L n := by
  have hp := pow_pos2 n
  unfold freeIdx
  rw [List.mem_flatMap, List.mem_filter, List.mem_range]
  have hal : i * 2 ^ n % 2 ^ n = 0 := Nat.mul_mod_left _ _
  have hf := freeB_iff hS.inb hal
  rw [first] at hf
  have hs : 2 ^ N = 2 ^ (N - n) * 2 ^ n := by rw [← Nat.pow_add, Nat.sub_add_cancel hn]
  constructor
  · rintro ⟨x, hx, hi⟩
    have hx := (mem_blocks hS x).1 hx
    obtain ⟨h1, h2, h3⟩ := (mem_parts hx.1).1 hi
    have hlt := hx.lt.1
    refine ⟨?_, hf.2 ?_⟩
    · exact Nat.lt_of_mul_lt_mul_right (a := 2 ^ n) (by rw [← hs]; omega)
    · obtain ⟨m, hm⟩ := Nat.exists_eq_add_of_le h1
      refine Free.mono m ?_
      have e1 := (within hx.1).1 ⟨h2, h3⟩
      have : i / 2 ^ m = x.1 / 2 ^ x.2 := by
        rw [← e1, hm, div_pow, first]
      rw [this, ← hm]
      exact hx.2.2.2.1
  · rintro ⟨h1, h2⟩
    obtain ⟨m, hm⟩ := around hn h1 (hf.1 h2)
    refine ⟨(i / 2 ^ m * 2 ^ (n + m), n + m), (mem_blocks hS _).2 ⟨Nat.mul_mod_left _ _, by rw [first]; exact hm⟩, ?_⟩
    refine (mem_parts (Nat.mul_mod_left _ _)).2 ⟨Nat.le_add_right _ _, ?_⟩
    refine (within (Nat.mul_mod_left _ _)).2 ?_
    rw [first, div_pow, first]

theorem room_count {N : Nat} {L : List Blk} (hS : St N L) {n : Nat} (hn : n ≤ N) : roomB n (blocksB N L) = (freeIdx N L n).length := by
  have e : (blocksB N L).flatMap (parts n) = freeIdx N L n := by
    refine natasc_eq (flat_asc (fun x hx => ((mem_blocks hS x).1 hx).1) (blocks_asc hS)) ?_ (mem_free_parts hS hn)
    exact (List.pairwise_lt_range).filter _
  rw [← e, List.length_flatMap]
  unfold roomB
  congr 1
  refine List.map_congr_left fun x _ => ?_
  rw [parts_len]

theorem room_big {N : Nat} {L : List Blk} (hS : St N L) {n : Nat} (hn : N < n) : roomB n (blocksB N L) = 0 ∧ allocB N L n = none := by
  have hlow : ∀ x ∈ blocksB N L, ¬ n ≤ x.2 := fun x hx => by have := ((mem_blocks hS x).1 hx).lt.2; omega
  constructor
  · unfold roomB
    have : (blocksB N L).map (fun x => if n ≤ x.2 then 2 ^ (x.2 - n) else 0) = (blocksB N L).map (fun _ => 0) := List.map_congr_left fun x hx => if_neg (hlow x hx)
    rw [this]
    generalize blocksB N L = B
    induction B with
    | nil => rfl
    | cons x B ih => simpa using ih
  · have hb := alloc_best hS n
    unfold allocB
    cases e : bestOf n none (blocksB N L) with
    | none => rfl
    | some x => rw [e] at hb; exact absurd hb.2.1 (hlow x hb.1)

theorem freeB_put {N : Nat} {L : List Blk} (hS : St N L) {x : Blk} (hx : InB N x) (hf : Free (LG L) x.2 (x.1 / 2 ^ x.2)) (i : Nat) :
    freeB (putB L x) (i * 2 ^ x.2) x.2 = (freeB L (i * 2 ^ x.2) x.2 && decide (i ≠ x.1 / 2 ^ x.2)) := by
  have hS' := hS.put hx hf
  have hal : i * 2 ^ x.2 % 2 ^ x.2 = 0 := Nat.mul_mod_left _ _
  have h1 := freeB_iff hS'.inb hal
  have h2 := freeB_iff hS.inb hal
  rw [first] at h1 h2
  rw [LG_put hx.2.1, free_add] at h1
  rw [Bool.eq_iff_iff, h1, Bool.and_eq_true, h2, decide_eq_true_eq]
  constructor
  · rintro ⟨a, b⟩
    refine ⟨a, fun e => ?_⟩
    exact b (i * 2 ^ x.2) (first _ _) (by rw [first]; exact e)
  · rintro ⟨a, b⟩
    exact ⟨a, fun y hy e => b (by rw [← hy, e])⟩

theorem filter_one {p : Nat → Bool} {q : Nat} : ∀ {l : List Nat}, l.Pairwise (· < ·) → q ∈ l → p q = true → (l.filter fun i => p i && decide (i ≠ q)).length + 1 = (l.filter p).length := by
  intro l
  induction l with
  | nil => intro _ h; cases h
  | cons x l ih =>
    intro hp hq hpq
    rw [List.pairwise_cons] at hp
    by_cases e : x = q
    · subst e
      rw [List.filter_cons_of_neg (by simp), List.filter_cons_of_pos hpq, List.length_cons]
      congr 1
      congr 1
      refine List.filter_congr fun y hy => ?_
      have := hp.1 y hy
      rw [decide_eq_true (by omega), Bool.and_true]
    · have hq' : q ∈ l := (List.mem_cons.1 hq).resolve_left (fun h => e h.symm)
      have := ih hp.2 hq' hpq
      cases hx : p x with
      | true => rw [List.filter_cons_of_pos (by simp [hx, e]), List.filter_cons_of_pos hx, List.length_cons, List.length_cons, ← this]
      | false => rw [List.filter_cons_of_neg (by simp [hx]), List.filter_cons_of_neg (by simp [hx])]; exact this

/-- A block is given just if there is room, and there is room for one less. -/
theorem room_step {N : Nat} {L : List Blk} (hS : St N L) (n : Nat) : match allocB N L n with
    | none => roomB n (blocksB N L) = 0
    | some (_, L') => roomB n (blocksB N L') + 1 = roomB n (blocksB N L) := by
  have hb := alloc_best hS n
  by_cases hn : n ≤ N
  · cases e : bestOf n none (blocksB N L) with
    | none =>
      have : allocB N L n = none := by unfold allocB; rw [e]; rfl
      rw [this]
      rw [e] at hb
      show roomB n (blocksB N L) = 0
      unfold roomB
      have : (blocksB N L).map (fun x => if n ≤ x.2 then 2 ^ (x.2 - n) else 0) = (blocksB N L).map (fun _ => 0) := List.map_congr_left fun x hx => if_neg (by have := hb x hx; omega)
      rw [this]
      generalize blocksB N L = B
      induction B with
      | nil => rfl
      | cons x B ih => simpa using ih
    | some x =>
      have : allocB N L n = some (x.1, putB L (x.1, n)) := by unfold allocB; rw [e]; rfl
      rw [this]
      rw [e] at hb
      obtain ⟨g1, g2⟩ := ((mem_blocks hS x).1 hb.1).sub hb.2.1
      show roomB n (blocksB N (putB L (x.1, n))) + 1 = roomB n (blocksB N L)
      rw [room_count (hS.put g1 g2) hn, room_count hS hn]
      unfold freeIdx
      have hfe : (fun i => freeB (putB L (x.1, n)) (i * 2 ^ n) n) = fun i => (fun i => freeB L (i * 2 ^ n) n) i && decide (i ≠ x.1 / 2 ^ n) := by
        funext i; exact freeB_put hS g1 g2 i
      rw [hfe]
      refine filter_one List.pairwise_lt_range (List.mem_range.2 ?_) ?_
      · rw [Nat.div_lt_iff_lt_mul (pow_pos2 n), ← Nat.pow_add, Nat.sub_add_cancel hn]
        have := g1.2.2
        have := pow_pos2 n
        show x.1 < 2 ^ N
        have : x.1 + 2 ^ n ≤ 2 ^ N := g1.2.2
        omega
      · have hm : x.1 % 2 ^ n = 0 := g1.2.1
        show freeB L (x.1 / 2 ^ n * 2 ^ n) n = true
        rw [mul_div hm]
        exact (freeB_iff hS.inb hm).2 g2
  · obtain ⟨h1, h2⟩ := room_big hS (Nat.lt_of_not_le hn)
    rw [h2]; exact h1
end Bu
end Go.Proofs.Ytlknhbcambdccaa
