/- Blocks of powers of two pages: the plain law of the buddy allocator. No program here. -/
namespace Go.Proofs.Ytdanhbbdkcbapaa
namespace Bu

/-- Given blocks: G k i: the block of order k with the index i (its pages are i * 2^k up to (i + 1) * 2^k) is given. -/
abbrev Bl := Nat → Nat → Prop

def Used (G : Bl) (x : Nat) : Prop := ∃ k, G k (x / 2 ^ k)
def Free (G : Bl) (k i : Nat) : Prop := ∀ x, x / 2 ^ k = i → ¬ Used G x

/-- A free block that is no half of a free block. -/
def MaxFree (G : Bl) (N k i : Nat) : Prop := k ≤ N ∧ i < 2 ^ (N - k) ∧ Free G k i ∧ (k = N ∨ ¬ Free G (k + 1) (i / 2))

/-- Given blocks lie in the range, and have no page in common. -/
structure Ok (G : Bl) (N : Nat) : Prop where
  low : ∀ k i, G k i → k ≤ N ∧ i < 2 ^ (N - k)
  one : ∀ k i k' i' x, G k i → G k' i' → x / 2 ^ k = i → x / 2 ^ k' = i' → k = k' ∧ i = i'

theorem div_pow (x k m : Nat) : x / 2 ^ (k + m) = x / 2 ^ k / 2 ^ m := by
  rw [Nat.pow_add, Nat.div_div_eq_div_mul]

theorem first (k i : Nat) : i * 2 ^ k / 2 ^ k = i := Nat.mul_div_cancel _ (Nat.pow_pos (by decide))

theorem Free.mono {G : Bl} {k i : Nat} (m : Nat) (h : Free G (k + m) (i / 2 ^ m)) : Free G k i := fun x hx => h x (by rw [div_pow, hx])

theorem free_up {G : Bl} {k i : Nat} : Free G (k + 1) i ↔ Free G k (2 * i) ∧ Free G k (2 * i + 1) := by
  constructor
  · intro h
    constructor
    · exact Free.mono 1 (by rw [Nat.pow_one, Nat.mul_div_cancel_left _ (by decide)]; exact h)
    · exact Free.mono 1 (by rw [Nat.pow_one, show (2 * i + 1) / 2 = i by omega]; exact h)
  · rintro ⟨h1, h2⟩ x hx
    rw [div_pow, Nat.pow_one] at hx
    have : x / 2 ^ k = 2 * i ∨ x / 2 ^ k = 2 * i + 1 := by omega
    rcases this with e | e
    · exact h1 x e
    · exact h2 x e

/-- A given block is not free, and neither is a block around it, or one within it. -/
theorem not_free {G : Bl} {k i : Nat} (h : G k i) (m : Nat) : ¬ Free G (k + m) (i / 2 ^ m) := fun hf => by
  have := hf (i * 2 ^ k) (by rw [div_pow, first])
  exact this ⟨k, by rw [first]; exact h⟩

theorem free_iff {G : Bl} {k i : Nat} : Free G k i ↔ (∀ m, ¬ G (k + m) (i / 2 ^ m)) ∧ ∀ m j, k = j + m → ∀ a, a / 2 ^ m = i → ¬ G j a := by
  constructor
  · intro h
    refine ⟨fun m hg => h (i * 2 ^ k) (first k i) ⟨k + m, by rw [div_pow, first]; exact hg⟩, fun m j hj a ha hg => ?_⟩
    refine h (a * 2 ^ j) (by rw [hj, div_pow, first, ha]) ⟨j, by rw [first]; exact hg⟩
  · rintro ⟨h1, h2⟩ x hx ⟨j, hg⟩
    rcases Nat.le_total k j with e | e
    · obtain ⟨m, rfl⟩ := Nat.exists_eq_add_of_le e
      rw [div_pow, hx] at hg
      exact h1 m hg
    · obtain ⟨m, rfl⟩ := Nat.exists_eq_add_of_le e
      exact h2 m j rfl (x / 2 ^ j) (by rw [← div_pow, hx]) hg

/-- Each free block lies in one that is no half of a free block. -/
theorem around {G : Bl} {N k i : Nat} (hk : k ≤ N) (hi : i < 2 ^ (N - k)) (h : Free G k i) : ∃ m, MaxFree G N (k + m) (i / 2 ^ m) := by
  obtain ⟨n, hn⟩ : ∃ n, n = N - k := ⟨_, rfl⟩
  induction n generalizing k i with
  | zero => exact ⟨0, hk, by simpa using hi, by simpa using h, .inl (by omega)⟩
  | succ n ih =>
    by_cases hf : Free G (k + 1) (i / 2)
    · have hi' : i / 2 < 2 ^ (N - (k + 1)) := by
        have : 2 ^ (N - k) = 2 * 2 ^ (N - (k + 1)) := by rw [show N - k = N - (k + 1) + 1 by omega, Nat.pow_succ]; omega
        omega
      obtain ⟨m, hm⟩ := ih (by omega) hi' hf (by omega)
      refine ⟨m + 1, ?_⟩
      rw [show k + (m + 1) = k + 1 + m by omega, show 2 ^ (m + 1) = 2 * 2 ^ m by rw [Nat.pow_succ]; omega, ← Nat.div_div_eq_div_mul]
      exact hm
    · exact ⟨0, hk, by simpa using hi, by simpa using h, .inr (by simpa using hf)⟩

/-- .. and in one alone. -/
theorem around_one {G : Bl} {N k i m m' : Nat} (h : MaxFree G N (k + m) (i / 2 ^ m)) (h' : MaxFree G N (k + m') (i / 2 ^ m')) : m = m' := by
  have key : ∀ a b, a < b → MaxFree G N (k + a) (i / 2 ^ a) → MaxFree G N (k + b) (i / 2 ^ b) → False := by
    intro a b hab ha hb
    obtain ⟨_, _, _, h4⟩ := ha
    obtain ⟨b1, _, b3, _⟩ := hb
    rcases h4 with h4 | h4
    · omega
    · refine h4 (Free.mono (b - a - 1) ?_)
      obtain ⟨c, hc⟩ : ∃ c, b = a + 1 + c := ⟨b - a - 1, by omega⟩
      subst hc
      rw [show a + 1 + c - a - 1 = c by omega, show k + a + 1 + c = k + (a + 1 + c) by omega, Nat.div_div_eq_div_mul, Nat.div_div_eq_div_mul, show 2 ^ a * (2 * 2 ^ c) = 2 ^ (a + 1 + c) by rw [Nat.pow_add, Nat.pow_add, Nat.pow_one, Nat.mul_assoc]]
      exact b3
  rcases Nat.lt_trichotomy m m' with e | e | e
  · exact (key m m' e h h').elim
  · exact e
  · exact (key m' m e h' h).elim

def add (G : Bl) (k i : Nat) : Bl := fun a b => (a = k ∧ b = i) ∨ G a b
def del (G : Bl) (k i : Nat) : Bl := fun a b => ¬ (a = k ∧ b = i) ∧ G a b

theorem used_add {G : Bl} {k i x : Nat} : Used (add G k i) x ↔ x / 2 ^ k = i ∨ Used G x := by
  constructor
  · rintro ⟨a, ⟨rfl, e⟩ | h⟩
    · exact .inl e
    · exact .inr ⟨a, h⟩
  · rintro (e | ⟨a, h⟩)
    · exact ⟨k, .inl ⟨rfl, e⟩⟩
    · exact ⟨a, .inr h⟩

theorem Ok.add {G : Bl} {N k i : Nat} (h : Ok G N) (hk : k ≤ N) (hi : i < 2 ^ (N - k)) (hf : Free G k i) : Ok (add G k i) N := by
  refine ⟨?_, ?_⟩
  · rintro a b (⟨rfl, rfl⟩ | hg)
    · exact ⟨hk, hi⟩
    · exact h.low a b hg
  · rintro a b a' b' x (⟨rfl, rfl⟩ | hg) (⟨rfl, rfl⟩ | hg') h1 h2
    · exact ⟨rfl, rfl⟩
    · exact absurd ⟨a', by rw [h2]; exact hg'⟩ (hf x h1)
    · exact absurd ⟨a, by rw [h1]; exact hg⟩ (hf x h2)
    · exact h.one a b a' b' x hg hg' h1 h2

theorem Ok.del {G : Bl} {N k i : Nat} (h : Ok G N) : Ok (del G k i) N :=
  ⟨fun a b hg => h.low a b hg.2, fun a b a' b' x hg hg' h1 h2 => h.one a b a' b' x hg.2 hg'.2 h1 h2⟩

theorem used_del {G : Bl} {N k i x : Nat} (h : Ok G N) (hg : G k i) : Used (del G k i) x ↔ Used G x ∧ x / 2 ^ k ≠ i := by
  constructor
  · rintro ⟨a, hn, ha⟩
    refine ⟨⟨a, ha⟩, fun e => ?_⟩
    obtain ⟨e1, e2⟩ := h.one a _ k i x ha hg rfl e
    exact hn ⟨e1, e2⟩
  · rintro ⟨⟨a, ha⟩, hne⟩
    exact ⟨a, fun ⟨e1, e2⟩ => hne (by rw [← e1]; exact e2), ha⟩

/-- The other half. -/
def sib (i : Nat) : Nat := if i % 2 = 0 then i + 1 else i - 1

theorem sib_half (i : Nat) : sib i / 2 = i / 2 := by unfold sib; split <;> omega
theorem sib_ne (i : Nat) : sib i ≠ i := by unfold sib; split <;> omega
theorem sib_of {a b : Nat} (h : a / 2 = b / 2) (hne : a ≠ b) : b = sib a := by unfold sib; split <;> omega

theorem pow_split (N k : Nat) (h : k + 1 ≤ N) : 2 ^ (N - k) = 2 * 2 ^ (N - (k + 1)) := by
  rw [show N - k = N - (k + 1) + 1 by omega, Nat.pow_succ]; omega

theorem div_step (i j : Nat) : i / 2 ^ (j + 1) = i / 2 ^ j / 2 := by rw [Nat.pow_succ, Nat.div_div_eq_div_mul]

theorem free_add {G : Bl} {k i a b : Nat} : Free (add G k i) a b ↔ Free G a b ∧ ∀ x, x / 2 ^ a = b → x / 2 ^ k ≠ i := by
  constructor
  · intro h
    exact ⟨fun x hx hu => h x hx (used_add.2 (.inr hu)), fun x hx e => h x hx (used_add.2 (.inl e))⟩
  · rintro ⟨h1, h2⟩ x hx hu
    rcases used_add.1 hu with e | e
    · exact h2 x hx e
    · exact h1 x hx e

/-- A block is carved out of the free block around it: the other halves become free blocks. -/
theorem carve {G : Bl} {N k i m : Nat} (hB : MaxFree G N (k + m) (i / 2 ^ m)) (a b : Nat) :
    MaxFree (add G k i) N a b ↔ (MaxFree G N a b ∧ ¬ (a = k + m ∧ b = i / 2 ^ m)) ∨ ∃ j, j < m ∧ a = k + j ∧ b = sib (i / 2 ^ j) := by
  obtain ⟨B1, B2, B3, B4⟩ := hB
  constructor
  · rintro ⟨h1, h2, h3, h4⟩
    obtain ⟨hf, hd⟩ := free_add.1 h3
    by_cases hp : a = N ∨ ¬ Free G (a + 1) (b / 2)
    · refine .inl ⟨⟨h1, h2, hf, hp⟩, ?_⟩
      rintro ⟨rfl, rfl⟩
      exact hd (i * 2 ^ k) (by rw [div_pow, first]) (first k i)
    · obtain ⟨hne, hpf⟩ := not_or.1 hp
      have hpf : Free G (a + 1) (b / 2) := Classical.not_not.1 hpf
      rcases h4 with h4 | h4
      · exact absurd h4 hne
      · -- the parent meets the block that was given
        have hm : ∃ x, x / 2 ^ (a + 1) = b / 2 ∧ x / 2 ^ k = i := by
          refine Classical.byContradiction fun hno => h4 (free_add.2 ⟨hpf, fun x hx e => hno ⟨x, hx, e⟩⟩)
        obtain ⟨x, hx, hxi⟩ := hm
        have hka : k ≤ a := by
          refine Nat.le_of_not_lt fun hlt => ?_
          obtain ⟨c, hc⟩ : ∃ c, k = a + 1 + c := ⟨k - (a + 1), by omega⟩
          refine hd (b * 2 ^ a) (first a b) ?_
          rw [hc, div_pow, div_pow (b * 2 ^ a) a 1, first, Nat.pow_one, ← hx, ← div_pow, ← hc, hxi]
        obtain ⟨j, rfl⟩ := Nat.exists_eq_add_of_le hka
        have e1 : i / 2 ^ j / 2 = b / 2 := by
          rw [← hx, ← hxi, ← div_step, ← div_pow, show k + (j + 1) = k + j + 1 by omega]
        have e2 : i / 2 ^ j ≠ b := by
          intro e
          exact hd (i * 2 ^ k) (by rw [div_pow, first, e]) (first k i)
        refine .inr ⟨j, ?_, rfl, sib_of e1 e2⟩
        refine Nat.lt_of_not_le fun hmj => ?_
        rcases B4 with B4 | B4
        · omega
        · refine B4 ?_
          obtain ⟨c, rfl⟩ := Nat.exists_eq_add_of_le hmj
          refine Free.mono c ?_
          rw [show k + m + 1 + c = k + (m + c) + 1 by omega, Nat.div_div_eq_div_mul, Nat.div_div_eq_div_mul, show 2 ^ m * (2 * 2 ^ c) = 2 ^ (m + c) * 2 by rw [Nat.pow_add, Nat.mul_comm 2 (2 ^ c), Nat.mul_assoc], ← Nat.div_div_eq_div_mul, e1]
          exact hpf
  · rintro (⟨⟨h1, h2, h3, h4⟩, hne⟩ | ⟨j, hj, rfl, rfl⟩)
    · have hd : ∀ x, x / 2 ^ a = b → x / 2 ^ k ≠ i := by
        intro x hx hxi
        rcases Nat.le_total k a with e | e
        · obtain ⟨j, rfl⟩ := Nat.exists_eq_add_of_le e
          rw [div_pow, hxi] at hx
          subst hx
          have := around_one ⟨h1, h2, h3, h4⟩ ⟨B1, B2, B3, B4⟩
          subst this
          exact hne ⟨rfl, rfl⟩
        · by_cases e' : a = k
          · subst e'
            rw [hx] at hxi
            subst hxi
            have h5 : MaxFree G N (a + 0) (b / 2 ^ 0) := by rw [Nat.pow_zero, Nat.div_one]; exact ⟨h1, h2, h3, h4⟩
            have := around_one h5 ⟨B1, B2, B3, B4⟩
            subst this
            exact hne ⟨rfl, by simp⟩
          · rcases h4 with h4 | h4
            · omega
            · obtain ⟨c, rfl⟩ : ∃ c, k = a + 1 + c := ⟨k - (a + 1), by omega⟩
              refine h4 (Free.mono (c + m) ?_)
              have : b / 2 / 2 ^ (c + m) = i / 2 ^ m := by
                rw [← hxi, ← hx, Nat.pow_add, ← Nat.div_div_eq_div_mul, div_pow x (a + 1) c, div_pow x a 1, Nat.pow_one]
              rw [this, show a + 1 + (c + m) = a + 1 + c + m by omega]
              exact B3
      refine ⟨h1, h2, free_add.2 ⟨h3, hd⟩, h4.imp id fun h4 hf => h4 (free_add.1 hf).1⟩
    · obtain ⟨c, rfl⟩ : ∃ c, m = j + 1 + c := ⟨m - (j + 1), by omega⟩
      have hpar : Free G (k + j + 1) (i / 2 ^ j / 2) := by
        refine Free.mono c ?_
        rw [show k + j + 1 + c = k + (j + 1 + c) by omega, ← div_step, Nat.div_div_eq_div_mul, ← Nat.pow_add]
        exact B3
      have hsf : Free G (k + j) (sib (i / 2 ^ j)) := Free.mono 1 (by rw [Nat.pow_one, sib_half]; exact hpar)
      refine ⟨by omega, ?_, free_add.2 ⟨hsf, fun x hx hxi => ?_⟩, .inr fun hf => ?_⟩
      · have hb : i / 2 ^ j / 2 < 2 ^ (N - (k + j + 1)) := by
          have : i / 2 ^ j / 2 / 2 ^ c < 2 ^ (N - (k + (j + 1 + c))) := by
            rw [← div_step, Nat.div_div_eq_div_mul, ← Nat.pow_add]; exact B2
          have h2 := (Nat.div_lt_iff_lt_mul (Nat.pow_pos (by decide))).1 this
          rw [← Nat.pow_add, show N - (k + (j + 1 + c)) + c = N - (k + j + 1) by omega] at h2
          exact h2
        have := pow_split N (k + j) (by omega)
        have := sib_half (i / 2 ^ j)
        omega
      · rw [div_pow, hxi] at hx
        exact sib_ne _ hx.symm
      · refine (free_add.1 hf).2 (i * 2 ^ k) ?_ (first k i)
        rw [div_pow _ (k + j) 1, div_pow, first, Nat.pow_one, sib_half]

/-- A block is taken back: halves are put together. -/
theorem merge {G : Bl} {N k i m : Nat} (hG : Ok G N) (hg : G k i) (hB : MaxFree (del G k i) N (k + m) (i / 2 ^ m)) (a b : Nat) :
    MaxFree (del G k i) N a b ↔ (MaxFree G N a b ∧ ¬ ∃ j, j < m ∧ a = k + j ∧ b = sib (i / 2 ^ j)) ∨ (a = k + m ∧ b = i / 2 ^ m) := by
  have hc := carve hB a b
  have e : add (del G k i) k i = G := by
    funext a b
    refine propext ⟨?_, fun h => ?_⟩
    · rintro (⟨rfl, rfl⟩ | h)
      · exact hg
      · exact h.2
    · by_cases e : a = k ∧ b = i
      · exact .inl e
      · exact .inr ⟨e, h⟩
  rw [e] at hc
  constructor
  · intro h
    by_cases hb : a = k + m ∧ b = i / 2 ^ m
    · exact .inr hb
    · refine .inl ⟨hc.2 (.inl ⟨h, hb⟩), ?_⟩
      rintro ⟨j, hj, rfl, rfl⟩
      obtain ⟨_, _, _, h4⟩ := h
      rcases h4 with h4 | h4
      · have := hB.1; omega
      · refine h4 ?_
        obtain ⟨c, rfl⟩ : ∃ c, m = j + 1 + c := ⟨m - (j + 1), by omega⟩
        rw [sib_half]
        refine Free.mono c ?_
        rw [show k + j + 1 + c = k + (j + 1 + c) by omega, ← div_step, Nat.div_div_eq_div_mul, ← Nat.pow_add]
        exact hB.2.2.1
  · rintro (⟨h, hno⟩ | ⟨rfl, rfl⟩)
    · rcases hc.1 h with h | h
      · exact h.1
      · exact absurd h hno
    · exact hB

theorem free_del_self {G : Bl} {N k i : Nat} (hG : Ok G N) (hg : G k i) : Free (del G k i) k i := fun x hx hu => ((used_del hG hg).1 hu).2 hx

/-- The halves are put together as long as the other half is a free block. -/
theorem merge_on {G : Bl} {N k i m : Nat} (hG : Ok G N) (hg : G k i) (hf : Free (del G k i) (k + m) (i / 2 ^ m)) (hs : MaxFree G N (k + m) (sib (i / 2 ^ m))) : Free (del G k i) (k + (m + 1)) (i / 2 ^ (m + 1)) := by
  rw [show k + (m + 1) = k + m + 1 by omega, div_step]
  have h2 : Free (del G k i) (k + m) (sib (i / 2 ^ m)) := fun x hx hu => hs.2.2.1 x hx ((used_del hG hg).1 hu).1
  rw [free_up]
  have h3 := sib_half (i / 2 ^ m)
  have h4 := sib_ne (i / 2 ^ m)
  by_cases e : i / 2 ^ m % 2 = 0
  · have e1 : 2 * (i / 2 ^ m / 2) = i / 2 ^ m := by omega
    have e2 : sib (i / 2 ^ m) = i / 2 ^ m + 1 := by unfold sib; rw [if_pos e]
    rw [e1, ← e2]
    exact ⟨hf, h2⟩
  · have e1 : 2 * (i / 2 ^ m / 2) + 1 = i / 2 ^ m := by omega
    have e2 : sib (i / 2 ^ m) = 2 * (i / 2 ^ m / 2) := by unfold sib; rw [if_neg e]; omega
    rw [e1, ← e2]
    exact ⟨h2, hf⟩

theorem merge_end {G : Bl} {N k i m : Nat} (hG : Ok G N) (hg : G k i) (hf : Free (del G k i) (k + m) (i / 2 ^ m)) (hm : k + m ≤ N) (hs : k + m = N ∨ ¬ MaxFree G N (k + m) (sib (i / 2 ^ m))) : MaxFree (del G k i) N (k + m) (i / 2 ^ m) := by
  have hlow := hG.low k i hg
  have hidx : ∀ m, k + m ≤ N → i / 2 ^ m < 2 ^ (N - (k + m)) := by
    intro m hm
    rw [Nat.div_lt_iff_lt_mul (Nat.pow_pos (by decide)), ← Nat.pow_add, show N - (k + m) + m = N - k by omega]
    exact hlow.2
  by_cases hN : k + m = N
  · exact ⟨hm, hidx m hm, hf, .inl hN⟩
  · refine ⟨hm, hidx m hm, hf, hs.imp id fun hs hp => hs ?_⟩
    have hsf : Free (del G k i) (k + m) (sib (i / 2 ^ m)) := Free.mono 1 (by rw [Nat.pow_one, sib_half]; exact hp)
    refine ⟨hm, ?_, fun x hx hu => ?_, .inr fun hpf => ?_⟩
    · have h1 := hidx (m + 1) (by omega)
      rw [div_step] at h1
      have := pow_split N (k + m) (by omega)
      have := sib_half (i / 2 ^ m)
      rw [show k + (m + 1) = k + m + 1 by omega] at h1
      omega
    · refine hsf x hx ((used_del hG hg).2 ⟨hu, fun e => ?_⟩)
      rw [div_pow, e] at hx
      exact sib_ne _ hx.symm
    · rw [sib_half, ← div_step, show k + m + 1 = k + (m + 1) by omega] at hpf
      exact not_free hg (m + 1) hpf
end Bu
end Go.Proofs.Ytdanhbbdkcbapaa
