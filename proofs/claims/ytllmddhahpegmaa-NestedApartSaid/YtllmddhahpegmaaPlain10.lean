/- The chain of an arena: itself and all around it. -/
import Derived.Test.YtllmddhahpegmaaPlain9
namespace Go.Proofs.Ytllmddhahpegmaa
namespace Ne

inductive Chn (M : Tr) : Nat → List Nat → Prop where
  | root (n : Node) : M[0]? = some (some n) → n.p = -1 → Chn M 0 [0]
  | step (c p : Nat) (n : Node) (l : List Nat) : M[c]? = some (some n) → n.p = (p : Int) → Chn M p l → Chn M c (c :: l)

theorem Chn.opn {M : Tr} {c : Nat} {l : List Nat} (h : Chn M c l) : Opn M c := by
  cases h with
  | root n h _ => exact ⟨_, h⟩
  | step _ _ _ _ h1 _ _ => exact ⟨_, h1⟩

theorem Chn.ne {M : Tr} {c : Nat} {l : List Nat} (h : Chn M c l) : l ≠ [] := by
  cases h <;> simp

theorem Chn.mem {M : Tr} {c : Nat} {l : List Nat} (h : Chn M c l) : ∀ a, a ∈ l ↔ Anc M c a := by
  induction h with
  | root n h hp =>
    intro a
    constructor
    · intro ha
      rw [List.mem_singleton] at ha
      subst ha
      exact .refl 0
    · intro hA
      rcases hA.inv with e | ⟨p, k, hk, hkp, _⟩
      · exact List.mem_singleton.2 e.symm
      · rw [h] at hk
        injection hk with hk; injection hk with hk
        subst hk
        omega
  | step c p n l h1 hp _ ih =>
    intro a
    constructor
    · intro ha
      rcases List.mem_cons.1 ha with e | e
      · rw [e]; exact .refl c
      · exact .step c p a n h1 hp ((ih a).1 e)
    · intro hA
      rcases hA.inv with e | ⟨p', k, hk, hkp, hA'⟩
      · rw [e]; exact List.mem_cons_self
      · rw [h1] at hk
        injection hk with hk; injection hk with hk
        subst hk
        obtain rfl : p = p' := by omega
        exact List.mem_cons_of_mem _ ((ih a).2 hA')

theorem chn_ex {M : Tr} (h : Good M) {d : Nat → Nat} {D : Nat} (hr : Ranked M d D) : ∀ (m c : Nat), d c ≤ m → Opn M c → ∃ l, Chn M c l := by
  intro m
  induction m with
  | zero =>
    rintro c hd ⟨n, hn⟩
    by_cases e : c = 0
    · subst e
      exact ⟨_, .root n hn ((h.node 0 n hn).root rfl)⟩
    · obtain ⟨h0, _⟩ := (h.node c n hn).par e
      have := h.parent_rank hr hn (p := n.p.toNat) (by omega)
      omega
  | succ m ih =>
    rintro c hd ⟨n, hn⟩
    by_cases e : c = 0
    · subst e
      exact ⟨_, .root n hn ((h.node 0 n hn).root rfl)⟩
    · obtain ⟨h0, q, hq, _⟩ := (h.node c n hn).par e
      have := h.parent_rank hr hn (p := n.p.toNat) (by omega)
      obtain ⟨l, hl⟩ := ih n.p.toNat (by omega) ⟨q, hq⟩
      exact ⟨_, .step c n.p.toNat n l hn (by omega) hl⟩

theorem Good.chn {M : Tr} (h : Good M) {c : Nat} (hc : Opn M c) : ∃ l, Chn M c l := by
  obtain ⟨d, D, hr⟩ := h.ranked
  exact chn_ex h hr (d c) c (Nat.le_refl _) hc

theorem Chn.ranks {M : Tr} (h : Good M) {d : Nat → Nat} {D : Nat} (hr : Ranked M d D) {c : Nat} {l : List Nat} (hc : Chn M c l) : l.Pairwise (fun a b => d b < d a) ∧ ∀ a ∈ l, d a ≤ d c := by
  induction hc with
  | root n _ _ => simp
  | step c p n l h1 hp _ ih =>
    have hrk := h.parent_rank hr h1 hp
    refine ⟨List.pairwise_cons.2 ⟨fun a ha => ?_, ih.1⟩, fun a ha => ?_⟩
    · have := ih.2 a ha; omega
    · rcases List.mem_cons.1 ha with e | e
      · rw [e]; exact Nat.le_refl _
      · have := ih.2 a e; omega

theorem pigeon : ∀ (n : Nat) (l : List Nat), l.Pairwise (fun a b => a ≠ b) → (∀ a ∈ l, a < n) → l.length ≤ n := by
  intro n
  induction n with
  | zero =>
    intro l _ h
    cases l with
    | nil => simp
    | cons a l => exact absurd (h a List.mem_cons_self) (by omega)
  | succ n ih =>
    intro l hp h
    have h1 := ih (l.filter (fun a => a ≠ n)) (hp.filter _) (fun a ha => by
      have := List.mem_filter.1 ha
      have h2 := h a this.1
      have h3 : a ≠ n := by simpa using this.2
      omega)
    have h2 : ∀ l : List Nat, l.Pairwise (fun a b => a ≠ b) → l.length ≤ (l.filter (fun a => a ≠ n)).length + 1 := by
      intro l
      induction l with
      | nil => simp
      | cons a l ih2 =>
        intro hp
        obtain ⟨p1, p2⟩ := List.pairwise_cons.1 hp
        by_cases e : a = n
        · subst e
          have : l.filter (fun x => x ≠ a) = l := by
            rw [List.filter_eq_self]
            intro x hx
            have := p1 x hx
            simp
            exact fun e => this e.symm
          rw [List.filter_cons_of_neg (by simp), this]; simp
        · have := ih2 p2
          simp [e]
          simpa using this
    have := h2 l hp
    omega

theorem Chn.len {M : Tr} (h : Good M) {c : Nat} {l : List Nat} (hc : Chn M c l) : l.length ≤ 64 := by
  obtain ⟨d, D, hr⟩ := h.ranked
  obtain ⟨h1, _⟩ := hc.ranks h hr
  refine pigeon 64 l (h1.imp fun hab e => by subst e; omega) fun a ha => ?_
  have hA := (hc.mem a).1 ha
  have hlen := h.len
  have key : ∀ x y, Anc M x y → Opn M x → Opn M y := by
    intro x y hA
    induction hA with
    | refl c => exact id
    | step c p a k h1 hp _ ih => exact fun _ => ih (by obtain ⟨_, q, hq, _⟩ := h.parent h1 hp; exact ⟨q, hq⟩)
  obtain ⟨q, hq⟩ := key _ _ hA hc.opn
  have := (List.getElem?_eq_some_iff.1 hq).1
  omega

theorem anc_opn {M : Tr} (h : Good M) {c a : Nat} (hA : Anc M c a) : Opn M c → Opn M a := by
  induction hA with
  | refl c => exact id
  | step c p a k h1 hp _ ih => exact fun _ => ih (by obtain ⟨_, q, hq, _⟩ := h.parent h1 hp; exact ⟨q, hq⟩)

/-- The arenas of a tree that have another one around them, ascending, up to a number. -/
def Under (M : Tr) (k : Int) (m : Nat) (l : List Nat) : Prop := l.Pairwise (fun a b => a < b) ∧ ∀ i, i ∈ l ↔ i < m ∧ Opn M i ∧ 0 ≤ k ∧ Anc M i k.toNat

theorem Under.nil (M : Tr) (k : Int) : Under M k 0 [] := ⟨.nil, fun i => by simp⟩
theorem Under.yes {M : Tr} {k : Int} {m : Nat} {l : List Nat} (h : Under M k m l) (ho : Opn M m) (hk : 0 ≤ k) (hA : Anc M m k.toNat) : Under M k (m + 1) (l ++ [m]) := by
  refine ⟨List.pairwise_append.2 ⟨h.1, List.pairwise_singleton _ _, fun a ha b hb => ?_⟩, fun i => ?_⟩
  · rw [List.mem_singleton] at hb; subst hb; exact ((h.2 a).1 ha).1
  · rw [List.mem_append, List.mem_singleton, h.2]
    constructor
    · rintro (⟨h1, h2⟩ | rfl)
      · exact ⟨by omega, h2⟩
      · exact ⟨by omega, ho, hk, hA⟩
    · rintro ⟨h1, h2⟩
      by_cases e : i = m
      · exact .inr e
      · exact .inl ⟨by omega, h2⟩
theorem Under.no {M : Tr} {k : Int} {m : Nat} {l : List Nat} (h : Under M k m l) (hn : ¬ (Opn M m ∧ 0 ≤ k ∧ Anc M m k.toNat)) : Under M k (m + 1) l := by
  refine ⟨h.1, fun i => ?_⟩
  rw [h.2]
  constructor
  · rintro ⟨h1, h2⟩; exact ⟨by omega, h2⟩
  · rintro ⟨h1, h2⟩
    by_cases e : i = m
    · subst e; exact absurd h2 hn
    · exact ⟨by omega, h2⟩
theorem Under.len {M : Tr} {k : Int} {m : Nat} {l : List Nat} (h : Under M k m l) : l.length ≤ m :=
  pigeon m l (h.1.imp fun hab e => by omega) fun a ha => ((h.2 a).1 ha).1
end Ne
end Go.Proofs.Ytllmddhahpegmaa
