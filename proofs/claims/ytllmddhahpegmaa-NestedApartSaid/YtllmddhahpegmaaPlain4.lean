/- The plain laws on trees: what the calls leave is a tree as it should be. -/
import Derived.Test.YtllmddhahpegmaaPlain3
namespace Go.Proofs.Ytllmddhahpegmaa
namespace Ne

def newTr (n : Int) : Tr := [some ⟨-1, 0, n, []⟩]

theorem newTr_at {n : Int} {i : Nat} {k : Node} (h : (newTr n)[i]? = some (some k)) : i = 0 ∧ k = ⟨-1, 0, n, []⟩ := by
  cases i with
  | zero => simp [newTr] at h; exact ⟨rfl, h.symm⟩
  | succ i => simp [newTr] at h

theorem new_good (n : Int) (h1 : 1 ≤ n) (h2 : n ≤ 65536) : Good (newTr n) := by
  refine ⟨by simp [newTr], ⟨_, rfl, rfl⟩, by simp [newTr], fun i k hk => ?_, fun _ => 0, 0, fun _ => Nat.le_refl _, fun i k hk x hx => ?_⟩
  · obtain ⟨rfl, rfl⟩ := newTr_at hk
    exact ⟨h1, Int.le_refl _, by show (0 : Int) + n ≤ 65536; omega, by simp, trivial, fun x hx => by simp at hx, fun x hx => by simp at hx, fun x hx => by simp at hx, .nil, fun _ => rfl, fun h => absurd rfl h⟩
  · obtain ⟨rfl, rfl⟩ := newTr_at hk
    simp at hx

theorem Seq.snoc {lo hi : Int} {l : List Item} {x : Item} (h : Seq lo hi l) (h1 : ∀ y, l.getLast? = some y → y.a + y.s ≤ x.a) (h2 : l = [] → lo ≤ x.a) (h3 : 1 ≤ x.s) (h4 : x.a + x.s ≤ hi) : Seq lo hi (l ++ [x]) := by
  induction l generalizing lo with
  | nil => exact ⟨h2 rfl, h3, h4, trivial⟩
  | cons y l ih =>
    obtain ⟨a, b, c, d⟩ := h
    refine ⟨a, b, c, ih d (fun z hz => h1 z ?_) (fun e => ?_)⟩
    · cases l with
      | nil => simp at hz
      | cons w l => rw [List.getLast?_cons_cons]; exact hz
    · subst e
      exact h1 y rfl

theorem Seq.sub {lo hi : Int} {l : List Item} (h : Seq lo hi l) : ∀ {m : List Item}, m.Sublist l → Seq lo hi m := by
  have weak : ∀ {lo lo' hi : Int} {l : List Item}, lo ≤ lo' → Seq lo' hi l → Seq lo hi l := by
    intro lo lo' hi l hle h
    cases l with
    | nil => trivial
    | cons y l => exact ⟨by have := h.1; omega, h.2⟩
  induction l generalizing lo with
  | nil => intro m hm; rw [List.sublist_nil.1 hm]; trivial
  | cons y l ih =>
    intro m hm
    obtain ⟨a, b, c, d⟩ := h
    cases hm with
    | cons _ hm => exact weak (by omega) (ih d hm)
    | cons_cons _ hm => exact ⟨a, b, c, ih d hm⟩

theorem Seq.hole {lo hi : Int} {l : List Item} (h : Seq lo hi l) (j : Nat) (x : Item) (hx : l[j]? = some x) : Seq lo hi (l.set j { x with c := -2 }) := by
  induction l generalizing lo j with
  | nil => trivial
  | cons y l ih =>
    obtain ⟨a, b, c, d⟩ := h
    cases j with
    | zero =>
      simp at hx
      subst hx
      exact ⟨a, b, c, d⟩
    | succ j => exact ⟨a, b, c, ih d j (by simpa using hx)⟩

theorem getLast_set {t : Tr} {i : Nat} {o : Option Node} (h : t.getLast? ≠ some none) (ho : o ≠ none) : (t.set i o).getLast? ≠ some none := by
  intro e
  rw [List.getLast?_eq_getElem?, List.length_set, List.getElem?_set] at e
  split at e
  · split at e
    · injection e with e; exact ho e
    · cases e
  · rw [← List.getLast?_eq_getElem?] at e
    exact h e

/-- An item of bytes more. -/
theorem alloc_good {M : Tr} (h : Good M) {i : Nat} {n : Node} (hi : M[i]? = some (some n)) {x : Item} (hc : x.c = -1) (h1 : n.fin ≤ x.a) (h2 : 1 ≤ x.s) (h3 : x.a + x.s ≤ n.a + n.s) (hl : n.l.length < 200) :
    Good (M.set i (some { n with l := n.l ++ [x] })) := by
  obtain ⟨d, D, hd, hr⟩ := h.rank
  have hiM : i < M.length := (List.getElem?_eq_some_iff.1 hi).1
  have hok := h.node i n hi
  have hget : ∀ (j : Nat) (k : Node), (M.set i (some { n with l := n.l ++ [x] }))[j]? = some (some k) → (j = i ∧ k = { n with l := n.l ++ [x] }) ∨ (j ≠ i ∧ M[j]? = some (some k)) := by
    intro j k hk
    by_cases e : i = j
    · subst e
      rw [List.getElem?_set_self hiM] at hk
      injection hk with hk
      injection hk with hk
      exact .inl ⟨rfl, hk.symm⟩
    · rw [List.getElem?_set_ne e] at hk
      exact .inr ⟨fun e' => e e'.symm, hk⟩
  have hput : ∀ (j : Nat) (k : Node), M[j]? = some (some k) → ∃ k' : Node, (M.set i (some { n with l := n.l ++ [x] }))[j]? = some (some k') ∧ k'.p = k.p ∧ k'.a = k.a ∧ k'.s = k.s ∧ (∀ y ∈ k.l, y ∈ k'.l) := by
    intro j k hk
    by_cases e : j = i
    · subst e
      rw [hi] at hk
      injection hk with hk
      injection hk with hk
      subst hk
      exact ⟨{ n with l := n.l ++ [x] }, List.getElem?_set_self hiM, rfl, rfl, rfl, fun y hy => List.mem_append.2 (.inl hy)⟩
    · exact ⟨k, by rw [List.getElem?_set_ne (fun e' => e e'.symm)]; exact hk, rfl, rfl, rfl, fun y hy => hy⟩
  have hkid : ∀ (j : Nat) (k : Node), M[j]? = some (some k) → ∀ y ∈ k.l, 0 ≤ y.c → ∃ k' : Node, (M.set i (some { n with l := n.l ++ [x] }))[y.c.toNat]? = some (some k') ∧ k'.p = j ∧ k'.a = y.a ∧ k'.s = y.s := by
    intro j k hk y hy h0
    obtain ⟨k1, hk1, e1, e2, e3⟩ := (h.node j k hk).kid y hy h0
    obtain ⟨k2, hk2, f1, f2, f3, _⟩ := hput _ _ hk1
    exact ⟨k2, hk2, f1.trans e1, f2.trans e2, f3.trans e3⟩
  have hpar : ∀ (j : Nat) (k : Node), M[j]? = some (some k) → j ≠ 0 → 0 ≤ k.p ∧ ∃ q : Node, (M.set i (some { n with l := n.l ++ [x] }))[k.p.toNat]? = some (some q) ∧ ∃ y ∈ q.l, y.c = j := by
    intro j k hk hj
    obtain ⟨h0, q, hq, y, hy, hyc⟩ := (h.node j k hk).par hj
    obtain ⟨k2, hk2, _, _, _, f4⟩ := hput _ _ hq
    exact ⟨h0, k2, hk2, y, f4 y hy, hyc⟩
  refine ⟨by rw [List.length_set]; exact h.len, ?_, getLast_set h.last (by simp), fun j k hk => ?_, d, D, hd, fun j k hk y hy h0 => ?_⟩
  · obtain ⟨r, hr0, hra⟩ := h.root
    obtain ⟨k', hk', _, e, _⟩ := hput _ _ hr0
    exact ⟨k', hk', e.trans hra⟩
  · rcases hget j k hk with ⟨rfl, rfl⟩ | ⟨hne, hk⟩
    · refine ⟨hok.s1, hok.a0, hok.top, by simp; omega, hok.seq.snoc (fun y hy => ?_) (fun e => ?_) h2 h3, fun y hy => ?_, fun y hy => ?_, fun y hy h0 => ?_, ?_, hok.root, hpar j n hi⟩
      · have : n.fin = y.a + y.s := by simp [Node.fin, hy]
        omega
      · have : n.fin = n.a := by simp [Node.fin, e]
        omega
      · rw [List.getLast?_concat] at hy
        injection hy with hy
        subst hy
        omega
      · rcases List.mem_append.1 hy with hy | hy
        · exact hok.low y hy
        · rw [List.mem_singleton] at hy
          subst hy
          omega
      · rcases List.mem_append.1 hy with hy | hy
        · exact hkid j n hi y hy h0
        · rw [List.mem_singleton] at hy
          subst hy
          omega
      · rw [List.pairwise_append]
        refine ⟨hok.uniq, by simp, fun y hy z hz h0 => ?_⟩
        rw [List.mem_singleton] at hz
        subst hz
        omega
    · have hk' := h.node j k hk
      exact ⟨hk'.s1, hk'.a0, hk'.top, hk'.len, hk'.seq, hk'.last, hk'.low, hkid j k hk, hk'.uniq, hk'.root, hpar j k hk⟩
  · rcases hget j k hk with ⟨rfl, rfl⟩ | ⟨hne, hk⟩
    · rcases List.mem_append.1 hy with hy | hy
      · exact hr j n hi y hy h0
      · rw [List.mem_singleton] at hy
        subst hy
        omega
    · exact hr j k hk y hy h0

theorem hole_le (M : Tr) : hole M ≤ M.length := List.findIdx_le_length

theorem hole_at {M : Tr} {n : Node} (h : M[hole M]? = some (some n)) : False := by
  have hl := (List.getElem?_eq_some_iff.1 h).1
  have := List.findIdx_getElem (w := hl)
  obtain ⟨_, e⟩ := List.getElem?_eq_some_iff.1 h
  have h2 : (M[hole M]).isNone = true := this
  rw [e] at h2
  cases h2

/-- A new arena. -/
theorem begin_good {M : Tr} (h : Good M) {i : Nat} {n : Node} (hi : M[i]? = some (some n)) {at_ sz : Int} (h1 : n.fin ≤ at_) (h2 : 1 ≤ sz) (h3 : at_ + sz ≤ n.a + n.s) (hl : n.l.length < 200) (hk : hole M ≠ 64) :
    Good ((addItem (room M (hole M)) i ⟨at_, sz, hole M⟩).set (hole M) (some ⟨i, at_, sz, []⟩)) := by
  obtain ⟨d, D, hd, hr⟩ := h.rank
  have hiM : i < M.length := (List.getElem?_eq_some_iff.1 hi).1
  have hok := h.node i n hi
  have hle := hole_le M
  have hlen := h.len
  have hik : i ≠ hole M := fun e => by rw [e] at hi; exact hole_at hi
  have hroom : ∀ (j : Nat) (k : Node), (room M (hole M))[j]? = some (some k) ↔ M[j]? = some (some k) := by
    intro j k
    unfold room
    split
    · exact Iff.rfl
    · by_cases hj : j < M.length
      · rw [List.getElem?_append_left hj]
      · rw [List.getElem?_append_right (by omega), List.getElem?_eq_none (l := M) (by omega)]
        constructor
        · intro e
          cases e2 : j - M.length with
          | zero => rw [e2] at e; simp at e
          | succ m => rw [e2] at e; simp at e
        · intro e; cases e
  have hrl : hole M < (room M (hole M)).length ∧ (room M (hole M)).length ≤ 64 ∧ M.length ≤ (room M (hole M)).length := by
    unfold room
    split
    · exact ⟨by assumption, hlen, Nat.le_refl _⟩
    · simp; omega
  have hadd : addItem (room M (hole M)) i ⟨at_, sz, hole M⟩ = (room M (hole M)).set i (some { n with l := n.l ++ [⟨at_, sz, hole M⟩] }) := by
    simp [addItem, (hroom i n).2 hi]
  rw [hadd]
  generalize hR : ((room M (hole M)).set i (some { n with l := n.l ++ [⟨at_, sz, hole M⟩] })).set (hole M) (some ⟨i, at_, sz, []⟩) = R
  have hRl : R.length = (room M (hole M)).length := by rw [← hR]; simp
  have hRk : R[hole M]? = some (some ⟨i, at_, sz, []⟩) := by
    rw [← hR, List.getElem?_set_self (by rw [List.length_set]; exact hrl.1)]
  have hRi : R[i]? = some (some { n with l := n.l ++ [⟨at_, sz, hole M⟩] }) := by
    rw [← hR, List.getElem?_set_ne (fun e => hik e.symm), List.getElem?_set_self (by omega)]
  have hRj : ∀ (j : Nat) (k : Node), j ≠ i → j ≠ hole M → (R[j]? = some (some k) ↔ M[j]? = some (some k)) := by
    intro j k h1 h2
    rw [← hR, List.getElem?_set_ne (fun e => h2 e.symm), List.getElem?_set_ne (fun e => h1 e.symm)]
    exact hroom j k
  have hget : ∀ (j : Nat) (k : Node), R[j]? = some (some k) → (j = i ∧ k = { n with l := n.l ++ [⟨at_, sz, hole M⟩] }) ∨ (j = hole M ∧ k = ⟨i, at_, sz, []⟩) ∨ (j ≠ i ∧ j ≠ hole M ∧ M[j]? = some (some k)) := by
    intro j k hk
    by_cases e : j = i
    · subst e
      rw [hRi] at hk
      injection hk with hk
      injection hk with hk
      exact .inl ⟨rfl, hk.symm⟩
    · by_cases e2 : j = hole M
      · rw [e2, hRk] at hk
        injection hk with hk
        injection hk with hk
        exact .inr (.inl ⟨e2, hk.symm⟩)
      · exact .inr (.inr ⟨e, e2, (hRj j k e e2).1 hk⟩)
  have hput : ∀ (j : Nat) (k : Node), M[j]? = some (some k) → ∃ k' : Node, R[j]? = some (some k') ∧ k'.p = k.p ∧ k'.a = k.a ∧ k'.s = k.s ∧ (∀ y ∈ k.l, y ∈ k'.l) := by
    intro j k hk
    by_cases e : j = i
    · subst e
      rw [hi] at hk
      injection hk with hk
      injection hk with hk
      subst hk
      exact ⟨_, hRi, rfl, rfl, rfl, fun y hy => List.mem_append.2 (.inl hy)⟩
    · by_cases e2 : j = hole M
      · rw [e2] at hk; exact (hole_at hk).elim
      · exact ⟨k, (hRj j k e e2).2 hk, rfl, rfl, rfl, fun y hy => hy⟩
  have hkid : ∀ (j : Nat) (k : Node), M[j]? = some (some k) → ∀ y ∈ k.l, 0 ≤ y.c → ∃ k' : Node, R[y.c.toNat]? = some (some k') ∧ k'.p = j ∧ k'.a = y.a ∧ k'.s = y.s := by
    intro j k hk y hy h0
    obtain ⟨k1, hk1, e1, e2, e3⟩ := (h.node j k hk).kid y hy h0
    obtain ⟨k2, hk2, f1, f2, f3, _⟩ := hput _ _ hk1
    exact ⟨k2, hk2, f1.trans e1, f2.trans e2, f3.trans e3⟩
  have hpar : ∀ (j : Nat) (k : Node), M[j]? = some (some k) → j ≠ 0 → 0 ≤ k.p ∧ ∃ q : Node, R[k.p.toNat]? = some (some q) ∧ ∃ y ∈ q.l, y.c = j := by
    intro j k hk hj
    obtain ⟨h0, q, hq, y, hy, hyc⟩ := (h.node j k hk).par hj
    obtain ⟨k2, hk2, _, _, _, f4⟩ := hput _ _ hq
    exact ⟨h0, k2, hk2, y, f4 y hy, hyc⟩
  have hnokid : ∀ (j : Nat) (k : Node), M[j]? = some (some k) → ∀ y ∈ k.l, 0 ≤ y.c → y.c ≠ (hole M : Int) := by
    intro j k hk y hy h0 e
    obtain ⟨k1, hk1, _⟩ := (h.node j k hk).kid y hy h0
    rw [e, Int.toNat_natCast] at hk1
    exact hole_at hk1
  refine ⟨by rw [hRl]; exact hrl.2.1, ?_, ?_, fun j k hk => ?_, fun j => if j = hole M then d i + 1 else d j, D + 1, fun j => ?_, fun j k hk y hy h0 => ?_⟩
  · obtain ⟨r, hr0, hra⟩ := h.root
    obtain ⟨k', hk', _, e, _⟩ := hput _ _ hr0
    exact ⟨k', hk', e.trans hra⟩
  · intro e
    rw [List.getLast?_eq_getElem?] at e
    by_cases e1 : R.length - 1 = hole M
    · rw [e1, hRk] at e
      simp at e
    · by_cases e2 : R.length - 1 = i
      · rw [e2, hRi] at e
        simp at e
      · have hlt : hole M < M.length := by
          rcases Nat.lt_or_ge (hole M) M.length with h | h
          · exact h
          · have : (room M (hole M)).length = M.length + 1 := by unfold room; rw [if_neg (by omega)]; simp
            omega
        have hrm : room M (hole M) = M := by unfold room; rw [if_pos hlt]
        rw [hrm] at hRl hR
        rw [← hR, List.getElem?_set_ne (fun e => e1 (by rw [hRl]; simpa using e.symm)), List.getElem?_set_ne (fun e => e2 (by rw [hRl]; simpa using e.symm)), List.length_set, List.length_set, ← List.getLast?_eq_getElem?] at e
        exact h.last e
  · rcases hget j k hk with ⟨rfl, rfl⟩ | ⟨rfl, rfl⟩ | ⟨hne, hne2, hk⟩
    · refine ⟨hok.s1, hok.a0, hok.top, by simp; omega, hok.seq.snoc (fun y hy => ?_) (fun e => ?_) h2 h3, fun y hy => ?_, fun y hy => ?_, fun y hy h0 => ?_, ?_, hok.root, hpar j n hi⟩
      · have : n.fin = y.a + y.s := by simp [Node.fin, hy]
        show _ ≤ at_
        omega
      · have : n.fin = n.a := by simp [Node.fin, e]
        show _ ≤ at_
        omega
      · rw [List.getLast?_concat] at hy
        injection hy with hy
        subst hy
        show (hole M : Int) ≠ -2
        omega
      · rcases List.mem_append.1 hy with hy | hy
        · exact hok.low y hy
        · rw [List.mem_singleton] at hy
          subst hy
          show -2 ≤ (hole M : Int)
          omega
      · rcases List.mem_append.1 hy with hy | hy
        · exact hkid j n hi y hy h0
        · rw [List.mem_singleton] at hy
          subst hy
          exact ⟨_, by rw [Int.toNat_natCast]; exact hRk, rfl, rfl, rfl⟩
      · rw [List.pairwise_append]
        refine ⟨hok.uniq, by simp, fun y hy z hz h0 => ?_⟩
        rw [List.mem_singleton] at hz
        subst hz
        exact hnokid j n hi y hy h0
    · have ha := hok.a0
      have hf := hok.fin
      have ht := hok.top
      refine ⟨h2, by show 0 ≤ at_; omega, by show at_ + sz ≤ 65536; omega, by simp, trivial, fun y hy => by simp at hy, fun y hy => by simp at hy, fun y hy => by simp at hy, .nil, fun e => ?_, fun _ => ⟨by show 0 ≤ (i : Int); omega, _, by rw [Int.toNat_natCast]; exact hRi, ⟨at_, sz, hole M⟩, List.mem_append.2 (.inr (List.mem_singleton.2 rfl)), rfl⟩⟩
      obtain ⟨r, hr0, _⟩ := h.root
      rw [← e] at hr0
      exact (hole_at hr0).elim
    · have hk' := h.node j k hk
      exact ⟨hk'.s1, hk'.a0, hk'.top, hk'.len, hk'.seq, hk'.last, hk'.low, hkid j k hk, hk'.uniq, hk'.root, hpar j k hk⟩
  · show (if j = hole M then d i + 1 else d j) ≤ D + 1
    have := hd i
    have := hd j
    split <;> omega
  · show (if y.c.toNat = hole M then d i + 1 else d y.c.toNat) = (if j = hole M then d i + 1 else d j) + 1
    have hkk : ∀ (j : Nat) (k : Node), M[j]? = some (some k) → ∀ y ∈ k.l, 0 ≤ y.c → (if y.c.toNat = hole M then d i + 1 else d y.c.toNat) = d j + 1 := fun j k hk y hy h0 => by
      rw [if_neg (fun e => hnokid j k hk y hy h0 (by omega))]
      exact hr j k hk y hy h0
    rcases hget j k hk with ⟨rfl, rfl⟩ | ⟨rfl, rfl⟩ | ⟨hne, hne2, hk⟩
    · rw [if_neg hik]
      rcases List.mem_append.1 hy with hy | hy
      · exact hkk j n hi y hy h0
      · rw [List.mem_singleton] at hy
        subst hy
        rw [if_pos (by show (hole M : Int).toNat = _; simp)]
    · simp at hy
    · rw [if_neg hne2]
      exact hkk j k hk y hy h0
end Ne
end Go.Proofs.Ytllmddhahpegmaa
