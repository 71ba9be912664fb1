/- The plain laws on trees: what the calls leave is a tree as it should be. The walks of give, New, Mark, Room, Alloc. The walks of Room, Alloc, Begin. -/
import Derived.Test.YtllmddhahpegmaaM1
import Derived.Test.YtllmddhahpegmaaM0
import Derived.Lib.Hide
import Derived.Laws.AppendOwn
import Derived.Deep.AppendLies
import Derived.WalkSmall
namespace Go.Proofs.Ytllmddhahpegmaa
namespace Ne

def newTr (n : Int) : Tr := [some ⟨-1, 0, n, []⟩]

theorem newTr_at {n : Int} {i : Nat} {k : Node} (h : (newTr n)[i]? = some (some k)) : i = 0 ∧ k = ⟨-1, 0, n, []⟩ := by
  cases i with
  | zero => simp [newTr] at h; exact ⟨rfl, h.symm⟩
  | succ i => simp [newTr] at h

theorem new_good (n : Int) (h1 : 1 ≤ n) (h2 : n ≤ 65536) : Good (newTr n) := by
  refine ⟨by simp [newTr], ⟨_, rfl, rfl⟩, by simp [newTr], fun i k hk => ?_, fun _ => 0, 0, fun _ => Nat.le_refl _, fun i k hk x hx => ?_⟩
  · obtain ⟨rfl, rfl⟩ := newTr_at hk
    exact ⟨h1, Int.le_refl _, by show (0 : Int) + n ≤ 65536; omega, by simp, trivial, fun x hx => by simp at hx, fun x hx => by simp at hx, fun x hx => by simp at hx, .nil, fun _ => rfl, fun h => absurd rfl h⟩
  · obtain ⟨rfl, rfl⟩ := newTr_at hk
    simp at hx

theorem Seq.snoc {lo hi : Int} {l : List Item} {x : Item} (h : Seq lo hi l) (h1 : ∀ y, l.getLast? = some y → y.a + y.s ≤ x.a) (h2 : l = [] → lo ≤ x.a) (h3 : 1 ≤ x.s) (h4 : x.a + x.s ≤ hi) : Seq lo hi (l ++ [x]) := by
  induction l generalizing lo with
  | nil => exact ⟨h2 rfl, h3, h4, trivial⟩
  | cons y l ih =>
    obtain ⟨a, b, c, d⟩ := h
    refine ⟨a, b, c, ih d (fun z hz => h1 z ?_) (fun e => ?_)⟩
    · cases l with
      | nil => simp at hz
      | cons w l => rw [List.getLast?_cons_cons]; exact hz
    · subst e
      exact h1 y rfl

theorem Seq.sub {lo hi : Int} {l : List Item} (h : Seq lo hi l) : ∀ {m : List Item}, m.Sublist l → Seq lo hi m := by
  have weak : ∀ {lo lo' hi : Int} {l : List Item}, lo ≤ lo' → Seq lo' hi l → Seq lo hi l := by
    intro lo lo' hi l hle h
    cases l with
    | nil => trivial
    | cons y l => exact ⟨by have := h.1; omega, h.2⟩
  induction l generalizing lo with
  | nil => intro m hm; rw [List.sublist_nil.1 hm]; trivial
  | cons y l ih =>
    intro m hm
    obtain ⟨a, b, c, d⟩ := h
    cases hm with
    | cons _ hm => exact weak (by omega) (ih d hm)
    | cons_cons _ hm => exact ⟨a, b, c, ih d hm⟩

theorem Seq.hole {lo hi : Int} {l : List Item} (h : Seq lo hi l) (j : Nat) (x : Item) (hx : l[j]? = some x) : Seq lo hi (l.set j { x with c := -2 }) := by
  induction l generalizing lo j with
  | nil => trivial
  | cons y l ih =>
    obtain ⟨a, b, c, d⟩ := h
    cases j with
    | zero =>
      simp at hx
      subst hx
      exact ⟨a, b, c, d⟩
    | succ j => exact ⟨a, b, c, ih d j (by simpa using hx)⟩

theorem getLast_set {t : Tr} {i : Nat} {o : Option Node} (h : t.getLast? ≠ some none) (ho : o ≠ none) : (t.set i o).getLast? ≠ some none := by
  intro e
  rw [List.getLast?_eq_getElem?, List.length_set, List.getElem?_set] at e
  split at e
  · split at e
    · injection e with e; exact ho e
    · cases e
  · rw [← List.getLast?_eq_getElem?] at e
    exact h e

/-- An item of bytes more. -/
theorem alloc_good {M : Tr} (h : Good M) {i : Nat} {n : Node} (hi : M[i]? = some (some n)) {x : Item} (hc : x.c = -1) (h1 : n.fin ≤ x.a) (h2 : 1 ≤ x.s) (h3 : x.a + x.s ≤ n.a + n.s) (hl : n.l.length < 200) :
    Good (M.set i (some { n with l := n.l ++ [x] })) := by
  obtain ⟨d, D, hd, hr⟩ := h.rank
  have hiM : i < M.length := (List.getElem?_eq_some_iff.1 hi).1
  have hok := h.node i n hi
  have hget : ∀ (j : Nat) (k : Node), (M.set i (some { n with l := n.l ++ [x] }))[j]? = some (some k) → (j = i ∧ k = { n with l := n.l ++ [x] }) ∨ (j ≠ i ∧ M[j]? = some (some k)) := by
    intro j k hk
    by_cases e : i = j
    · subst e
      rw [List.getElem?_set_self hiM] at hk
      injection hk with hk
      injection hk with hk
      exact .inl ⟨rfl, hk.symm⟩
    · rw [List.getElem?_set_ne e] at hk
      exact .inr ⟨fun e' => e e'.symm, hk⟩
  have hput : ∀ (j : Nat) (k : Node), M[j]? = some (some k) → ∃ k' : Node, (M.set i (some { n with l := n.l ++ [x] }))[j]? = some (some k') ∧ k'.p = k.p ∧ k'.a = k.a ∧ k'.s = k.s ∧ (∀ y ∈ k.l, y ∈ k'.l) := by
    intro j k hk
    by_cases e : j = i
    · subst e
      rw [hi] at hk
      injection hk with hk
      injection hk with hk
      subst hk
      exact ⟨{ n with l := n.l ++ [x] }, List.getElem?_set_self hiM, rfl, rfl, rfl, fun y hy => List.mem_append.2 (.inl hy)⟩
    · exact ⟨k, by rw [List.getElem?_set_ne (fun e' => e e'.symm)]; exact hk, rfl, rfl, rfl, fun y hy => hy⟩
  have hkid : ∀ (j : Nat) (k : Node), M[j]? = some (some k) → ∀ y ∈ k.l, 0 ≤ y.c → ∃ k' : Node, (M.set i (some { n with l := n.l ++ [x] }))[y.c.toNat]? = some (some k') ∧ k'.p = j ∧ k'.a = y.a ∧ k'.s = y.s := by
    intro j k hk y hy h0
    obtain ⟨k1, hk1, e1, e2, e3⟩ := (h.node j k hk).kid y hy h0
    obtain ⟨k2, hk2, f1, f2, f3, _⟩ := hput _ _ hk1
    exact ⟨k2, hk2, f1.trans e1, f2.trans e2, f3.trans e3⟩
  have hpar : ∀ (j : Nat) (k : Node), M[j]? = some (some k) → j ≠ 0 → 0 ≤ k.p ∧ ∃ q : Node, (M.set i (some { n with l := n.l ++ [x] }))[k.p.toNat]? = some (some q) ∧ ∃ y ∈ q.l, y.c = j := by
    intro j k hk hj
    obtain ⟨h0, q, hq, y, hy, hyc⟩ := (h.node j k hk).par hj
    obtain ⟨k2, hk2, _, _, _, f4⟩ := hput _ _ hq
    exact ⟨h0, k2, hk2, y, f4 y hy, hyc⟩
  refine ⟨by rw [List.length_set]; exact h.len, ?_, getLast_set h.last (by simp), fun j k hk => ?_, d, D, hd, fun j k hk y hy h0 => ?_⟩
  · obtain ⟨r, hr0, hra⟩ := h.root
    obtain ⟨k', hk', _, e, _⟩ := hput _ _ hr0
    exact ⟨k', hk', e.trans hra⟩
  · rcases hget j k hk with ⟨rfl, rfl⟩ | ⟨hne, hk⟩
    · refine ⟨hok.s1, hok.a0, hok.top, by simp; omega, hok.seq.snoc (fun y hy => ?_) (fun e => ?_) h2 h3, fun y hy => ?_, fun y hy => ?_, fun y hy h0 => ?_, ?_, hok.root, hpar j n hi⟩
      · have : n.fin = y.a + y.s := by simp [Node.fin, hy]
        omega
      · have : n.fin = n.a := by simp [Node.fin, e]
        omega
      · rw [List.getLast?_concat] at hy
        injection hy with hy
        subst hy
        omega
      · rcases List.mem_append.1 hy with hy | hy
        · exact hok.low y hy
        · rw [List.mem_singleton] at hy
          subst hy
          omega
      · rcases List.mem_append.1 hy with hy | hy
        · exact hkid j n hi y hy h0
        · rw [List.mem_singleton] at hy
          subst hy
          omega
      · rw [List.pairwise_append]
        refine ⟨hok.uniq, by simp, fun y hy z hz h0 => ?_⟩
        rw [List.mem_singleton] at hz
        subst hz
        omega
    · have hk' := h.node j k hk
      exact ⟨hk'.s1, hk'.a0, hk'.top, hk'.len, hk'.seq, hk'.last, hk'.low, hkid j k hk, hk'.uniq, hk'.root, hpar j k hk⟩
  · rcases hget j k hk with ⟨rfl, rfl⟩ | ⟨hne, hk⟩
    · rcases List.mem_append.1 hy with hy | hy
      · exact hr j n hi y hy h0
      · rw [List.mem_singleton] at hy
        subst hy
        omega
    · exact hr j k hk y hy h0

theorem hole_le (M : Tr) : hole M ≤ M.length := List.findIdx_le_length

theorem hole_at {M : Tr} {n : Node} (h : M[hole M]? = some (some n)) : False := by
  have hl := (List.getElem?_eq_some_iff.1 h).1
  have := List.findIdx_getElem (w := hl)
  obtain ⟨_, e⟩ := List.getElem?_eq_some_iff.1 h
  have h2 : (M[hole M]).isNone = true := this
  rw [e] at h2
  cases h2

/-- A new arena. -/
theorem begin_good {M : Tr} (h : Good M) {i : Nat} {n : Node} (hi : M[i]? = some (some n)) {at_ sz : Int} (h1 : n.fin ≤ at_) (h2 : 1 ≤ sz) (h3 : at_ + sz ≤ n.a + n.s) (hl : n.l.length < 200) (hk : hole M ≠ 64) :
    Good ((addItem (room M (hole M)) i ⟨at_, sz, hole M⟩).set (hole M) (some ⟨i, at_, sz, []⟩)) := by
  obtain ⟨d, D, hd, hr⟩ := h.rank
  have hiM : i < M.length := (List.getElem?_eq_some_iff.1 hi).1
  have hok := h.node i n hi
  have hle := hole_le M
  have hlen := h.len
  have hik : i ≠ hole M := fun e => by rw [e] at hi; exact hole_at hi
  have hroom : ∀ (j : Nat) (k : Node), (room M (hole M))[j]? = some (some k) ↔ M[j]? = some (some k) := by
    intro j k
    unfold room
    split
    · exact Iff.rfl
    · by_cases hj : j < M.length
      · rw [List.getElem?_append_left hj]
      · rw [List.getElem?_append_right (by omega), List.getElem?_eq_none (l := M) (by omega)]
        constructor
        · intro e
          cases e2 : j - M.length with
          | zero => rw [e2] at e; simp at e
          | succ m => rw [e2] at e; simp at e
        · intro e; cases e
  have hrl : hole M < (room M (hole M)).length ∧ (room M (hole M)).length ≤ 64 ∧ M.length ≤ (room M (hole M)).length := by
    unfold room
    split
    · exact ⟨by assumption, hlen, Nat.le_refl _⟩
    · simp; omega
  have hadd : addItem (room M (hole M)) i ⟨at_, sz, hole M⟩ = (room M (hole M)).set i (some { n with l := n.l ++ [⟨at_, sz, hole M⟩] }) := by
    simp [addItem, (hroom i n).2 hi]
  rw [hadd]
  generalize hR : ((room M (hole M)).set i (some { n with l := n.l ++ [⟨at_, sz, hole M⟩] })).set (hole M) (some ⟨i, at_, sz, []⟩) = R
  have hRl : R.length = (room M (hole M)).length := by rw [← hR]; simp
  have hRk : R[hole M]? = some (some ⟨i, at_, sz, []⟩) := by
    rw [← hR, List.getElem?_set_self (by rw [List.length_set]; exact hrl.1)]
  have hRi : R[i]? = some (some { n with l := n.l ++ [⟨at_, sz, hole M⟩] }) := by
    rw [← hR, List.getElem?_set_ne (fun e => hik e.symm), List.getElem?_set_self (by omega)]
  have hRj : ∀ (j : Nat) (k : Node), j ≠ i → j ≠ hole M → (R[j]? = some (some k) ↔ M[j]? = some (some k)) := by
    intro j k h1 h2
    rw [← hR, List.getElem?_set_ne (fun e => h2 e.symm), List.getElem?_set_ne (fun e => h1 e.symm)]
    exact hroom j k
  have hget : ∀ (j : Nat) (k : Node), R[j]? = some (some k) → (j = i ∧ k = { n with l := n.l ++ [⟨at_, sz, hole M⟩] }) ∨ (j = hole M ∧ k = ⟨i, at_, sz, []⟩) ∨ (j ≠ i ∧ j ≠ hole M ∧ M[j]? = some (some k)) := by
    intro j k hk
    by_cases e : j = i
    · subst e
      rw [hRi] at hk
      injection hk with hk
      injection hk with hk
      exact .inl ⟨rfl, hk.symm⟩
    · by_cases e2 : j = hole M
      · rw [e2, hRk] at hk
        injection hk with hk
        injection hk with hk
        exact .inr (.inl ⟨e2, hk.symm⟩)
      · exact .inr (.inr ⟨e, e2, (hRj j k e e2).1 hk⟩)
  have hput : ∀ (j : Nat) (k : Node), M[j]? = some (some k) → ∃ k' : Node, R[j]? = some (some k') ∧ k'.p = k.p ∧ k'.a = k.a ∧ k'.s = k.s ∧ (∀ y ∈ k.l, y ∈ k'.l) := by
    intro j k hk
    by_cases e : j = i
    · subst e
      rw [hi] at hk
      injection hk with hk
      injection hk with hk
      subst hk
      exact ⟨_, hRi, rfl, rfl, rfl, fun y hy => List.mem_append.2 (.inl hy)⟩
    · by_cases e2 : j = hole M
      · rw [e2] at hk; exact (hole_at hk).elim
      · exact ⟨k, (hRj j k e e2).2 hk, rfl, rfl, rfl, fun y hy => hy⟩
  have hkid : ∀ (j : Nat) (k : Node), M[j]? = some (some k) → ∀ y ∈ k.l, 0 ≤ y.c → ∃ k' : Node, R[y.c.toNat]? = some (some k') ∧ k'.p = j ∧ k'.a = y.a ∧ k'.s = y.s := by
    intro j k hk y hy h0
    obtain ⟨k1, hk1, e1, e2, e3⟩ := (h.node j k hk).kid y hy h0
    obtain ⟨k2, hk2, f1, f2, f3, _⟩ := hput _ _ hk1
    exact ⟨k2, hk2, f1.trans e1, f2.trans e2, f3.trans e3⟩
  have hpar : ∀ (j : Nat) (k : Node), M[j]? = some (some k) → j ≠ 0 → 0 ≤ k.p ∧ ∃ q : Node, R[k.p.toNat]? = some (some q) ∧ ∃ y ∈ q.l, y.c = j := by
    intro j k hk hj
    obtain ⟨h0, q, hq, y, hy, hyc⟩ := (h.node j k hk).par hj
    obtain ⟨k2, hk2, _, _, _, f4⟩ := hput _ _ hq
    exact ⟨h0, k2, hk2, y, f4 y hy, hyc⟩
  have hnokid : ∀ (j : Nat) (k : Node), M[j]? = some (some k) → ∀ y ∈ k.l, 0 ≤ y.c → y.c ≠ (hole M : Int) := by
    intro j k hk y hy h0 e
    obtain ⟨k1, hk1, _⟩ := (h.node j k hk).kid y hy h0
    rw [e, Int.toNat_natCast] at hk1
    exact hole_at hk1
  refine ⟨by rw [hRl]; exact hrl.2.1, ?_, ?_, fun j k hk => ?_, fun j => if j = hole M then d i + 1 else d j, D + 1, fun j => ?_, fun j k hk y hy h0 => ?_⟩
  · obtain ⟨r, hr0, hra⟩ := h.root
    obtain ⟨k', hk', _, e, _⟩ := hput _ _ hr0
    exact ⟨k', hk', e.trans hra⟩
  · intro e
    rw [List.getLast?_eq_getElem?] at e
    by_cases e1 : R.length - 1 = hole M
    · rw [e1, hRk] at e
      simp at e
    · by_cases e2 : R.length - 1 = i
      · rw [e2, hRi] at e
        simp at e
      · have hlt : hole M < M.length := by
          rcases Nat.lt_or_ge (hole M) M.length with h | h
          · exact h
          · have : (room M (hole M)).length = M.length + 1 := by unfold room; rw [if_neg (by omega)]; simp
            omega
        have hrm : room M (hole M) = M := by unfold room; rw [if_pos hlt]
        rw [hrm] at hRl hR
        rw [← hR, List.getElem?_set_ne (fun e => e1 (by rw [hRl]; simpa using e.symm)), List.getElem?_set_ne (fun e => e2 (by rw [hRl]; simpa using e.symm)), List.length_set, List.length_set, ← List.getLast?_eq_getElem?] at e
        exact h.last e
  · rcases hget j k hk with ⟨rfl, rfl⟩ | ⟨rfl, rfl⟩ | ⟨hne, hne2, hk⟩
    · refine ⟨hok.s1, hok.a0, hok.top, by simp; omega, hok.seq.snoc (fun y hy => ?_) (fun e => ?_) h2 h3, fun y hy => ?_, fun y hy => ?_, fun y hy h0 => ?_, ?_, hok.root, hpar j n hi⟩
      · have : n.fin = y.a + y.s := by simp [Node.fin, hy]
        show _ ≤ at_
        omega
      · have : n.fin = n.a := by simp [Node.fin, e]
        show _ ≤ at_
        omega
      · rw [List.getLast?_concat] at hy
        injection hy with hy
        subst hy
        show (hole M : Int) ≠ -2
        omega
      · rcases List.mem_append.1 hy with hy | hy
        · exact hok.low y hy
        · rw [List.mem_singleton] at hy
          subst hy
          show -2 ≤ (hole M : Int)
          omega
      · rcases List.mem_append.1 hy with hy | hy
        · exact hkid j n hi y hy h0
        · rw [List.mem_singleton] at hy
          subst hy
          exact ⟨_, by rw [Int.toNat_natCast]; exact hRk, rfl, rfl, rfl⟩
      · rw [List.pairwise_append]
        refine ⟨hok.uniq, by simp, fun y hy z hz h0 => ?_⟩
        rw [List.mem_singleton] at hz
        subst hz
        exact hnokid j n hi y hy h0
    · have ha := hok.a0
      have hf := hok.fin
      have ht := hok.top
      refine ⟨h2, by show 0 ≤ at_; omega, by show at_ + sz ≤ 65536; omega, by simp, trivial, fun y hy => by simp at hy, fun y hy => by simp at hy, fun y hy => by simp at hy, .nil, fun e => ?_, fun _ => ⟨by show 0 ≤ (i : Int); omega, _, by rw [Int.toNat_natCast]; exact hRi, ⟨at_, sz, hole M⟩, List.mem_append.2 (.inr (List.mem_singleton.2 rfl)), rfl⟩⟩
      obtain ⟨r, hr0, _⟩ := h.root
      rw [← e] at hr0
      exact (hole_at hr0).elim
    · have hk' := h.node j k hk
      exact ⟨hk'.s1, hk'.a0, hk'.top, hk'.len, hk'.seq, hk'.last, hk'.low, hkid j k hk, hk'.uniq, hk'.root, hpar j k hk⟩
  · show (if j = hole M then d i + 1 else d j) ≤ D + 1
    have := hd i
    have := hd j
    split <;> omega
  · show (if y.c.toNat = hole M then d i + 1 else d y.c.toNat) = (if j = hole M then d i + 1 else d j) + 1
    have hkk : ∀ (j : Nat) (k : Node), M[j]? = some (some k) → ∀ y ∈ k.l, 0 ≤ y.c → (if y.c.toNat = hole M then d i + 1 else d y.c.toNat) = d j + 1 := fun j k hk y hy h0 => by
      rw [if_neg (fun e => hnokid j k hk y hy h0 (by omega))]
      exact hr j k hk y hy h0
    rcases hget j k hk with ⟨rfl, rfl⟩ | ⟨rfl, rfl⟩ | ⟨hne, hne2, hk⟩
    · rw [if_neg hik]
      rcases List.mem_append.1 hy with hy | hy
      · exact hkk j n hi y hy h0
      · rw [List.mem_singleton] at hy
        subst hy
        rw [if_pos (by show (hole M : Int).toNat = _; simp)]
    · simp at hy
    · rw [if_neg hne2]
      exact hkk j k hk y hy h0
end Ne
end Go.Proofs.Ytllmddhahpegmaa
namespace Go.Proofs.Ytllmddhahpegmaa
open Go.RowKit
namespace Ne
theorem small_of {t : Tr} {i : Nat} {n : Node} (h : NodeOk t i n) : Small n.l := fun x hx => by
  have := h.seq.mem x hx
  have := h.a0
  have := h.top
  omega

/-- What give returns. -/
def Given (w : World) (own : Nat → Option Nat) (cs : Array Value) (M : Tr) (i sz al : Int) (e : Ending) : Prop :=
  ((give M i sz al).2 ≠ 0 ∧ e = .returned (.tuple #[.pointer none, .int .i64 0, .int .i64 (give M i sz al).2])) ∨
  ∃ n b iv, find M i = some n ∧ 0 ≤ i ∧ M[i.toNat]? = some (some n) ∧ cs[i.toNat]? = some (.pointer (some ⟨b, 0, none⟩)) ∧ own b = some (2 * i.toNat + 2) ∧ w.heap[b]? = some (NodeCells n iv) ∧ ItemsAt w own i.toNat iv n.l ∧
    give M i sz al = (up n.fin al, 0) ∧ badArg sz al = false ∧ up n.fin al + sz ≤ n.a + n.s ∧ n.l.length < 200 ∧ 
    e = .returned (.tuple #[.pointer (some ⟨b, 0, none⟩), .int .i64 (up n.fin al), .int .i64 0])

theorem badArg_yes {sz al : Int} (h : badArg sz al = true) : (((sz < 1 ∨ 65536 < sz) ∨ al < 1) ∨ 4096 < al) ∨ (1 ≤ al ∧ al ≤ 4096 ∧ (bits .and .i64 al (al - 1) != 0) = true) := by
  by_cases h1 : ((sz < 1 ∨ 65536 < sz) ∨ al < 1) ∨ 4096 < al
  · exact .inl h1
  · refine .inr ⟨by omega, by omega, ?_⟩
    rw [align_test al (by omega) (by omega)]
    unfold badArg at h
    simp only [Bool.or_eq_true, decide_eq_true_eq] at h
    rcases h with (h | h) | h
    · omega
    · omega
    · exact h

set_option maxHeartbeats 400000 in
theorem give_err (w : World) (t : Nat) (i sz al : Int) 
   (hc : Calls Try.prog 37 #[.pointer (some ⟨t, 0, none⟩), .int .i64 i] w fun e w' => e = .returned (.tuple #[.pointer none, .int .i64 4]) ∧ w = w') :
    Calls Try.prog 36 #[.pointer (some ⟨t, 0, none⟩), .int .i64 i, .int .i64 sz, .int .i64 al] w fun e w' => e = .returned (.tuple #[.pointer none, .int .i64 0, .int .i64 4]) ∧ ∃ k, w' = w.drewN k := by
  have H := Lib.hid hc; clear hc
  go_enter Try.func36, Try.ntmps36
  go_wp2_with (first | (go_at_call 37; refine H.out.mono ?_; rintro e w' ⟨rfl, rfl⟩))
  go_ret3
  exact ⟨rfl, 0, rfl⟩

set_option maxHeartbeats 400000 in
theorem give_bad (w : World) (t : Nat) (i sz al : Int) (b : Nat)
   (hc : Calls Try.prog 37 #[.pointer (some ⟨t, 0, none⟩), .int .i64 i] w fun e w' => e = .returned (.tuple #[.pointer (some ⟨b, 0, none⟩), .int .i64 0]) ∧ w = w') (hb : badArg sz al = true) :
    Calls Try.prog 36 #[.pointer (some ⟨t, 0, none⟩), .int .i64 i, .int .i64 sz, .int .i64 al] w fun e w' => e = .returned (.tuple #[.pointer none, .int .i64 0, .int .i64 2]) ∧ ∃ k, w' = w.drewN k := by
  have H := Lib.hid hc; clear hc
  rcases badArg_yes hb with (((h | h) | h) | h) | ⟨h1, h2, h3⟩
  all_goals
    clear hb
    go_enter Try.func36, Try.ntmps36
    go_wp2_with (first | (go_at_call 37; refine H.out.mono ?_; rintro e w' ⟨rfl, rfl⟩))
  all_goals
    go_ret3
    exact ⟨rfl, 0, rfl⟩

set_option maxHeartbeats 400000 in
theorem give_ok (w : World) (t : Nat) (i sz al : Int) (b : Nat) (n : Node) (v : Value) (M : Tr) (h : w.heap[b]? = some (NodeCells n v)) (hr : w.ownsRow 0 54 3 v n.l.length (icells n.l)) (ho : NodeOk M i.toNat n)
   (hc : Calls Try.prog 37 #[.pointer (some ⟨t, 0, none⟩), .int .i64 i] w fun e w' => e = .returned (.tuple #[.pointer (some ⟨b, 0, none⟩), .int .i64 0]) ∧ w = w') (hb : badArg sz al = false) :
    Calls Try.prog 36 #[.pointer (some ⟨t, 0, none⟩), .int .i64 i, .int .i64 sz, .int .i64 al] w fun e w' => 
      e = .returned (if n.a + n.s < up n.fin al + sz ∨ n.l.length = 200 then .tuple #[.pointer none, .int .i64 0, .int .i64 5] else .tuple #[.pointer (some ⟨b, 0, none⟩), .int .i64 (up n.fin al), .int .i64 0]) ∧ ∃ k, w' = w.drewN k := by
  obtain ⟨g1, g2, g3, g4, g5⟩ := badArg_no hb
  have hs := small_of ho
  have hl := ho.len
  have hf := ho.fin
  have ha := ho.a0
  have htop := ho.top
  have hs1 := ho.s1
  obtain ⟨c0, c1, c2, c3, c4, _⟩ := nodeOpen h
  have ht := align_test al g3 g4
  rw [g5] at ht
  have hu := up_bits n.fin al (by omega) (by omega) g5
  have hu1 := up_ge n.fin al g3
  have hu2 := up_le n.fin al g3
  have H := Lib.hid hc
  have HE := Lib.hid (end_ok w b n v h hr hs hl)
  generalize n.fin = F at *
  generalize hU : up F al = U at *
  clear hb g5 hs ho h hU hc
  have hlen : ∃ A c, v = .slice A n.l.length c := by
    rcases hr.2 with ⟨rfl, h0⟩ | ⟨g, cap, cur, rfl, _⟩
    · exact ⟨none, 0, by rw [h0]⟩
    · exact ⟨_, _, rfl⟩
  obtain ⟨A, c, rfl⟩ := hlen
  clear hr
  generalize n.l.length = L at *
  by_cases hk : n.a + n.s < U + sz
  · rw [if_pos (.inl hk)]
    go_enter Try.func36, Try.ntmps36
    go_wp2_with (first | (go_at_call 37; refine H.out.mono ?_; rintro e w' ⟨rfl, rfl⟩) | (go_at_call 42; refine HE.out.mono ?_; rintro e w' ⟨rfl, k, rfl⟩))
    go_quiet (fail)
    go_wp2
    go_ret3
    exact ⟨rfl, _, by rw [World.drewN_drewN]⟩
  · have hk' : decide (n.a + n.s < U + sz) = false := by simpa using hk
    by_cases h200 : L = 200
    · have h2' : ((L : Int) == 200) = true := by rw [beq_iff_eq]; omega
      rw [if_pos (.inr h200)]
      clear h200
      go_enter Try.func36, Try.ntmps36
      go_wp2_with (first | (go_at_call 37; refine H.out.mono ?_; rintro e w' ⟨rfl, rfl⟩) | (go_at_call 42; refine HE.out.mono ?_; rintro e w' ⟨rfl, k, rfl⟩))
      go_quiet (fail)
      go_wp2
      go_ret3
      exact ⟨rfl, _, by rw [World.drewN_drewN]⟩
    · have h2' : ((L : Int) == 200) = false := by rw [beq_eq_false_iff_ne]; omega
      rw [if_neg (by omega)]
      clear h200
      go_enter Try.func36, Try.ntmps36
      go_wp2_with (first | (go_at_call 37; refine H.out.mono ?_; rintro e w' ⟨rfl, rfl⟩) | (go_at_call 42; refine HE.out.mono ?_; rintro e w' ⟨rfl, k, rfl⟩))
      go_quiet (fail)
      go_wp2
      go_ret3
      exact ⟨rfl, _, by rw [World.drewN_drewN]⟩

theorem give_tree (w : World) (own : Nat → Option Nat) (t g cap : Nat) (cs : Array Value) (M : Tr) (i sz al : Int) (h : TreeAt w own t g cap cs M) (hg : Good M) :
    Calls Try.prog 36 #[.pointer (some ⟨t, 0, none⟩), .int .i64 i, .int .i64 sz, .int .i64 al] w fun e w' => Given w own cs M i sz al e ∧ ∃ k, w' = w.drewN k := by
  have hF := find_tree w own t g cap cs M i h ⟨hg.pos, hg.len⟩
  cases hfi : find M i with
  | none =>
    refine (give_err w t i sz al (hF.mono ?_)).mono ?_
    · rintro e w' ⟨h1 | ⟨n, b, iv, h1, _⟩, rfl⟩
      · exact ⟨h1.2, rfl⟩
      · rw [hfi] at h1; cases h1
    · rintro e w' ⟨rfl, hk⟩
      have : give M i sz al = (0, 4) := by simp [give, hfi]
      exact ⟨.inl (by rw [this]; exact ⟨by simp, rfl⟩), hk⟩
  | some n =>
    have h0 : 0 ≤ i ∧ M[i.toNat]? = some (some n) := by
      unfold find at hfi
      split at hfi
      · cases hfi
      · refine ⟨by omega, ?_⟩
        cases e : M[i.toNat]? with
        | none => rw [e] at hfi; cases hfi
        | some o => rw [e] at hfi; simp at hfi; rw [hfi]
    obtain ⟨v, hv, b, iv, rfl, hob, hb, hl⟩ := h.node _ _ h0.2
    have hF' : Calls Try.prog 37 #[.pointer (some ⟨t, 0, none⟩), .int .i64 i] w fun e w' => e = .returned (.tuple #[.pointer (some ⟨b, 0, none⟩), .int .i64 0]) ∧ w = w' := by
      refine hF.mono ?_
      rintro e w' ⟨h1 | ⟨n', b', iv', h1, h2, h3, h4, _, _, _, h5⟩, rfl⟩
      · rw [hfi] at h1; cases h1.1
      · rw [hv] at h4
        injection h4 with h4; injection h4 with h4; injection h4 with h4; injection h4 with h4
        subst h4
        exact ⟨h5, rfl⟩
    by_cases hbad : badArg sz al = true
    · refine (give_bad w t i sz al b hF' hbad).mono ?_
      rintro e w' ⟨rfl, hk⟩
      have : give M i sz al = (0, 2) := by simp [give, hfi, hbad]
      exact ⟨.inl (by rw [this]; exact ⟨by simp, rfl⟩), hk⟩
    · have hbad : badArg sz al = false := by simpa using hbad
      refine (give_ok w t i sz al b n iv M hb hl.1 (hg.node _ _ h0.2) hF' hbad).mono ?_
      rintro e w' ⟨rfl, hk⟩
      refine ⟨?_, hk⟩
      by_cases hc : n.a + n.s < up n.fin al + sz ∨ n.l.length = 200
      · have : give M i sz al = (0, 5) := by simp only [give, hfi, hbad]; simp [hc]
        exact .inl (by rw [this]; exact ⟨by simp, by rw [if_pos hc]⟩)
      · have : give M i sz al = (up n.fin al, 0) := by simp only [give, hfi, hbad]; simp [hc]
        have hlen := (hg.node _ _ h0.2).len
        exact .inr ⟨n, b, iv, hfi, h0.1, h0.2, hv, hob, hb, hl, this, hbad, by omega, by omega, by rw [if_neg hc]⟩

set_option maxHeartbeats 400000 in
theorem new_ok (n : Int) (w : World) (h1 : 1 ≤ n) (h2 : n ≤ 65536) :
    Calls Try.prog 25 #[.int .i64 n] w fun e w' => e = .returned (.tuple #[.pointer (some ⟨w.heap.size+2, 0, none⟩), .int .i64 0]) ∧ w' = 
      ((w.alloc (.cells #[.int .i64 (-1), .int .i64 0, .int .i64 n, .slice none 0 0, .bool false] 35)).alloc (.cells #[.pointer (some ⟨w.heap.size, 0, none⟩)] 69)).alloc (.cells #[.slice (some ⟨w.heap.size+1, 0, none⟩) 1 1] 68) := by
  go_enter Try.func25, Try.ntmps25
  go_wp2
  go_ret2
  exact ⟨rfl, rfl⟩

set_option maxHeartbeats 400000 in
theorem new_bad (n : Int) (w : World) (h1 : n < 1 ∨ 65536 < n) :
    Calls Try.prog 25 #[.int .i64 n] w fun e w' => e = .returned (.tuple #[.pointer none, .int .i64 7]) ∧ w' = w := by
  rcases h1 with h1 | h1
  all_goals
    go_enter Try.func25, Try.ntmps25
    go_wp2
    go_ret2
    exact ⟨rfl, rfl⟩


theorem heapAlloc (w : World) (o : Obj) (k : Nat) : (w.alloc o).heap[k]? = if k = w.heap.size then some o else w.heap[k]? := by
  show (w.heap.push o)[k]? = _
  rw [Array.getElem?_push]

theorem new_tree (n : Int) (w : World) (h1 : 1 ≤ n) (h2 : n ≤ 65536) :
    Calls Try.prog 25 #[.int .i64 n] w fun e w' => ∃ own t, e = .returned (.tuple #[.pointer (some ⟨t, 0, none⟩), .int .i64 0]) ∧ w.heap.size ≤ t ∧ Tree w' own t (newTr n) ∧ Below w.heap.size w w' ∧ Fresh own w' ∧ (∀ k, k < w.heap.size → own k = none) := by
  refine (new_ok n w h1 h2).mono ?_
  rintro e w' ⟨rfl, rfl⟩
  refine ⟨fun k => if k = w.heap.size then some 2 else if k = w.heap.size + 1 then some 1 else if k = w.heap.size + 2 then some 0 else none, w.heap.size + 2, rfl, by omega, ?_, ?_, ?_, ?_⟩
  · refine ⟨w.heap.size + 1, 1, #[.pointer (some ⟨w.heap.size, 0, none⟩)], by simp, by simp, ?_, ?_, rfl, by simp [newTr], by simp [maxLen], ?_⟩
    · rw [heapAlloc, if_pos (by simp)]; rfl
    · rw [heapAlloc, if_neg (by simp), heapAlloc, if_pos (by simp)]
    · intro i o hi
      have : i = 0 ∧ o = some ⟨-1, 0, n, []⟩ := by
        cases i with
        | zero => simp [newTr] at hi; exact ⟨rfl, hi.symm⟩
        | succ i => simp [newTr] at hi
      obtain ⟨rfl, rfl⟩ := this
      refine ⟨_, rfl, w.heap.size, .slice none 0 0, rfl, by simp, ?_, World.ownsRow_nil _ _ _ _, by simp [Value.ownBlock]⟩
      rw [heapAlloc, if_neg (by simp; omega), heapAlloc, if_neg (by simp), heapAlloc, if_pos rfl]; rfl
  · exact (((Below.refl _ _).alloc (Nat.le_refl _) _).alloc (by simp) _).alloc (by simp; omega) _
  · intro k hk
    have hk' : (if k = w.heap.size then some 2 else if k = w.heap.size + 1 then some 1 else if k = w.heap.size + 2 then some 0 else none) ≠ none := hk
    simp only [World.size_alloc]
    split at hk'
    · omega
    · split at hk'
      · omega
      · split at hk'
        · omega
        · exact absurd rfl hk'
  · intro k hk
    show (if k = w.heap.size then _ else if k = w.heap.size + 1 then _ else if k = w.heap.size + 2 then _ else none) = none
    rw [if_neg (by omega), if_neg (by omega), if_neg (by omega)]

set_option maxHeartbeats 400000 in
theorem mark_any (w : World) (t : Nat) (i : Int) (x : Option Addr) (E : Int) (A : Option Addr) (L c : Nat) (_ : L ≤ 200)
   (hc : Calls Try.prog 37 #[.pointer (some ⟨t, 0, none⟩), .int .i64 i] w fun e w' => e = .returned (.tuple #[.pointer x, .int .i64 E]) ∧ w = w')
   (h : (E = 4) ∨ (E = 0 ∧ ∃ b, x = some ⟨b, 0, none⟩ ∧ w.cell? ⟨b, 3, none⟩ = some (.slice A L c))) :
    Calls Try.prog 19 #[.pointer (some ⟨t, 0, none⟩), .int .i64 i] w fun e w' => e = .returned (.tuple #[.int .i64 (if E = 0 then L else 0), .int .i64 E]) ∧ w = w' := by
  have H := Lib.hid hc; clear hc
  rcases h with rfl | ⟨rfl, b, rfl, h⟩
  all_goals
    go_enter Try.func19, Try.ntmps19
    go_wp2_with (first | (go_at_call 37; refine H.out.mono ?_; rintro e w' ⟨rfl, rfl⟩))
    go_ret2
    exact ⟨rfl, rfl⟩

theorem itemsLen {w : World} {own : Nat → Option Nat} {i : Nat} {v : Value} {l : List Item} (h : ItemsAt w own i v l) : ∃ A c, v = .slice A l.length c := by
  rcases h.1.2 with ⟨rfl, h0⟩ | ⟨g, cap, cur, rfl, _⟩
  · exact ⟨none, 0, by rw [h0]⟩
  · exact ⟨_, _, rfl⟩

theorem mark_tree (w : World) (own : Nat → Option Nat) (t g cap : Nat) (cs : Array Value) (M : Tr) (i : Int) (h : TreeAt w own t g cap cs M) (hg : Good M) :
    Calls Try.prog 19 #[.pointer (some ⟨t, 0, none⟩), .int .i64 i] w fun e w' => e = .returned (.tuple #[.int .i64 (mark M i).1, .int .i64 (mark M i).2]) ∧ w = w' := by
  have hF := find_tree w own t g cap cs M i h ⟨hg.pos, hg.len⟩
  cases hfi : find M i with
  | none =>
    refine (mark_any w t i none 4 none 0 0 (by omega) (hF.mono ?_) (.inl rfl)).mono ?_
    · rintro e w' ⟨h1 | ⟨n, b, iv, h1, _⟩, rfl⟩
      · exact ⟨h1.2, rfl⟩
      · rw [hfi] at h1; cases h1
    · rintro e w' ⟨rfl, rfl⟩
      exact ⟨by simp [mark, hfi], rfl⟩
  | some n =>
    have h0 : 0 ≤ i ∧ M[i.toNat]? = some (some n) := by
      unfold find at hfi
      split at hfi
      · cases hfi
      · refine ⟨by omega, ?_⟩
        cases e : M[i.toNat]? with
        | none => rw [e] at hfi; cases hfi
        | some o => rw [e] at hfi; simp at hfi; rw [hfi]
    obtain ⟨v, hv, b, iv, rfl, hob, hb, hl⟩ := h.node _ _ h0.2
    obtain ⟨A, c, rfl⟩ := itemsLen hl
    refine (mark_any w t i (some ⟨b, 0, none⟩) 0 A n.l.length c (hg.node _ _ h0.2).len (hF.mono ?_) (.inr ⟨rfl, b, rfl, (nodeOpen hb).2.2.2.1⟩)).mono ?_
    · rintro e w' ⟨h1 | ⟨n', b', iv', h1, h2, h3, h4, _, _, _, h5⟩, rfl⟩
      · rw [hfi] at h1; cases h1.1
      · rw [hv] at h4
        injection h4 with h4; injection h4 with h4; injection h4 with h4; injection h4 with h4
        subst h4
        exact ⟨h5, rfl⟩
    · rintro e w' ⟨rfl, rfl⟩
      exact ⟨by simp [mark, hfi], rfl⟩
end Ne
end Go.Proofs.Ytllmddhahpegmaa
namespace Go.Proofs.Ytllmddhahpegmaa
open Go.RowKit
namespace Ne

theorem find_at {M : Tr} {i : Int} {n : Node} (hfi : find M i = some n) : 0 ≤ i ∧ M[i.toNat]? = some (some n) := by
  unfold find at hfi
  split at hfi
  · cases hfi
  · refine ⟨by omega, ?_⟩
    cases e : M[i.toNat]? with
    | none => rw [e] at hfi; cases hfi
    | some o => rw [e] at hfi; simp at hfi; rw [hfi]

/-- The two ways of find. -/
theorem find_cases (w : World) (own : Nat → Option Nat) (t g cap : Nat) (cs : Array Value) (M : Tr) (i : Int) (h : TreeAt w own t g cap cs M) (hg : Good M) :
    (find M i = none ∧ Calls Try.prog 37 #[.pointer (some ⟨t, 0, none⟩), .int .i64 i] w fun e w' => e = .returned (.tuple #[.pointer none, .int .i64 4]) ∧ w = w') ∨
    ∃ n b A c, find M i = some n ∧ 0 ≤ i ∧ M[i.toNat]? = some (some n) ∧ cs[i.toNat]? = some (.pointer (some ⟨b, 0, none⟩)) ∧ own b = some (2 * i.toNat + 2) ∧ w.heap[b]? = some (NodeCells n (.slice A n.l.length c)) ∧ ItemsAt w own i.toNat (.slice A n.l.length c) n.l ∧
      NodeOk M i.toNat n ∧ Calls Try.prog 37 #[.pointer (some ⟨t, 0, none⟩), .int .i64 i] w fun e w' => e = .returned (.tuple #[.pointer (some ⟨b, 0, none⟩), .int .i64 0]) ∧ w = w' := by
  have hF := find_tree w own t g cap cs M i h ⟨hg.pos, hg.len⟩
  cases hfi : find M i with
  | none =>
    refine .inl ⟨rfl, hF.mono ?_⟩
    rintro e w' ⟨h1 | ⟨n, b, iv, h1, _⟩, rfl⟩
    · exact ⟨h1.2, rfl⟩
    · rw [hfi] at h1; cases h1
  | some n =>
    have h0 := find_at hfi
    obtain ⟨v, hv, b, iv, rfl, hob, hb, hl⟩ := h.node _ _ h0.2
    obtain ⟨A, c, rfl⟩ := itemsLen hl
    refine .inr ⟨n, b, A, c, rfl, h0.1, h0.2, hv, hob, hb, hl, hg.node _ _ h0.2, hF.mono ?_⟩
    rintro e w' ⟨h1 | ⟨n', b', iv', h1, h2, h3, h4, _, _, _, h5⟩, rfl⟩
    · rw [hfi] at h1; cases h1.1
    · rw [hv] at h4
      injection h4 with h4; injection h4 with h4; injection h4 with h4; injection h4 with h4
      subst h4
      exact ⟨h5, rfl⟩

set_option maxHeartbeats 400000 in
theorem room_tree (w : World) (own : Nat → Option Nat) (t g cap : Nat) (cs : Array Value) (M : Tr) (i : Int) (h : TreeAt w own t g cap cs M) (hg : Good M) :
    Calls Try.prog 21 #[.pointer (some ⟨t, 0, none⟩), .int .i64 i] w fun e w' => e = .returned (.tuple #[.int .i64 (roomOf M i).1, .int .i64 (roomOf M i).2]) ∧ ∃ k, w' = w.drewN k := by
  rcases find_cases w own t g cap cs M i h hg with ⟨hf, hc⟩ | ⟨n, b, A, c, hf, h0, hM, _, _, hb, hl, hok, hc⟩
  · have H := Lib.hid hc
    rw [show roomOf M i = (0, 4) by simp [roomOf, hf]]
    clear hc hf h hg
    go_enter Try.func21, Try.ntmps21
    go_wp2_with (first | (go_at_call 37; refine H.out.mono ?_; rintro e w' ⟨rfl, rfl⟩))
    go_ret2
    exact ⟨rfl, 0, rfl⟩
  · have H := Lib.hid hc
    rw [show roomOf M i = (n.a + n.s - n.fin, 0) by simp [roomOf, hf]]
    have HE := Lib.hid (fun k => end_ok (w.drewN k) b n _ hb hl.1 (small_of hok) hok.len)
    have hfin := hok.fin
    obtain ⟨c0, c1, c2, c3, c4, _⟩ := nodeOpen hb
    have ha := hok.a0
    have hs := hok.s1
    have ht := hok.top
    generalize n.fin = F at *
    clear hc hf h hg hb hl hok hM
    go_enter Try.func21, Try.ntmps21
    go_wp2_with (first | (go_at_call 37; refine H.out.mono ?_; rintro e w' ⟨rfl, rfl⟩))
    go_quiet ((go_at_call 42; exact Calls.quiet_of (HE.out _)))
    go_wp2
    go_ret2
    exact ⟨rfl, _, rfl⟩
/-- An item more, behind append and the store of the slice. -/
theorem push_item {w w2 w1 : World} {own : Nat → Option Nat} {t g cap : Nat} {cs : Array Value} {M : Tr} {i b : Nat} {n : Node} {iv : Value} {x : Item} {g' cap' : Nat} (h : TreeAt w own t g cap cs M)
    (hi : M[i]? = some (some n)) (hc : cs[i]? = some (.pointer (some ⟨b, 0, none⟩))) (hb : w.heap[b]? = some (NodeCells n iv)) (hl : ItemsAt w own i iv n.l)
    (h2 : Below w.heap.size w w2)
    (hown : w1.ownsRow 0 54 3 (.slice (some ⟨g', 0, none⟩) (n.l.length + 1) cap') (n.l.length + 1) (icells n.l ++ x.cells)) (hg : w2.grownBy w1 iv.ownBlock) (hat : iv.ownBlock = some g' ∨ g' = w2.heap.size) :
    ∃ own', TreeAt (w1.setCell ⟨b, 3, none⟩ (.slice (some ⟨g', 0, none⟩) (n.l.length + 1) cap')) own' t g cap cs (M.set i (some { n with l := n.l ++ [x] })) ∧
      Keeps own own' w (w1.setCell ⟨b, 3, none⟩ (.slice (some ⟨g', 0, none⟩) (n.l.length + 1) cap')) := by
  refine ⟨fun k => if k = g' then some (2 * i + 3) else own k, h.setItems hi hc hb (hg.os.trans h2.os) (hg.tape.trans h2.tape) (hg.output.trans h2.output) (Nat.le_trans h2.size hg.size) (fun k h3 h4 => ?_) (fun k h3 => ?_) (fun k h3 => ?_) ⟨?_, ?_⟩⟩
  · rw [hg.block k (Nat.lt_of_lt_of_le h4 h2.size) (fun e => h3 (hl.2 k e.symm)), h2.block k h4]
  · show (if k = g' then _ else own k) = own k
    split
    · next e =>
      rcases hat with hat | hat
      · rw [e, hl.2 g' hat]
      · have := h2.size; omega
    · rfl
  · by_cases e : k = g'
    · subst e
      rcases hat with hat | hat
      · exact .inl (by rw [hl.2 k hat]; simp)
      · refine .inr ⟨by have := h2.size; omega, ?_⟩
        exact (hown.lt k rfl).2
    · have : own k ≠ none := by
        have h3' : (if k = g' then some (2 * i + 3) else own k) ≠ none := h3
        rwa [if_neg e] at h3'
      exact .inl this
  · simpa [icells_append, icells] using hown
  · intro k hk
    have : k = g' := by simpa [Value.ownBlock] using hk.symm
    subst this
    exact if_pos rfl

theorem item_info : (Try.prog.info? 54).map (fun i => (i.zero.isSome, i.zero.map (fun z => z.cells.size), i.size, i.bytes)) = some (true, some 3, 3, 24) := by kernel_rfl
theorem ptr_info : (Try.prog.info? 69).map (fun i => (i.zero.isSome, i.zero.map (fun z => z.cells.size), i.size, i.bytes)) = some (true, some 1, 1, 8) := by kernel_rfl
theorem int_info : (Try.prog.info? 3).map (fun i => (i.zero.isSome, i.zero.map (fun z => z.cells.size), i.size, i.bytes)) = some (true, some 1, 1, 8) := by kernel_rfl
theorem info_open {P : Program} {t n s b : Nat} (h : (P.info? t).map (fun i => (i.zero.isSome, i.zero.map (fun z => z.cells.size), i.size, i.bytes)) = some (true, some n, s, b)) :
    ∃ i z, P.info? t = some i ∧ i.zero = some z ∧ i.size = s ∧ i.bytes = b ∧ z.cells.size = n := by
  cases hi : P.info? t with
  | none => rw [hi] at h; cases h
  | some i =>
    rw [hi] at h
    simp at h
    obtain ⟨h1, h2, h3, h4⟩ := h
    cases hz : i.zero with
    | none => rw [hz] at h1; cases h1
    | some z =>
      rw [hz] at h2
      obtain ⟨a, ha, hb⟩ := h2
      injection ha with ha
      subst ha
      exact ⟨i, z, rfl, hz, h3, h4, hb⟩

set_option maxHeartbeats 400000 in
theorem alloc_ok (w : World) (own : Nat → Option Nat) (t g cap : Nat) (cs : Array Value) (M : Tr) (i sz al U : Int) (n : Node) (b : Nat) (A : Option Addr) (c : Nat) (h : TreeAt w own t g cap cs M)
    (hi : M[i.toNat]? = some (some n)) (hc : cs[i.toNat]? = some (.pointer (some ⟨b, 0, none⟩))) (hb : w.heap[b]? = some (NodeCells n (.slice A n.l.length c))) (hl : ItemsAt w own i.toNat (.slice A n.l.length c) n.l) (hlen : n.l.length < 200)
    (hG : Calls Try.prog 36 #[.pointer (some ⟨t, 0, none⟩), .int .i64 i, .int .i64 sz, .int .i64 al] w fun e w' => e = .returned (.tuple #[.pointer (some ⟨b, 0, none⟩), .int .i64 U, .int .i64 0]) ∧ ∃ k, w' = w.drewN k) :
    Calls Try.prog 16 #[.pointer (some ⟨t, 0, none⟩), .int .i64 i, .int .i64 sz, .int .i64 al] w fun e w' => e = .returned (.tuple #[.int .i64 U, .int .i64 0]) ∧
      ∃ own', TreeAt w' own' t g cap cs (M.set i.toNat (some { n with l := n.l ++ [⟨U, sz, -1⟩] })) ∧ Keeps own own' w w' := by
  have H := Lib.hid hG
  obtain ⟨i0, z0, hi0, hz0, hz1, hz2, hz3⟩ := info_open item_info
  obtain ⟨hob, _⟩ := nodeOwn h hi hc
  obtain ⟨c0, c1, c2, c3, c4, cf⟩ := nodeOpen hb
  have hbl := lt_of_heap hb
  have hne : (Value.slice A n.l.length c).ownBlock ≠ some b := fun e => by have := hl.2 b e; rw [hob] at this; simp at this
  have HP := fun w2 w1 g' cap' => Lib.hid (@push_item w w2 w1 own t g cap cs M i.toNat b n (.slice A n.l.length c) ⟨U, sz, -1⟩ g' cap' h hi hc hb hl)
  have hrow := hl.1
  clear hG hl h hc hi hob
  generalize n.l.length = L at *
  go_enter Try.func16, Try.ntmps16
  go_wp2_with (first | (go_at_call 36; refine H.out.mono ?_; rintro e w' ⟨rfl, k, rfl⟩) |
    (at_builtin; refine wpList_append_lies _ rfl (.tmp 27) (.tmp 31) _ rfl 0 54 i0 z0 3 24 Try.underlying33 hi0 hz0 hz1 hz2 hz3 (by omega) (.slice A L c) L (icells n.l) rfl (hrow.alloc _) ⟨w.heap.size, 0, none⟩ 1 1 (Item.cells ⟨U, sz, -1⟩) rfl rfl (World.news_of_block (heap_alloc_new _ _)) (by simp [Item.cells, Value.oneCell']) (by omega) (by unfold maxLen; omega) (by omega) (Nat.zero_le _) (w.heap.size + 1) (by simp) ?_
     intro g' cap' w1 hown1 hgrow1 hat1 hlt1
     have q1 : w1.cell? ⟨b, 3, none⟩ = some (.slice A L c) := (hgrow1.cell_far ⟨b, 3, none⟩ (by simp; omega) hne.symm).trans ((World.cell?_alloc_lt _ _ _ hbl).trans c3)
     have q2 : w1.frozen? ⟨b, 3, none⟩ = false := (hgrow1.frozen_far ⟨b, 3, none⟩ (by simp; omega) hne.symm).trans ((World.frozen?_alloc_old _ _ _ (Nat.ne_of_lt hbl)).trans (cf 3))))
  go_ret2
  refine ⟨rfl, (HP _ w1 g' cap').out ((below_drewN (Below.refl _ w) k).alloc (Nat.le_refl _) _) hown1 hgrow1 ?_⟩
  exact hat1.elim .inl (fun e => .inr (by simp [e]))

/-- The errors of give go through. -/
theorem alloc_err (w : World) (t : Nat) (i sz al E : Int) (hE : E ≠ 0)
    (hG : Calls Try.prog 36 #[.pointer (some ⟨t, 0, none⟩), .int .i64 i, .int .i64 sz, .int .i64 al] w fun e w' => e = .returned (.tuple #[.pointer none, .int .i64 0, .int .i64 E]) ∧ ∃ k, w' = w.drewN k) :
    Calls Try.prog 16 #[.pointer (some ⟨t, 0, none⟩), .int .i64 i, .int .i64 sz, .int .i64 al] w fun e w' => e = .returned (.tuple #[.int .i64 0, .int .i64 E]) ∧ ∃ k, w' = w.drewN k := by
  have H := Lib.hid hG
  clear hG
  have hE' : (E != 0) = true := by rw [bne_iff_ne]; exact hE
  clear hE
  go_enter Try.func16, Try.ntmps16
  go_wp2_with (first | (go_at_call 36; refine H.out.mono ?_; rintro e w' ⟨rfl, k, rfl⟩))
  go_ret2
  exact ⟨rfl, _, rfl⟩

theorem Tree.drewN {w : World} {own : Nat → Option Nat} {t : Nat} {M : Tr} (h : Tree w own t M) (k : Nat) : Tree (w.drewN k) own t M := h.below (below_drewN (Below.refl _ w) k)
theorem Keeps.drewN (own : Nat → Option Nat) (w : World) (k : Nat) : Keeps own own w (w.drewN k) := .of_below own (below_drewN (Below.refl _ w) k)

/-- What a call that works on a tree answers, and leaves. -/
def Does (w : World) (own : Nat → Option Nat) (t : Nat) (M' : Tr) (v : Value) (e : Ending) (w' : World) : Prop :=
  e = .returned v ∧ ∃ own', Tree w' own' t M' ∧ Keeps own own' w w'

theorem addItem_eq {M : Tr} {i : Nat} {n : Node} (h : M[i]? = some (some n)) (x : Item) : addItem M i x = M.set i (some { n with l := n.l ++ [x] }) := by
  simp [addItem, h]

theorem alloc_tree (w : World) (own : Nat → Option Nat) (t : Nat) (M : Tr) (i sz al : Int) (h : Tree w own t M) (hg : Good M) :
    Calls Try.prog 16 #[.pointer (some ⟨t, 0, none⟩), .int .i64 i, .int .i64 sz, .int .i64 al] w
      (Does w own t (alloc M i sz al).1 (.tuple #[.int .i64 (alloc M i sz al).2.1, .int .i64 (alloc M i sz al).2.2])) := by
  obtain ⟨g, cap, cs, h⟩ := h
  have hG := give_tree w own t g cap cs M i sz al h hg
  by_cases hE : (give M i sz al).2 = 0
  · have hal : alloc M i sz al = (addItem M i.toNat ⟨(give M i sz al).1, sz, -1⟩, (give M i sz al).1, 0) := if_pos hE
    rw [hal]
    rcases find_cases w own t g cap cs M i h hg with ⟨hf, _⟩ | ⟨n, b, A, c, hf, h0, hM, hc, hob, hb, hl, hok, _⟩
    · have : (give M i sz al).2 = 4 := by simp [give, hf]
      omega
    · have hlen : n.l.length < 200 := by
        have := hok.len
        have : ¬ n.l.length = 200 := fun e => by
          simp only [give, hf] at hE
          split at hE
          · simp at hE
          · rw [if_pos (.inr e)] at hE; simp at hE
        omega
      refine (alloc_ok w own t g cap cs M i sz al (give M i sz al).1 n b A c h hM hc hb hl hlen (hG.mono ?_)).mono ?_
      · rintro e w' ⟨⟨h1, _⟩ | ⟨n', b', iv', h1, _, _, h4, _, _, _, h5, _, _, _, h6⟩, hk⟩
        · exact absurd hE h1
        · rw [hc] at h4
          injection h4 with h4; injection h4 with h4; injection h4 with h4; injection h4 with h4
          subst h4
          exact ⟨by rw [h6, h5], hk⟩
      · rintro e w' ⟨rfl, own', hT, hK⟩
        exact ⟨rfl, own', ⟨g, cap, cs, by rw [addItem_eq hM]; exact hT⟩, hK⟩
  · have hal : alloc M i sz al = (M, 0, (give M i sz al).2) := if_neg hE
    rw [hal]
    refine (alloc_err w t i sz al _ hE (hG.mono ?_)).mono ?_
    · rintro e w' ⟨⟨_, h1⟩ | ⟨n', b', iv', h1, _, _, h4, _, _, _, h5, _⟩, hk⟩
      · exact ⟨h1, hk⟩
      · exact absurd (by rw [h5]) hE
    · rintro e w' ⟨rfl, k, rfl⟩
      exact ⟨rfl, own, Tree.drewN ⟨g, cap, cs, h⟩ k, .drewN own w k⟩
end Ne
end Go.Proofs.Ytllmddhahpegmaa
