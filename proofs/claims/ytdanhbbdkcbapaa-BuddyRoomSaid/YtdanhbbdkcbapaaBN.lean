/- The operations of the specification on lists of blocks. No program here. -/
import Derived.Test.YtdanhbbdkcbapaaBL
namespace Go.Proofs.Ytdanhbbdkcbapaa
namespace Bu

/-- One block more. -/
def putB : List Blk → Blk → List Blk
  | [], x => [x]
  | y :: L, x => if x.1 < y.1 then x :: y :: L else y :: putB L x

theorem mem_putB {L : List Blk} {x z : Blk} : z ∈ putB L x ↔ z = x ∨ z ∈ L := by
  induction L with
  | nil => simp [putB]
  | cons y L ih =>
    rw [putB]
    split
    · simp
    · rw [List.mem_cons, ih, List.mem_cons]
      constructor
      · rintro (h | h | h)
        · exact .inr (.inl h)
        · exact .inl h
        · exact .inr (.inr h)
      · rintro (h | h | h)
        · exact .inr (.inl h)
        · exact .inl h
        · exact .inr (.inr h)

theorem putB_len (L : List Blk) (x : Blk) : (putB L x).length = L.length + 1 := by
  induction L with
  | nil => rfl
  | cons y L ih =>
    rw [putB]
    split
    · rfl
    · simp [ih]

theorem disj_of {N : Nat} {L : List Blk} {x y : Blk} (h : ∀ z ∈ L, InB N z) (hx : InB N x) (hf : Free (LG L) x.2 (x.1 / 2 ^ x.2)) (hy : y ∈ L) : x.1 + 2 ^ x.2 ≤ y.1 ∨ y.1 + 2 ^ y.2 ≤ x.1 := by
  refine Classical.byContradiction fun hn => ?_
  have h1 := pow_pos2 x.2
  have h2 := pow_pos2 y.2
  have key : ∀ q, x.1 ≤ q → q < x.1 + 2 ^ x.2 → y.1 ≤ q → q < y.1 + 2 ^ y.2 → False := fun q a b c d => by
    refine hf q ((within hx.2.1).1 ⟨a, b⟩) ((used_LG h).2 ?_)
    unfold anyP hasP
    rw [List.any_eq_true]
    exact ⟨y, hy, by rw [decide_eq_true_eq]; exact ⟨c, d⟩⟩
  by_cases e : x.1 ≤ y.1
  · exact key y.1 e (by omega) (Nat.le_refl _) (by omega)
  · exact key x.1 (Nat.le_refl _) (by omega) (by omega) (by omega)

theorem putB_asc {L : List Blk} {x : Blk} (h : L.Pairwise fun a b => a.1 + 2 ^ a.2 ≤ b.1) (hd : ∀ y ∈ L, x.1 + 2 ^ x.2 ≤ y.1 ∨ y.1 + 2 ^ y.2 ≤ x.1) : (putB L x).Pairwise fun a b => a.1 + 2 ^ a.2 ≤ b.1 := by
  induction L with
  | nil => rw [putB]; exact List.pairwise_singleton _ _
  | cons y L ih =>
    rw [List.pairwise_cons] at h
    have h1 := pow_pos2 x.2
    have h2 := pow_pos2 y.2
    have hy := hd y (List.mem_cons_self ..)
    rw [putB]
    by_cases e : x.1 < y.1
    · rw [if_pos e]
      refine List.pairwise_cons.2 ⟨fun z hz => ?_, List.pairwise_cons.2 h⟩
      rcases List.mem_cons.1 hz with rfl | hz
      · omega
      · have := h.1 z hz; omega
    · rw [if_neg e]
      refine List.pairwise_cons.2 ⟨fun z hz => ?_, ih h.2 fun z hz => hd z (List.mem_cons_of_mem _ hz)⟩
      rcases mem_putB.1 hz with rfl | hz
      · omega
      · exact h.1 z hz

theorem St.put {N : Nat} {L : List Blk} {x : Blk} (h : St N L) (hx : InB N x) (hf : Free (LG L) x.2 (x.1 / 2 ^ x.2)) : St N (putB L x) :=
  ⟨h.n10, fun z hz => (mem_putB.1 hz).elim (fun e => e ▸ hx) (h.inb z), putB_asc h.asc fun _ hy => disj_of h.inb hx hf hy⟩

theorem LG_put {L : List Blk} {x : Blk} (hx : x.1 % 2 ^ x.2 = 0) : LG (putB L x) = add (LG L) x.2 (x.1 / 2 ^ x.2) := by
  funext k i
  refine propext ?_
  unfold LG add
  rw [mem_putB]
  constructor
  · rintro (rfl | h)
    · exact .inl ⟨rfl, (first k i).symm⟩
    · exact .inr h
  · rintro (⟨rfl, rfl⟩ | h)
    · exact .inl (by rw [mul_div hx])
    · exact .inr h

/-- A block less. -/
def delB (L : List Blk) (x : Blk) : List Blk := L.filter fun y => y != x

theorem mem_delB {L : List Blk} {x z : Blk} : z ∈ delB L x ↔ z ∈ L ∧ z ≠ x := by
  unfold delB; rw [List.mem_filter, bne_iff_ne]
theorem St.del {N : Nat} {L : List Blk} {x : Blk} (h : St N L) : St N (delB L x) :=
  ⟨h.n10, fun z hz => h.inb z (mem_delB.1 hz).1, h.asc.filter _⟩
theorem LG_del {L : List Blk} {x : Blk} (hx : x.1 % 2 ^ x.2 = 0) : LG (delB L x) = del (LG L) x.2 (x.1 / 2 ^ x.2) := by
  funext k i
  refine propext ?_
  unfold LG del
  rw [mem_delB]
  constructor
  · rintro ⟨h, hne⟩
    refine ⟨fun ⟨e1, e2⟩ => hne ?_, h⟩
    subst e1
    rw [e2, mul_div hx]
  · rintro ⟨hne, h⟩
    refine ⟨h, fun e => hne ?_⟩
    subst e
    exact ⟨rfl, (first k i).symm⟩

/-- What Alloc chooses: the least order that suffices, and of these the first. -/
def bestOf (n : Nat) : Option Blk → List Blk → Option Blk
  | a, [] => a
  | a, x :: l => bestOf n (if n ≤ x.2 ∧ (∀ y, a = some y → x.2 < y.2) then some x else a) l

def Best (n : Nat) (B : List Blk) (o : Option Blk) : Prop :=
  match o with
  | none => ∀ y ∈ B, y.2 < n
  | some x => x ∈ B ∧ n ≤ x.2 ∧ ∀ y ∈ B, n ≤ y.2 → x.2 < y.2 ∨ (x.2 = y.2 ∧ x.1 ≤ y.1)

theorem bestOf_spec {n : Nat} : ∀ {l : List Blk} {a : Option Blk} {pre : List Blk}, (pre ++ l).Pairwise (fun a b => a.1 < b.1) → Best n pre a → Best n (pre ++ l) (bestOf n a l) := by
  intro l
  induction l with
  | nil => intro a pre _ h; rw [List.append_nil, bestOf]; exact h
  | cons x l ih =>
    intro a pre hp h
    rw [bestOf]
    have e : pre ++ x :: l = (pre ++ [x]) ++ l := by simp
    rw [e] at hp ⊢
    refine ih hp ?_
    have hlt : ∀ y ∈ pre, y.1 < x.1 := fun y hy => by
      have h2 := (List.pairwise_append.1 (List.pairwise_append.1 hp).1).2.2
      exact h2 y hy x (List.mem_singleton.2 rfl)
    by_cases c : n ≤ x.2 ∧ (∀ y, a = some y → x.2 < y.2)
    · rw [if_pos c]
      refine ⟨by simp, c.1, fun y hy hn => ?_⟩
      rcases List.mem_append.1 hy with hy | hy
      · cases a with
        | none => have := h y hy; omega
        | some z =>
          have h3 := c.2 z rfl
          rcases h.2.2 y hy hn with h4 | h4
          · exact .inl (by omega)
          · exact .inl (by omega)
      · rw [List.mem_singleton] at hy
        subst hy
        exact .inr ⟨rfl, Nat.le_refl _⟩
    · rw [if_neg c]
      cases a with
      | none =>
        intro y hy
        rcases List.mem_append.1 hy with hy | hy
        · exact h y hy
        · rw [List.mem_singleton] at hy
          subst hy
          exact Nat.lt_of_not_le fun hn => c ⟨hn, fun y e => by cases e⟩
      | some z =>
        refine ⟨List.mem_append.2 (.inl h.1), h.2.1, fun y hy hn => ?_⟩
        rcases List.mem_append.1 hy with hy | hy
        · exact h.2.2 y hy hn
        · rw [List.mem_singleton] at hy
          subst hy
          have h5 : ¬ y.2 < z.2 := fun h6 => c ⟨hn, fun q e => by injection e with e; subst e; exact h6⟩
          by_cases e6 : z.2 = y.2
          · exact .inr ⟨e6, Nat.le_of_lt (hlt z h.1)⟩
          · exact .inl (by omega)

theorem asc_uniq {B : List Blk} (hB : B.Pairwise fun a b => a.1 < b.1) : ∀ x ∈ B, ∀ y ∈ B, x.1 = y.1 → x = y := by
  induction B with
  | nil => intro x hx; cases hx
  | cons z B ih =>
    intro x hx y hy e
    rw [List.pairwise_cons] at hB
    rcases List.mem_cons.1 hx with rfl | hx'
    · rcases List.mem_cons.1 hy with rfl | hy'
      · rfl
      · have := hB.1 y hy'; omega
    · rcases List.mem_cons.1 hy with rfl | hy'
      · have := hB.1 x hx'; omega
      · exact ih hB.2 x hx' y hy' e

theorem best_one {n : Nat} {B : List Blk} (hB : B.Pairwise fun a b => a.1 < b.1) {o o' : Option Blk} (h : Best n B o) (h' : Best n B o') : o = o' := by
  have uniq := asc_uniq hB
  cases o with
  | none =>
    cases o' with
    | none => rfl
    | some y => have := h y h'.1; have := h'.2.1; omega
  | some x =>
    cases o' with
    | none => have := h' x h.1; have := h.2.1; omega
    | some y =>
      congr 1
      have h1 := h.2.2 y h'.1 h'.2.1
      have h2 := h'.2.2 x h.1 h.2.1
      exact uniq x h.1 y h'.1 (by omega)

/-- Alloc: the block that is given, and the list. -/
def allocB (N : Nat) (L : List Blk) (n : Nat) : Option (Nat × List Blk) := (bestOf n none (blocksB N L)).map fun x => (x.1, putB L (x.1, n))

theorem alloc_best {N : Nat} {L : List Blk} (h : St N L) (n : Nat) : Best n (blocksB N L) (bestOf n none (blocksB N L)) := by
  have := bestOf_spec (n := n) (l := blocksB N L) (a := none) (pre := []) (by simpa using asc_lt (blocks_asc h)) (fun y hy => by cases hy)
  simpa using this

theorem IsFree.sub {N : Nat} {L : List Blk} {x : Blk} (h : IsFree N L x) {n : Nat} (hn : n ≤ x.2) : InB N (x.1, n) ∧ Free (LG L) n (x.1 / 2 ^ n) := by
  obtain ⟨h1, h2⟩ := h.lt
  have hm := mod_mul_of_le hn h.1
  have hle : 2 ^ n ≤ 2 ^ x.2 := Nat.pow_le_pow_right (by decide) hn
  refine ⟨⟨by show n ≤ N; omega, hm, by show x.1 + 2 ^ n ≤ 2 ^ N; omega⟩, ?_⟩
  obtain ⟨m, hmm⟩ := Nat.exists_eq_add_of_le hn
  refine Free.mono m ?_
  rw [← div_pow, ← hmm]
  exact h.2.2.2.1

theorem alloc_st {N : Nat} {L : List Blk} (h : St N L) {n p : Nat} {L' : List Blk} (ha : allocB N L n = some (p, L')) : St N L' := by
  unfold allocB at ha
  have hb := alloc_best h n
  cases e : bestOf n none (blocksB N L) with
  | none => rw [e] at ha; cases ha
  | some x =>
    rw [e] at ha hb
    injection ha with ha
    injection ha with h1 h2
    subst h2
    have := ((mem_blocks h x).1 hb.1).sub hb.2.1
    exact h.put this.1 this.2

/-- How many pages blocks of an order have room for. -/
def roomB (n : Nat) (B : List Blk) : Nat := (B.map fun x => if n ≤ x.2 then 2 ^ (x.2 - n) else 0).sum
/-- The greatest order. -/
def largeB : Option Nat → List Blk → Option Nat
  | a, [] => a
  | a, x :: l => largeB (some (max (a.getD 0) x.2)) l
/-- The first block that has a page. -/
def ownerB (L : List Blk) (p : Nat) : Option Blk := L.find? (hasP · p)

theorem ownerB_some {L : List Blk} {p : Nat} {x : Blk} (h : ownerB L p = some x) : x ∈ L ∧ x.1 ≤ p ∧ p < x.1 + 2 ^ x.2 := by
  unfold ownerB at h
  have h1 := List.find?_some h
  unfold hasP at h1
  rw [decide_eq_true_eq] at h1
  exact ⟨List.mem_of_find?_eq_some h, h1⟩
theorem ownerB_none {L : List Blk} {p : Nat} (h : ownerB L p = none) {x : Blk} (hx : x ∈ L) : ¬ (x.1 ≤ p ∧ p < x.1 + 2 ^ x.2) := by
  unfold ownerB at h
  have := List.find?_eq_none.1 h x hx
  unfold hasP at this
  simpa using this
theorem ownerB_of {N : Nat} {L : List Blk} (h : St N L) {p : Nat} {x : Blk} (hx : x ∈ L) (h1 : x.1 ≤ p) (h2 : p < x.1 + 2 ^ x.2) : ownerB L p = some x := by
  cases e : ownerB L p with
  | none => exact absurd ⟨h1, h2⟩ (ownerB_none e hx)
  | some y =>
    obtain ⟨g1, g2, g3⟩ := ownerB_some e
    rw [asc_one h.asc g1 hx g2 g3 h1 h2]
end Bu
end Go.Proofs.Ytdanhbbdkcbapaa
