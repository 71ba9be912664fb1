/- Room counts the free blocks of an order. No program here. Given and free blocks have each page once; no two free blocks are the halves of a block. Slabs, plain: what a cache is, and what its calls do. -/
import Derived.Test.YtlknhbcambdccaaK0
namespace Go.Proofs.Ytlknhbcambdccaa
namespace Bu

/-- The indices of the free blocks of an order. -/
def freeIdx (N : Nat) (L : List Blk) (n : Nat) : List Nat := (List.range (2 ^ (N - n))).filter fun i => freeB L (i * 2 ^ n) n

theorem natasc_eq : ∀ {A B : List Nat}, A.Pairwise (· < ·) → B.Pairwise (· < ·) → (∀ x, x ∈ A ↔ x ∈ B) → A = B := by
  intro A
  induction A with
  | nil =>
    intro B _ _ h
    cases B with
    | nil => rfl
    | cons y B => exact absurd ((h y).2 (List.mem_cons_self ..)) (by simp)
  | cons x A ih =>
    intro B hA hB h
    cases B with
    | nil => exact absurd ((h x).1 (List.mem_cons_self ..)) (by simp)
    | cons y B =>
      rw [List.pairwise_cons] at hA hB
      have e : x = y := by
        rcases List.mem_cons.1 ((h x).1 (List.mem_cons_self ..)) with e | e
        · exact e
        · rcases List.mem_cons.1 ((h y).2 (List.mem_cons_self ..)) with e2 | e2
          · exact e2.symm
          · have := hB.1 x e; have := hA.1 y e2; omega
      subst e
      congr 1
      refine ih hA.2 hB.2 fun z => ⟨fun hz => ?_, fun hz => ?_⟩
      · rcases List.mem_cons.1 ((h z).1 (List.mem_cons_of_mem _ hz)) with e | e
        · subst e; have := hA.1 _ hz; omega
        · exact e
      · rcases List.mem_cons.1 ((h z).2 (List.mem_cons_of_mem _ hz)) with e | e
        · subst e; have := hB.1 _ hz; omega
        · exact e

/-- The blocks of an order that lie in a block. -/
def parts (n : Nat) (x : Blk) : List Nat := if n ≤ x.2 then (List.range (2 ^ (x.2 - n))).map fun d => x.1 / 2 ^ n + d else []

theorem parts_len (n : Nat) (x : Blk) : (parts n x).length = if n ≤ x.2 then 2 ^ (x.2 - n) else 0 := by
  unfold parts; split <;> simp

theorem mem_parts {n : Nat} {x : Blk} (hx : x.1 % 2 ^ x.2 = 0) {i : Nat} : i ∈ parts n x ↔ n ≤ x.2 ∧ x.1 ≤ i * 2 ^ n ∧ i * 2 ^ n < x.1 + 2 ^ x.2 := by
  unfold parts
  by_cases h : n ≤ x.2
  · rw [if_pos h, List.mem_map]
    have hm := mul_div (mod_mul_of_le h hx)
    have hp := pow_pos2 n
    obtain ⟨q, hq⟩ : ∃ q, q = x.1 / 2 ^ n := ⟨_, rfl⟩
    rw [← hq] at hm ⊢
    have hs : 2 ^ x.2 = 2 ^ (x.2 - n) * 2 ^ n := by rw [← Nat.pow_add, Nat.sub_add_cancel h]
    constructor
    · rintro ⟨d, hd, rfl⟩
      have hd := List.mem_range.1 hd
      refine ⟨h, ?_, ?_⟩
      · rw [← hm]; exact Nat.mul_le_mul_right _ (by omega)
      · rw [← hm, hs, ← Nat.add_mul]; exact Nat.mul_lt_mul_of_pos_right (by omega) hp
    · rintro ⟨_, h1, h2⟩
      rw [← hm] at h1
      rw [← hm, hs, ← Nat.add_mul] at h2
      have g1 := Nat.le_of_mul_le_mul_right h1 hp
      have g2 := Nat.lt_of_mul_lt_mul_right h2
      exact ⟨i - q, List.mem_range.2 (by omega), by omega⟩
  · rw [if_neg h]
    exact ⟨fun hx => (by cases hx), fun hx => absurd hx.1 h⟩

theorem parts_asc (n : Nat) (x : Blk) : (parts n x).Pairwise (· < ·) := by
  unfold parts
  split
  · refine List.pairwise_map.2 ?_
    exact List.pairwise_lt_range.imp (by intro a b h; omega)
  · exact List.Pairwise.nil

theorem flat_asc {n : Nat} : ∀ {B : List Blk}, (∀ x ∈ B, x.1 % 2 ^ x.2 = 0) → B.Pairwise (fun a b => a.1 + 2 ^ a.2 ≤ b.1) → (B.flatMap (parts n)).Pairwise (· < ·) := by
  intro B
  induction B with
  | nil => intro _ _; exact List.Pairwise.nil
  | cons x B ih =>
    intro ha hp
    rw [List.pairwise_cons] at hp
    rw [List.flatMap_cons, List.pairwise_append]
    refine ⟨parts_asc n x, ih (fun y hy => ha y (List.mem_cons_of_mem _ hy)) hp.2, fun i hi j hj => ?_⟩
    obtain ⟨y, hy, hj⟩ := List.mem_flatMap.1 hj
    obtain ⟨_, _, h2⟩ := (mem_parts (ha x (List.mem_cons_self ..))).1 hi
    obtain ⟨_, h3, _⟩ := (mem_parts (ha y (List.mem_cons_of_mem _ hy))).1 hj
    have := hp.1 y hy
    exact Nat.lt_of_mul_lt_mul_right (a := 2 ^ n) (by omega)

theorem mem_free_parts {N : Nat} {L : List Blk} (hS : St N L) {n : Nat} (hn : n ≤ N) (i : Nat) : i ∈ (blocksB N L).flatMap (parts n) ↔ i ∈ freeIdx N L n := by
  have hp := pow_pos2 n
  unfold freeIdx
  rw [List.mem_flatMap, List.mem_filter, List.mem_range]
  have hal : i * 2 ^ n % 2 ^ n = 0 := Nat.mul_mod_left _ _
  have hf := freeB_iff hS.inb hal
  rw [first] at hf
  have hs : 2 ^ N = 2 ^ (N - n) * 2 ^ n := by rw [← Nat.pow_add, Nat.sub_add_cancel hn]
  constructor
  · rintro ⟨x, hx, hi⟩
    have hx := (mem_blocks hS x).1 hx
    obtain ⟨h1, h2, h3⟩ := (mem_parts hx.1).1 hi
    have hlt := hx.lt.1
    refine ⟨?_, hf.2 ?_⟩
    · exact Nat.lt_of_mul_lt_mul_right (a := 2 ^ n) (by rw [← hs]; omega)
    · obtain ⟨m, hm⟩ := Nat.exists_eq_add_of_le h1
      refine Free.mono m ?_
      have e1 := (within hx.1).1 ⟨h2, h3⟩
      have : i / 2 ^ m = x.1 / 2 ^ x.2 := by
        rw [← e1, hm, div_pow, first]
      rw [this, ← hm]
      exact hx.2.2.2.1
  · rintro ⟨h1, h2⟩
    obtain ⟨m, hm⟩ := around hn h1 (hf.1 h2)
    refine ⟨(i / 2 ^ m * 2 ^ (n + m), n + m), (mem_blocks hS _).2 ⟨Nat.mul_mod_left _ _, by rw [first]; exact hm⟩, ?_⟩
    refine (mem_parts (Nat.mul_mod_left _ _)).2 ⟨Nat.le_add_right _ _, ?_⟩
    refine (within (Nat.mul_mod_left _ _)).2 ?_
    rw [first, div_pow, first]

theorem room_count {N : Nat} {L : List Blk} (hS : St N L) {n : Nat} (hn : n ≤ N) : roomB n (blocksB N L) = (freeIdx N L n).length := by
  have e : (blocksB N L).flatMap (parts n) = freeIdx N L n := by
    refine natasc_eq (flat_asc (fun x hx => ((mem_blocks hS x).1 hx).1) (blocks_asc hS)) ?_ (mem_free_parts hS hn)
    exact (List.pairwise_lt_range).filter _
  rw [← e, List.length_flatMap]
  unfold roomB
  congr 1
  refine List.map_congr_left fun x _ => ?_
  rw [parts_len]

theorem room_big {N : Nat} {L : List Blk} (hS : St N L) {n : Nat} (hn : N < n) : roomB n (blocksB N L) = 0 ∧ allocB N L n = none := by
  have hlow : ∀ x ∈ blocksB N L, ¬ n ≤ x.2 := fun x hx => by have := ((mem_blocks hS x).1 hx).lt.2; omega
  constructor
  · unfold roomB
    have : (blocksB N L).map (fun x => if n ≤ x.2 then 2 ^ (x.2 - n) else 0) = (blocksB N L).map (fun _ => 0) := List.map_congr_left fun x hx => if_neg (hlow x hx)
    rw [this]
    generalize blocksB N L = B
    induction B with
    | nil => rfl
    | cons x B ih => simpa using ih
  · have hb := alloc_best hS n
    unfold allocB
    cases e : bestOf n none (blocksB N L) with
    | none => rfl
    | some x => rw [e] at hb; exact absurd hb.2.1 (hlow x hb.1)

theorem freeB_put {N : Nat} {L : List Blk} (hS : St N L) {x : Blk} (hx : InB N x) (hf : Free (LG L) x.2 (x.1 / 2 ^ x.2)) (i : Nat) :
    freeB (putB L x) (i * 2 ^ x.2) x.2 = (freeB L (i * 2 ^ x.2) x.2 && decide (i ≠ x.1 / 2 ^ x.2)) := by
  have hS' := hS.put hx hf
  have hal : i * 2 ^ x.2 % 2 ^ x.2 = 0 := Nat.mul_mod_left _ _
  have h1 := freeB_iff hS'.inb hal
  have h2 := freeB_iff hS.inb hal
  rw [first] at h1 h2
  rw [LG_put hx.2.1, free_add] at h1
  rw [Bool.eq_iff_iff, h1, Bool.and_eq_true, h2, decide_eq_true_eq]
  constructor
  · rintro ⟨a, b⟩
    refine ⟨a, fun e => ?_⟩
    exact b (i * 2 ^ x.2) (first _ _) (by rw [first]; exact e)
  · rintro ⟨a, b⟩
    exact ⟨a, fun y hy e => b (by rw [← hy, e])⟩

theorem filter_one {p : Nat → Bool} {q : Nat} : ∀ {l : List Nat}, l.Pairwise (· < ·) → q ∈ l → p q = true → (l.filter fun i => p i && decide (i ≠ q)).length + 1 = (l.filter p).length := by
  intro l
  induction l with
  | nil => intro _ h; cases h
  | cons x l ih =>
    intro hp hq hpq
    rw [List.pairwise_cons] at hp
    by_cases e : x = q
    · subst e
      rw [List.filter_cons_of_neg (by simp), List.filter_cons_of_pos hpq, List.length_cons]
      congr 1
      congr 1
      refine List.filter_congr fun y hy => ?_
      have := hp.1 y hy
      rw [decide_eq_true (by omega), Bool.and_true]
    · have hq' : q ∈ l := (List.mem_cons.1 hq).resolve_left (fun h => e h.symm)
      have := ih hp.2 hq' hpq
      cases hx : p x with
      | true => rw [List.filter_cons_of_pos (by simp [hx, e]), List.filter_cons_of_pos hx, List.length_cons, List.length_cons, ← this]
      | false => rw [List.filter_cons_of_neg (by simp [hx]), List.filter_cons_of_neg (by simp [hx])]; exact this

/-- A block is given just if there is room, and there is room for one less. -/
theorem room_step {N : Nat} {L : List Blk} (hS : St N L) (n : Nat) : match allocB N L n with
    | none => roomB n (blocksB N L) = 0
    | some (_, L') => roomB n (blocksB N L') + 1 = roomB n (blocksB N L) := by
  have hb := alloc_best hS n
  by_cases hn : n ≤ N
  · cases e : bestOf n none (blocksB N L) with
    | none =>
      have : allocB N L n = none := by unfold allocB; rw [e]; rfl
      rw [this]
      rw [e] at hb
      show roomB n (blocksB N L) = 0
      unfold roomB
      have : (blocksB N L).map (fun x => if n ≤ x.2 then 2 ^ (x.2 - n) else 0) = (blocksB N L).map (fun _ => 0) := List.map_congr_left fun x hx => if_neg (by have := hb x hx; omega)
      rw [this]
      generalize blocksB N L = B
      induction B with
      | nil => rfl
      | cons x B ih => simpa using ih
    | some x =>
      have : allocB N L n = some (x.1, putB L (x.1, n)) := by unfold allocB; rw [e]; rfl
      rw [this]
      rw [e] at hb
      obtain ⟨g1, g2⟩ := ((mem_blocks hS x).1 hb.1).sub hb.2.1
      show roomB n (blocksB N (putB L (x.1, n))) + 1 = roomB n (blocksB N L)
      rw [room_count (hS.put g1 g2) hn, room_count hS hn]
      unfold freeIdx
      have hfe : (fun i => freeB (putB L (x.1, n)) (i * 2 ^ n) n) = fun i => (fun i => freeB L (i * 2 ^ n) n) i && decide (i ≠ x.1 / 2 ^ n) := by
        funext i; exact freeB_put hS g1 g2 i
      rw [hfe]
      refine filter_one List.pairwise_lt_range (List.mem_range.2 ?_) ?_
      · rw [Nat.div_lt_iff_lt_mul (pow_pos2 n), ← Nat.pow_add, Nat.sub_add_cancel hn]
        have := g1.2.2
        have := pow_pos2 n
        show x.1 < 2 ^ N
        have : x.1 + 2 ^ n ≤ 2 ^ N := g1.2.2
        omega
      · have hm : x.1 % 2 ^ n = 0 := g1.2.1
        show freeB L (x.1 / 2 ^ n * 2 ^ n) n = true
        rw [mul_div hm]
        exact (freeB_iff hS.inb hm).2 g2
  · obtain ⟨h1, h2⟩ := room_big hS (Nat.lt_of_not_le hn)
    rw [h2]; exact h1
end Bu
end Go.Proofs.Ytlknhbcambdccaa
namespace Go.Proofs.Ytlknhbcambdccaa

namespace Bu

theorem no_halves {N : Nat} {L : List Blk} {x y : Blk} (hx : IsFree N L x) (hy : IsFree N L y) (hk : x.2 = y.2) (hadj : x.1 + 2 ^ x.2 = y.1) (hal : x.1 % (2 * 2 ^ x.2) = 0) : False := by
  obtain ⟨p, k⟩ := x
  obtain ⟨q, k'⟩ := y
  dsimp only at hk hadj hal
  subst hk
  obtain ⟨h1, h2, h3, h4, h5⟩ := hx
  obtain ⟨g1, g2, g3, g4, g5⟩ := hy
  dsimp only at h1 h2 h3 h4 h5 g1 g2 g3 g4 g5
  have e1 := mul_div h1
  have hp := pow_pos2 k
  obtain ⟨i, hi⟩ : ∃ i, i = p / 2 ^ k := ⟨_, rfl⟩
  rw [← hi] at e1 h3 h4 h5
  have e2 : (i + 1) * 2 ^ k = q := by rw [Nat.add_mul, e1, Nat.one_mul]; exact hadj
  have e3 : q / 2 ^ k = i + 1 := by rw [← e2, Nat.mul_div_cancel _ hp]
  rw [e3] at g3 g4
  have hev : i % 2 = 0 := by
    obtain ⟨t, ht⟩ := Nat.dvd_of_mod_eq_zero hal
    have : i = 2 * t := by
      rw [hi, ht, Nat.mul_comm 2, Nat.mul_assoc, Nat.mul_div_cancel_left _ hp]
    omega
  rcases h5 with h5 | h5
  · subst h5
    rw [Nat.sub_self] at g3
    simp at g3
  · apply h5
    intro z hz hu
    rw [div_pow z k 1, Nat.pow_one] at hz
    have : z / 2 ^ k = i ∨ z / 2 ^ k = i + 1 := by omega
    rcases this with e | e
    · exact h4 z e hu
    · exact g4 z e hu

/-- How many blocks have a page. -/
def cntP (L : List Blk) (p : Nat) : Nat := (L.filter (hasP · p)).length
theorem cntP_add (A B : List Blk) (p : Nat) : cntP (A ++ B) p = cntP A p + cntP B p := by unfold cntP; rw [List.filter_append, List.length_append]
theorem cntP_le (L : List Blk) (p : Nat) : cntP L p ≤ L.length := List.length_filter_le _ _
theorem cntP_take {L : List Blk} {i : Nat} {x : Blk} (h : L[i]? = some x) (p : Nat) : cntP (L.take (i + 1)) p = cntP (L.take i) p + if x.1 ≤ p ∧ p < x.1 + 2 ^ x.2 then 1 else 0 := by
  have hl := (List.getElem?_eq_some_iff.1 h).1
  have he := (List.getElem?_eq_some_iff.1 h).2
  rw [List.take_succ_eq_append_getElem hl, cntP_add, he]
  congr 1
  unfold cntP hasP
  by_cases e : x.1 ≤ p ∧ p < x.1 + 2 ^ x.2
  · rw [if_pos e]; simp [e]
  · rw [if_neg e]; simp; omega

theorem cnt_asc {p : Nat} : ∀ {L : List Blk}, L.Pairwise (fun a b => a.1 + 2 ^ a.2 ≤ b.1) → cntP L p = if anyP L p = true then 1 else 0 := by
  intro L
  induction L with
  | nil => intro _; rfl
  | cons x L ih =>
    intro h
    rw [List.pairwise_cons] at h
    have ih := ih h.2
    by_cases e : hasP x p = true
    · have hno : L.filter (hasP · p) = [] := by
        rw [List.filter_eq_nil_iff]
        intro y hy hh
        unfold hasP at e hh
        rw [decide_eq_true_eq] at e hh
        have := h.1 y hy
        omega
      have h1 : anyP (x :: L) p = true := by unfold anyP; rw [List.any_cons, e]; rfl
      rw [if_pos h1]
      unfold cntP
      rw [List.filter_cons, if_pos e, hno]; rfl
    · have h1 : anyP (x :: L) p = anyP L p := by unfold anyP; rw [List.any_cons]; simp [e]
      rw [h1, ← ih]
      unfold cntP
      rw [List.filter_cons, if_neg e]

theorem any_blocks {N : Nat} {L : List Blk} (hS : St N L) {p : Nat} (hp : p < 2 ^ N) : anyP (blocksB N L) p = !anyP L p := by
  cases e : anyP L p with
  | true =>
    cases e2 : anyP (blocksB N L) p with
    | false => rfl
    | true =>
      unfold anyP at e2
      obtain ⟨x, hx, hh⟩ := List.any_eq_true.1 e2
      unfold hasP at hh
      rw [decide_eq_true_eq] at hh
      obtain ⟨h1, h2, h3, h4, h5⟩ := (mem_blocks hS x).1 hx
      have hm := mul_div h1
      exact absurd ((used_LG hS.inb).2 e) (used_free h4 (by omega) (by omega))
  | false =>
    have hf : freeB L (p * 2 ^ 0) 0 = true := by unfold freeB; rw [List.all_eq_true]; intro d hd; have hd := List.mem_range.1 hd; have : d = 0 := by simpa using hd
                                                 subst this; simp [e]
    have hm : p ∈ freeIdx N L 0 := by unfold freeIdx; rw [List.mem_filter, List.mem_range]; exact ⟨by simpa using hp, hf⟩
    rw [← mem_free_parts hS (Nat.zero_le _), List.mem_flatMap] at hm
    obtain ⟨x, hx, hpx⟩ := hm
    obtain ⟨_, h2, h3⟩ := (mem_parts ((mem_blocks hS x).1 hx).1).1 hpx
    unfold anyP
    rw [Bool.not_false, List.any_eq_true]
    exact ⟨x, hx, by unfold hasP; rw [decide_eq_true_eq]; simpa using ⟨by simpa using h2, by simpa using h3⟩⟩

/-- Each page once. -/
theorem pages_once {N : Nat} {L : List Blk} (hS : St N L) {p : Nat} (hp : p < 2 ^ N) : cntP (L ++ blocksB N L) p = 1 := by
  rw [cntP_add, cnt_asc hS.asc, cnt_asc (blocks_asc hS), any_blocks hS hp]
  cases anyP L p <;> rfl
end Bu
end Go.Proofs.Ytlknhbcambdccaa
namespace Go.Proofs.Ytlknhbcambdccaa
namespace Bu

/-- A slab: its first page, and which of its objects are allocated. -/
structure Slb where
  pg : Nat
  us : List Bool

def Slb.many (x : Slb) : Nat := x.us.count true

/-- A cache. -/
structure Ca where
  size : Nat
  order : Nat
  keep : Nat
  sl : List Slb

/-- How many objects fit into a slab. -/
def capa (size order : Nat) : Nat := 64 * 2 ^ order / size
def sizesB (size order keep : Int) : Bool := decide (8 ≤ size ∧ size ≤ 1024 ∧ size % 8 = 0 ∧ 0 ≤ order ∧ order ≤ 4 ∧ 0 ≤ keep ∧ keep ≤ 64 ∧ size ≤ ((64 * 2 ^ order.toNat : Nat) : Int))

def emptyS (l : List Slb) : Nat := (l.filter fun x => x.many == 0).length

/-- The slab that Alloc selects: its number, and how many of its objects are allocated. -/
def pickS : Nat → Option (Nat × Nat) → List Slb → Option (Nat × Nat)
  | _, a, [] => a
  | i, a, x :: l => pickS (i + 1) (if x.many < x.us.length ∧ (∀ p, a = some p → p.2 < x.many) then some (i, x.many) else a) l

def insS : List Slb → Slb → List Slb
  | [], x => [x]
  | y :: l, x => if x.pg < y.pg then x :: y :: l else y :: insS l x

/-- The first free object. -/
def freeI (us : List Bool) : Nat := us.findIdx fun b => !b

def setS (l : List Slb) (j i : Nat) (v : Bool) : List Slb := match l[j]? with | some x => l.set j ⟨x.pg, x.us.set i v⟩ | none => l

def addrS (size : Nat) (x : Slb) (i : Nat) : Nat := 64 * x.pg + i * size

/-- Alloc: the address, and what there is after it. -/
def allocC (c : Ca) (N : Nat) (L : List Blk) : Option (Nat × List Slb × List Blk) :=
  match pickS 0 none c.sl with
  | some (j, _) => match c.sl[j]? with
    | some x => some (addrS c.size x (freeI x.us), setS c.sl j (freeI x.us) true, L)
    | none => none
  | none => match allocB N L c.order with
    | none => none
    | some (p, L') => some (64 * p, insS c.sl ⟨p, true :: List.replicate (capa c.size c.order - 1) false⟩, L')

/-- The slab that has an address, and the offset in it. -/
def holdS (order : Nat) : Nat → List Slb → Int → Option (Nat × Nat)
  | _, [], _ => none
  | i, x :: l, at_ => if 64 * (x.pg : Int) ≤ at_ ∧ at_ < 64 * (x.pg : Int) + ((64 * 2 ^ order : Nat) : Int) then some (i, (at_ - 64 * (x.pg : Int)).toNat) else holdS order (i + 1) l at_

/-- The last empty slab. -/
def lastE (l : List Slb) : Option Nat := (l.reverse.findIdx? fun x => x.many == 0).map fun k => l.length - 1 - k

/-- Free: the error, and what there is after it. -/
def freeC (c : Ca) (L : List Blk) (at_ : Int) : Nat × List Slb × List Blk :=
  match holdS c.order 0 c.sl at_ with
  | none => (4, c.sl, L)
  | some (j, d) => match c.sl[j]? with
    | none => (4, c.sl, L)
    | some x =>
      if d % c.size ≠ 0 ∨ x.us.length ≤ d / c.size then (4, c.sl, L)
      else if x.us[d / c.size]? ≠ some true then (9, c.sl, L)
      else
        let l := setS c.sl j (d / c.size) false
        if emptyS l ≤ c.keep then (0, l, L)
        else match lastE l with
          | none => (0, l, L)
          | some k => match l[k]? with
            | none => (0, l, L)
            | some y => (0, l.eraseIdx k, delB L (y.pg, c.order))

/-- What holds of a cache and of the allocator that it uses. -/
structure CaOk (c : Ca) (N : Nat) (L : List Blk) : Prop where
  sz : 8 ≤ c.size ∧ c.size ≤ 1024 ∧ c.size % 8 = 0
  od : c.order ≤ 4
  kp : c.keep ≤ 64
  fit : c.size ≤ 64 * 2 ^ c.order
  st : St N L
  asc : c.sl.Pairwise fun a b => a.pg < b.pg
  giv : ∀ x ∈ c.sl, (x.pg, c.order) ∈ L
  len : ∀ x ∈ c.sl, x.us.length = capa c.size c.order
  emp : emptyS c.sl ≤ c.keep

theorem capa_pos {c : Ca} {N : Nat} {L : List Blk} (h : CaOk c N L) : 1 ≤ capa c.size c.order ∧ capa c.size c.order ≤ 128 ∧ capa c.size c.order * c.size ≤ 64 * 2 ^ c.order := by
  obtain ⟨h8, _, _⟩ := h.sz
  have hf := h.fit
  have h16 : 2 ^ c.order ≤ 2 ^ 4 := Nat.pow_le_pow_right (by decide) h.od
  unfold capa
  refine ⟨(Nat.one_le_div_iff (by omega)).2 hf, ?_, Nat.div_mul_le_self _ _⟩
  rw [Nat.div_le_iff_le_mul_add_pred (by omega)]
  have : 64 * 2 ^ c.order ≤ 64 * 16 := Nat.mul_le_mul_left _ h16
  have : 128 * 8 ≤ c.size * 128 := by omega
  omega

theorem many_le (x : Slb) : x.many ≤ x.us.length := List.count_le_length

theorem freeI_lt {x : Slb} (h : x.many < x.us.length) : freeI x.us < x.us.length ∧ x.us[freeI x.us]? = some false := by
  have hex : ∃ b ∈ x.us, (!b) = true := by
    refine Classical.byContradiction fun hn => ?_
    have hall : ∀ b ∈ x.us, b = true := fun b hb => by
      cases b with
      | true => rfl
      | false => exact absurd ⟨false, hb, rfl⟩ hn
    have : x.us.count true = x.us.length := List.count_eq_length.2 fun b hb => (hall b hb).symm
    unfold Slb.many at h
    omega
  have hlt := List.findIdx_lt_length_of_exists hex
  refine ⟨hlt, ?_⟩
  have := List.findIdx_getElem (w := hlt)
  unfold freeI
  rw [List.getElem?_eq_getElem hlt]
  congr 1
  simpa using this

theorem count_set {us : List Bool} {i : Nat} {v : Bool} (h : us[i]? = some (!v)) : (us.set i v).count true = if v then us.count true + 1 else us.count true - 1 := by
  obtain ⟨hi, he⟩ := List.getElem?_eq_some_iff.1 h
  rw [List.count_set hi, he]
  cases v <;> simp
end Bu
end Go.Proofs.Ytlknhbcambdccaa
