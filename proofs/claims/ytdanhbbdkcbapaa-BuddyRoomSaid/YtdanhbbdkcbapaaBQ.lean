/- Room counts the free blocks of an order. No program here. -/
import Derived.Test.YtdanhbbdkcbapaaBN
namespace Go.Proofs.Ytdanhbbdkcbapaa
namespace Bu

/-- The indices of the free blocks of an order. -/
def freeIdx (N : Nat) (L : List Blk) (n : Nat) : List Nat := (List.range (2 ^ (N - n))).filter fun i => freeB L (i * 2 ^ n) n

theorem natasc_eq : ∀ {A B : List Nat}, A.Pairwise (· < ·) → B.Pairwise (· < ·) → (∀ x, x ∈ A ↔ x ∈ B) → A = B := by
  intro A
  induction A with
  | nil =>
    intro B _ _ h
    cases B with
    | nil => rfl
    | cons y B => exact absurd ((h y).2 (List.mem_cons_self ..)) (by simp)
  | cons x A ih =>
    intro B hA hB h
    cases B with
    | nil => exact absurd ((h x).1 (List.mem_cons_self ..)) (by simp)
    | cons y B =>
      rw [List.pairwise_cons] at hA hB
      have e : x = y := by
        rcases List.mem_cons.1 ((h x).1 (List.mem_cons_self ..)) with e | e
        · exact e
        · rcases List.mem_cons.1 ((h y).2 (List.mem_cons_self ..)) with e2 | e2
          · exact e2.symm
          · have := hB.1 x e; have := hA.1 y e2; omega
      subst e
      congr 1
      refine ih hA.2 hB.2 fun z => ⟨fun hz => ?_, fun hz => ?_⟩
      · rcases List.mem_cons.1 ((h z).1 (List.mem_cons_of_mem _ hz)) with e | e
        · subst e; have := hA.1 _ hz; omega
        · exact e
      · rcases List.mem_cons.1 ((h z).2 (List.mem_cons_of_mem _ hz)) with e | e
        · subst e; have := hB.1 _ hz; omega
        · exact e

/-- The blocks of an order that lie in a block. -/
def parts (n : Nat) (x : Blk) : List Nat := if n ≤ x.2 then (List.range (2 ^ (x.2 - n))).map fun d => x.1 / 2 ^ n + d else []

theorem parts_len (n : Nat) (x : Blk) : (parts n x).length = if n ≤ x.2 then 2 ^ (x.2 - n) else 0 := by
  unfold parts; split <;> simp

theorem mem_parts {n : Nat} {x : Blk} (hx : x.1 % 2 ^ x.2 = 0) {i : Nat} : i ∈ parts n x ↔ n ≤ x.2 ∧ x.1 ≤ i * 2 ^ n ∧ i * 2 ^ n < x.1 + 2 ^ x.2 := by
  unfold parts
  by_cases h : n ≤ x.2
  · rw [if_pos h, List.mem_map]
    have hm := mul_div (mod_mul_of_le h hx)
    have hp := pow_pos2 n
    obtain ⟨q, hq⟩ : ∃ q, q = x.1 / 2 ^ n := ⟨_, rfl⟩
    rw [← hq] at hm ⊢
    have hs : 2 ^ x.2 = 2 ^ (x.2 - n) * 2 ^ n := by rw [← Nat.pow_add, Nat.sub_add_cancel h]
    constructor
    · rintro ⟨d, hd, rfl⟩
      have hd := List.mem_range.1 hd
      refine ⟨h, ?_, ?_⟩
      · rw [← hm]; exact Nat.mul_le_mul_right _ (by omega)
      · rw [← hm, hs, ← Nat.add_mul]; exact Nat.mul_lt_mul_of_pos_right (by omega) hp
    · rintro ⟨_, h1, h2⟩
      rw [← hm] at h1
      rw [← hm, hs, ← Nat.add_mul] at h2
      have g1 := Nat.le_of_mul_le_mul_right h1 hp
      have g2 := Nat.lt_of_mul_lt_mul_right h2
      exact ⟨i - q, List.mem_range.2 (by omega), by omega⟩
  · rw [if_neg h]
    exact ⟨fun hx => (by cases hx), fun hx => absurd hx.1 h⟩

theorem parts_asc (n : Nat) (x : Blk) : (parts n x).Pairwise (· < ·) := by
  unfold parts
  split
  · refine List.pairwise_map.2 ?_
    exact List.pairwise_lt_range.imp (by intro a b h; omega)
  · exact List.Pairwise.nil

theorem flat_asc {n : Nat} : ∀ {B : List Blk}, (∀ x ∈ B, x.1 % 2 ^ x.2 = 0) → B.Pairwise (fun a b => a.1 + 2 ^ a.2 ≤ b.1) → (B.flatMap (parts n)).Pairwise (· < ·) := by
  intro B
  induction B with
  | nil => intro _ _; exact List.Pairwise.nil
  | cons x B ih =>
    intro ha hp
    rw [List.pairwise_cons] at hp
    rw [List.flatMap_cons, List.pairwise_append]
    refine ⟨parts_asc n x, ih (fun y hy => ha y (List.mem_cons_of_mem _ hy)) hp.2, fun i hi j hj => ?_⟩
    obtain ⟨y, hy, hj⟩ := List.mem_flatMap.1 hj
    obtain ⟨_, _, h2⟩ := (mem_parts (ha x (List.mem_cons_self ..))).1 hi
    obtain ⟨_, h3, _⟩ := (mem_parts (ha y (List.mem_cons_of_mem _ hy))).1 hj
    have := hp.1 y hy
    exact Nat.lt_of_mul_lt_mul_right (a := 2 ^ n) (by omega)

theorem mem_free_parts {N : Nat} {L : List Blk} (hS : St N L) {n : Nat} (hn : n ≤ N) (i : Nat) : i ∈ (blocksB N L).flatMap (parts n) ↔ i ∈ freeIdx N L n := by
  have hp := pow_pos2 n
  unfold freeIdx
  rw [List.mem_flatMap, List.mem_filter, List.mem_range]
  have hal : i * 2 ^ n % 2 ^ n = 0 := Nat.mul_mod_left _ _
  have hf := freeB_iff hS.inb hal
  rw [first] at hf
  have hs : 2 ^ N = 2 ^ (N - n) * 2 ^ n := by rw [← Nat.pow_add, Nat.sub_add_cancel hn]
  constructor
  · rintro ⟨x, hx, hi⟩
    have hx := (mem_blocks hS x).1 hx
    obtain ⟨h1, h2, h3⟩ := (mem_parts hx.1).1 hi
    have hlt := hx.lt.1
    refine ⟨?_, hf.2 ?_⟩
    · exact Nat.lt_of_mul_lt_mul_right (a := 2 ^ n) (by rw [← hs]; omega)
    · obtain ⟨m, hm⟩ := Nat.exists_eq_add_of_le h1
      refine Free.mono m ?_
      have e1 := (within hx.1).1 ⟨h2, h3⟩
      have : i / 2 ^ m = x.1 / 2 ^ x.2 := by
        rw [← e1, hm, div_pow, first]
      rw [this, ← hm]
      exact hx.2.2.2.1
  · rintro ⟨h1, h2⟩
    obtain ⟨m, hm⟩ := around hn h1 (hf.1 h2)
    refine ⟨(i / 2 ^ m * 2 ^ (n + m), n + m), (mem_blocks hS _).2 ⟨Nat.mul_mod_left _ _, by rw [first]; exact hm⟩, ?_⟩
    refine (mem_parts (Nat.mul_mod_left _ _)).2 ⟨Nat.le_add_right _ _, ?_⟩
    refine (within (Nat.mul_mod_left _ _)).2 ?_
    rw [first, div_pow, first]

theorem room_count {N : Nat} {L : List Blk} (hS : St N L) {n : Nat} (hn : n ≤ N) : roomB n (blocksB N L) = (freeIdx N L n).length := by
  have e : (blocksB N L).flatMap (parts n) = freeIdx N L n := by
    refine natasc_eq (flat_asc (fun x hx => ((mem_blocks hS x).1 hx).1) (blocks_asc hS)) ?_ (mem_free_parts hS hn)
    exact (List.pairwise_lt_range).filter _
  rw [← e, List.length_flatMap]
  unfold roomB
  congr 1
  refine List.map_congr_left fun x _ => ?_
  rw [parts_len]

theorem room_big {N : Nat} {L : List Blk} (hS : St N L) {n : Nat} (hn : N < n) : roomB n (blocksB N L) = 0 ∧ allocB N L n = none := by
  have hlow : ∀ x ∈ blocksB N L, ¬ n ≤ x.2 := fun x hx => by have := ((mem_blocks hS x).1 hx).lt.2; omega
  constructor
  · unfold roomB
    have : (blocksB N L).map (fun x => if n ≤ x.2 then 2 ^ (x.2 - n) else 0) = (blocksB N L).map (fun _ => 0) := List.map_congr_left fun x hx => if_neg (hlow x hx)
    rw [this]
    generalize blocksB N L = B
    induction B with
    | nil => rfl
    | cons x B ih => simpa using ih
  · have hb := alloc_best hS n
    unfold allocB
    cases e : bestOf n none (blocksB N L) with
    | none => rfl
    | some x => rw [e] at hb; exact absurd hb.2.1 (hlow x hb.1)

theorem freeB_put {N : Nat} {L : List Blk} (hS : St N L) {x : Blk} (hx : InB N x) (hf : Free (LG L) x.2 (x.1 / 2 ^ x.2)) (i : Nat) :
    freeB (putB L x) (i * 2 ^ x.2) x.2 = (freeB L (i * 2 ^ x.2) x.2 && decide (i ≠ x.1 / 2 ^ x.2)) := by
  have hS' := hS.put hx hf
  have hal : i * 2 ^ x.2 % 2 ^ x.2 = 0 := Nat.mul_mod_left _ _
  have h1 := freeB_iff hS'.inb hal
  have h2 := freeB_iff hS.inb hal
  rw [first] at h1 h2
  rw [LG_put hx.2.1, free_add] at h1
  rw [Bool.eq_iff_iff, h1, Bool.and_eq_true, h2, decide_eq_true_eq]
  constructor
  · rintro ⟨a, b⟩
    refine ⟨a, fun e => ?_⟩
    exact b (i * 2 ^ x.2) (first _ _) (by rw [first]; exact e)
  · rintro ⟨a, b⟩
    exact ⟨a, fun y hy e => b (by rw [← hy, e])⟩

theorem filter_one {p : Nat → Bool} {q : Nat} : ∀ {l : List Nat}, l.Pairwise (· < ·) → q ∈ l → p q = true → (l.filter fun i => p i && decide (i ≠ q)).length + 1 = (l.filter p).length := by
  intro l
  induction l with
  | nil => intro _ h; cases h
  | cons x l ih =>
    intro hp hq hpq
    rw [List.pairwise_cons] at hp
    by_cases e : x = q
    · subst e
      rw [List.filter_cons_of_neg (by simp), List.filter_cons_of_pos hpq, List.length_cons]
      congr 1
      congr 1
      refine List.filter_congr fun y hy => ?_
      have := hp.1 y hy
      rw [decide_eq_true (by omega), Bool.and_true]
    · have hq' : q ∈ l := (List.mem_cons.1 hq).resolve_left (fun h => e h.symm)
      have := ih hp.2 hq' hpq
      cases hx : p x with
      | true => rw [List.filter_cons_of_pos (by simp [hx, e]), List.filter_cons_of_pos hx, List.length_cons, List.length_cons, ← this]
      | false => rw [List.filter_cons_of_neg (by simp [hx]), List.filter_cons_of_neg (by simp [hx])]; exact this

/-- A block is given just if there is room, and there is room for one less. -/
theorem room_step {N : Nat} {L : List Blk} (hS : St N L) (n : Nat) : match allocB N L n with
    | none => roomB n (blocksB N L) = 0
    | some (_, L') => roomB n (blocksB N L') + 1 = roomB n (blocksB N L) := by
  have hb := alloc_best hS n
  by_cases hn : n ≤ N
  · cases e : bestOf n none (blocksB N L) with
    | none =>
      have : allocB N L n = none := by unfold allocB; rw [e]; rfl
      rw [this]
      rw [e] at hb
      show roomB n (blocksB N L) = 0
      unfold roomB
      have : (blocksB N L).map (fun x => if n ≤ x.2 then 2 ^ (x.2 - n) else 0) = (blocksB N L).map (fun _ => 0) := List.map_congr_left fun x hx => if_neg (by have := hb x hx; omega)
      rw [this]
      generalize blocksB N L = B
      induction B with
      | nil => rfl
      | cons x B ih => simpa using ih
    | some x =>
      have : allocB N L n = some (x.1, putB L (x.1, n)) := by unfold allocB; rw [e]; rfl
      rw [this]
      rw [e] at hb
      obtain ⟨g1, g2⟩ := ((mem_blocks hS x).1 hb.1).sub hb.2.1
      show roomB n (blocksB N (putB L (x.1, n))) + 1 = roomB n (blocksB N L)
      rw [room_count (hS.put g1 g2) hn, room_count hS hn]
      unfold freeIdx
      have hfe : (fun i => freeB (putB L (x.1, n)) (i * 2 ^ n) n) = fun i => (fun i => freeB L (i * 2 ^ n) n) i && decide (i ≠ x.1 / 2 ^ n) := by
        funext i; exact freeB_put hS g1 g2 i
      rw [hfe]
      refine filter_one List.pairwise_lt_range (List.mem_range.2 ?_) ?_
      · rw [Nat.div_lt_iff_lt_mul (pow_pos2 n), ← Nat.pow_add, Nat.sub_add_cancel hn]
        have := g1.2.2
        have := pow_pos2 n
        show x.1 < 2 ^ N
        have : x.1 + 2 ^ n ≤ 2 ^ N := g1.2.2
        omega
      · have hm : x.1 % 2 ^ n = 0 := g1.2.1
        show freeB L (x.1 / 2 ^ n * 2 ^ n) n = true
        rw [mul_div hm]
        exact (freeB_iff hS.inb hm).2 g2
  · obtain ⟨h1, h2⟩ := room_big hS (Nat.lt_of_not_le hn)
    rw [h2]; exact h1
end Bu
end Go.Proofs.Ytdanhbbdkcbapaa
