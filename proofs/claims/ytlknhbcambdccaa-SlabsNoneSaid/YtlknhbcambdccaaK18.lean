/- What step leans on. Valid states; blocks of an order that are free. The walk of BuddyRoom. -/
import Derived.Test.YtlknhbcambdccaaK17
import Derived.Test.YtlknhbcambdccaaK1
namespace Go.Proofs.Ytlknhbcambdccaa
open Go.RowKit
namespace Bu

theorem next_le {N : Nat} {pre L : List Blk} {x : Blk} (hS : St N (pre ++ x :: L)) : nextB pre ≤ x.1 := by
  rcases List.eq_nil_or_concat pre with rfl | ⟨M, y, rfl⟩
  · exact Nat.zero_le _
  · rw [List.concat_eq_append] at hS ⊢
    rw [nextB_add]
    exact (List.pairwise_append.1 hS.asc).2.2 y (by simp) x (List.mem_cons_self ..)

theorem chkZ_of {N : Nat} (hN : N ≤ 10) : ∀ (L pre : List Blk), St N (pre ++ L) → chkZ N (nextB pre : Int) (L.map zb) = true := by
  intro L
  induction L with
  | nil => intro pre _; rw [List.map_nil, chkZ]
  | cons x L ih =>
    intro pre hS
    have hx := hS.inb x (by simp)
    have hle := next_le hS
    rw [List.map_cons, chkZ_next]
    have e1 : inZ N (zb x).1 (zb x).2 = true := by
      show inZ N (x.1 : Int) (x.2 : Int) = true
      rw [inZ_nat hN, decide_eq_true_eq]; exact hx
    have e2 : decide ((nextB pre : Int) ≤ (zb x).1) = true := by
      rw [decide_eq_true_eq]
      show (nextB pre : Int) ≤ (x.1 : Int)
      omega
    rw [e1, e2]
    have := ih (pre ++ [x]) (by rw [List.append_assoc]; exact hS)
    rw [nextB_add] at this
    have e3 : (zb x).1 + ((2 ^ (zb x).2.toNat : Nat) : Int) = ((x.1 + 2 ^ x.2 : Nat) : Int) := by
      show (x.1 : Int) + ((2 ^ ((x.2 : Nat) : Int).toNat : Nat) : Int) = _
      rw [Int.toNat_natCast]; omega
    rw [e3, this]; rfl

/-- A valid list passes Check. -/
theorem check_of {N : Nat} {L : List Blk} (hS : St N L) : checkV (N : Int) (L.map zb) = 0 := by
  have hn := hS.n10
  unfold checkV
  rw [if_pos (by omega), Int.toNat_natCast]
  have h : chkZ N 0 (L.map zb) = true := chkZ_of hn L [] hS
  rw [if_pos h]

/-- Load of a valid state. -/
theorem load_st {w : World} {N c : Nat} {A : Option Addr} {L : List Blk} (h : BlkAt w A c L) (hS : St N L) :
    Calls Try.prog 32 #[sv N A L.length c] w fun e w' => ∃ b, e = .returned (.tuple #[.pointer (some ⟨b, 0, none⟩), .int .i64 0]) ∧ BuL w' b N L ∧ w.heap.size ≤ b ∧ Below w.heap.size w w' := by
  have hl := load_ok w (N : Int) A c (L.map zb) h
  rw [List.length_map] at hl
  refine hl.mono ?_
  rintro e w' ⟨hb, ⟨h1, _⟩ | ⟨_, b, M, B, hN, hL, he, hB, hbw⟩⟩
  · exact absurd (check_of hS) h1
  · obtain rfl : N = M := by omega
    obtain rfl := zb_map_inj hL
    exact ⟨b, he, hB, hbw, hb⟩
end Bu
end Go.Proofs.Ytlknhbcambdccaa
namespace Go.Proofs.Ytlknhbcambdccaa
open Go.RowKit
namespace Bu

theorem chkZ_is {N : Nat} : ∀ (L : List (Int × Int)) (s : Nat), chkZ N (s : Int) L = true →
    ∃ G : List Blk, L = G.map zb ∧ (∀ x ∈ G, InB N x) ∧ G.Pairwise (fun a b => a.1 + 2 ^ a.2 ≤ b.1) ∧ ∀ x ∈ G, s ≤ x.1 := by
  intro L
  induction L with
  | nil => intro s _; exact ⟨[], rfl, fun x hx => (by cases hx), List.Pairwise.nil, fun x hx => (by cases hx)⟩
  | cons z L ih =>
    intro s h
    rw [chkZ, Bool.and_eq_true, Bool.and_eq_true, decide_eq_true_eq] at h
    obtain ⟨⟨h1, h2⟩, h3⟩ := h
    obtain ⟨q, k, e1, e2, hin⟩ := inZ_true h1
    have hs : z.1 + ((2 ^ z.2.toNat : Nat) : Int) = ((q + 2 ^ k : Nat) : Int) := by rw [e1, e2, Int.toNat_natCast]; omega
    rw [hs] at h3
    obtain ⟨G, hG, g1, g2, g3⟩ := ih _ h3
    refine ⟨(q, k) :: G, ?_, ?_, ?_, ?_⟩
    · rw [List.map_cons, hG]; congr 1; exact Prod.ext e1 e2
    · intro x hx
      rcases List.mem_cons.1 hx with rfl | hx
      · exact hin
      · exact g1 x hx
    · exact List.pairwise_cons.2 ⟨fun x hx => g3 x hx, g2⟩
    · intro x hx
      rcases List.mem_cons.1 hx with rfl | hx
      · show s ≤ q; omega
      · have h4 : q + 2 ^ k ≤ x.1 := g3 x hx
        have := pow_pos2 k
        have : s ≤ q := by omega
        omega

/-- A state that passes Check. -/
theorem check_is {N : Int} {L : List (Int × Int)} (h : checkV N L = 0) : ∃ (M : Nat) (G : List Blk), N = (M : Int) ∧ L = G.map zb ∧ St M G := by
  unfold checkV at h
  by_cases hN : 0 ≤ N ∧ N ≤ 10
  · rw [if_pos hN] at h
    obtain ⟨M, rfl⟩ := Int.eq_ofNat_of_zero_le hN.1
    rw [Int.toNat_natCast] at h
    have hc : chkZ M 0 L = true := by
      cases e : chkZ M 0 L with
      | true => rfl
      | false => rw [e] at h; simp at h
    obtain ⟨G, hG, g1, g2, _⟩ := chkZ_is L 0 hc
    exact ⟨M, G, rfl, hG, by omega, g1, g2⟩
  · rw [if_neg hN] at h; simp at h

/-- Is one of the first k blocks of an order free? -/
def someB (L : List Blk) (n k : Nat) : Bool := (List.range k).any fun i => freeB L (i * 2 ^ n) n
theorem someB_zero (L : List Blk) (n : Nat) : someB L n 0 = false := rfl
theorem someB_succ (L : List Blk) (n k : Nat) : someB L n (k + 1) = (someB L n k || freeB L (k * 2 ^ n) n) := by
  unfold someB; rw [List.range_succ, List.any_append]; simp

theorem some_no {N : Nat} {L : List Blk} (hS : St N L) {n : Nat} (hn : n ≤ N) (h : allocB N L n = none) : someB L n (2 ^ (N - n)) = false := by
  have hr := room_step hS n
  rw [h] at hr
  have hr : roomB n (blocksB N L) = 0 := hr
  rw [room_count hS hn] at hr
  have := List.length_eq_zero_iff.1 hr
  unfold freeIdx at this
  unfold someB
  rw [List.any_eq_false]
  intro i hi
  have := List.filter_eq_nil_iff.1 this i hi
  simpa using this

/-- What Alloc finds. -/
theorem alloc_found {N : Nat} {L L' : List Blk} (hS : St N L) {n p : Nat} (h : allocB N L n = some (p, L')) :
    ∃ (j k : Nat), (blocksB N L)[j]? = some (p, k) ∧ n ≤ k ∧ InB N (p, n) ∧ freeB L p n = true ∧ n ≤ N ∧ someB L n (2 ^ (N - n)) = true ∧
      (∀ (i : Nat) (y : Blk), (blocksB N L)[i]? = some y → y.1 = p → i = j) ∧
      ∀ y ∈ blocksB N L, n ≤ y.2 → ¬ (y.2 < k) ∧ (y.2 = k → p ≤ y.1) := by
  have hb := alloc_best hS n
  unfold allocB at h
  cases e : bestOf n none (blocksB N L) with
  | none => rw [e] at h; simp at h
  | some x =>
    rw [e] at h hb
    rw [Option.map_some, Option.some.injEq, Prod.mk.injEq] at h
    obtain ⟨hx, hxn, hmin⟩ := hb
    obtain ⟨p', k⟩ := x
    have hp : p' = p := h.1
    subst hp
    obtain ⟨g1, g2⟩ := ((mem_blocks hS _).1 hx).sub hxn
    have hf : freeB L p' n = true := (freeB_iff hS.inb g1.2.1).2 g2
    obtain ⟨j, hj, hje⟩ := List.mem_iff_getElem.1 hx
    have hnN : n ≤ N := g1.1
    refine ⟨j, k, by rw [List.getElem?_eq_getElem hj, hje], hxn, g1, hf, hnN, ?_, ?_, ?_⟩
    · unfold someB
      rw [List.any_eq_true]
      have hal : p' % 2 ^ n = 0 := g1.2.1
      refine ⟨p' / 2 ^ n, ?_, by rw [mul_div hal]; exact hf⟩
      rw [List.mem_range, Nat.div_lt_iff_lt_mul (pow_pos2 n), ← Nat.pow_add, Nat.sub_add_cancel hnN]
      have := g1.parts.2.1
      exact this
    · intro i y hi hy
      have hlt := asc_lt (blocks_asc hS)
      have hil := (List.getElem?_eq_some_iff.1 hi).1
      have hie := (List.getElem?_eq_some_iff.1 hi).2
      rcases Nat.lt_trichotomy i j with h1 | h1 | h1
      · have := List.pairwise_iff_getElem.1 hlt i j hil hj h1
        rw [hie, hje, hy] at this
        exact absurd this (Nat.lt_irrefl _)
      · exact h1
      · have := List.pairwise_iff_getElem.1 hlt j i hj hil h1
        rw [hie, hje, hy] at this
        exact absurd this (Nat.lt_irrefl _)
    · intro y hy hyn
      rcases hmin y hy hyn with h1 | ⟨h1, h2⟩
      · have h1 : k < y.2 := h1
        exact ⟨by omega, fun e => by omega⟩
      · have h1 : k = y.2 := h1
        have h2 : p' ≤ y.1 := h2
        exact ⟨by omega, fun _ => h2⟩
end Bu
end Go.Proofs.Ytlknhbcambdccaa
namespace Go.Proofs.Ytlknhbcambdccaa
open Go.RowKit
namespace Bu

/-- A valid state that came in: blocks after all. -/
theorem checked {w : World} {N : Int} {L : List (Int × Int)} {e : Ending} {w' : World} (h : LoadL w N L e w') (h0 : checkV N L = 0) :
    ∃ (b M : Nat) (B : List Blk), N = (M : Int) ∧ L = B.map zb ∧ e = .returned (.tuple #[.pointer (some ⟨b, 0, none⟩), .int .i64 0]) ∧ BuL w' b M B ∧ w.heap.size ≤ b ∧ Below w.heap.size w w' := by
  rcases h.2 with ⟨h1, _⟩ | ⟨_, b, M, B, h1, h2, h3, h4, h5⟩
  · exact absurd h0 h1
  · exact ⟨b, M, B, h1, h2, h3, h4, h5, h.1⟩

theorem grow_step {n b : Nat} {a c d : World} (h : Below n a c) (hg : Grow1 b c d) (hn : n ≤ b) (hb : b < c.heap.size) : Below n a d :=
  h.trans ⟨hg.os, hg.tape, hg.output, hg.size, fun k hk => hg.block k (by omega) (by omega)⟩

theorem room_le {N : Nat} {L : List Blk} (h : St N L) (n : Nat) : roomB n (blocksB N L) ≤ 1024 := by
  by_cases hn : n ≤ N
  · rw [room_count h hn]
    refine Nat.le_trans (List.length_filter_le _ _) ?_
    rw [List.length_range]
    exact Nat.le_trans (Nat.pow_le_pow_right (by decide) (Nat.sub_le _ _)) (two_le h.n10)
  · rw [(room_big h (Nat.lt_of_not_le hn)).1]; omega

theorem room_zero {w : World} {b N n : Nat} {L : List Blk} (h : BuL w b N L) (hn : n ≤ 10) (hz : roomB n (blocksB N L) = 0) :
    Calls Try.prog 51 #[.pointer (some ⟨b, 0, none⟩), .int .i64 (n : Int)] w fun e w' => e = .returned (.tuple #[.int .i64 0, .int .i64 0]) ∧ Below w.heap.size w w' := by
  have := roomL_ok w b N L n h hn
  rw [hz] at this
  exact this

end Bu
end Go.Proofs.Ytlknhbcambdccaa
