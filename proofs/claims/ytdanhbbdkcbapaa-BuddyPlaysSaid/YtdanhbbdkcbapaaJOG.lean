/- Valid states; blocks of an order that are free. -/
import Derived.Test.YtdanhbbdkcbapaaK16
import Derived.Test.YtdanhbbdkcbapaaK17
namespace Go.Proofs.Ytdanhbbdkcbapaa
open Go.RowKit
namespace Bu

theorem chkZ_is {N : Nat} : ∀ (L : List (Int × Int)) (s : Nat), chkZ N (s : Int) L = true →
    ∃ G : List Blk, L = G.map zb ∧ (∀ x ∈ G, InB N x) ∧ G.Pairwise (fun a b => a.1 + 2 ^ a.2 ≤ b.1) ∧ ∀ x ∈ G, s ≤ x.1 := by
  intro L
  induction L with
  | nil => intro s _; exact ⟨[], rfl, fun x hx => (by cases hx), List.Pairwise.nil, fun x hx => (by cases hx)⟩
  | cons z L ih =>
    intro s h
    rw [chkZ, Bool.and_eq_true, Bool.and_eq_true, decide_eq_true_eq] at h
    obtain ⟨⟨h1, h2⟩, h3⟩ := h
    obtain ⟨q, k, e1, e2, hin⟩ := inZ_true h1
    have hs : z.1 + ((2 ^ z.2.toNat : Nat) : Int) = ((q + 2 ^ k : Nat) : Int) := by rw [e1, e2, Int.toNat_natCast]; omega
    rw [hs] at h3
    obtain ⟨G, hG, g1, g2, g3⟩ := ih _ h3
    refine ⟨(q, k) :: G, ?_, ?_, ?_, ?_⟩
    · rw [List.map_cons, hG]; congr 1; exact Prod.ext e1 e2
    · intro x hx
      rcases List.mem_cons.1 hx with rfl | hx
      · exact hin
      · exact g1 x hx
    · exact List.pairwise_cons.2 ⟨fun x hx => g3 x hx, g2⟩
    · intro x hx
      rcases List.mem_cons.1 hx with rfl | hx
      · show s ≤ q; omega
      · have h4 : q + 2 ^ k ≤ x.1 := g3 x hx
        have := pow_pos2 k
        have : s ≤ q := by omega
        omega

/-- A state that passes Check. -/
theorem check_is {N : Int} {L : List (Int × Int)} (h : checkV N L = 0) : ∃ (M : Nat) (G : List Blk), N = (M : Int) ∧ L = G.map zb ∧ St M G := by
  unfold checkV at h
  by_cases hN : 0 ≤ N ∧ N ≤ 10
  · rw [if_pos hN] at h
    obtain ⟨M, rfl⟩ := Int.eq_ofNat_of_zero_le hN.1
    rw [Int.toNat_natCast] at h
    have hc : chkZ M 0 L = true := by
      cases e : chkZ M 0 L with
      | true => rfl
      | false => rw [e] at h; simp at h
    obtain ⟨G, hG, g1, g2, _⟩ := chkZ_is L 0 hc
    exact ⟨M, G, rfl, hG, by omega, g1, g2⟩
  · rw [if_neg hN] at h; simp at h

/-- Is one of the first k blocks of an order free? -/
def someB (L : List Blk) (n k : Nat) : Bool := (List.range k).any fun i => freeB L (i * 2 ^ n) n
theorem someB_zero (L : List Blk) (n : Nat) : someB L n 0 = false := rfl
theorem someB_succ (L : List Blk) (n k : Nat) : someB L n (k + 1) = (someB L n k || freeB L (k * 2 ^ n) n) := by
  unfold someB; rw [List.range_succ, List.any_append]; simp

theorem some_no {N : Nat} {L : List Blk} (hS : St N L) {n : Nat} (hn : n ≤ N) (h : allocB N L n = none) : someB L n (2 ^ (N - n)) = false := by
  have hr := room_step hS n
  rw [h] at hr
  have hr : roomB n (blocksB N L) = 0 := hr
  rw [room_count hS hn] at hr
  have := List.length_eq_zero_iff.1 hr
  unfold freeIdx at this
  unfold someB
  rw [List.any_eq_false]
  intro i hi
  have := List.filter_eq_nil_iff.1 this i hi
  simpa using this

/-- What Alloc finds. -/
theorem alloc_found {N : Nat} {L L' : List Blk} (hS : St N L) {n p : Nat} (h : allocB N L n = some (p, L')) :
    ∃ (j k : Nat), (blocksB N L)[j]? = some (p, k) ∧ n ≤ k ∧ InB N (p, n) ∧ freeB L p n = true ∧ n ≤ N ∧ someB L n (2 ^ (N - n)) = true ∧
      (∀ (i : Nat) (y : Blk), (blocksB N L)[i]? = some y → y.1 = p → i = j) ∧
      ∀ y ∈ blocksB N L, n ≤ y.2 → ¬ (y.2 < k) ∧ (y.2 = k → p ≤ y.1) := by
  have hb := alloc_best hS n
  unfold allocB at h
  cases e : bestOf n none (blocksB N L) with
  | none => rw [e] at h; simp at h
  | some x =>
    rw [e] at h hb
    rw [Option.map_some, Option.some.injEq, Prod.mk.injEq] at h
    obtain ⟨hx, hxn, hmin⟩ := hb
    obtain ⟨p', k⟩ := x
    have hp : p' = p := h.1
    subst hp
    obtain ⟨g1, g2⟩ := ((mem_blocks hS _).1 hx).sub hxn
    have hf : freeB L p' n = true := (freeB_iff hS.inb g1.2.1).2 g2
    obtain ⟨j, hj, hje⟩ := List.mem_iff_getElem.1 hx
    have hnN : n ≤ N := g1.1
    refine ⟨j, k, by rw [List.getElem?_eq_getElem hj, hje], hxn, g1, hf, hnN, ?_, ?_, ?_⟩
    · unfold someB
      rw [List.any_eq_true]
      have hal : p' % 2 ^ n = 0 := g1.2.1
      refine ⟨p' / 2 ^ n, ?_, by rw [mul_div hal]; exact hf⟩
      rw [List.mem_range, Nat.div_lt_iff_lt_mul (pow_pos2 n), ← Nat.pow_add, Nat.sub_add_cancel hnN]
      have := g1.parts.2.1
      exact this
    · intro i y hi hy
      have hlt := asc_lt (blocks_asc hS)
      have hil := (List.getElem?_eq_some_iff.1 hi).1
      have hie := (List.getElem?_eq_some_iff.1 hi).2
      rcases Nat.lt_trichotomy i j with h1 | h1 | h1
      · have := List.pairwise_iff_getElem.1 hlt i j hil hj h1
        rw [hie, hje, hy] at this
        exact absurd this (Nat.lt_irrefl _)
      · exact h1
      · have := List.pairwise_iff_getElem.1 hlt j i hj hil h1
        rw [hie, hje, hy] at this
        exact absurd this (Nat.lt_irrefl _)
    · intro y hy hyn
      rcases hmin y hy hyn with h1 | ⟨h1, h2⟩
      · have h1 : k < y.2 := h1
        exact ⟨by omega, fun e => by omega⟩
      · have h1 : k = y.2 := h1
        have h2 : p' ≤ y.1 := h2
        exact ⟨by omega, fun _ => h2⟩
end Bu
end Go.Proofs.Ytdanhbbdkcbapaa
