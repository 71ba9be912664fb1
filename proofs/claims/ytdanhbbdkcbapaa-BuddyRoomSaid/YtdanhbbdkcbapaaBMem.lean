/- How a buddy allocator lies in memory. -/
import Derived.Test.YtdanhbbdkcbapaaBase
import Derived.Test.YtdanhbbdkcbapaaBBits
namespace Go.Proofs.Ytdanhbbdkcbapaa
open Go.RowKit
namespace Bu

/-- A set of pages: sixteen words. -/
def SetAt (w : World) (b o : Nat) (S : Nat → Bool) : Prop := ∀ q, q < 16 → w.cell? ⟨b, o + q, none⟩ = some (.int .u64 (word S q)) ∧ w.frozen? ⟨b, o + q, none⟩ = false

/-- An allocator: its block has 354 cells. -/
def BuAt (T : TypeId) (w : World) (b N : Nat) (Fr Gv : Nat → Nat → Bool) : Prop :=
  ∃ cs, w.heap[b]? = some (.cells cs T (0, 0)) ∧ cs.size = 354 ∧ cs[0]? = some (.bool true) ∧ cs[1]? = some (.int .i64 N) ∧
    ∀ k q, k < 11 → q < 16 → cs[2 + k * 16 + q]? = some (.int .u64 (word (Fr k) q)) ∧ cs[178 + k * 16 + q]? = some (.int .u64 (word (Gv k) q))

def upd (F : Nat → Nat → Bool) (k : Nat) (S : Nat → Bool) : Nat → Nat → Bool := fun a => if a = k then S else F a
theorem upd_same (F : Nat → Nat → Bool) (k : Nat) (S : Nat → Bool) : upd F k S k = S := if_pos rfl
theorem upd_ne (F : Nat → Nat → Bool) (k a : Nat) (S : Nat → Bool) (h : a ≠ k) : upd F k S a = F a := if_neg h

variable {T : TypeId} {w w' : World} {b N : Nat} {Fr Gv : Nat → Nat → Bool}

theorem BuAt.lt (h : BuAt T w b N Fr Gv) : b < w.heap.size := by
  obtain ⟨cs, h1, _⟩ := h
  exact lt_of_heap h1
theorem BuAt.keep (h : BuAt T w b N Fr Gv) (hk : w'.heap[b]? = w.heap[b]?) : BuAt T w' b N Fr Gv := by
  obtain ⟨cs, h1, r⟩ := h
  exact ⟨cs, hk.trans h1, r⟩
theorem BuAt.below (h : BuAt T w b N Fr Gv) (hb : Below w.heap.size w w') : BuAt T w' b N Fr Gv := h.keep (hb.block b h.lt)
theorem BuAt.drew (h : BuAt T w b N Fr Gv) : BuAt T w.drew b N Fr Gv := h
theorem BuAt.head (h : BuAt T w b N Fr Gv) : w.cell? ⟨b, 0, none⟩ = some (.bool true) ∧ w.cell? ⟨b, 1, none⟩ = some (.int .i64 N) := by
  obtain ⟨cs, h1, h2, h3, h4, _⟩ := h
  exact ⟨by rw [cell_of_row w b _ cs _ _ h1]; exact h3, by rw [cell_of_row w b _ cs _ _ h1]; exact h4⟩
theorem BuAt.free (h : BuAt T w b N Fr Gv) {k : Nat} (hk : k < 11) : SetAt w b (2 + k * 16) (Fr k) := by
  obtain ⟨cs, h1, h2, h3, h4, h5⟩ := h
  exact fun q hq => ⟨by rw [cell_of_row w b _ cs _ _ h1]; exact (h5 k q hk hq).1, by simp [World.frozen?, h1]⟩
theorem BuAt.given (h : BuAt T w b N Fr Gv) {k : Nat} (hk : k < 11) : SetAt w b (178 + k * 16) (Gv k) := by
  obtain ⟨cs, h1, h2, h3, h4, h5⟩ := h
  exact fun q hq => ⟨by rw [cell_of_row w b _ cs _ _ h1]; exact (h5 k q hk hq).2, by simp [World.frozen?, h1]⟩

theorem BuAt.setF (h : BuAt T w b N Fr Gv) {k q : Nat} {S : Nat → Bool} (hk : k < 11) (hq : q < 16) (hS : ∀ x, x / 64 ≠ q → S x = Fr k x) :
    BuAt T (w.setCell ⟨b, 2 + k * 16 + q, none⟩ (.int .u64 (word S q))) b N (upd Fr k S) Gv := by
  obtain ⟨cs, h1, h2, h3, h4, h5⟩ := h
  refine ⟨_, setCell_at _ _ _ _ _ _ h1, by simpa using h2, ?_, ?_, fun a r ha hr => ⟨?_, ?_⟩⟩
  · rw [Array.getElem?_setIfInBounds, if_neg (by omega)]; exact h3
  · rw [Array.getElem?_setIfInBounds, if_neg (by omega)]; exact h4
  · rw [Array.getElem?_setIfInBounds]
    by_cases e : 2 + k * 16 + q = 2 + a * 16 + r
    · obtain ⟨rfl, rfl⟩ : k = a ∧ q = r := by omega
      rw [if_pos rfl, if_pos (by omega), upd_same]
    · rw [if_neg e, (h5 a r ha hr).1]
      by_cases e2 : a = k
      · subst e2
        rw [upd_same, word_far (S := S) (S' := Fr a) fun x hx => hS x (by omega)]
      · rw [upd_ne _ _ _ _ e2]
  · rw [Array.getElem?_setIfInBounds, if_neg (by omega)]; exact (h5 a r ha hr).2

theorem BuAt.setG (h : BuAt T w b N Fr Gv) {k q : Nat} {S : Nat → Bool} (hk : k < 11) (hq : q < 16) (hS : ∀ x, x / 64 ≠ q → S x = Gv k x) :
    BuAt T (w.setCell ⟨b, 178 + k * 16 + q, none⟩ (.int .u64 (word S q))) b N Fr (upd Gv k S) := by
  obtain ⟨cs, h1, h2, h3, h4, h5⟩ := h
  refine ⟨_, setCell_at _ _ _ _ _ _ h1, by simpa using h2, ?_, ?_, fun a r ha hr => ⟨?_, ?_⟩⟩
  · rw [Array.getElem?_setIfInBounds, if_neg (by omega)]; exact h3
  · rw [Array.getElem?_setIfInBounds, if_neg (by omega)]; exact h4
  · rw [Array.getElem?_setIfInBounds, if_neg (by omega)]; exact (h5 a r ha hr).1
  · rw [Array.getElem?_setIfInBounds]
    by_cases e : 178 + k * 16 + q = 178 + a * 16 + r
    · obtain ⟨rfl, rfl⟩ : k = a ∧ q = r := by omega
      rw [if_pos rfl, if_pos (by omega), upd_same]
    · rw [if_neg e, (h5 a r ha hr).2]
      by_cases e2 : a = k
      · subst e2
        rw [upd_same, word_far (S := S) (S' := Gv a) fun x hx => hS x (by omega)]
      · rw [upd_ne _ _ _ _ e2]

theorem sadd_far (S : Nat → Bool) (p x : Nat) (h : x / 64 ≠ p / 64) : sadd S p x = S x := by
  unfold sadd
  have : (x == p) = false := beq_eq_false_iff_ne.2 (fun e => h (by rw [e]))
  rw [this, Bool.false_or]
theorem sdel_far (S : Nat → Bool) (p x : Nat) (h : x / 64 ≠ p / 64) : sdel S p x = S x := by
  unfold sdel
  have : (x != p) = true := bne_iff_ne.2 (fun e => h (by rw [e]))
  rw [this, Bool.true_and]

/-- The members of a set, ascending. -/
def members (S : Nat → Bool) (n : Nat) : List Nat := (List.range n).filter S
theorem members_next (S : Nat → Bool) (n : Nat) : members S (n + 1) = if S n then members S n ++ [n] else members S n := by
  unfold members
  rw [List.range_succ, List.filter_append]
  by_cases h : S n = true
  · rw [if_pos h]; simp [h]
  · rw [if_neg h]; simp [h]
theorem members_len (S : Nat → Bool) (n : Nat) : (members S n).length ≤ n := by
  have := List.length_filter_le S (List.range n)
  rw [List.length_range] at this
  exact this
end Bu
end Go.Proofs.Ytdanhbbdkcbapaa
