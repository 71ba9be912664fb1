/- Load of a cache: plain laws of one slab more. -/
import Derived.Test.YtlknhbcambdccaaJYO
namespace Go.Proofs.Ytlknhbcambdccaa
namespace Sl
open Bu

theorem take_snocX {α : Type} {l : List α} {k : Nat} {x : α} (h : l[k]? = some x) : l.take (k + 1) = l.take k ++ [x] := by
  obtain ⟨hk, he⟩ := List.getElem?_eq_some_iff.1 h
  rw [List.take_succ_eq_append_getElem hk, he]
theorem load_snoc {l : List (Int × List Bool)} {k : Nat} {x : Int × List Bool} (h : l[k]? = some x) : loadS (l.take (k + 1)) = loadS (l.take k) ++ [toSlb x] := by
  rw [take_snocX h]; unfold loadS; rw [List.map_append]; rfl
theorem empty_snoc (a : List Slb) (x : Slb) : emptyS (a ++ [x]) = emptyS a + if x.many = 0 then 1 else 0 := by
  unfold emptyS
  rw [List.filter_append, List.length_append]
  by_cases h : x.many = 0 <;> simp [h]
theorem lastOf_succ {l : List (Int × List Bool)} {k : Nat} {x : Int × List Bool} (h : l[k]? = some x) : lastOf l (k + 1) = x.1 := by
  unfold lastOf
  rw [if_neg (by omega), Nat.add_sub_cancel, h]; rfl
theorem lastOf_take {l : List (Int × List Bool)} {k i : Nat} (h : i ≤ k) : lastOf (l.take k) i = lastOf l i := by
  unfold lastOf
  by_cases h0 : i = 0
  · rw [if_pos h0, if_pos h0]
  · rw [if_neg h0, if_neg h0, List.getElem?_take, if_pos (by omega)]
theorem okX_snoc {L : List Blk} {o cap k : Nat} {l : List (Int × List Bool)} {x : Int × List Bool} (h : OkX L o cap (l.take k)) (hx : l[k]? = some x) (hg : GoodX L o cap (lastOf l k) x) : OkX L o cap (l.take (k + 1)) := by
  intro i y hy
  rw [List.getElem?_take] at hy
  split at hy
  · next hi =>
    rw [lastOf_take (by omega)]
    by_cases e : i = k
    · subst e
      rw [hx] at hy; injection hy with hy
      rw [← hy]; exact hg
    · have := h i y (by rw [List.getElem?_take, if_pos (by omega)]; exact hy)
      rw [lastOf_take (by omega)] at this
      exact this
  · cases hy
/-- Every page so far is less than the next one. -/
theorem okX_below {L : List Blk} {o cap k : Nat} {l : List (Int × List Bool)} {x : Int × List Bool} (h : OkX L o cap (l.take k)) (hx : l[k]? = some x) (hg : GoodX L o cap (lastOf l k) x) : ∀ y ∈ loadS (l.take k), y.pg < x.1.toNat := by
  have h1 := okX_snoc h hx hg
  intro y hy
  obtain ⟨i, hi⟩ := List.mem_iff_getElem?.1 hy
  obtain ⟨z, hz, rfl⟩ := loadS_get hi
  have hik : i < k := by
    rw [List.getElem?_take] at hz
    split at hz
    · assumption
    · cases hz
  have hz2 : l[i]? = some z := by rw [List.getElem?_take, if_pos hik] at hz; exact hz
  have := okX_lt h1 k i z x hik (by rw [List.getElem?_take, if_pos (by omega)]; exact hz2) (by rw [List.getElem?_take, if_pos (by omega)]; exact hx)
  have h0 := (h i z hz).1
  show z.1.toNat < x.1.toNat
  omega
theorem okX_idx {L : List Blk} {o cap : Nat} {l : List (Int × List Bool)} (h : OkX L o cap l) : ∀ (i : Nat) (x : Int × List Bool), l[i]? = some x → (i : Int) ≤ x.1 := by
  intro i
  induction i with
  | zero => intro x hx; exact (h 0 x hx).1
  | succ i ih =>
    intro x hx
    obtain ⟨y, hy⟩ : ∃ y, l[i]? = some y := ⟨_, List.getElem?_eq_getElem (by have := (List.getElem?_eq_some_iff.1 hx).1; omega)⟩
    have h1 := ih y hy
    have h2 := okX_lt h (i + 1) i y x (by omega) hy hx
    omega
theorem okX_len {N : Nat} {L : List Blk} {o cap : Nat} {l : List (Int × List Bool)} (hS : St N L) (h : OkX L o cap l) : l.length ≤ 1024 := by
  by_cases hl : l.length = 0
  · omega
  obtain ⟨x, hx⟩ : ∃ x, l[l.length - 1]? = some x := ⟨_, List.getElem?_eq_getElem (by omega)⟩
  have h1 := okX_idx h _ x hx
  have h2 := st_le hS _ (h _ x hx).2.1
  have h3 : x.1.toNat + 2 ^ o ≤ 1024 := h2.2
  have h4 := (h _ x hx).1
  have := pow_pos2 o
  omega
theorem posS_all {l : List Slb} {p : Nat} (h : ∀ y ∈ l, y.pg < p) : posS l p = l.length := by
  unfold posS
  induction l with
  | nil => rfl
  | cons y l ih =>
    rw [List.takeWhile_cons, if_pos (decide_eq_true (h y (List.mem_cons_self ..))), List.length_cons, ih (fun z hz => h z (List.mem_cons_of_mem _ hz)), List.length_cons]
theorem insS_all {l : List Slb} {x : Slb} (h : ∀ y ∈ l, y.pg < x.pg) : insS l x = l ++ [x] := by
  rw [insS_at (fun y hy => by have := h y hy; omega), posS_all h, List.take_of_length_le (Nat.le_refl _), List.drop_eq_nil_of_le (Nat.le_refl _)]
end Sl
end Go.Proofs.Ytlknhbcambdccaa
