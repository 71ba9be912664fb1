/- Plain: inserting by addresses. -/
import Derived.Test.YtjgakcpjphdicaaJP18
import Derived.Test.YtjgakcpjphdicaaK14
namespace Go.Proofs.Ytjgakcpjphdicaa
open Go.RowKit
namespace Of

/-- Where a block is inserted among those that are in order of their addresses. -/
def lk (M : List Int) (o : List Nat) (i : Nat) : Nat → Nat
  | 0 => 0
  | k + 1 => if addr M i < addr M (o.getD k 0) then lk M o i k else k + 1
def lord (M : List Int) : Nat → List Nat
  | 0 => []
  | n + 1 => insK (lord M n) n (lk M (lord M n) n (lord M n).length)
theorem lk_spec (M : List Int) (o : List Nat) (i : Nat) : ∀ k, lk M o i k ≤ k ∧ (∀ j, lk M o i k ≤ j → j < k → addr M i < addr M (o.getD j 0)) ∧ (∀ j, j + 1 = lk M o i k → addr M (o.getD j 0) ≤ addr M i)
  | 0 => ⟨Nat.le_refl _, fun j _ h => by omega, fun j h => by unfold lk at h; omega⟩
  | k + 1 => by
    obtain ⟨h1, h2, h3⟩ := lk_spec M o i k
    by_cases hc : addr M i < addr M (o.getD k 0)
    · have e : lk M o i (k + 1) = lk M o i k := by rw [lk, if_pos hc]
      rw [e]
      refine ⟨by omega, fun j hj hk => ?_, h3⟩
      rcases Nat.lt_or_ge j k with h | h
      · exact h2 j hj h
      · obtain rfl : j = k := by omega
        exact hc
    · have e : lk M o i (k + 1) = k + 1 := by rw [lk, if_neg hc]
      rw [e]
      refine ⟨Nat.le_refl _, fun j hj hk => by omega, fun j hj => ?_⟩
      obtain rfl : j = k := by omega
      omega
theorem lord_ord (M : List Int) : ∀ n, Ord n (lord M n) ∧ (lord M n).length = n
  | 0 => ⟨⟨List.nodup_nil, fun i hi => by cases hi⟩, rfl⟩
  | n + 1 => by
    obtain ⟨h1, h2⟩ := lord_ord M n
    unfold lord insK
    generalize lk M (lord M n) n (lord M n).length = k
    generalize lord M n = o at *
    have hn : n ∉ o := fun h => by have := h1.2 n h; omega
    refine ⟨⟨?_, fun i hi => ?_⟩, ?_⟩
    · have hp : (o.take k ++ [n] ++ o.drop k).Perm (n :: o) := by
        rw [List.append_assoc, List.singleton_append]
        refine List.perm_middle.trans ?_
        rw [List.take_append_drop]
      exact hp.nodup_iff.2 (List.nodup_cons.2 ⟨hn, h1.1⟩)
    · rcases mem_ins.1 hi with rfl | h
      · omega
      · have := h1.2 i h; omega
    · simp only [List.length_append, List.length_take, List.length_drop, List.length_cons, List.length_nil]; omega
theorem lord_asc (M : List Int) : ∀ n, (lord M n).Pairwise fun j k => addr M j ≤ addr M k
  | 0 => List.Pairwise.nil
  | n + 1 => by
    have ih := lord_asc M n
    unfold lord insK
    obtain ⟨h1, h2, h3⟩ := lk_spec M (lord M n) n (lord M n).length
    generalize lk M (lord M n) n (lord M n).length = k at *
    generalize lord M n = o at *
    have ih2 := ih
    rw [← List.take_append_drop k o, List.pairwise_append] at ih2
    obtain ⟨p1, p2, p3⟩ := ih2
    have lo : ∀ x, x ∈ o.take k → addr M x ≤ addr M n := by
      intro x hx
      obtain ⟨j, hj, e⟩ := List.mem_iff_getElem.1 hx
      have hj2 : j < k ∧ j < o.length := by rw [List.length_take] at hj; omega
      rw [List.getElem_take] at e
      obtain ⟨m, rfl⟩ : ∃ m, k = m + 1 := ⟨k - 1, by omega⟩
      have hm : m < o.length := by omega
      have hl := h3 m rfl
      rw [List.getD_eq_getElem?_getD, List.getElem?_eq_getElem hm] at hl
      rcases Nat.lt_or_ge j m with hjm | hjm
      · have := List.pairwise_iff_getElem.1 ih j m hj2.2 hm hjm
        rw [← e]
        exact Int.le_trans this hl
      · obtain rfl : j = m := by omega
        rw [← e]; exact hl
    have hi : ∀ x, x ∈ o.drop k → addr M n ≤ addr M x := by
      intro x hx
      obtain ⟨j, hj, e⟩ := List.mem_iff_getElem.1 hx
      have hj2 : k + j < o.length := by rw [List.length_drop] at hj; omega
      rw [List.getElem_drop] at e
      have := h2 (k + j) (by omega) hj2
      rw [List.getD_eq_getElem?_getD, List.getElem?_eq_getElem hj2] at this
      rw [← e]; exact Int.le_of_lt this
    rw [List.append_assoc, List.pairwise_append]
    refine ⟨p1, ?_, fun x hx y hy => ?_⟩
    · rw [List.singleton_append, List.pairwise_cons]
      exact ⟨hi, p2⟩
    · rcases List.mem_append.1 hy with hy | hy
      · rw [List.mem_singleton.1 hy]; exact lo x hx
      · exact p3 x hx y hy
/-- What lower asks. -/
theorem lower_law {L : List OB} {M : List Int} {tp : Int} (h : validRes L M = (true, tp, 0)) :
    topOf L (lord M L.length) ≤ tp ∧ ∀ i, i < L.length → addr (lays L (lord M L.length)).A i ≤ addr M i := by
  obtain ⟨hv, h1, h2, h3, h4⟩ := valid_open h
  have hL := (checkV_ok L).1 hv
  obtain ⟨hO, hl⟩ := lord_ord M L.length
  have hlow := lays_low hL h3 (fun i hi => (not_far h2 (by rw [h1]; exact hi)).1) _ _ rfl hO (lord_asc M L.length)
  have htop := top_low hL hO hlow
  rw [topF_perm (o' := List.range L.length) fun i => ⟨fun h => List.mem_range.2 (hO.2 i h), fun h => full_mem hO hl (List.mem_range.1 h)⟩] at htop
  exact ⟨by rw [h4]; exact htop, fun i hi => hlow i (full_mem hO hl hi)⟩
end Of
end Go.Proofs.Ytjgakcpjphdicaa
