/- Plain: layouts and the best top. -/
import Derived.Test.YtjgakcpjphdicaaJP17
namespace Go.Proofs.Ytjgakcpjphdicaa
open Go.RowKit
namespace Of

theorem not_far {M : List Int} (h : M.any farB = false) {i : Nat} (hi : i < M.length) : 0 ≤ addr M i ∧ addr M i ≤ 1099511627776 := by
  rw [List.any_eq_false] at h
  have := h (addr M i) (by unfold addr; rw [List.getD_eq_getElem?_getD, List.getElem?_eq_getElem hi]; simp)
  unfold farB at this
  simp only [Bool.or_eq_true, decide_eq_true_eq] at this
  omega
theorem valid_open {L : List OB} {M : List Int} {tp : Int} (h : validRes L M = (true, tp, 0)) : checkV L = 0 ∧ M.length = L.length ∧ M.any farB = false ∧ isLay L M = true ∧ tp = topF L M (List.range L.length) := by
  unfold validRes at h
  by_cases hv : checkV L = 0
  · rw [if_neg (by rw [hv]; simp)] at h
    by_cases hm : M.length ≠ L.length ∨ M.any farB = true
    · rw [if_pos hm] at h
      injection h with h _; cases h
    · rw [if_neg hm] at h
      unfold validV at h
      have h1 : M.length = L.length := Classical.byContradiction fun e => hm (.inl e)
      have h2 : M.any farB = false := by cases e : M.any farB with | false => rfl | true => exact absurd (.inr e) hm
      by_cases hl : isLay L M = true
      · rw [if_pos hl] at h
        injection h with _ h; injection h with h _
        exact ⟨hv, h1, h2, hl, h.symm⟩
      · rw [if_neg hl] at h
        injection h with h _; cases h
  · rw [if_pos hv] at h
    injection h with h _; cases h
theorem valid_top {L : List OB} {M : List Int} {tp : Int} (h : validRes L M = (true, tp, 0)) : topOf L (bestV L) ≤ tp := by
  obtain ⟨hv, h1, h2, h3, h4⟩ := valid_open h
  rw [h4]
  exact best_least ((checkV_ok L).1 hv) h3 fun i hi => (not_far h2 (by rw [h1]; exact hi)).1
/-- Without the block k. -/
theorem blk_erase {L : List OB} {k i : Nat} : blk (L.eraseIdx k) i = blk L (if i < k then i else i + 1) := by
  unfold blk
  rw [List.getD_eq_getElem?_getD, List.getD_eq_getElem?_getD, List.getElem?_eraseIdx]
  split <;> rfl
theorem addr_erase {A : List Int} {k i : Nat} : addr (A.eraseIdx k) i = addr A (if i < k then i else i + 1) := by
  unfold addr
  rw [List.getD_eq_getElem?_getD, List.getD_eq_getElem?_getD, List.getElem?_eraseIdx]
  split <;> rfl
theorem ok_erase {L : List OB} (h : checkV L = 0) (k : Nat) : checkV (L.eraseIdx k) = 0 := by
  rw [checkV_ok] at h ⊢
  have hl := List.length_eraseIdx_le L k
  exact ⟨by have := h.1; omega, fun b hb => h.2 b (List.mem_of_mem_eraseIdx hb)⟩
/-- With a block less the best top is not greater. -/
theorem best_erase {L : List OB} (hv : checkV L = 0) {k : Nat} (hk : k < L.length) : topOf (L.eraseIdx k) (bestV (L.eraseIdx k)) ≤ topOf L (bestV L) := by
  obtain ⟨_, hO, hl, _⟩ := bestV_spec L
  obtain ⟨_, h1, h2, h3, h4⟩ := valid_open (lays_valid hv hO hl)
  generalize lays L (bestV L) = S at *
  obtain ⟨m1, m2⟩ := isLay_iff.1 h3
  have hlen : (L.eraseIdx k).length = L.length - 1 := List.length_eraseIdx_of_lt hk
  have hL' := (checkV_ok _).1 (ok_erase hv k)
  have hix : ∀ i, i < (L.eraseIdx k).length → (if i < k then i else i + 1) < L.length := fun i hi => by split <;> omega
  have hlay : isLay (L.eraseIdx k) (S.A.eraseIdx k) = true := by
    rw [isLay_iff]
    refine ⟨fun i hi => ?_, fun i hi j hj hij => ?_⟩
    · have := m1 _ (hix i hi)
      unfold okAt at this ⊢
      rw [blk_erase, addr_erase]; exact this
    · have := m2 _ (hix i hi) _ (hix j hj) (by split <;> split <;> omega)
      unfold clashP at this ⊢
      rw [blk_erase, addr_erase, blk_erase, addr_erase]; exact this
  have hb := best_least hL' hlay fun i hi => by rw [addr_erase]; exact (not_far h2 (by rw [h1]; exact hix i hi)).1
  refine Int.le_trans hb ?_
  rw [h4]
  obtain ⟨a1, a2, a3⟩ := topF_ge (L := L.eraseIdx k) (M := S.A.eraseIdx k) (List.range (L.eraseIdx k).length) 0
  obtain ⟨b1, b2, _⟩ := topF_ge (L := L) (M := S.A) (List.range L.length) 0
  rcases a3 with h | ⟨i, hi, h⟩
  · unfold topF; rw [h]; exact b1
  · unfold topF; rw [h, blk_erase, addr_erase]
    exact b2 _ (List.mem_range.2 (hix i (List.mem_range.1 hi)))
/-- Blocks that all meet, with the alignment 1, need just the sum. -/
theorem all_meet {L : List OB} (hL : OkL L) (ha : ∀ i, i < L.length → (blk L i).a = 1) (hm : ∀ i j, i < L.length → j < L.length → meet (blk L i) (blk L j) = true) :
    ∀ (m : Nat) (o : List Nat), o.length = m → Ord L.length o → topOf L o = (o.map fun i => (blk L i).s).sum := by
  intro m o ho h
  apply Int.le_antisymm
  · clear hm
    induction m generalizing o with
    | zero => rw [List.length_eq_zero_iff.1 ho]; exact Int.le_refl _
    | succ m ih =>
      rcases snoc_cases o with rfl | ⟨p, i, rfl⟩
      · simp at ho
      · obtain ⟨h1, h2, h3⟩ := h.snoc
        have hp := ih p (by simpa using ho) h1
        have hg := good hL h1
        have hf := (fit_is (L := L) (A := (lays L p).A) (hL.blk i) (lays L p).S).least (lays L p).T hg.t0 (by rw [ha i h2]; exact Int.one_dvd _) (by
          rw [free_iff]
          intro k hk _
          exact .inl (hg.top k hk))
        have e : topOf L (p ++ [i]) = max (lays L p).T (fit L (lays L p).A (lays L p).S (blk L i) + (blk L i).s) := by unfold topOf; rw [lays_snoc]; rfl
        have hs := (hL.blk i).s1
        have hp2 : (lays L p).T ≤ _ := hp
        rw [e, List.map_append, List.sum_append]
        simp only [List.map_cons, List.map_nil, List.sum_cons, List.sum_nil]
        omega
  · have hg := good hL h
    have hap := lays_apart hL _ o rfl h
    exact sum_fit (fun k => addr (lays L o).A k) (fun i => (blk L i).s) _ o _ rfl h.1 hg.t0 (fun k hk => by
      have hkS : k ∈ (lays L o).S := by rw [lays_S]; exact hk
      exact ⟨hg.pos k hkS, (hL.blk k).s1, hg.top k hkS⟩) (fun j k hj hk hjk => hap j k hj hk hjk (hm j k (h.2 j hj) (h.2 k hk)))
theorem sum_all {L : List OB} {o : List Nat} (hO : Ord L.length o) (hl : o.length = L.length) : (o.map fun i => (blk L i).s).sum = (L.map fun b => b.s).sum := by
  rw [sum_perm ((full_perm hO hl).map _)]
  congr 1
  apply List.ext_getElem
  · simp
  · intro i h1 h2
    simp at h1 h2
    simp [blk, List.getElem?_eq_getElem h2]
end Of
end Go.Proofs.Ytjgakcpjphdicaa
