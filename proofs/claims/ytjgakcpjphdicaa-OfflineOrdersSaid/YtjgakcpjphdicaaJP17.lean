/- Plain: layouts, and laying by their addresses. -/
import Derived.Test.YtjgakcpjphdicaaK13
import Derived.Test.YtjgakcpjphdicaaK15
namespace Go.Proofs.Ytjgakcpjphdicaa
open Go.RowKit
namespace Of

theorem dvd_mod {a x : Int} (h : a ∣ x) : x % a = 0 := Int.emod_eq_zero_of_dvd h
theorem mod_dvd {a x : Int} (h : x % a = 0) : a ∣ x := Int.dvd_of_emod_eq_zero h
/-- Addresses that were laid are multiples of the alignments. -/
theorem lays_dvd {L : List OB} (hL : OkL L) : ∀ (m : Nat) (o : List Nat), o.length = m → Ord L.length o → ∀ k, k ∈ o → (blk L k).a ∣ addr (lays L o).A k := by
  intro m
  induction m with
  | zero => intro o ho _ k hk; rw [List.length_eq_zero_iff.1 ho] at hk; cases hk
  | succ m ih =>
    intro o ho h k hk
    rcases snoc_cases o with rfl | ⟨p, i, rfl⟩
    · simp at ho
    · obtain ⟨h1, h2, h3⟩ := h.snoc
      rw [lays_snoc]
      show _ ∣ addr ((lays L p).A.set i _) k
      rw [addr_set (by rw [lays_len]; exact h2)]
      by_cases e : k = i
      · rw [if_pos e, e]
        exact (fit_is (L := L) (A := (lays L p).A) (hL.blk i) (lays L p).S).dvd
      · rw [if_neg e]
        refine ih p (by simpa using ho) h1 k ?_
        rcases List.mem_append.1 hk with hk | hk
        · exact hk
        · simp at hk; exact absurd hk e
/-- A layout of all blocks is one, with its top. -/
theorem lays_valid {L : List OB} (hv : checkV L = 0) {o : List Nat} (hO : Ord L.length o) (hl : o.length = L.length) : validRes L (lays L o).A = (true, topOf L o, 0) := by
  have hL := (checkV_ok L).1 hv
  have hg := good hL hO
  have hap := lays_apart hL _ o rfl hO
  have hdv := lays_dvd hL _ o rfl hO
  have hb := topOf_bd hL hO
  have hm : ∀ k, k < L.length → k ∈ o := fun k hk => full_mem hO hl hk
  have hS : ∀ k, k ∈ (lays L o).S ↔ k ∈ o := fun k => by rw [lays_S]
  have hlay : isLay L (lays L o).A = true := by
    rw [isLay_iff]
    refine ⟨fun i hi => ?_, fun i hi k hk hne => ?_⟩
    · unfold okAt
      rw [decide_eq_true_eq]
      exact dvd_mod (hdv i (hm i hi))
    · unfold clashP
      cases e : meet (blk L i) (blk L k) with
      | false => rfl
      | true =>
        have := hap i k (hm i hi) (hm k hk) hne e
        rw [Bool.true_and, Bool.and_eq_false_iff, decide_eq_false_iff_not, decide_eq_false_iff_not]
        omega
  have hfar : (lays L o).A.any farB = false := by
    rw [List.any_eq_false]
    intro x hx
    obtain ⟨j, hj, e⟩ := List.mem_iff_getElem.1 hx
    rw [lays_len] at hj
    have ex : x = addr (lays L o).A j := by unfold addr; rw [List.getD_eq_getElem?_getD, List.getElem?_eq_getElem (by rw [lays_len]; exact hj)]; exact e.symm
    have h1 := hg.pos j ((hS j).2 (hm j hj))
    have h2 := hg.top j ((hS j).2 (hm j hj))
    have h3 := (hL.blk j).s1
    have h4 : (lays L o).T = topOf L o := rfl
    rw [← ex] at h1 h2
    unfold farB
    simp only [Bool.or_eq_true, decide_eq_true_eq]
    omega
  have htop : topF L (lays L o).A (List.range L.length) = topOf L o := by
    rw [topF_perm (o' := o) fun i => ⟨fun h => hm i (List.mem_range.1 h), fun h => List.mem_range.2 (hO.2 i h)⟩]
    obtain ⟨a1, a2, a3⟩ := topF_ge (L := L) (M := (lays L o).A) o 0
    show o.foldl _ 0 = (lays L o).T
    apply Int.le_antisymm
    · rcases a3 with h | ⟨i, hi, h⟩
      · rw [h]; exact hg.t0
      · rw [h]; exact hg.top i ((hS i).2 hi)
    · by_cases e : (lays L o).S = []
      · rw [hg.least e]; exact a1
      · obtain ⟨k, hk, h⟩ := hg.tops e
        rw [← h]; exact a2 k ((hS k).1 hk)
  unfold validRes
  rw [if_neg (by rw [hv]; simp), if_neg (by rw [hfar, lays_len]; simp)]
  unfold validV
  rw [hlay, htop]
  rfl
/-- Laying blocks by ascending addresses of a layout gives no greater address. -/
theorem lays_low {L : List OB} (hL : OkL L) {M : List Int} (hM : isLay L M = true) (hpos : ∀ i, i < L.length → 0 ≤ addr M i) : ∀ (m : Nat) (o : List Nat), o.length = m → Ord L.length o → (o.Pairwise fun j k => addr M j ≤ addr M k) → ∀ k, k ∈ o → addr (lays L o).A k ≤ addr M k := by
  obtain ⟨m1, m2⟩ := isLay_iff.1 hM
  intro m
  induction m with
  | zero => intro o ho _ _ k hk; rw [List.length_eq_zero_iff.1 ho] at hk; cases hk
  | succ m ih =>
    intro o ho h hs k hk
    rcases snoc_cases o with rfl | ⟨p, i, rfl⟩
    · simp at ho
    · obtain ⟨h1, h2, h3⟩ := h.snoc
      rw [List.pairwise_append] at hs
      obtain ⟨s1, _, s3⟩ := hs
      have hp := ih p (by simpa using ho) h1 s1
      rw [lays_snoc]
      show addr ((lays L p).A.set i _) k ≤ _
      rw [addr_set (by rw [lays_len]; exact h2)]
      by_cases e : k = i
      · rw [if_pos e, e]
        refine (fit_is (L := L) (A := (lays L p).A) (hL.blk i) (lays L p).S).least _ (hpos i h2) ?_ ?_
        · have := m1 i h2
          unfold okAt at this
          rw [decide_eq_true_eq] at this
          exact mod_dvd this
        · rw [free_iff, lays_S]
          intro j hj hm
          left
          have hj2 := h1.2 j hj
          have hc := m2 i h2 j hj2 (fun e => h3 (by rw [e]; exact hj))
          unfold clashP at hc
          rw [hm, Bool.true_and, Bool.and_eq_false_iff, decide_eq_false_iff_not, decide_eq_false_iff_not] at hc
          have hle := s3 j hj i (by simp)
          have hpj := hp j hj
          have hsi := (hL.blk i).s1
          omega
      · rw [if_neg e]
        refine hp k ?_
        rcases List.mem_append.1 hk with hk | hk
        · exact hk
        · simp at hk; exact absurd hk e
/-- Every order of all indices is among the leaves. -/
theorem allF_mem {n : Nat} : ∀ (f : Nat) (b p : List Nat), b.length + f = n → Ord n p → p.length = n → b <+: p → p ∈ allF n f b
  | 0, b, p, hb, _, hl, hp => by
    have : b = p := hp.eq_of_length (by omega)
    simp [allF, this]
  | f + 1, b, p, hb, hO, hl, hp => by
    obtain ⟨r, hr⟩ := hp
    cases r with
    | nil => rw [List.append_nil] at hr; rw [← hr] at hl; omega
    | cons i r =>
      have e : b ++ [i] ++ r = p := by rw [← hr]; simp
      have hi : i < n := hO.2 i (by rw [← hr]; simp)
      have hib : i ∉ b := by
        have h1 := hO.1
        rw [← hr, List.nodup_append] at h1
        exact fun h => h1.2.2 i h i (by simp) rfl
      show p ∈ (List.range n).flatMap _
      refine List.mem_flatMap.2 ⟨i, List.mem_range.2 hi, ?_⟩
      rw [if_neg hib]
      exact allF_mem f (b ++ [i]) p (by simp; omega) hO hl ⟨r, e⟩
/-- The indices by their addresses. -/
def byAddr (M : List Int) (n : Nat) : List Nat := (List.range n).mergeSort fun j k => decide (addr M j ≤ addr M k)
theorem byAddr_ok (M : List Int) (n : Nat) : Ord n (byAddr M n) ∧ (byAddr M n).length = n ∧ (byAddr M n).Pairwise fun j k => addr M j ≤ addr M k := by
  have hp : (byAddr M n).Perm (List.range n) := List.mergeSort_perm _ _
  refine ⟨⟨hp.nodup_iff.2 List.nodup_range, fun i hi => List.mem_range.1 (hp.mem_iff.1 hi)⟩, by rw [hp.length_eq, List.length_range], ?_⟩
  have := List.pairwise_mergeSort (le := fun j k : Nat => decide (addr M j ≤ addr M k)) (fun a b c h1 h2 => by simp at *; omega) (fun a b => by simp; omega) (List.range n)
  exact this.imp fun h => by simpa using h
/-- No greater top either. -/
theorem top_low {L : List OB} (hL : OkL L) {M : List Int} {o : List Nat} (hO : Ord L.length o) (h : ∀ k, k ∈ o → addr (lays L o).A k ≤ addr M k) : topOf L o ≤ topF L M o := by
  have hg := good hL hO
  obtain ⟨a1, a2, _⟩ := topF_ge (L := L) (M := M) o 0
  show (lays L o).T ≤ o.foldl _ 0
  by_cases e : (lays L o).S = []
  · rw [hg.least e]; exact a1
  · obtain ⟨k, hk, hk2⟩ := hg.tops e
    rw [lays_S] at hk
    have h1 := h k hk
    have h2 := a2 k hk
    omega
/-- No layout is lower than the best. -/
theorem best_least {L : List OB} (hL : OkL L) {M : List Int} (hM : isLay L M = true) (hpos : ∀ i, i < L.length → 0 ≤ addr M i) : topOf L (bestV L) ≤ topF L M (List.range L.length) := by
  obtain ⟨h1, h2, h3⟩ := byAddr_ok M L.length
  have h4 := lays_low hL hM hpos _ _ rfl h1 h3
  have h5 := top_low hL h1 h4
  rw [topF_perm (o' := List.range L.length) fun i => ⟨fun h => List.mem_range.2 (h1.2 i h), fun h => full_mem h1 h2 (List.mem_range.1 h)⟩] at h5
  refine Int.le_trans ((bestV_spec L).2.2.2 (byAddr M L.length) ?_) h5
  exact allF_mem _ _ _ (by simp) h1 h2 (List.nil_prefix)
end Of
end Go.Proofs.Ytjgakcpjphdicaa
