/- Plain: the pruned search is the fold over all leaves. Sorted equals the numbers below n: an order. -/
import Derived.Test.YtjgakcpjphdicaaK11
import Derived.Test.YtjgakcpjphdicaaK10
namespace Go.Proofs.Ytjgakcpjphdicaa
open Go.RowKit
namespace Of

/-- What the iterator hands out: where it lies, an order, its top. -/
abbrev BI := (Option Addr × Nat) × List Nat × Int
/-- What the loop has behind some rounds. -/
def stB (pre : List BI) : SSt := match pre.getLast? with
  | none => (none, 4611686018427387904)
  | some x => (some x.2.1, x.2.2)
theorem stB_nil : stB [] = (none, 4611686018427387904) := rfl
theorem stB_snoc (pre : List BI) (x : BI) : stB (pre ++ [x]) = (some x.2.1, x.2.2) := by unfold stB; rw [List.getLast?_append]; rfl
def leafs (L : List OB) (l : List (List Nat)) (s : SSt) : SSt := l.foldl (fun s p => leafV L p s) s
theorem leafs_append (L : List OB) (l m : List (List Nat)) (s : SSt) : leafs L (l ++ m) s = leafs L m (leafs L l s) := List.foldl_append ..
theorem leafs_prune (L : List OB) : ∀ (l : List (List Nat)) (s : SSt), s.1 ≠ none → (∀ p, p ∈ l → s.2 ≤ topOf L p) → leafs L l s = s
  | [], _, _, _ => rfl
  | p :: l, s, h, hp => by
    show leafs L l (leafV L p s) = s
    have e : leafV L p s = s := by
      unfold leafV
      rw [if_neg]
      rintro (h1 | h1)
      · exact h h1
      · have := hp p (by simp); omega
    rw [e]
    exact leafs_prune L l s h fun q hq => hp q (by simp [hq])
theorem leafs_first (L : List OB) {l : List (List Nat)} (h : l ≠ []) (x y : Int) : leafs L l (none, x) = leafs L l (none, y) := by
  cases l with
  | nil => exact absurd rfl h
  | cons p l =>
    show leafs L l (leafV L p (none, x)) = leafs L l (leafV L p (none, y))
    have e : ∀ z, leafV L p (none, z) = (some p, topOf L p) := fun z => by unfold leafV; rw [if_pos (.inl rfl)]
    rw [e, e]
theorem topOf_snoc (L : List OB) (o : List Nat) (i : Nat) : topOf L o ≤ topOf L (o ++ [i]) := by
  unfold topOf
  rw [lays_snoc]
  exact Int.le_max_left ..
theorem topOf_allF (L : List OB) (n : Nat) : ∀ (f : Nat) (b p : List Nat), p ∈ allF n f b → topOf L b ≤ topOf L p
  | 0, b, p, h => by
    obtain rfl : p = b := by simpa [allF] using h
    exact Int.le_refl _
  | f + 1, b, p, h => by
    obtain ⟨i, _, h⟩ := List.mem_flatMap.1 h
    by_cases hb : i ∈ b
    · rw [if_pos hb] at h; cases h
    · rw [if_neg hb] at h
      exact Int.le_trans (topOf_snoc L b i) (topOf_allF L n f _ p h)
theorem topOf_bd {L : List OB} (hL : OkL L) {o : List Nat} (h : Ord L.length o) : 0 ≤ topOf L o ∧ topOf L o ≤ 34816000 := by
  have hg := good hL h
  have h1 := hg.bd
  have h2 := hg.t0
  have h3 := ord_len h
  have h4 := hL.1
  rw [lays_S] at h1
  unfold topOf
  omega
/-- The part of the leaves that begins with b and goes on with an index below i. -/
def upTo (n f : Nat) (b : List Nat) (i : Nat) : List (List Nat) := (List.range i).flatMap fun k => if k ∈ b then [] else allF n f (b ++ [k])
theorem upTo_succ (n f : Nat) (b : List Nat) (i : Nat) : upTo n f b (i + 1) = upTo n f b i ++ (if i ∈ b then [] else allF n f (b ++ [i])) := by
  unfold upTo
  rw [List.range_succ, List.flatMap_append, List.flatMap_singleton]
theorem upTo_all (n f : Nat) (b : List Nat) : upTo n f b n = allF n (f + 1) b := rfl
theorem upTo_part {n f : Nat} {b : List Nat} {i : Nat} (hi : i < n) (hb : i ∉ b) : ∃ m, allF n (f + 1) b = upTo n f b i ++ (allF n f (b ++ [i]) ++ m) := by
  have : ∀ j, i + 1 ≤ j → ∃ m, upTo n f b j = upTo n f b i ++ (allF n f (b ++ [i]) ++ m) := by
    intro j hj
    induction j with
    | zero => omega
    | succ j ih =>
      by_cases e : i = j
      · subst e
        exact ⟨[], by rw [upTo_succ, if_neg hb, List.append_nil]⟩
      · obtain ⟨m, hm⟩ := ih (by omega)
        exact ⟨m ++ (if j ∈ b then [] else allF n f (b ++ [j])), by rw [upTo_succ, hm, List.append_assoc, List.append_assoc]⟩
  exact this n (by omega)
/-- The whole search. -/
theorem leafs_best (L : List OB) (x : Int) : leafs L (allF L.length L.length []) (none, x) = (some (bestV L), topOf L (bestV L)) := by
  have h := (bestV_spec L).1
  rw [searchV_all] at h
  rw [← h]
  exact leafs_first L (allF_ne L.length [] ⟨List.nodup_nil, fun i hi => by cases hi⟩ (by simp)) x 0
/-- All rounds went through. -/
def SB (L : List OB) (xs : List BI) : Prop := leafs L (allF L.length L.length []) (stB []) = stB xs
/-- The body left the loop. -/
def SpB (L : List OB) (pre : List BI) : Prop := pre ≠ [] ∧ ∃ l1 l2, allF L.length L.length [] = l1 ++ l2 ∧ leafs L l1 (stB []) = stB pre
theorem SB.best {L : List OB} {xs : List BI} (h : SB L xs) : stB xs = (some (bestV L), topOf L (bestV L)) := by
  rw [← h]; exact leafs_best L _
theorem SpB.best {L : List OB} {xs : List BI} (h : SpB L xs) (hl : ∀ p, p ∈ allF L.length L.length [] → (stB xs).2 ≤ topOf L p) : stB xs = (some (bestV L), topOf L (bestV L)) := by
  obtain ⟨hne, l1, l2, h1, h2⟩ := h
  have h3 := leafs_best L 4611686018427387904
  rw [h1, leafs_append] at h3
  rw [show ((none, 4611686018427387904) : SSt) = stB [] from rfl, h2] at h3
  rw [leafs_prune L l2 _ ?_ fun p hp => hl p (by rw [h1]; simp [hp])] at h3
  · exact h3
  · rcases List.eq_nil_or_concat xs with e | ⟨p, x, e⟩
    · exact absurd e hne
    · rw [e, List.concat_eq_append, stB_snoc]; simp
end Of
end Go.Proofs.Ytjgakcpjphdicaa
namespace Go.Proofs.Ytjgakcpjphdicaa
namespace Of

theorem full_mem {n : Nat} {o : List Nat} (h : Ord n o) (hl : o.length = n) {x : Nat} (hx : x < n) : x ∈ o := Classical.byContradiction fun hn => by
  have := (List.nodup_cons.2 ⟨hn, h.1⟩ : (x :: o).Nodup).length_le_of_subset (l₂ := List.range n) (fun i hi => by
    rcases List.mem_cons.1 hi with rfl | hi
    · exact List.mem_range.2 hx
    · exact List.mem_range.2 (h.2 i hi))
  rw [List.length_cons, List.length_range] at this
  omega
theorem full_perm {n : Nat} {o : List Nat} (h : Ord n o) (hl : o.length = n) : o.Perm (List.range n) := by
  rw [List.perm_iff_count]
  intro a
  rw [h.1.count, List.nodup_range.count]
  by_cases ha : a < n
  · rw [if_pos (full_mem h hl ha), if_pos (List.mem_range.2 ha)]
  · rw [if_neg (fun hm => ha (h.2 a hm)), if_neg (fun hm => ha (List.mem_range.1 hm))]
theorem srt_is (n : Nat) (M : List Int) : ((M.mergeSort fun x y => decide (x ≤ y)) == zsP (List.range n)) = isOrd n M := by
  rw [Bool.eq_iff_iff, isOrd_iff, beq_iff_eq]
  have hp : (M.mergeSort fun x y => decide (x ≤ y)).Perm M := List.mergeSort_perm _ _
  constructor
  · intro h
    rw [h] at hp
    have hp2 : (M.map Int.toNat).Perm (List.range n) := by
      have h2 := (hp.symm.map Int.toNat)
      refine h2.trans (List.Perm.of_eq ?_)
      unfold zsP
      rw [List.map_map]
      exact (List.map_congr_left fun x _ => by simp).trans (List.map_id _)
    refine ⟨M.map Int.toNat, ?_, ⟨hp2.nodup_iff.2 List.nodup_range, fun i hi => List.mem_range.1 (hp2.mem_iff.1 hi)⟩, by rw [hp2.length_eq, List.length_range]⟩
    unfold zsP
    rw [List.map_map]
    refine ((List.map_congr_left fun x hx => ?_).trans (List.map_id _)).symm
    have hm := hp.mem_iff.2 hx
    obtain ⟨k, _, rfl⟩ := List.mem_map.1 hm
    simp
  · rintro ⟨o, rfl, hO, hl⟩
    have hp2 : (zsP o).Perm (zsP (List.range n)) := (full_perm hO hl).map _
    refine (hp.trans hp2).eq_of_pairwise (le := fun x y => x ≤ y) (fun a b _ _ h1 h2 => Int.le_antisymm h1 h2) ?_ ?_
    · have := List.pairwise_mergeSort (le := fun x y : Int => decide (x ≤ y)) (fun a b c h1 h2 => by simp at *; omega) (fun a b => by simp; omega) (zsP o)
      exact this.imp fun h => by simpa using h
    · unfold zsP
      rw [List.pairwise_map]
      exact List.pairwise_lt_range.imp fun h => by omega
end Of
end Go.Proofs.Ytjgakcpjphdicaa
