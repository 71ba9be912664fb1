/- Plain: which addresses are a layout, and its top. DERIVED: THE SHELF's CONTRACTS AT THIS DUMP, IN PLAIN WORDS (tools/lay-plain.mjs out of 'YtjgakcpjphdicaaShSrt0.lean', which tools/lay-shelf.mjs wrote): THE SAME DECLARATIONS UNDER THE SAME NAMES: 'import', 'namespace', 'open', 'def', 'theorem' AND NOTHING ELSE: no command of the shelf's: FOR A HAND-IN. Each laying: the table of numbers ('.._ren') and one theorem, a field a fact of the dump's own or the kernel's comparison; each contract: ONE APPLICATION. -/
import Derived.Test.YtjgakcpjphdicaaK2
import Derived.Shelf.SlSortCmp.Whole1
import Derived.Shelf.SlLaysF
import Derived.Shelf.Small.Bits
import Derived.Ground.SlsfProg
import Derived.Ground.NamesProg
import Derived.Test.YtjgakcpjphdicaaProg
namespace Go.Proofs.Ytjgakcpjphdicaa.Of

def okAt (L : List OB) (M : List Int) (i : Nat) : Bool := decide (addr M i % (blk L i).a = 0)
/-- Two blocks have a byte in common. -/
def clashP (L : List OB) (M : List Int) (i k : Nat) : Bool := meet (blk L i) (blk L k) && (decide (addr M i < addr M k + (blk L k).s) && decide (addr M k < addr M i + (blk L i).s))
def isLay (L : List OB) (M : List Int) : Bool := (List.range L.length).all fun i => okAt L M i && (List.range i).all fun k => !clashP L M i k
def topF (L : List OB) (M : List Int) (o : List Nat) : Int := o.foldl (fun t i => max t (addr M i + (blk L i).s)) 0
def validV (L : List OB) (M : List Int) : Bool × Int := if isLay L M then (true, topF L M (List.range L.length)) else (false, 0)

/-- The program's way: in an order. -/
def hit (L : List OB) (M : List Int) (i k : Nat) : Bool := meet (blk L i) (blk L k) && decide (addr M i < addr M k + (blk L k).s)
def pv (L : List OB) (M : List Int) : List Nat → List Nat → Bool
  | _, [] => true
  | pre, i :: r => okAt L M i && (pre.all fun k => !hit L M i k) && pv L M (pre ++ [i]) r
theorem clashP_comm (L : List OB) (M : List Int) (i k : Nat) : clashP L M i k = clashP L M k i := by
  unfold clashP; rw [meet_comm, Bool.and_comm (decide (addr M i < _))]
theorem pv_iff {L : List OB} {M : List Int} : ∀ (r pre : List Nat), pv L M pre r = true ↔ (∀ i, i ∈ r → okAt L M i = true) ∧ (∀ i, i ∈ r → ∀ k, k ∈ pre → hit L M i k = false) ∧ r.Pairwise fun k i => hit L M i k = false := by
  intro r
  induction r with
  | nil => intro pre; unfold pv; simp
  | cons i r ih =>
    intro pre
    unfold pv
    rw [Bool.and_eq_true, Bool.and_eq_true, ih, List.pairwise_cons, List.all_eq_true]
    constructor
    · rintro ⟨⟨h1, h2⟩, h3, h4, h5⟩
      refine ⟨fun x hx => ?_, fun x hx k hk => ?_, fun x hx => h4 x hx i (by simp), h5⟩
      · rcases List.mem_cons.1 hx with rfl | hx
        · exact h1
        · exact h3 x hx
      · rcases List.mem_cons.1 hx with rfl | hx
        · simpa using h2 k hk
        · exact h4 x hx k (by simp [hk])
    · rintro ⟨h1, h2, h3, h4⟩
      refine ⟨⟨h1 i (by simp), fun k hk => by simpa using h2 i (by simp) k hk⟩, fun x hx => h1 x (by simp [hx]), fun x hx k hk => ?_, h4⟩
      rcases List.mem_append.1 hk with hk | hk
      · exact h2 x (by simp [hx]) k hk
      · simp at hk; subst hk; exact h3 x hx
theorem isLay_iff {L : List OB} {M : List Int} : isLay L M = true ↔ (∀ i, i < L.length → okAt L M i = true) ∧ ∀ i, i < L.length → ∀ k, k < L.length → i ≠ k → clashP L M i k = false := by
  unfold isLay
  rw [List.all_eq_true]
  constructor
  · intro h
    refine ⟨fun i hi => ?_, fun i hi k hk hne => ?_⟩
    · have := h i (List.mem_range.2 hi)
      rw [Bool.and_eq_true] at this
      exact this.1
    · rcases Nat.lt_or_ge k i with hki | hki
      · have := h i (List.mem_range.2 hi)
        rw [Bool.and_eq_true, List.all_eq_true] at this
        simpa using this.2 k (List.mem_range.2 hki)
      · have := h k (List.mem_range.2 hk)
        rw [Bool.and_eq_true, List.all_eq_true] at this
        rw [clashP_comm]
        simpa using this.2 i (List.mem_range.2 (by omega))
  · rintro ⟨h1, h2⟩ i hi
    have hi' := List.mem_range.1 hi
    rw [Bool.and_eq_true, List.all_eq_true]
    refine ⟨h1 i hi', fun k hk => ?_⟩
    have hk' := List.mem_range.1 hk
    rw [h2 i hi' k (by omega) (by omega)]; rfl
theorem pv_isLay {L : List OB} {M : List Int} (hL : OkL L) {o : List Nat} (hp : o.Perm (List.range L.length)) (hs : o.Pairwise fun j k => addr M j ≤ addr M k) : pv L M [] o = isLay L M := by
  have hmem : ∀ i, i ∈ o ↔ i < L.length := fun i => by rw [hp.mem_iff, List.mem_range]
  have hnd : o.Nodup := hp.nodup_iff.2 List.nodup_range
  have hh : ∀ k i, addr M k ≤ addr M i → (hit L M i k = false ↔ clashP L M i k = false) := fun k i h => by
    have h1 : decide (addr M k < addr M i + (blk L i).s) = true := by have := (hL.blk i).s1; simp only [decide_eq_true_eq]; omega
    unfold hit clashP
    rw [h1, Bool.and_true]
  rw [Bool.eq_iff_iff, pv_iff, isLay_iff]
  constructor
  · rintro ⟨h1, _, h3⟩
    refine ⟨fun i hi => h1 i ((hmem i).2 hi), fun i hi k hk hne => ?_⟩
    rw [List.pairwise_iff_getElem] at h3 hs
    obtain ⟨a, ha, rfl⟩ := List.getElem_of_mem ((hmem i).2 hi)
    obtain ⟨b, hb, rfl⟩ := List.getElem_of_mem ((hmem k).2 hk)
    rcases Nat.lt_trichotomy a b with h | h | h
    · rw [clashP_comm]
      exact (hh _ _ (hs a b ha hb h)).1 (h3 a b ha hb h)
    · subst h; exact absurd rfl hne
    · exact (hh _ _ (hs b a hb ha h)).1 (h3 b a hb ha h)
  · rintro ⟨h1, h2⟩
    refine ⟨fun i hi => h1 i ((hmem i).1 hi), fun i _ k hk => (by cases hk), ?_⟩
    refine (hs.and hnd).imp_of_mem ?_
    rintro k i hk hi ⟨hle, hne⟩
    exact (hh k i hle).2 (h2 i ((hmem i).1 hi) k ((hmem k).1 hk) (Ne.symm hne))
theorem topF_ge {L : List OB} {M : List Int} : ∀ (o : List Nat) (t : Int), t ≤ o.foldl (fun t i => max t (addr M i + (blk L i).s)) t ∧ (∀ i, i ∈ o → addr M i + (blk L i).s ≤ o.foldl (fun t i => max t (addr M i + (blk L i).s)) t) ∧ (o.foldl (fun t i => max t (addr M i + (blk L i).s)) t = t ∨ ∃ i, i ∈ o ∧ o.foldl (fun t i => max t (addr M i + (blk L i).s)) t = addr M i + (blk L i).s) := by
  intro o
  induction o with
  | nil => intro t; exact ⟨Int.le_refl _, fun i hi => (by cases hi), .inl rfl⟩
  | cons x o ih =>
    intro t
    rw [List.foldl_cons]
    obtain ⟨h1, h2, h3⟩ := ih (max t (addr M x + (blk L x).s))
    refine ⟨by omega, fun i hi => ?_, ?_⟩
    · rcases List.mem_cons.1 hi with rfl | hi
      · omega
      · exact h2 i hi
    · rcases h3 with h3 | ⟨i, hi, h3⟩
      · rcases Int.le_total t (addr M x + (blk L x).s) with h | h
        · exact .inr ⟨x, by simp, by rw [h3]; omega⟩
        · exact .inl (by rw [h3]; omega)
      · exact .inr ⟨i, by simp [hi], h3⟩
theorem topF_perm {L : List OB} {M : List Int} {o o' : List Nat} (hp : ∀ i, i ∈ o ↔ i ∈ o') : topF L M o = topF L M o' := by
  unfold topF
  obtain ⟨a1, a2, a3⟩ := topF_ge (L := L) (M := M) o 0
  obtain ⟨b1, b2, b3⟩ := topF_ge (L := L) (M := M) o' 0
  apply Int.le_antisymm
  · rcases a3 with h | ⟨i, hi, h⟩
    · rw [h]; exact b1
    · rw [h]; exact b2 i ((hp i).1 hi)
  · rcases b3 with h | ⟨i, hi, h⟩
    · rw [h]; exact a1
    · rw [h]; exact a2 i ((hp i).2 hi)
theorem topF_snoc (L : List OB) (M : List Int) (o : List Nat) (i : Nat) : topF L M (o ++ [i]) = max (topF L M o) (addr M i + (blk L i).s) := by unfold topF; rw [List.foldl_append]; rfl
def farB (p : Int) : Bool := decide (p < 0) || decide (1099511627776 < p)
theorem topF_bd {L : List OB} {M : List Int} (hL : OkL L) (h : M.any farB = false) (o : List Nat) : 0 ≤ topF L M o ∧ topF L M o ≤ 1099511693312 := by
  obtain ⟨a1, a2, a3⟩ := topF_ge (L := L) (M := M) o 0
  refine ⟨a1, ?_⟩
  unfold topF
  rcases a3 with h3 | ⟨i, hi, h3⟩
  · rw [h3]; omega
  · rw [h3]
    have h4 := (hL.blk i).s2
    have h5 : addr M i ≤ 1099511627776 := by
      by_cases hi : i < M.length
      · rw [List.any_eq_false] at h
        have := h _ (List.getElem_mem hi)
        unfold farB at this
        simp at this
        unfold addr
        rw [List.getD_eq_getElem?_getD, List.getElem?_eq_getElem hi]
        exact this.2
      · unfold addr
        rw [List.getD_eq_getElem?_getD, List.getElem?_eq_none (by omega)]
        decide
    omega
theorem far_bd {M : List Int} (h : M.any farB = false) (i : Nat) : 0 ≤ addr M i ∧ addr M i ≤ 1099511627776 := by
  by_cases hi : i < M.length
  · rw [List.any_eq_false] at h
    have := h _ (List.getElem_mem hi)
    unfold farB at this
    simp at this
    unfold addr
    rw [List.getD_eq_getElem?_getD, List.getElem?_eq_getElem hi]
    exact this
  · unfold addr
    rw [List.getD_eq_getElem?_getD, List.getElem?_eq_none (by omega)]
    decide
/-- What Valid says. -/
def validRes (L : List OB) (M : List Int) : Bool × Int × Int := if checkV L ≠ 0 then (false, 0, checkV L) else if M.length ≠ L.length ∨ M.any farB = true then (false, 0, 2) else ((validV L M).1, (validV L M).2, 0)
end Go.Proofs.Ytjgakcpjphdicaa.Of
namespace Go.Proofs
open Go.Shelf
def Try.sortI_ren : Go.Shelf.Ren := ⟨fun | 6 => 41 | 15 => 66 | 14 => 65 | 28 => 86 | 29 => 87 | 20 => 78 | 21 => 79 | 22 => 80 | 23 => 81 | 24 => 82 | 25 => 83 | 26 => 84 | 27 => 85 | 46 => 91 | 47 => 92 | 48 => 93 | 49 => 94 | 50 => 95 | 57 => 106 | n => n, fun | 22 => 25 | 24 => 3 | 25 => 66 | 3 => 3 | 39 => 92 | 0 => 0 | 53 => 109 | 55 => 76 | 4 => 4 | 46 => 103 | 45 => 102 | 50 => 98 | 5 => 5 | 9 => 9 | 66 => 112 | 70 => 116 | 76 => 124 | 77 => 125 | n => n, fun | n => n⟩
theorem Try.sortI : Go.Proofs.SlLaysF.n6 Try.prog Try.sortI_ren := {
  mixed := by kernel_rfl
  f6 := ⟨Try.f41.name, by decide, Try.func41.trans (congrArg some (by kernel_rfl))⟩
  f14 := ⟨Try.f65.name, by decide, Try.func65.trans (congrArg some (by kernel_rfl))⟩
  f15 := Try.func66.trans (congrArg some (by kernel_rfl))
  f20 := ⟨Try.f78.name, by decide, Try.func78.trans (congrArg some (by kernel_rfl))⟩
  f21 := ⟨Try.f79.name, by decide, Try.func79.trans (congrArg some (by kernel_rfl))⟩
  f22 := ⟨Try.f80.name, by decide, Try.func80.trans (congrArg some (by kernel_rfl))⟩
  f23 := ⟨Try.f81.name, by decide, Try.func81.trans (congrArg some (by kernel_rfl))⟩
  f24 := ⟨Try.f82.name, by decide, Try.func82.trans (congrArg some (by kernel_rfl))⟩
  f25 := ⟨Try.f83.name, by decide, Try.func83.trans (congrArg some (by kernel_rfl))⟩
  f26 := ⟨Try.f84.name, by decide, Try.func84.trans (congrArg some (by kernel_rfl))⟩
  f27 := ⟨Try.f85.name, by decide, Try.func85.trans (congrArg some (by kernel_rfl))⟩
  f28 := Try.func86.trans (congrArg some (by kernel_rfl))
  f29 := Try.func87.trans (congrArg some (by kernel_rfl))
  f46 := ⟨Try.f91.name, by decide, Try.func91.trans (congrArg some (by kernel_rfl))⟩
  f47 := Try.func92.trans (congrArg some (by kernel_rfl))
  f48 := Try.func93.trans (congrArg some (by kernel_rfl))
  f49 := ⟨Try.f94.name, by decide, Try.func94.trans (congrArg some (by kernel_rfl))⟩
  f50 := ⟨Try.f95.name, by decide, Try.func95.trans (congrArg some (by kernel_rfl))⟩
  f57 := ⟨Try.f106.name, by decide, Try.func106.trans (congrArg some (by kernel_rfl))⟩
  t0 := Try.underlying0
  a0 := Try.isAgg0
  z0 := Try.sizeOf0
  v0 := Try.zeroValue0
  t3 := Try.underlying3
  a3 := Try.isAgg3
  z3 := Try.sizeOf3
  v3 := Try.zeroValue3
  t4 := Try.underlying4
  a4 := Try.isAgg4
  z4 := Try.sizeOf4
  v4 := Try.zeroValue4
  t5 := Try.underlying5
  a5 := Try.isAgg5
  z5 := Try.sizeOf5
  v5 := Try.zeroValue5
  t9 := Try.underlying9
  a9 := Try.isAgg9
  z9 := Try.sizeOf9
  v9 := Try.zeroValue9
  t22 := Try.underlying25
  a22 := Try.isAgg25
  z22 := Try.sizeOf25
  v22 := Try.zeroValue25
  a24 := Try.isAgg3
  z24 := Try.sizeOf3
  t25 := Try.underlying66
  a25 := Try.isAgg66
  z25 := Try.sizeOf66
  v25 := Try.zeroValue66
  t39 := Try.underlying92
  a39 := Try.isAgg92
  z39 := Try.sizeOf92
  v39 := Try.zeroValue92
  t45 := Try.underlying102
  a45 := Try.isAgg102
  z45 := Try.sizeOf102
  v45 := Try.zeroValue102
  t46 := Try.underlying103
  a46 := Try.isAgg103
  z46 := Try.sizeOf103
  v46 := Try.zeroValue103
  t50 := Try.underlying98
  a50 := Try.isAgg98
  z50 := Try.sizeOf98
  v50 := Try.zeroValue98
  t53 := Try.underlying109
  a53 := Try.isAgg109
  z53 := Try.sizeOf109
  v53 := Try.zeroValue109
  t55 := Try.underlying76
  a55 := Try.isAgg76
  z55 := Try.sizeOf76
  v55 := Try.zeroValue76
  t66 := Try.underlying112
  a66 := Try.isAgg112
  z66 := Try.sizeOf112
  v66 := Try.zeroValue112
  t70 := Try.underlying116
  a70 := Try.isAgg116
  z70 := Try.sizeOf116
  v70 := Try.zeroValue116
  t76 := Try.underlying124
  a76 := Try.isAgg124
  z76 := Try.sizeOf124
  v76 := Try.zeroValue124
  t77 := Try.underlying125
  a77 := Try.isAgg125
  z77 := Try.sizeOf125
  v77 := Try.zeroValue125 }
end Go.Proofs
