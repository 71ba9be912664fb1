/- Free of the reference. The reference's Alloc: a new slab among the others; what Alloc leaves. Alloc of the reference: a slab has room. Alloc of the reference: a new slab, or none. -/
import Derived.Test.YtlknhbcambdccaaK32
import Derived.Test.YtlknhbcambdccaaK18
import Derived.Test.YtlknhbcambdccaaK17
import Derived.Deep.RegionHeld3
import Derived.Test.YtlknhbcambdccaaK16
import Derived.Test.YtlknhbcambdccaaK23
import Derived.Deep.QuietTactic
import Derived.BigQuiet
import Derived.Outline
import Derived.Deep.CutRange
import Derived.Deep.CutBlock
namespace Go.Proofs.Ytlknhbcambdccaa
open Go.RowKit
namespace Sl
open Bu

theorem map_set {q : List RS} {l : List Slb} (h : q.map (·.1) = l) {j i : Nat} {x : RS} (hx : q[j]? = some x) (v : Bool) : (q.set j (⟨x.1.pg, x.1.us.set i v⟩, x.2)).map (·.1) = setS l j i v := by
  have hl : l[j]? = some x.1 := by rw [← h, List.getElem?_map, hx]; rfl
  rw [setS_eq hl, ← h]
  apply List.ext_getElem?
  intro k
  rw [List.getElem?_map, List.getElem?_set, List.getElem?_set, List.length_map, List.getElem?_map]
  split
  · split <;> rfl
  · rfl

/-- An object's mark is written. -/
theorem ref_set {w : World} {own : Own?} {r B ob s o kp N : Nat} {q : List RS} {A : Option Addr} {cG : Nat} {L : List Blk} (h : RefS w own r B ob s o kp N q A cG L) (hd : q.Pairwise fun a b => a.1.pg < b.1.pg) {j i : Nat} {x : RS} (hx : q[j]? = some x) (hi : i < x.1.us.length) (v : Bool) :
    RefS (w.setCell ⟨x.2.1, i, none⟩ (.bool v)) own r B ob s o kp N (q.set j (⟨x.1.pg, x.1.us.set i v⟩, x.2)) A cG L ∧ RefN own own B ob A L w (w.setCell ⟨x.2.1, i, none⟩ (.bool v)) A cG L := by
  obtain ⟨cs, T, hB0, hB1, hB2⟩ := h.cell
  obtain ⟨A0, cap0, hc, hrow, hg0⟩ := h.ref.cell
  obtain ⟨hu1, hu2⟩ := h.ref.used j x hx
  have hul := h.fr x.2.1 (by rw [hu1]; simp)
  have hr : r ≠ x.2.1 := fun e => by have := h.ref.ownR; rw [e, hu1] at this; injection this with this; omega
  have hB : B ≠ x.2.1 := fun e => by have := h.ownB; rw [e, hu1] at this; cases this
  have hf : ∀ z, z ≠ x.2.1 → (w.setCell ⟨x.2.1, i, none⟩ (.bool v)).heap[z]? = w.heap[z]? := fun z hz => setCell_far _ _ _ _ hz
  have hsz : (w.setCell ⟨x.2.1, i, none⟩ (.bool v)).heap.size = w.heap.size := setCell_size _ _ _
  have hjl := (List.getElem?_eq_some_iff.1 hx).1
  have hset : ∀ (k : Nat) (y : RS), (q.set j (⟨x.1.pg, x.1.us.set i v⟩, x.2))[k]? = some y → (k = j ∧ y = (⟨x.1.pg, x.1.us.set i v⟩, x.2)) ∨ (k ≠ j ∧ q[k]? = some y) := by
    intro k y hy
    rw [List.getElem?_set] at hy
    by_cases e : j = k
    · rw [if_pos e, if_pos hjl] at hy
      injection hy with hy
      exact .inl ⟨e.symm, hy.symm⟩
    · rw [if_neg e] at hy
      exact .inr ⟨fun e2 => e e2.symm, hy⟩
  refine ⟨⟨⟨h.ref.ownR, ⟨A0, cap0, by rw [List.length_set]; exact (hf r hr).trans hc, ⟨by rw [List.length_set]; exact hrow.len, hrow.cap, hrow.nc, hrow.fm, fun k y hy => ?_⟩, fun g hg => ⟨(hg0 g hg).1, by rw [hsz]; exact (hg0 g hg).2⟩⟩, fun k y hy => ?_⟩, fun k hk => by rw [hsz]; exact h.fr k hk, h.ownB, ⟨cs, T, (hf B hB).trans hB0, hB1, hB2⟩, ?_, fun hL g hg => ?_⟩, ⟨rfl, rfl, rfl, by rw [hsz]; exact Nat.le_refl _, fun k hk hn _ => hf k (fun e => by rw [e, hu1] at hn; cases hn), fun _ _ => rfl, fun _ h => .inl h⟩, ⟨cs, T, hB0, by rw [hf B hB, hB0, set_self hB2]⟩, .inl ⟨rfl, rfl⟩⟩
  · have key : ∃ z, q[k]? = some z ∧ y.1.pg = z.1.pg ∧ y.1.us.length = z.1.us.length ∧ y.2 = z.2 := by
      rcases hset k y hy with ⟨e, rfl⟩ | ⟨_, e⟩
      · exact ⟨x, by rw [e]; exact hx, rfl, List.length_set, rfl⟩
      · exact ⟨y, e, rfl, rfl, rfl⟩
    obtain ⟨z, hz, e1, e2, e3⟩ := key
    obtain ⟨g, oo, h1, h2, h3, h4⟩ := hrow.at_ k z hz
    have hgn : g ≠ x.2.1 := fun e => by
      have := (hg0 g (by rw [h1]; rfl)).1
      rw [e, hu1] at this
      injection this with this; omega
    refine ⟨g, oo, h1, by rw [hsz]; exact h2, ?_, ?_⟩
    · rw [e1]; exact (World.cell?_of_block (a := ⟨g, oo + k * 2, none⟩) (hf g hgn)).trans h3
    · rw [e2, e3]; exact (World.cell?_of_block (a := ⟨g, oo + k * 2 + 1, none⟩) (hf g hgn)).trans h4
  · rcases hset k y hy with ⟨e, rfl⟩ | ⟨e, hq⟩
    · refine ⟨hu1, ?_⟩
      show (w.setCell ⟨x.2.1, i, none⟩ (.bool v)).ownsRow 0 _ 1 (.slice (some ⟨x.2.1, 0, none⟩) (x.1.us.set i v).length x.2.2) (x.1.us.set i v).length (bcells (x.1.us.set i v))
      have := row_set hu2 (i := i) (v := .bool v) hi
      unfold bcells at this ⊢
      rw [List.length_set, List.map_set]
      exact this
    · obtain ⟨k1, k2⟩ := h.ref.used k y hq
      refine ⟨k1, row_same k2 fun g hg => ?_⟩
      have hg : y.2.1 = g := by injection hg
      rw [← hg]
      refine hf _ fun e2 => ?_
      rw [e2, hu1] at k1
      injection k1 with k1
      obtain ⟨hk1, hk2⟩ := List.getElem?_eq_some_iff.1 hq
      obtain ⟨hj1, hj2⟩ := List.getElem?_eq_some_iff.1 hx
      rcases Nat.lt_or_gt_of_ne e with e3 | e3
      · have := List.pairwise_iff_getElem.1 hd k j hk1 hj1 e3
        rw [hk2, hj2] at this; omega
      · have := List.pairwise_iff_getElem.1 hd j k hj1 hk1 e3
        rw [hk2, hj2] at this; omega
  · by_cases hL : L = []
    · have := h.blk.len
      subst hL
      exact ⟨this.1, this.2, fun j x hx => by simp at hx⟩
    · refine h.blk.keep (by rw [hsz]; exact Nat.le_refl _) fun g hg _ => hf g fun e => ?_
      have := (h.far hL g hg).2.1
      rw [e, hu1] at this; cases this
  · obtain ⟨k1, k2⟩ := h.far hL g hg
    exact ⟨by rw [hsz]; exact k1, k2⟩

/-- What a call on the reference leaves: the slabs, the given blocks. -/
def RefP (w : World) (own : Own?) (r B ob s o kp N : Nat) (A : Option Addr) (L : List Blk) (sl : List Slb) (L' : List Blk) (W : World) : Prop :=
  ∃ own' q' A' c', q'.map (·.1) = sl ∧ RefS W own' r B ob s o kp N q' A' c' L' ∧ RefN own own' B ob A L w W A' c' L'

theorem load_save (l : List Slb) : loadS (saveS l) = l := by
  unfold saveS loadS
  rw [List.map_map]
  refine List.ext_getElem? fun i => ?_
  rw [List.getElem?_map]
  cases hx : l[i]? with
  | none => rfl
  | some x => rfl

/-- The last empty slab of the first t. -/
def LastI (l : List Slb) (t z : Nat) : Prop :=
  ((∀ (j : Nat) (y : Slb), j < t → l[j]? = some y → y.many ≠ 0) ∧ z = 0) ∨
  ∃ y, z < t ∧ l[z]? = some y ∧ y.many = 0 ∧ ∀ (j : Nat) (y : Slb), z < j → j < t → l[j]? = some y → y.many ≠ 0
theorem LastI.yes {l : List Slb} {t z : Nat} {x : Slb} (hx : l[t]? = some x) (h0 : x.many = 0) : LastI l (t + 1) t :=
  .inr ⟨x, by omega, hx, h0, fun j y h1 h2 => by omega⟩
theorem LastI.no {l : List Slb} {t z : Nat} {x : Slb} (h : LastI l t z) (hx : l[t]? = some x) (h0 : x.many ≠ 0) : LastI l (t + 1) z := by
  rcases h with ⟨h, e⟩ | ⟨y, h1, h2, h3, h4⟩
  · refine .inl ⟨fun j y hj hy => ?_, e⟩
    by_cases e : j = t
    · subst e; rw [hx] at hy; injection hy with hy; rw [← hy]; exact h0
    · exact h j y (by omega) hy
  · refine .inr ⟨y, by omega, h2, h3, fun j y' hj hj2 hy => ?_⟩
    by_cases e : j = t
    · subst e; rw [hx] at hy; injection hy with hy; rw [← hy]; exact h0
    · exact h4 j y' hj (by omega) hy
theorem LastI.end {l : List Slb} {z : Nat} (h : LastI l l.length z) (he : 0 < emptyS l) : ∃ y, lastE l = some z ∧ l[z]? = some y := by
  rcases h with ⟨h, _⟩ | ⟨y, h1, h2, h3, h4⟩
  · exfalso
    unfold emptyS at he
    obtain ⟨x, hx⟩ := List.exists_mem_of_length_pos he
    obtain ⟨hm, h0⟩ := List.mem_filter.1 hx
    obtain ⟨j, hj⟩ := List.mem_iff_getElem?.1 hm
    exact h j x (List.getElem?_eq_some_iff.1 hj).1 hj (by simpa using h0)
  · exact ⟨y, lastE_at h2 h3 fun j y' hj hy => h4 j y' hj (List.getElem?_eq_some_iff.1 hy).1 hy, h2⟩
end Sl
end Go.Proofs.Ytlknhbcambdccaa
namespace Go.Proofs.Ytlknhbcambdccaa
open Go.RowKit
namespace Sl
open Bu

/-- A slab is put among the others: what is left. -/
theorem ins_done {w W1 W2 w9 : World} {own : Own?} {r B ob s o kp N : Nat} {q Z : List RS} {A A5 A9 : Option Addr} {cG c5 c9 Ub cu : Nat} {n : Slb} {L D : List Blk} (h : RefS w own r B ob s o kp N q A cG L) (hb1 : Below w.heap.size w W1) (ho5 : Bu.Own W1 w.heap.size A5 c5 D)
    (hW2 : W2 = ((World.drew W1).setCell ⟨B, ob, none⟩ (.int .i64 (N : Int))).setCell ⟨B, ob + 1, none⟩ (.slice A5 D.length c5)) (hb9 : Below W2.heap.size W2 w9) (hr9 : OwnR w9 W2.heap.size A9 c9 Z)
    (hu : w9.ownsRow W2.heap.size 4 1 (.slice (some ⟨Ub, 0, none⟩) n.us.length cu) n.us.length (bcells n.us)) (hUA : A9.map (·.block) ≠ some Ub) (hZ : ∀ x ∈ Z, x ∈ q ∨ x = (n, Ub, cu)) {p : Nat} (hp : Z.length = p) :
    RefS (w9.setCell ⟨r, 4, none⟩ (.slice A9 p c9)) (ownX (ownX own (A9.map (·.block)) 2) (some Ub) (n.pg + 10)) r B ob s o kp N Z A5 c5 D ∧ RefN own (ownX (ownX own (A9.map (·.block)) 2) (some Ub) (n.pg + 10)) B ob A L w (w9.setCell ⟨r, 4, none⟩ (.slice A9 p c9)) A5 c5 D := by
  subst hp
  obtain ⟨cs, T, hB0, hB1, hB2⟩ := h.cell
  obtain ⟨A0, cap0, hc, hrow, hg0⟩ := h.ref.cell
  have hrl := lt_of_heap hc
  have hBl := lt_of_heap hB0
  have hBr : B ≠ r := fun e => by have := h.ownB; rw [e, h.ref.ownR] at this; cases this
  have hs1 := hb1.size
  have hs2 : W2.heap.size = W1.heap.size := by rw [hW2, setCell_size, setCell_size]; rfl
  have hs8 := hb9.size
  have hf2 : ∀ z, z ≠ B → W2.heap[z]? = W1.heap[z]? := fun z hz => by rw [hW2]; exact (setCell_far _ _ _ _ hz).trans (setCell_far _ _ _ _ hz)
  have hB22 : W2.heap[B]? = some (.cells (cs.setIfInBounds (ob + 1) (.slice A5 D.length c5)) T (0, 0)) := by
    have h1 : (World.drew W1).heap[B]? = some (.cells cs T (0, 0)) := (hb1.block B hBl).trans hB0
    have h2 := setCell_at _ _ ob _ _ (.int .i64 (N : Int)) h1
    rw [set_self hB1] at h2
    rw [hW2]; exact setCell_at _ _ _ _ _ _ h2
  obtain ⟨hra, hrb⟩ := hr9.at
  obtain ⟨hoa, hob⟩ := ho5.at
  obtain ⟨hU1, hU2⟩ := hu.lt Ub rfl
  have hgn : ∀ z, z < w.heap.size → some z ≠ A9.map (·.block) := fun z hz e => by have := (hrb z e.symm).1; omega
  have hgn2 : ∀ z, z < w.heap.size → some z ≠ some Ub := fun z hz e => by injection e with e; omega
  have hown : ∀ z, z < w.heap.size → ownX (ownX own (A9.map (·.block)) 2) (some Ub) (n.pg + 10) z = own z := fun z hz => by rw [ownX_far (hgn2 z hz), ownX_far (hgn z hz)]
  have hgr : ∀ z, A9.map (·.block) = some z → z ≠ r := fun z e e2 => hgn z (by rw [e2]; exact hrl) e.symm
  have hw : ∀ z, z < w.heap.size → z ≠ r → z ≠ B → (w9.setCell ⟨r, 4, none⟩ (.slice A9 Z.length c9)).heap[z]? = w.heap[z]? := fun z hz hr hB =>
    (setCell_far _ _ _ _ hr).trans ((hb9.block z (by omega)).trans ((hf2 z hB).trans (hb1.block z hz)))
  have hr8c : w9.heap[r]? = some (.cells #[.pointer (some ⟨B, ob, none⟩), .int .i64 (s : Int), .int .i64 (o : Int), .int .i64 (kp : Int), .slice A0 q.length cap0] 133 (0, 0)) := (hb9.block r (by omega)).trans ((hf2 r hBr.symm).trans ((hb1.block r hrl).trans hc))
  have hBW : (w9.setCell ⟨r, 4, none⟩ (.slice A9 Z.length c9)).heap[B]? = some (.cells (cs.setIfInBounds (ob + 1) (.slice A5 D.length c5)) T (0, 0)) := (setCell_far _ _ _ _ hBr).trans ((hb9.block B (by omega)).trans hB22)
  have hsW : (w9.setCell ⟨r, 4, none⟩ (.slice A9 Z.length c9)).heap.size = w9.heap.size := setCell_size _ _ _
  have hcl : ob + 1 < cs.size := (Array.getElem?_eq_some_iff.1 hB2).1
  refine ⟨⟨⟨?_, ⟨A9, c9, ?_, ?_, fun g hg => ⟨?_, ?_⟩⟩, fun j x hx => ?_⟩, fun z hz => ?_, ?_, ⟨_, T, hBW, ?_, ?_⟩, ?_, fun _ g hg => ?_⟩, ⟨?_, ?_, ?_, ?_, fun z hz hn hB => ?_, fun z hz => ?_, fun z hz => ?_⟩, ⟨cs, T, hB0, hBW⟩, .inr fun g hg => (hob g hg).1⟩
  · rw [hown r hrl]; exact h.ref.ownR
  · have := setCell_at _ _ 4 _ _ (.slice A9 Z.length c9) hr8c
    rw [this]; rfl
  · refine hra.keep (by rw [hsW]; exact Nat.le_refl _) fun g hg _ => setCell_far _ _ _ _ (hgr g hg)
  · rw [ownX_far (fun e => hUA (by rw [hg, e])), hg]; exact ownX_at _ _ _
  · rw [hsW]; exact (hrb g hg).2
  · rcases hZ x (List.mem_of_getElem? hx) with hq | rfl
    · obtain ⟨i, hi⟩ := List.mem_iff_getElem?.1 hq
      obtain ⟨k1, k2⟩ := h.ref.used i x hi
      have hul := h.fr x.2.1 (by rw [k1]; simp)
      refine ⟨by rw [hown _ hul]; exact k1, row_same k2 fun g hg => ?_⟩
      have hg : x.2.1 = g := by injection hg
      rw [← hg]
      exact hw _ hul (fun e => by rw [e, h.ref.ownR] at k1; injection k1 with k1; omega) (fun e => by rw [e, h.ownB] at k1; cases k1)
    · refine ⟨ownX_at _ _ _, row_low (row_sameB hu fun g hg => ?_) (Nat.zero_le _)⟩
      have hg : Ub = g := by injection hg
      rw [← hg]
      exact setCell_far _ _ _ _ (by show Ub ≠ r; omega)
  · rw [hsW]
    by_cases e2 : some z = some Ub
    · injection e2 with e2; omega
    · rw [ownX_far e2] at hz
      by_cases e : some z = A9.map (·.block)
      · exact (hrb z e.symm).2
      · rw [ownX_far e] at hz
        have := h.fr z hz; omega
  · rw [hown B hBl]; exact h.ownB
  · rw [Array.getElem?_setIfInBounds_ne (by omega)]; exact hB1
  · rw [Array.getElem?_setIfInBounds_self_of_lt hcl]
  · refine hoa.keep (by rw [hsW]; omega) fun g hg _ => ?_
    have h1 := hob g hg
    have h2 : g ≠ B := by omega
    have h3 : g ≠ r := by omega
    exact (setCell_far _ _ _ _ h3).trans ((hb9.block g (by omega)).trans (hf2 g h2))
  · have h1 := hob g hg
    refine ⟨by rw [hsW]; omega, ?_, by omega⟩
    have h4 : some g ≠ A9.map (·.block) := fun e => by have := (hrb g e.symm).1; omega
    have h5 : some g ≠ some Ub := fun e => by injection e with e; omega
    rw [ownX_far h5, ownX_far h4]
    exact Classical.byContradiction fun e => by have := h.fr g e; omega
  · exact (hb9.os).trans ((by rw [hW2]; rfl : W2.os = W1.os).trans hb1.os)
  · exact (hb9.tape).trans ((by rw [hW2]; rfl : W2.tape = W1.tape).trans hb1.tape)
  · exact (hb9.output).trans ((by rw [hW2]; rfl : W2.output = W1.output).trans hb1.output)
  · rw [hsW]; omega
  · exact hw z hz (fun e => by rw [e, h.ref.ownR] at hn; cases hn) hB
  · exact hown z hz
  · by_cases e2 : some z = some Ub
    · injection e2 with e2; exact .inr ⟨by omega, by rw [hsW]; omega⟩
    · rw [ownX_far e2] at hz
      by_cases e : some z = A9.map (·.block)
      · exact .inr ⟨by have := (hrb z e.symm).1; omega, by rw [hsW]; exact (hrb z e.symm).2⟩
      · rw [ownX_far e] at hz; exact .inl hz

/-- What the reference's Alloc leaves. -/
def AllocQ (w : World) (own : Own?) (r B ob s o kp N : Nat) (A : Option Addr) (L : List Blk) (l : List Slb) (a : Option (Nat × List Slb × List Blk)) (e : Ending) (W : World) : Prop :=
  match a with
  | none => e = .returned (.tuple #[.int .i64 0, .int .i64 5]) ∧ RefP w own r B ob s o kp N A L l L W
  | some (ad, sl, L') => e = .returned (.tuple #[.int .i64 (ad : Int), .int .i64 0]) ∧ RefP w own r B ob s o kp N A L sl L' W

/-- The best slab so far. -/
def BestI (l : List Slb) (t : Nat) (b : Int) : Prop := (pickS 0 none (l.take t) = none ∧ b = -1) ∨ ∃ j m, pickS 0 none (l.take t) = some (j, m) ∧ b = (j : Int)
theorem BestI.zero (l : List Slb) : BestI l 0 (-1) := .inl ⟨by rw [List.take_zero]; rfl, rfl⟩
theorem BestI.yes {l : List Slb} {t : Nat} {b : Int} {x : Slb} (hx : l[t]? = some x) (h1 : x.many < x.us.length) (h : BestI l t b) (h2 : ∀ j m, pickS 0 none (l.take t) = some (j, m) → m < x.many) : BestI l (t + 1) (t : Int) := by
  refine .inr ⟨t, x.many, ?_, rfl⟩
  rw [pickS_take hx]
  unfold stepS
  rw [if_pos ⟨h1, fun p hp => h2 p.1 p.2 hp⟩]
theorem BestI.no {l : List Slb} {t : Nat} {b : Int} {x : Slb} (hx : l[t]? = some x) (h : BestI l t b) (h2 : ¬ (x.many < x.us.length ∧ ∀ p, pickS 0 none (l.take t) = some p → p.2 < x.many)) : BestI l (t + 1) b := by
  unfold BestI
  rw [pickS_take hx]
  unfold stepS
  rw [if_neg h2]
  exact h

theorem freeI_before {us : List Bool} {i : Nat} (h : i < freeI us) : us[i]? = some true := by
  have hl : i < us.length := Nat.lt_of_lt_of_le h List.findIdx_le_length
  have := List.not_of_lt_findIdx h
  rw [List.getElem?_eq_getElem hl]
  congr 1
  simpa using this
theorem freeI_rep (n : Nat) : freeI (List.replicate n false) = 0 := by
  cases n with
  | zero => rfl
  | succ n => unfold freeI; rw [List.replicate_succ, List.findIdx_cons]; rfl
end Sl
end Go.Proofs.Ytlknhbcambdccaa
namespace Go.Proofs.Ytlknhbcambdccaa
open Go.RowKit
namespace Sl
open Bu

set_option maxRecDepth 100000 in
set_option maxHeartbeats 16000000 in
theorem allocR_some (w : World) (own : Own?) (r B ob : Nat) (s o kp N : Nat) (L : List Blk) (q : List RS) (A : Option Addr) (cG : Nat) (hq0 : RefS w own r B ob s o kp N q A cG L) (l : List Slb) (hq : q.map (·.1) = l) (H : CaOk ⟨s, o, kp, l⟩ N L) (j m0 : Nat) (hpick : pickS 0 none l = some (j, m0)) :
    Calls Try.prog 54 #[.pointer (some ⟨r, 0, none⟩)] w fun e w' => AllocQ w own r B ob s o kp N A L l (allocC ⟨s, o, kp, l⟩ N L) e w' := by
  have hlen : l.length ≤ 1024 := ok_len H
  have hsz : 8 ≤ s := H.sz.1
  have hs10 : s ≤ 1024 := H.sz.2.1
  have hod : o ≤ 4 := H.od
  obtain ⟨n, hn⟩ : ∃ n, n = l.length := ⟨_, rfl⟩
  have hqn : q.length = n := by rw [hn, ← hq, List.length_map]
  obtain ⟨cp, hcp⟩ : ∃ cp, cp = capa s o := ⟨_, rfl⟩
  have hcp1 : 1 ≤ cp ∧ cp ≤ 128 := by have := capa_pos H; rw [hcp]; exact ⟨this.1, this.2.1⟩
  obtain ⟨A0, cap0, hc, hrow0, _⟩ := hq0.ref.cell
  have hcap0 := hrow0.len
  have hcapm := hrow0.cap
  unfold maxLen at hcapm
  obtain ⟨_, c1, c2, _, c4, _⟩ := five_cells hc
  rw [hqn] at c4 hcap0
  rw [← hn] at hlen
  have HC := Lib.hid (fun V => capacityR_ok V s o hsz hod)
  rw [← hcp] at HC
  have HX := Lib.hid (And.intro hq0 (And.intro hq (And.intro H (And.intro hn (And.intro hqn hcp)))))
  have HPK := Lib.hid hpick
  clear hpick
  clear hq0 hq H hn hqn hcp hc hrow0
  go_enter Try.func54, Try.ntmps54
  go_wp2_with (fail)
  go_quiet ((go_at_call 64; exact Calls.quiet_of_same ((HC.out _).mono fun e w' h => ⟨h.1, h.2.symm⟩)))
  go_wp2_with (fail)
  go_loopw [5, 6] (fun bv iv wr => ∃ (t : Nat) (b : Int), t ≤ n ∧ iv = .int .i64 (t : Int) ∧ bv = .int .i64 b ∧ BestI l t b ∧ RefS wr own r B ob s o kp N q A cG L ∧ RefN own own B ob A L w wr A cG L) (fun _ iv _ => n - (intOf iv).toNat)
  case atStart =>
    have hb0 := fun m => HX.out.1.same (below_drew w m)
    exact ⟨0, -1, Nat.zero_le _, rfl, rfl, BestI.zero l, (hb0 _).1, (hb0 _).2⟩
  case round =>
    clear c1 c2 c4
    obtain ⟨t, b, ht, rfl, rfl, hB, hS, hN⟩ := hrel
    have e0 : (0 : Int) ≤ (t : Int) := by omega
    obtain ⟨A1, cap1, hc, hrow1, _⟩ := hS.ref.cell
    have hcap1 := hrow1.len
    have hcapm1 := hrow1.cap
    unfold maxLen at hcapm1
    obtain ⟨_, c1, c2, _, c4, _⟩ := five_cells hc
    rw [HX.out.2.2.2.2.1] at c4 hcap1
    by_cases hlt : t < n
    · have e1 : (t : Int) < (n : Int) := by omega
      have hkk : IntKind.i64.wrap ((t : Int) + 1) = ((t + 1 : Nat) : Int) := by rw [IntWalk.i64_in _ (by omega)]; rfl
      obtain ⟨y, hy⟩ : ∃ y, q[t]? = some y := ⟨_, List.getElem?_eq_getElem (by have := HX.out.2.2.2.2.1; omega)⟩
      have hyl : l[t]? = some y.1 := by rw [← HX.out.2.1, List.getElem?_map, hy]; rfl
      obtain ⟨g, oo, rfl, hg, b0, b1⟩ := hrow1.at_ t y hy
      have hus := usedR_ok wr (y.1.pg : Int) (some ⟨y.2.1, 0, none⟩) y.2.2 y.1.us (bool_row (hS.ref.used t y hy).2)
      have hyc : y.1.us.length = cp := by rw [HX.out.2.2.2.2.2]; exact HX.out.2.2.1.len y.1 (List.mem_of_getElem? hyl)
      obtain ⟨m, hm⟩ : ∃ m, m = y.1.us.count true := ⟨_, rfl⟩
      obtain ⟨pg, hpg⟩ : ∃ pg, pg = y.1.pg := ⟨_, rfl⟩
      rw [hyc] at b1 hus
      rw [← hpg] at b0 hus
      rw [← hm] at hus
      have hrl := lt_of_heap hc
      have HU := Lib.hid hus
      have HV := Lib.hid (And.intro hB (And.intro hS (And.intro hN (And.intro hyl (And.intro hm (And.intro hyc hrow1))))))
      clear hB hS hN hyl hm hy hus hc hpg hyc hrow1
      go_wp2_with (go_at_call 80; fail)
      refine HU.out.mono ?_
      rintro _ W6 ⟨rfl, hb6⟩
      obtain ⟨hS6, hN6⟩ := HV.out.2.1.same hb6
      have hN6 := HV.out.2.2.1.trans hN6
      have hmany : y.1.many = m := HV.out.2.2.2.2.1.symm
      have hcc := HV.out.2.2.2.2.2.1
      replace c4 := cell_keep2 hb6 c4
      by_cases hmc : m < cp
      · have t1 : decide (m < cp) = true := decide_eq_true hmc
        have t2 : decide ((m : Int) < (cp : Int)) = true := decide_eq_true (by omega)
        rcases HV.out.1 with ⟨hp0, rfl⟩ | ⟨j, mj, hp0, rfl⟩
        · have HN := Lib.hid (And.intro (BestI.yes HV.out.2.2.2.1 (by rw [hmany, hcc]; exact hmc) HV.out.1 (fun j m h => by rw [hp0] at h; cases h)) (And.intro hS6 hN6))
          clear hp0 hS6 hN6 hb6 hmany hcc
          go_wp2_with (fail)
          go_roundw
          case rel => exact ⟨t + 1, (t : Int), by omega, by go_num, rfl, HN.out.1, HN.out.2.1, HN.out.2.2⟩
          case measure => simp [intOf]; omega
        · obtain ⟨xj, hxj, hmj, hjl, hjt⟩ := pickS_some (by rw [← HX.out.2.2.2.1]; omega) hp0
          obtain ⟨yj, hyj, hyjx⟩ := map_at HX.out.2.1 hxj
          obtain ⟨g', oo', hA', _, b2, b3⟩ := HV.out.2.2.2.2.2.2.at_ j yj hyj
          obtain ⟨rfl, rfl⟩ : g = g' ∧ oo = oo' := by injection hA' with h1; injection h1 with h2 h3; exact ⟨h2, h3⟩
          replace b2 := cell_keep2 hb6 b2
          replace b3 := cell_keep2 hb6 b3
          have hus2 := usedR_ok W6 (yj.1.pg : Int) (some ⟨yj.2.1, 0, none⟩) yj.2.2 yj.1.us (bool_row (hS6.ref.used j yj hyj).2)
          have hyc2 : yj.1.us.length = cp := by rw [hyjx, HX.out.2.2.2.2.2]; exact HX.out.2.2.1.len xj (List.mem_of_getElem? hxj)
          have hcj : yj.1.us.count true = mj := by rw [hyjx]; exact hmj
          rw [hyc2, hcj] at hus2
          rw [hyc2] at b3
          obtain ⟨pgj, hpgj⟩ : ∃ pgj, pgj = yj.1.pg := ⟨_, rfl⟩
          rw [← hpgj] at b2 hus2
          have HU2 := Lib.hid hus2
          have f0 : (0 : Int) ≤ (j : Int) := by omega
          have f1 : (j : Int) < (n : Int) := by omega
          have f2 : decide ((j : Int) < 0) = false := decide_eq_false (by omega)
          by_cases hmm : mj < m
          · have t3 : decide (mj < m) = true := decide_eq_true hmm
            have t4 : decide ((mj : Int) < (m : Int)) = true := decide_eq_true (by omega)
            have HN := Lib.hid (And.intro (BestI.yes HV.out.2.2.2.1 (by rw [hmany, hcc]; exact hmc) HV.out.1 (fun j' m' h => by rw [hp0] at h; injection h with h; injection h with h1 h2; omega)) (And.intro hS6 hN6))
            clear hp0 hS6 hN6 hb6 hmany hcc hxj hmj hyj hyjx hyc2 hcj hus2 hA' hpgj
            go_wp2_with (go_at_call 80; fail)
            refine HU2.out.mono ?_
            rintro _ W7 ⟨rfl, hb7⟩
            obtain ⟨hS7, hN7⟩ := HN.out.2.1.same hb7
            have HM := Lib.hid (And.intro hS7 (HN.out.2.2.trans hN7))
            clear hS7 hN7 hb7
            go_wp2_with (fail)
            go_roundw
            case rel => exact ⟨t + 1, (t : Int), by omega, by go_num, rfl, HN.out.1, HM.out.1, HM.out.2⟩
            case measure => simp [intOf]; omega
          · have t3 : decide (mj < m) = false := decide_eq_false hmm
            have t4 : decide ((mj : Int) < (m : Int)) = false := decide_eq_false (by omega)
            have HN := Lib.hid (And.intro (BestI.no HV.out.2.2.2.1 HV.out.1 (fun h => hmm (by have := h.2 _ hp0; rw [hmany] at this; exact this))) (And.intro hS6 hN6))
            clear hp0 hS6 hN6 hb6 hmany hcc hxj hmj hyj hyjx hyc2 hcj hus2 hA' hpgj
            go_wp2_with (go_at_call 80; fail)
            refine HU2.out.mono ?_
            rintro _ W7 ⟨rfl, hb7⟩
            obtain ⟨hS7, hN7⟩ := HN.out.2.1.same hb7
            have HM := Lib.hid (And.intro hS7 (HN.out.2.2.trans hN7))
            clear hS7 hN7 hb7
            go_wp2_with (fail)
            go_roundw
            case rel => exact ⟨t + 1, (j : Int), by omega, by go_num, rfl, HN.out.1, HM.out.1, HM.out.2⟩
            case measure => simp [intOf]; omega
      · have t1 : decide (m < cp) = false := decide_eq_false hmc
        have t2 : decide ((m : Int) < (cp : Int)) = false := decide_eq_false (by omega)
        have HN := Lib.hid (And.intro (BestI.no HV.out.2.2.2.1 HV.out.1 (fun h => hmc (by have := h.1; rw [hmany, hcc] at this; exact this))) (And.intro hS6 hN6))
        clear hS6 hN6 hb6 hmany hcc
        go_wp2_with (fail)
        go_roundw
        case rel => exact ⟨t + 1, b, by omega, by go_num, rfl, HN.out.1, HN.out.2.1, HN.out.2.2⟩
        case measure => simp [intOf]; omega
    · obtain rfl : t = n := by omega
      have e1 : ¬ ((t : Nat) : Int) < (t : Int) := by omega
      rw [HX.out.2.2.2.1] at hB
      unfold BestI at hB
      rw [List.take_length] at hB
      have hpk := HPK.out
      rcases hB with ⟨h1, _⟩ | ⟨j', m', h1, rfl⟩
      · rw [hpk] at h1; cases h1
      · rw [hpk] at h1
        injection h1 with h1; injection h1 with h1 h2
        subst h1
        obtain ⟨x, hx, hmx, hml, hjt⟩ := pickS_some (Nat.le_refl _) (by rw [List.take_length]; exact hpk)
        obtain ⟨y, hy3, hyx⟩ := map_at HX.out.2.1 hx
        obtain ⟨W3, rfl⟩ : ∃ W3 : World, W3 = wr := ⟨_, rfl⟩
        have hS3 := hS
        have hN3 := hN
        obtain ⟨q3, hq3⟩ : ∃ q3, q3 = q := ⟨_, rfl⟩
        rw [← hq3] at hS3 hy3
        have hd3 : q3.Pairwise fun a b => a.1.pg < b.1.pg := by
          have := HX.out.2.2.1.asc
          rw [show (⟨s, o, kp, l⟩ : Ca).sl = l from rfl, ← HX.out.2.1, List.pairwise_map] at this
          rw [hq3]; exact this
        have hm3 : y.1.many < y.1.us.length := by rw [hyx, hmx]; exact hml
        have hbo := ok_bounds HX.out.2.2.1 (List.mem_of_getElem? hx)
        have hpg3 : y.1.pg < 1024 := by rw [hyx]; exact hbo.1
        have hul3 : y.1.us.length ≤ 128 := by rw [hyx]; exact hbo.2.1
        have hq3l : q3.length ≤ 1100 := by rw [hq3, HX.out.2.2.2.2.1]; omega
        have t5 : decide ((j : Int) < 0) = false := decide_eq_false (by omega)
        have HY := Lib.hid (And.intro hx (And.intro hyx hq3))
        clear hS hN hpk hx hyx hmx hml hbo hq3 hc hrow1
        obtain ⟨g3, oo3, cap3, hc3, hl31, hl32, hg3, d30, d31⟩ := ref_row hS3.ref hy3
        obtain ⟨_, _, _, _, c43, _⟩ := five_cells hc3
        have hj3 := (List.getElem?_eq_some_iff.1 hy3).1
        obtain ⟨hu1, hu2⟩ := hS3.ref.used j y hy3
        obtain ⟨hfl, hff⟩ := freeI_lt hm3
        obtain ⟨fi, hfi⟩ : ∃ fi, fi = freeI y.1.us := ⟨_, rfl⟩
        rw [← hfi] at hfl hff
        have hcells : ∀ (i : Nat) (v : Bool), y.1.us[i]? = some v → W3.cell? ⟨y.2.1, i, none⟩ = some (.bool v) := fun i v hv => row_cell hu2 (by rw [bcells_get, hv]; rfl)
        have dff := row_frozen hu2 fi
        obtain ⟨n3, hn3⟩ : ∃ n3, n3 = q3.length := ⟨_, rfl⟩
        obtain ⟨p3, hp3⟩ : ∃ p3, p3 = y.1.us.length := ⟨_, rfl⟩
        obtain ⟨U, hU⟩ : ∃ U, U = y.2.1 := ⟨_, rfl⟩
        unfold maxLen at hl32
        rw [← hn3] at c43 hl31 hj3 hq3l
        rw [← hp3] at d31 hfl hul3
        rw [← hU] at d31 hcells dff
        have hset := ref_set hS3 hd3 hy3 (i := fi) (by rw [← hp3]; exact hfl) true
        rw [← hU] at hset
        have hadr := addressR_ok (W3.setCell ⟨U, fi, none⟩ (.bool true)) _ r ⟨B, ob, none⟩ s o kp _ hset.1.ref j fi _ (by rw [List.getElem?_set, if_pos rfl, if_pos (List.getElem?_eq_some_iff.1 hy3).1]) (by show y.1.pg ≤ 1024; omega) (by omega) hs10
        have e30 : (0 : Int) ≤ (j : Int) := by omega
        have e31 : (j : Int) < (n3 : Int) := by omega
        have HA := Lib.hid hadr
        have H3y := Lib.hid hy3
        have H3 := Lib.hid (And.intro hN3 (And.intro hset (And.intro hcells (And.intro hff hfi))))
        clear hS3 hN3 hd3 hy3 hm3 hset hcells hff hfi hadr hc3 d30 hu1 hu2 hn3 hp3 hU
        have HC43 := Lib.hid c43
        clear c43
        go_wp2_with (fail)
        clear c4 c1 c2
        have c43 := HC43.out
        go_loop [12] (fun iv => ∃ i : Nat, i ≤ fi ∧ iv = .int .i64 (i : Int)) (fun iv => fi - (intOf iv).toNat)
        case atStart => exact ⟨0, Nat.zero_le _, rfl⟩
        case round =>
          obtain ⟨i, hi, rfl⟩ := hrel
          have f0 : (0 : Int) ≤ (i : Int) := by omega
          have f1 : (i : Int) < (p3 : Int) := by omega
          by_cases hif : i < fi
          · have hii : IntKind.i64.wrap ((i : Int) + 1) = ((i + 1 : Nat) : Int) := by rw [IntWalk.i64_in _ (by omega)]; rfl
            have du := H3.out.2.2.1 i true (freeI_before (by rw [← H3.out.2.2.2.2]; exact hif))
            go_wp2_with (fail)
            go_round
            case rel => exact ⟨i + 1, by omega, by go_num⟩
            case measure => simp [intOf]; omega
          · obtain rfl : i = fi := by omega
            have du := H3.out.2.2.1 i false H3.out.2.2.2.1
            go_wp2_with (go_at_call 79; fail)
            refine HA.out.mono ?_
            rintro _ W5 ⟨rfl, m5, hW5⟩
            have hb5 : Below (W3.setCell ⟨U, i, none⟩ (.bool true)).heap.size (W3.setCell ⟨U, i, none⟩ (.bool true)) W5 := by rw [hW5]; exact below_drew _ m5
            obtain ⟨hS5, hN5⟩ := H3.out.2.1.1.same hb5
            have H5 := Lib.hid (And.intro hS5 ((H3.out.1.trans H3.out.2.1.2).trans hN5))
            clear hS5 hN5 hb5 hW5
            go_wp2_with (fail)
            go_ret2
            have hfi := H3.out.2.2.2.2
            obtain ⟨hx, hyx, hq3⟩ := HY.out
            have hal : allocC ⟨s, o, kp, l⟩ N L = some (addrS s x i, setS l j i true, L) := by
              unfold allocC
              rw [show (⟨s, o, kp, l⟩ : Ca).sl = l from rfl, HPK.out]
              dsimp only
              rw [hx]
              dsimp only
              rw [hfi, hyx]
            rw [hal]
            refine ⟨by rw [← hyx]; rfl, own, _, A, cG, ?_, H5.out.1, H5.out.2⟩
            rw [hq3]
            exact map_set HX.out.2.1 (by rw [← hq3]; exact H3y.out) true
end Sl
end Go.Proofs.Ytlknhbcambdccaa
namespace Go.Proofs.Ytlknhbcambdccaa
open Go.RowKit
namespace Sl
open Bu


theorem wpList_append_rowL {w : World} {ops : Array Oper} {rest : List Oper} {o : Oper} {a : Act} {Q : Exit → Act → World → Prop} (hgd : o.guard = none) (s x : Operand)
    (ho : o.op = .call { callee := .builtin .append, args := #[s, x], argTypes := #[67, 67] })
    (base : Nat) (A0 : Option Addr) (n c0 : Nat) (X : List RS) (hn : X.length = n) (hs : a.eval s = .slice A0 n c0) (hown : w.ownsRow base 90 2 (.slice A0 X.length c0) X.length (rcells X))
    (A : Option Addr) (m c : Nat) (M : List RS) (hm : M.length = m) (hx : a.eval x = .slice A m c) (hM : RowAt w A c M) (Z : List RS) (p : Nat) (hZ : X ++ M = Z) (hp : Z.length = p) (hlen : n + m ≤ 100000) (hbase : base ≤ w.heap.size)
    (h : ∀ A' c' w', OwnR w' base A' c' Z → w.grownBy w' (Value.slice A0 X.length c0).ownBlock → wpList Try.prog ops Q rest (a.put o.dst (.slice A' p c')) w') : wpList Try.prog ops Q (o :: rest) a w := by
  subst hn; subst hm; subst hZ; subst hp
  exact wpList_append_row hgd s x ho base _ X hs hown A c M hx hM hlen hbase h


theorem map_set1 (q : List RS) (j : Nat) (y : RS) : (q.set j y).map (·.1) = (q.map (·.1)).set j y.1 := List.map_set
theorem ins_set {l : List Slb} {pg : Nat} (h : ∀ y ∈ l, y.pg ≠ pg) (us us' : List Bool) : (insS l ⟨pg, us⟩).set (posS l pg) ⟨pg, us'⟩ = insS l ⟨pg, us'⟩ := by
  have h1 : insS l ⟨pg, us⟩ = l.take (posS l pg) ++ ⟨pg, us⟩ :: l.drop (posS l pg) := insS_at (x := ⟨pg, us⟩) h
  have h2 : insS l ⟨pg, us'⟩ = l.take (posS l pg) ++ ⟨pg, us'⟩ :: l.drop (posS l pg) := insS_at (x := ⟨pg, us'⟩) h
  rw [h1, h2]
  have hl : (l.take (posS l pg)).length = posS l pg := by rw [List.length_take]; exact Nat.min_eq_left (posS_le l pg)
  rw [List.set_append_right _ _ (by omega), hl, Nat.sub_self]; rfl

/-- What the line that asks the allocator reads. -/
def AvS (w : World) (r B ob N ln cG o : Nat) (A : Option Addr) (w' : World) : Prop :=
  Below w.heap.size w w' ∧ w'.cell? ⟨r, 0, none⟩ = some (.pointer (some ⟨B, ob, none⟩)) ∧ w'.cell? ⟨B, ob, none⟩ = some (.int .i64 (N : Int)) ∧ w'.cell? ⟨B, ob + 1, none⟩ = some (.slice A ln cG) ∧ w'.cell? ⟨r, 2, none⟩ = some (.int .i64 (o : Int))
theorem AvS.of {w : World} {r B ob N ln cG o : Nat} {A : Option Addr} {V : World} (h : AvS w r B ob N ln cG o A w) (hr : r < w.heap.size) (hB : B < w.heap.size) (hb : Below w.heap.size w V) : AvS w r B ob N ln cG o A V := by
  obtain ⟨_, a0, a1, a2, a3⟩ := h
  exact ⟨hb, (hb.cell (p := ⟨r, 0, none⟩) hr).trans a0, (hb.cell (p := ⟨B, ob, none⟩) hB).trans a1, (hb.cell (p := ⟨B, ob + 1, none⟩) hB).trans a2, (hb.cell (p := ⟨r, 2, none⟩) hr).trans a3⟩

set_option maxRecDepth 100000 in
set_option maxHeartbeats 16000000 in
theorem allocR_full (w : World) (own : Own?) (r B ob : Nat) (s o kp N : Nat) (L : List Blk) (q : List RS) (A : Option Addr) (cG : Nat) (hq0 : RefS w own r B ob s o kp N q A cG L) (l : List Slb) (hq : q.map (·.1) = l) (H : CaOk ⟨s, o, kp, l⟩ N L) (hpick : pickS 0 none l = none) (hgot : allocB N L o = none) :
    Calls Try.prog 54 #[.pointer (some ⟨r, 0, none⟩)] w fun e w' => AllocQ w own r B ob s o kp N A L l (allocC ⟨s, o, kp, l⟩ N L) e w' := by
  have hlen : l.length ≤ 1024 := ok_len H
  have hsz : 8 ≤ s := H.sz.1
  have hs10 : s ≤ 1024 := H.sz.2.1
  have hod : o ≤ 4 := H.od
  obtain ⟨n, hn⟩ : ∃ n, n = l.length := ⟨_, rfl⟩
  have hqn : q.length = n := by rw [hn, ← hq, List.length_map]
  obtain ⟨cp, hcp⟩ : ∃ cp, cp = capa s o := ⟨_, rfl⟩
  have hcp1 : 1 ≤ cp ∧ cp ≤ 128 := by have := capa_pos H; rw [hcp]; exact ⟨this.1, this.2.1⟩
  obtain ⟨A0, cap0, hc, hrow0, _⟩ := hq0.ref.cell
  have hcap0 := hrow0.len
  have hcapm := hrow0.cap
  unfold maxLen at hcapm
  obtain ⟨_, c1, c2, _, c4, _⟩ := five_cells hc
  rw [hqn] at c4 hcap0
  rw [← hn] at hlen
  have HC := Lib.hid (fun V => capacityR_ok V s o hsz hod)
  rw [← hcp] at HC
  have HX := Lib.hid (And.intro hq0 (And.intro hq (And.intro H (And.intro hn (And.intro hqn hcp)))))
  have HPK := Lib.hid (And.intro hpick hgot)
  clear hpick hgot
  clear hq0 hq H hn hqn hcp hc hrow0
  go_enter Try.func54, Try.ntmps54
  go_wp2_with (fail)
  go_quiet ((go_at_call 64; exact Calls.quiet_of_same ((HC.out _).mono fun e w' h => ⟨h.1, h.2.symm⟩)))
  go_wp2_with (fail)
  go_loopw [5, 6] (fun bv iv wr => ∃ (t : Nat) (b : Int), t ≤ n ∧ iv = .int .i64 (t : Int) ∧ bv = .int .i64 b ∧ BestI l t b ∧ RefS wr own r B ob s o kp N q A cG L ∧ RefN own own B ob A L w wr A cG L) (fun _ iv _ => n - (intOf iv).toNat)
  case atStart =>
    have hb0 := fun m => HX.out.1.same (below_drew w m)
    exact ⟨0, -1, Nat.zero_le _, rfl, rfl, BestI.zero l, (hb0 _).1, (hb0 _).2⟩
  case round =>
    clear c1 c2 c4
    obtain ⟨t, b, ht, rfl, rfl, hB, hS, hN⟩ := hrel
    have e0 : (0 : Int) ≤ (t : Int) := by omega
    obtain ⟨A1, cap1, hc, hrow1, _⟩ := hS.ref.cell
    have hcap1 := hrow1.len
    have hcapm1 := hrow1.cap
    unfold maxLen at hcapm1
    obtain ⟨_, c1, c2, _, c4, _⟩ := five_cells hc
    rw [HX.out.2.2.2.2.1] at c4 hcap1
    by_cases hlt : t < n
    · have e1 : (t : Int) < (n : Int) := by omega
      have hkk : IntKind.i64.wrap ((t : Int) + 1) = ((t + 1 : Nat) : Int) := by rw [IntWalk.i64_in _ (by omega)]; rfl
      obtain ⟨y, hy⟩ : ∃ y, q[t]? = some y := ⟨_, List.getElem?_eq_getElem (by have := HX.out.2.2.2.2.1; omega)⟩
      have hyl : l[t]? = some y.1 := by rw [← HX.out.2.1, List.getElem?_map, hy]; rfl
      obtain ⟨g, oo, rfl, hg, b0, b1⟩ := hrow1.at_ t y hy
      have hus := usedR_ok wr (y.1.pg : Int) (some ⟨y.2.1, 0, none⟩) y.2.2 y.1.us (bool_row (hS.ref.used t y hy).2)
      have hyc : y.1.us.length = cp := by rw [HX.out.2.2.2.2.2]; exact HX.out.2.2.1.len y.1 (List.mem_of_getElem? hyl)
      obtain ⟨m, hm⟩ : ∃ m, m = y.1.us.count true := ⟨_, rfl⟩
      obtain ⟨pg, hpg⟩ : ∃ pg, pg = y.1.pg := ⟨_, rfl⟩
      rw [hyc] at b1 hus
      rw [← hpg] at b0 hus
      rw [← hm] at hus
      have hrl := lt_of_heap hc
      have HU := Lib.hid hus
      have HV := Lib.hid (And.intro hB (And.intro hS (And.intro hN (And.intro hyl (And.intro hm (And.intro hyc hrow1))))))
      clear hB hS hN hyl hm hy hus hc hpg hyc hrow1
      go_wp2_with (go_at_call 80; fail)
      refine HU.out.mono ?_
      rintro _ W6 ⟨rfl, hb6⟩
      obtain ⟨hS6, hN6⟩ := HV.out.2.1.same hb6
      have hN6 := HV.out.2.2.1.trans hN6
      have hmany : y.1.many = m := HV.out.2.2.2.2.1.symm
      have hcc := HV.out.2.2.2.2.2.1
      replace c4 := cell_keep2 hb6 c4
      by_cases hmc : m < cp
      · have t1 : decide (m < cp) = true := decide_eq_true hmc
        have t2 : decide ((m : Int) < (cp : Int)) = true := decide_eq_true (by omega)
        rcases HV.out.1 with ⟨hp0, rfl⟩ | ⟨j, mj, hp0, rfl⟩
        · have HN := Lib.hid (And.intro (BestI.yes HV.out.2.2.2.1 (by rw [hmany, hcc]; exact hmc) HV.out.1 (fun j m h => by rw [hp0] at h; cases h)) (And.intro hS6 hN6))
          clear hp0 hS6 hN6 hb6 hmany hcc
          go_wp2_with (fail)
          go_roundw
          case rel => exact ⟨t + 1, (t : Int), by omega, by go_num, rfl, HN.out.1, HN.out.2.1, HN.out.2.2⟩
          case measure => simp [intOf]; omega
        · obtain ⟨xj, hxj, hmj, hjl, hjt⟩ := pickS_some (by rw [← HX.out.2.2.2.1]; omega) hp0
          obtain ⟨yj, hyj, hyjx⟩ := map_at HX.out.2.1 hxj
          obtain ⟨g', oo', hA', _, b2, b3⟩ := HV.out.2.2.2.2.2.2.at_ j yj hyj
          obtain ⟨rfl, rfl⟩ : g = g' ∧ oo = oo' := by injection hA' with h1; injection h1 with h2 h3; exact ⟨h2, h3⟩
          replace b2 := cell_keep2 hb6 b2
          replace b3 := cell_keep2 hb6 b3
          have hus2 := usedR_ok W6 (yj.1.pg : Int) (some ⟨yj.2.1, 0, none⟩) yj.2.2 yj.1.us (bool_row (hS6.ref.used j yj hyj).2)
          have hyc2 : yj.1.us.length = cp := by rw [hyjx, HX.out.2.2.2.2.2]; exact HX.out.2.2.1.len xj (List.mem_of_getElem? hxj)
          have hcj : yj.1.us.count true = mj := by rw [hyjx]; exact hmj
          rw [hyc2, hcj] at hus2
          rw [hyc2] at b3
          obtain ⟨pgj, hpgj⟩ : ∃ pgj, pgj = yj.1.pg := ⟨_, rfl⟩
          rw [← hpgj] at b2 hus2
          have HU2 := Lib.hid hus2
          have f0 : (0 : Int) ≤ (j : Int) := by omega
          have f1 : (j : Int) < (n : Int) := by omega
          have f2 : decide ((j : Int) < 0) = false := decide_eq_false (by omega)
          by_cases hmm : mj < m
          · have t3 : decide (mj < m) = true := decide_eq_true hmm
            have t4 : decide ((mj : Int) < (m : Int)) = true := decide_eq_true (by omega)
            have HN := Lib.hid (And.intro (BestI.yes HV.out.2.2.2.1 (by rw [hmany, hcc]; exact hmc) HV.out.1 (fun j' m' h => by rw [hp0] at h; injection h with h; injection h with h1 h2; omega)) (And.intro hS6 hN6))
            clear hp0 hS6 hN6 hb6 hmany hcc hxj hmj hyj hyjx hyc2 hcj hus2 hA' hpgj
            go_wp2_with (go_at_call 80; fail)
            refine HU2.out.mono ?_
            rintro _ W7 ⟨rfl, hb7⟩
            obtain ⟨hS7, hN7⟩ := HN.out.2.1.same hb7
            have HM := Lib.hid (And.intro hS7 (HN.out.2.2.trans hN7))
            clear hS7 hN7 hb7
            go_wp2_with (fail)
            go_roundw
            case rel => exact ⟨t + 1, (t : Int), by omega, by go_num, rfl, HN.out.1, HM.out.1, HM.out.2⟩
            case measure => simp [intOf]; omega
          · have t3 : decide (mj < m) = false := decide_eq_false hmm
            have t4 : decide ((mj : Int) < (m : Int)) = false := decide_eq_false (by omega)
            have HN := Lib.hid (And.intro (BestI.no HV.out.2.2.2.1 HV.out.1 (fun h => hmm (by have := h.2 _ hp0; rw [hmany] at this; exact this))) (And.intro hS6 hN6))
            clear hp0 hS6 hN6 hb6 hmany hcc hxj hmj hyj hyjx hyc2 hcj hus2 hA' hpgj
            go_wp2_with (go_at_call 80; fail)
            refine HU2.out.mono ?_
            rintro _ W7 ⟨rfl, hb7⟩
            obtain ⟨hS7, hN7⟩ := HN.out.2.1.same hb7
            have HM := Lib.hid (And.intro hS7 (HN.out.2.2.trans hN7))
            clear hS7 hN7 hb7
            go_wp2_with (fail)
            go_roundw
            case rel => exact ⟨t + 1, (j : Int), by omega, by go_num, rfl, HN.out.1, HM.out.1, HM.out.2⟩
            case measure => simp [intOf]; omega
      · have t1 : decide (m < cp) = false := decide_eq_false hmc
        have t2 : decide ((m : Int) < (cp : Int)) = false := decide_eq_false (by omega)
        have HN := Lib.hid (And.intro (BestI.no HV.out.2.2.2.1 HV.out.1 (fun h => hmc (by have := h.1; rw [hmany, hcc] at this; exact this))) (And.intro hS6 hN6))
        clear hS6 hN6 hb6 hmany hcc
        go_wp2_with (fail)
        go_roundw
        case rel => exact ⟨t + 1, b, by omega, by go_num, rfl, HN.out.1, HN.out.2.1, HN.out.2.2⟩
        case measure => simp [intOf]; omega
    · obtain rfl : t = n := by omega
      have e1 : ¬ ((t : Nat) : Int) < (t : Int) := by omega
      rw [HX.out.2.2.2.1] at hB
      unfold BestI at hB
      rw [List.take_length] at hB
      rcases hB with ⟨_, rfl⟩ | ⟨j', m', h1, _⟩
      rotate_left
      · rw [HPK.out.1] at h1; cases h1
      · obtain ⟨W0, rfl⟩ : ∃ W0 : World, W0 = wr := ⟨_, rfl⟩
        obtain ⟨csB, TB, hBc, hBc0, hBc1⟩ := hS.cell
        have hBl := lt_of_heap hBc
        have hrl := lt_of_heap hc
        obtain ⟨c0, _⟩ := five_cells hc
        have hB0 : W0.cell? ⟨B, ob, none⟩ = some (.int .i64 (N : Int)) := by rw [cell_of_row _ _ _ _ _ _ hBc]; exact hBc0
        have hB1 : W0.cell? ⟨B, ob + 1, none⟩ = some (.slice A L.length cG) := by rw [cell_of_row _ _ _ _ _ _ hBc]; exact hBc1
        have hBf : W0.frozen? ⟨B, ob, none⟩ = false ∧ W0.frozen? ⟨B, ob + 1, none⟩ = false := ⟨by simp [World.frozen?, hBc], by simp [World.frozen?, hBc]⟩
        have hBo := hS.ownB
        have hBr : B ≠ r := fun e => by rw [e, hS.ref.ownR] at hBo; cases hBo
        have hst := HX.out.2.2.1.st
        have hL : L.length ≤ 2048 := by have := st_len hst; omega
        obtain ⟨ln, hln⟩ : ∃ ln, ln = L.length := ⟨_, rfl⟩
        rw [← hln] at hB1
        have hA := hS.blk
        have hDD : ∀ V, Below W0.heap.size W0 V → Calls Try.prog 81 #[sv N A ln cG, .int .i64 (o : Int)] V fun e w' => e = .returned (.tuple #[sv N A ln cG, .int .i64 0, .int .i64 5]) ∧ Below W0.heap.size W0 w' ∧ V.heap.size ≤ w'.heap.size ∧ (∀ z, z < V.heap.size → w'.heap[z]? = V.heap[z]?) := by
          intro V hV
          rw [hln]
          refine (allocR_ok V N A cG L o (by omega) (hA.below hV) hst).mono ?_
          rintro e w' ⟨hr, hb⟩
          unfold GiveR at hr
          rw [HPK.out.2] at hr
          exact ⟨hr, below_step hV hb (Nat.le_refl _), hb.size, hb.block⟩
        have hS0 : AvS W0 r B ob N ln cG o A W0 := ⟨Below.refl _ _, c0, hB0, hB1, c2⟩
        have hSV := fun V (hV : Below W0.heap.size W0 V) => AvS.of hS0 hrl hBl hV
        have HD := Lib.hid hDD
        have HR := Lib.hid (And.intro hS (And.intro hN (And.intro hst (And.intro hL hrow1))))
        clear hS hN hst hL hDD hA hc hBc hBc0 hBc1 hBo hrow1 hln
        go_upto_region 10 with (fail)
        go_cut [10] from 66 to 81 (fun v wx => v = .int .i64 5 ∧ Below W0.heap.size W0 wx)
        case first =>
          go_region_held3 (fun w' => Below W0.heap.size W0 w' ∧ w'.cell? ⟨r, 0, none⟩ = some (.pointer (some ⟨B, ob, none⟩)) ∧ w'.cell? ⟨B, ob, none⟩ = some (.int .i64 (N : Int)) ∧ w'.cell? ⟨B, ob + 1, none⟩ = some (.slice A ln cG) ∧ w'.cell? ⟨r, 2, none⟩ = some (.int .i64 (o : Int)))
            (first | exact hSV _ (below_drew W0 1) | exact hSV _ ((below_box W0 _).drew) | exact hSV _ hb5 | exact hSV _ (hb5.alloc hs5 _) | exact hSV _ ((hb5.setCell (p := ⟨W0.heap.size, 0, none⟩) (Nat.le_refl _) _).setCell (p := ⟨W0.heap.size, 1, none⟩) (Nat.le_refl _) _) | (trace_state; fail))
            (first | (go_at_call 81; refine (HD.out _ (And.left (by assumption))).mono ?_; rintro _ W5 ⟨rfl, hb5, hv5, hk5⟩; have hs5 : W0.heap.size ≤ W5.heap.size := hb5.size; (try (have hz5 : W5.heap[W0.heap.size]? = some (.cells #[.int .i64 0, .slice none 0 0] 46 (0, 0)) := (hk5 W0.heap.size (by show W0.heap.size < (W0.alloc _).heap.size; simp)).trans (blk_new W0 _ _ _); obtain ⟨z0, z1, zf0, zf1⟩ := Bu.two_cells hz5; clear hz5)); have H5 := Lib.hid (And.intro hv5 hk5); clear hv5 hk5))
          all_goals
            go_wp2_with (fail)
            go_meet
          · exact ⟨rfl, hb5.alloc hs5 _⟩
          · exact ⟨rfl, (hb5.setCell (p := ⟨W0.heap.size, 0, none⟩) (Nat.le_refl _) _).setCell (p := ⟨W0.heap.size, 1, none⟩) (Nat.le_refl _) _⟩
        case rest =>
          obtain ⟨rfl, hbw⟩ := hcut
          have HB := Lib.hid hbw
          clear hbw
          go_wp2_with (fail)
          go_ret2
          have hal : allocC ⟨s, o, kp, l⟩ N L = none := by
            unfold allocC
            rw [show (⟨s, o, kp, l⟩ : Ca).sl = l from rfl, show (⟨s, o, kp, l⟩ : Ca).order = o from rfl, HPK.out.1]
            dsimp only
            rw [HPK.out.2]
          rw [hal]
          obtain ⟨g1, g2⟩ := HR.out.1.same HB.out
          exact ⟨rfl, own, q, A, cG, HX.out.2.1, g1, HR.out.2.1.trans g2⟩

set_option maxRecDepth 100000 in
set_option maxHeartbeats 16000000 in
theorem allocR_new (w : World) (own : Own?) (r B ob : Nat) (s o kp N : Nat) (L : List Blk) (q : List RS) (A : Option Addr) (cG : Nat) (hq0 : RefS w own r B ob s o kp N q A cG L) (l : List Slb) (hq : q.map (·.1) = l) (H : CaOk ⟨s, o, kp, l⟩ N L) (pg : Nat) (D : List Blk) (hpick : pickS 0 none l = none) (hgot : allocB N L o = some (pg, D)) :
    Calls Try.prog 54 #[.pointer (some ⟨r, 0, none⟩)] w fun e w' => AllocQ w own r B ob s o kp N A L l (allocC ⟨s, o, kp, l⟩ N L) e w' := by
  have hlen : l.length ≤ 1024 := ok_len H
  have hsz : 8 ≤ s := H.sz.1
  have hs10 : s ≤ 1024 := H.sz.2.1
  have hod : o ≤ 4 := H.od
  obtain ⟨n, hn⟩ : ∃ n, n = l.length := ⟨_, rfl⟩
  have hqn : q.length = n := by rw [hn, ← hq, List.length_map]
  obtain ⟨cp, hcp⟩ : ∃ cp, cp = capa s o := ⟨_, rfl⟩
  have hcp1 : 1 ≤ cp ∧ cp ≤ 128 := by have := capa_pos H; rw [hcp]; exact ⟨this.1, this.2.1⟩
  obtain ⟨A0, cap0, hc, hrow0, _⟩ := hq0.ref.cell
  have hcap0 := hrow0.len
  have hcapm := hrow0.cap
  unfold maxLen at hcapm
  obtain ⟨_, c1, c2, _, c4, _⟩ := five_cells hc
  rw [hqn] at c4 hcap0
  rw [← hn] at hlen
  have HC := Lib.hid (fun V => capacityR_ok V s o hsz hod)
  rw [← hcp] at HC
  have HX := Lib.hid (And.intro hq0 (And.intro hq (And.intro H (And.intro hn (And.intro hqn hcp)))))
  have HPK := Lib.hid (And.intro hpick hgot)
  clear hpick hgot
  clear hq0 hq H hn hqn hcp hc hrow0
  go_enter Try.func54, Try.ntmps54
  go_wp2_with (fail)
  go_quiet ((go_at_call 64; exact Calls.quiet_of_same ((HC.out _).mono fun e w' h => ⟨h.1, h.2.symm⟩)))
  go_wp2_with (fail)
  go_loopw [5, 6] (fun bv iv wr => ∃ (t : Nat) (b : Int), t ≤ n ∧ iv = .int .i64 (t : Int) ∧ bv = .int .i64 b ∧ BestI l t b ∧ RefS wr own r B ob s o kp N q A cG L ∧ RefN own own B ob A L w wr A cG L) (fun _ iv _ => n - (intOf iv).toNat)
  case atStart =>
    have hb0 := fun m => HX.out.1.same (below_drew w m)
    exact ⟨0, -1, Nat.zero_le _, rfl, rfl, BestI.zero l, (hb0 _).1, (hb0 _).2⟩
  case round =>
    clear c1 c2 c4
    obtain ⟨t, b, ht, rfl, rfl, hB, hS, hN⟩ := hrel
    have e0 : (0 : Int) ≤ (t : Int) := by omega
    obtain ⟨A1, cap1, hc, hrow1, _⟩ := hS.ref.cell
    have hcap1 := hrow1.len
    have hcapm1 := hrow1.cap
    unfold maxLen at hcapm1
    obtain ⟨_, c1, c2, _, c4, _⟩ := five_cells hc
    rw [HX.out.2.2.2.2.1] at c4 hcap1
    by_cases hlt : t < n
    · have e1 : (t : Int) < (n : Int) := by omega
      have hkk : IntKind.i64.wrap ((t : Int) + 1) = ((t + 1 : Nat) : Int) := by rw [IntWalk.i64_in _ (by omega)]; rfl
      obtain ⟨y, hy⟩ : ∃ y, q[t]? = some y := ⟨_, List.getElem?_eq_getElem (by have := HX.out.2.2.2.2.1; omega)⟩
      have hyl : l[t]? = some y.1 := by rw [← HX.out.2.1, List.getElem?_map, hy]; rfl
      obtain ⟨g, oo, rfl, hg, b0, b1⟩ := hrow1.at_ t y hy
      have hus := usedR_ok wr (y.1.pg : Int) (some ⟨y.2.1, 0, none⟩) y.2.2 y.1.us (bool_row (hS.ref.used t y hy).2)
      have hyc : y.1.us.length = cp := by rw [HX.out.2.2.2.2.2]; exact HX.out.2.2.1.len y.1 (List.mem_of_getElem? hyl)
      obtain ⟨m, hm⟩ : ∃ m, m = y.1.us.count true := ⟨_, rfl⟩
      obtain ⟨pg, hpg⟩ : ∃ pg, pg = y.1.pg := ⟨_, rfl⟩
      rw [hyc] at b1 hus
      rw [← hpg] at b0 hus
      rw [← hm] at hus
      have hrl := lt_of_heap hc
      have HU := Lib.hid hus
      have HV := Lib.hid (And.intro hB (And.intro hS (And.intro hN (And.intro hyl (And.intro hm (And.intro hyc hrow1))))))
      clear hB hS hN hyl hm hy hus hc hpg hyc hrow1
      go_wp2_with (go_at_call 80; fail)
      refine HU.out.mono ?_
      rintro _ W6 ⟨rfl, hb6⟩
      obtain ⟨hS6, hN6⟩ := HV.out.2.1.same hb6
      have hN6 := HV.out.2.2.1.trans hN6
      have hmany : y.1.many = m := HV.out.2.2.2.2.1.symm
      have hcc := HV.out.2.2.2.2.2.1
      replace c4 := cell_keep2 hb6 c4
      by_cases hmc : m < cp
      · have t1 : decide (m < cp) = true := decide_eq_true hmc
        have t2 : decide ((m : Int) < (cp : Int)) = true := decide_eq_true (by omega)
        rcases HV.out.1 with ⟨hp0, rfl⟩ | ⟨j, mj, hp0, rfl⟩
        · have HN := Lib.hid (And.intro (BestI.yes HV.out.2.2.2.1 (by rw [hmany, hcc]; exact hmc) HV.out.1 (fun j m h => by rw [hp0] at h; cases h)) (And.intro hS6 hN6))
          clear hp0 hS6 hN6 hb6 hmany hcc
          go_wp2_with (fail)
          go_roundw
          case rel => exact ⟨t + 1, (t : Int), by omega, by go_num, rfl, HN.out.1, HN.out.2.1, HN.out.2.2⟩
          case measure => simp [intOf]; omega
        · obtain ⟨xj, hxj, hmj, hjl, hjt⟩ := pickS_some (by rw [← HX.out.2.2.2.1]; omega) hp0
          obtain ⟨yj, hyj, hyjx⟩ := map_at HX.out.2.1 hxj
          obtain ⟨g', oo', hA', _, b2, b3⟩ := HV.out.2.2.2.2.2.2.at_ j yj hyj
          obtain ⟨rfl, rfl⟩ : g = g' ∧ oo = oo' := by injection hA' with h1; injection h1 with h2 h3; exact ⟨h2, h3⟩
          replace b2 := cell_keep2 hb6 b2
          replace b3 := cell_keep2 hb6 b3
          have hus2 := usedR_ok W6 (yj.1.pg : Int) (some ⟨yj.2.1, 0, none⟩) yj.2.2 yj.1.us (bool_row (hS6.ref.used j yj hyj).2)
          have hyc2 : yj.1.us.length = cp := by rw [hyjx, HX.out.2.2.2.2.2]; exact HX.out.2.2.1.len xj (List.mem_of_getElem? hxj)
          have hcj : yj.1.us.count true = mj := by rw [hyjx]; exact hmj
          rw [hyc2, hcj] at hus2
          rw [hyc2] at b3
          obtain ⟨pgj, hpgj⟩ : ∃ pgj, pgj = yj.1.pg := ⟨_, rfl⟩
          rw [← hpgj] at b2 hus2
          have HU2 := Lib.hid hus2
          have f0 : (0 : Int) ≤ (j : Int) := by omega
          have f1 : (j : Int) < (n : Int) := by omega
          have f2 : decide ((j : Int) < 0) = false := decide_eq_false (by omega)
          by_cases hmm : mj < m
          · have t3 : decide (mj < m) = true := decide_eq_true hmm
            have t4 : decide ((mj : Int) < (m : Int)) = true := decide_eq_true (by omega)
            have HN := Lib.hid (And.intro (BestI.yes HV.out.2.2.2.1 (by rw [hmany, hcc]; exact hmc) HV.out.1 (fun j' m' h => by rw [hp0] at h; injection h with h; injection h with h1 h2; omega)) (And.intro hS6 hN6))
            clear hp0 hS6 hN6 hb6 hmany hcc hxj hmj hyj hyjx hyc2 hcj hus2 hA' hpgj
            go_wp2_with (go_at_call 80; fail)
            refine HU2.out.mono ?_
            rintro _ W7 ⟨rfl, hb7⟩
            obtain ⟨hS7, hN7⟩ := HN.out.2.1.same hb7
            have HM := Lib.hid (And.intro hS7 (HN.out.2.2.trans hN7))
            clear hS7 hN7 hb7
            go_wp2_with (fail)
            go_roundw
            case rel => exact ⟨t + 1, (t : Int), by omega, by go_num, rfl, HN.out.1, HM.out.1, HM.out.2⟩
            case measure => simp [intOf]; omega
          · have t3 : decide (mj < m) = false := decide_eq_false hmm
            have t4 : decide ((mj : Int) < (m : Int)) = false := decide_eq_false (by omega)
            have HN := Lib.hid (And.intro (BestI.no HV.out.2.2.2.1 HV.out.1 (fun h => hmm (by have := h.2 _ hp0; rw [hmany] at this; exact this))) (And.intro hS6 hN6))
            clear hp0 hS6 hN6 hb6 hmany hcc hxj hmj hyj hyjx hyc2 hcj hus2 hA' hpgj
            go_wp2_with (go_at_call 80; fail)
            refine HU2.out.mono ?_
            rintro _ W7 ⟨rfl, hb7⟩
            obtain ⟨hS7, hN7⟩ := HN.out.2.1.same hb7
            have HM := Lib.hid (And.intro hS7 (HN.out.2.2.trans hN7))
            clear hS7 hN7 hb7
            go_wp2_with (fail)
            go_roundw
            case rel => exact ⟨t + 1, (j : Int), by omega, by go_num, rfl, HN.out.1, HM.out.1, HM.out.2⟩
            case measure => simp [intOf]; omega
      · have t1 : decide (m < cp) = false := decide_eq_false hmc
        have t2 : decide ((m : Int) < (cp : Int)) = false := decide_eq_false (by omega)
        have HN := Lib.hid (And.intro (BestI.no HV.out.2.2.2.1 HV.out.1 (fun h => hmc (by have := h.1; rw [hmany, hcc] at this; exact this))) (And.intro hS6 hN6))
        clear hS6 hN6 hb6 hmany hcc
        go_wp2_with (fail)
        go_roundw
        case rel => exact ⟨t + 1, b, by omega, by go_num, rfl, HN.out.1, HN.out.2.1, HN.out.2.2⟩
        case measure => simp [intOf]; omega
    · obtain rfl : t = n := by omega
      have e1 : ¬ ((t : Nat) : Int) < (t : Int) := by omega
      rw [HX.out.2.2.2.1] at hB
      unfold BestI at hB
      rw [List.take_length] at hB
      rcases hB with ⟨_, rfl⟩ | ⟨j', m', h1, _⟩
      rotate_left
      · rw [HPK.out.1] at h1; cases h1
      · obtain ⟨W0, rfl⟩ : ∃ W0 : World, W0 = wr := ⟨_, rfl⟩
        obtain ⟨csB, TB, hBc, hBc0, hBc1⟩ := hS.cell
        have hBl := lt_of_heap hBc
        have hrl := lt_of_heap hc
        obtain ⟨c0, _⟩ := five_cells hc
        have hB0 : W0.cell? ⟨B, ob, none⟩ = some (.int .i64 (N : Int)) := by rw [cell_of_row _ _ _ _ _ _ hBc]; exact hBc0
        have hB1 : W0.cell? ⟨B, ob + 1, none⟩ = some (.slice A L.length cG) := by rw [cell_of_row _ _ _ _ _ _ hBc]; exact hBc1
        have hBf : W0.frozen? ⟨B, ob, none⟩ = false ∧ W0.frozen? ⟨B, ob + 1, none⟩ = false := ⟨by simp [World.frozen?, hBc], by simp [World.frozen?, hBc]⟩
        have hBo := hS.ownB
        have hBr : B ≠ r := fun e => by rw [e, hS.ref.ownR] at hBo; cases hBo
        have hst := HX.out.2.2.1.st
        have hL : L.length ≤ 2048 := by have := st_len hst; omega
        obtain ⟨ln, hln⟩ : ∃ ln, ln = L.length := ⟨_, rfl⟩
        rw [← hln] at hB1
        have hA := hS.blk
        have hDD : ∀ V, Below W0.heap.size W0 V → Calls Try.prog 81 #[sv N A ln cG, .int .i64 (o : Int)] V fun e w' => (∃ A' c', e = .returned (.tuple #[sv N A' D.length c', .int .i64 (pg : Int), .int .i64 0]) ∧ Bu.Own w' V.heap.size A' c' D) ∧ Below W0.heap.size W0 w' ∧ V.heap.size ≤ w'.heap.size ∧ (∀ z, z < V.heap.size → w'.heap[z]? = V.heap[z]?) := by
          intro V hV
          rw [hln]
          refine (allocR_ok V N A cG L o (by omega) (hA.below hV) hst).mono ?_
          rintro e w' ⟨hr, hb⟩
          unfold GiveR at hr
          rw [HPK.out.2] at hr
          exact ⟨hr, below_step hV hb (Nat.le_refl _), hb.size, hb.block⟩
        have hS0 : AvS W0 r B ob N ln cG o A W0 := ⟨Below.refl _ _, c0, hB0, hB1, c2⟩
        have hSV := fun V (hV : Below W0.heap.size W0 V) => AvS.of hS0 hrl hBl hV
        have HD := Lib.hid hDD
        have HR := Lib.hid (And.intro hS (And.intro hN (And.intro hst (And.intro hL hrow1))))
        clear hS hN hst hL hDD hA hc hBc hBc0 hBc1 hBo hrow1 hln
        go_upto_region 10 with (fail)
        go_cut [8, 9, 10] from 66 to 81 (fun v v9 v10 wx => v9 = .int .i64 (pg : Int) ∧ v10 = .int .i64 0 ∧ ∃ (z : Nat) (A5 : Option Addr) (c5 : Nat), v = .pointer (some ⟨z, 0, none⟩) ∧ wx.heap[z]? = some (.cells #[.int .i64 (N : Int), .slice A5 D.length c5] 46 (0, 0)) ∧ W0.heap.size ≤ z ∧ Bu.Own wx W0.heap.size A5 c5 D ∧ Below W0.heap.size W0 wx)
        case first =>
          go_region_held3 (fun w' => Below W0.heap.size W0 w' ∧ w'.cell? ⟨r, 0, none⟩ = some (.pointer (some ⟨B, ob, none⟩)) ∧ w'.cell? ⟨B, ob, none⟩ = some (.int .i64 (N : Int)) ∧ w'.cell? ⟨B, ob + 1, none⟩ = some (.slice A ln cG) ∧ w'.cell? ⟨r, 2, none⟩ = some (.int .i64 (o : Int)))
            (first | exact hSV _ (below_drew W0 1) | exact hSV _ ((below_box W0 _).drew) | exact hSV _ hb5 | exact hSV _ (hb5.alloc hs5 _) | exact hSV _ ((hb5.setCell (p := ⟨W0.heap.size, 0, none⟩) (Nat.le_refl _) _).setCell (p := ⟨W0.heap.size, 1, none⟩) (Nat.le_refl _) _) | (trace_state; fail))
            (first | (go_at_call 81; refine (HD.out _ (And.left (by assumption))).mono ?_; rintro _ W5 ⟨⟨A5, c5, rfl, ho5⟩, hb5, hv5, hk5⟩; have hs5 : W0.heap.size ≤ W5.heap.size := hb5.size; (try (have hz5 : W5.heap[W0.heap.size]? = some (.cells #[.int .i64 0, .slice none 0 0] 46 (0, 0)) := (hk5 W0.heap.size (by show W0.heap.size < (W0.alloc _).heap.size; simp)).trans (blk_new W0 _ _ _); obtain ⟨z0, z1, zf0, zf1⟩ := Bu.two_cells hz5; have HZ5 := Lib.hid hz5; clear hz5)); have H5 := Lib.hid (And.intro ho5 (And.intro hv5 hk5)); clear ho5 hv5 hk5))
          all_goals
            go_wp2_with (fail)
            go_meet
          · exact ⟨rfl, rfl, W5.heap.size, A5, c5, rfl, by rw [heapAlloc, if_pos rfl], hs5, H5.out.1.alloc _, hb5.alloc hs5 _⟩
          · have hVs : ((W0.alloc (.cells #[.int .i64 0, .slice none 0 0] 46)).drew).heap.size = W0.heap.size + 1 := by show (W0.alloc _).heap.size = _; simp
            have ho := H5.out.1
            rw [hVs] at ho
            refine ⟨rfl, rfl, W0.heap.size, A5, c5, rfl, two_set HZ5.out _ _, Nat.le_refl _, row_low (row_keep ho fun z h1 h2 => (setCell_far _ _ _ _ (by show z ≠ W0.heap.size; omega)).trans (setCell_far _ _ _ _ (by show z ≠ W0.heap.size; omega))) (Nat.le_succ _), (hb5.setCell (p := ⟨W0.heap.size, 0, none⟩) (Nat.le_refl _) _).setCell (p := ⟨W0.heap.size, 1, none⟩) (Nat.le_refl _) _⟩
        case rest =>
          obtain ⟨rfl, rfl, z, A5, c5, rfl, hz, hzw, ho5, hbw⟩ := hcut
          obtain ⟨W1, rfl⟩ : ∃ W1 : World, W1 = wc := ⟨_, rfl⟩
          obtain ⟨_, p0, p1, p2, p3⟩ := hSV _ hbw
          obtain ⟨z0, z1, _, _⟩ := Bu.two_cells hz
          have bf0 := (hbw.frozen (p := ⟨B, ob, none⟩) hBl).trans hBf.1
          have bf1 := (hbw.frozen (p := ⟨B, ob + 1, none⟩) hBl).trans hBf.2
          have H5 := Lib.hid (And.intro hz (And.intro hzw (And.intro ho5 hbw)))
          clear hz hzw ho5 hbw hSV hS0 c0 hB0 hB1 c4 c1 c2 hBf
          go_upto_region 13 with (fail)
          go_cut [] from 85 to 90 (fun wx => wx = ((World.drew W1).setCell ⟨B, ob, none⟩ (.int .i64 (N : Int))).setCell ⟨B, ob + 1, none⟩ (.slice A5 D.length c5))
          case first =>
            go_region
            all_goals
              go_wp2_with (fail)
              go_meet
              exact rfl
          case rest =>
            obtain ⟨W2, hW2e⟩ : ∃ W2 : World, W2 = wc := ⟨_, rfl⟩
            rw [← hW2e] at hcut ⊢
            clear hW2e p0 p1 p2 p3 z0 z1 bf0 bf1
            obtain ⟨_, _, ho5, hbw⟩ := H5.out
            have hs1 := hbw.size
            have hs2 : W2.heap.size = W1.heap.size := by rw [hcut, setCell_size, setCell_size]; rfl
            have hf2 : ∀ z, z ≠ B → W2.heap[z]? = W1.heap[z]? := fun z hz => by rw [hcut]; exact (setCell_far _ _ _ _ hz).trans (setCell_far _ _ _ _ hz)
            obtain ⟨A1, cap1, hc, hrow1, hgA⟩ := HR.out.1.ref.cell
            rw [HX.out.2.2.2.2.1] at hc
            have hcr := (hf2 r hBr.symm).trans ((hbw.block r hrl).trans hc)
            obtain ⟨_, _, _, _, q4, qf4⟩ := five_cells hcr
            have hcap1 := hrow1.len
            have hcapm := hrow1.cap
            unfold maxLen at hcapm
            rw [HX.out.2.2.2.2.1] at hcap1
            have hrow2 : RowAt W2 A1 cap1 q := hrow1.keep (by omega) fun g' hg' hl => (hf2 g' (fun e => by have := (hgA g' hg').1; rw [e, HR.out.1.ownB] at this; cases this)).trans (hbw.block g' hl)
            have hrl2 : r < W2.heap.size := by omega
            have hp := fun (i : Nat) (x : Slb) (hx : l[i]? = some x) => posS_iff HX.out.2.2.1.asc i x (p := pg) hx
            obtain ⟨ps, hps⟩ : ∃ ps, ps = posS l pg := ⟨_, rfl⟩
            have hpn : ps ≤ t := by rw [hps, HX.out.2.2.2.1]; exact posS_le l pg
            have HP := Lib.hid (And.intro hp (And.intro hps (And.intro hcut (And.intro hrow2 hf2))))
            clear hp hps hcut hrow2 hf2 ho5 hbw hrow1 hgA hc hcr hs2 hs1
            go_upto_block 2 with (fail)
            go_cut [5] from 91 to 113 (fun v wx => v = .int .i64 (ps : Int) ∧ wx = W2)
            case first =>
              go_wp2_with (fail)
              go_loop [5] (fun iv => ∃ i : Nat, i ≤ ps ∧ iv = .int .i64 (i : Int)) (fun iv => ps - (intOf iv).toNat)
              case atStart => exact ⟨0, Nat.zero_le _, rfl⟩
              case round =>
                obtain ⟨i, hi, rfl⟩ := hrel
                have f0 : (0 : Int) ≤ (i : Int) := by omega
                by_cases hit : i < t
                · have f1 : (i : Int) < (t : Int) := by omega
                  have f2 : decide ((i : Int) < (t : Int)) = true := decide_eq_true f1
                  obtain ⟨y, hy⟩ : ∃ y, q[i]? = some y := ⟨_, List.getElem?_eq_getElem (by have := HX.out.2.2.2.2.1; omega)⟩
                  have hyl : l[i]? = some y.1 := by rw [← HX.out.2.1, List.getElem?_map, hy]; rfl
                  obtain ⟨g, oo, rfl, hg, b0, b1⟩ := HP.out.2.2.2.1.at_ i y hy
                  have hpi := HP.out.1 i y.1 hyl
                  rw [← HP.out.2.1] at hpi
                  obtain ⟨yp, hyp⟩ : ∃ yp, yp = y.1.pg := ⟨_, rfl⟩
                  rw [← hyp] at b0 hpi
                  have hii : IntKind.i64.wrap ((i : Int) + 1) = ((i + 1 : Nat) : Int) := by rw [IntWalk.i64_in _ (by omega)]; rfl
                  clear hy hyl hyp b1
                  by_cases hip : i < ps
                  · have f3 : decide ((yp : Int) < (pg : Int)) = true := decide_eq_true (by have := hpi.2 hip; omega)
                    have f4 : decide (yp < pg) = true := decide_eq_true (hpi.2 hip)
                    clear hpi
                    go_wp2_with (fail)
                    go_round
                    case rel => exact ⟨i + 1, by omega, by go_num⟩
                    case measure => simp [intOf]; omega
                  · have f3 : decide ((yp : Int) < (pg : Int)) = false := decide_eq_false (fun h => hip (hpi.1 (by omega)))
                    have f4 : decide (yp < pg) = false := decide_eq_false (fun h => hip (hpi.1 h))
                    obtain rfl : i = ps := by omega
                    clear hpi
                    go_wp2_with (fail)
                    go_meet
                    exact ⟨rfl, rfl⟩
                · have f1 : ¬ (i : Int) < (t : Int) := by omega
                  have f2 : decide ((i : Int) < (t : Int)) = false := decide_eq_false f1
                  obtain rfl : i = ps := by omega
                  go_wp2_with (fail)
                  go_meet
                  exact ⟨rfl, rfl⟩
            case rest =>
              obtain ⟨rfl, hwc⟩ := hcut
              rw [hwc]
              clear hwc
              have hcz := HP.out.2.2.2.1
              by_cases hc0 : cap1 = 0
              · obtain rfl : cap1 = 0 := hc0
                obtain rfl : t = 0 := by omega
                obtain rfl : ps = 0 := by omega
                have hq0 : q = [] := List.length_eq_zero_iff.1 HX.out.2.2.2.2.1
                have hrow9 : ∀ w8, Below W2.heap.size W2 w8 → RowAt w8 A1 (0 - 0) (q.drop 0) := fun w8 _ => by
                  rw [hq0]; exact ⟨Nat.le_refl _, Nat.zero_le _, fun _ => rfl, hcz.fm, fun j x hx => by simp at hx⟩
                have HZ0 := Lib.hid hcz
                clear hcz hq0
                obtain ⟨i0, z0, hi0, hz0, hz1, hz2, hz3⟩ := info_open slblock_info
                have hmk := fun w => make_bools w cp (by omega)
                obtain ⟨P, hP⟩ : ∃ P, P = q.take 0 := ⟨_, rfl⟩
                obtain ⟨R, hR⟩ : ∃ R, R = q.drop 0 := ⟨_, rfl⟩
                have hPl : P.length = 0 := by have := HX.out.2.2.2.2.1; rw [hP, List.length_take]; omega
                have hRl : R.length = 0 - 0 := by have := HX.out.2.2.2.2.1; rw [hR, List.length_drop]; omega
                have u0 : (0 : Int) ≤ (0 : Int) := by omega
                have u1 : (0 : Int) ≤ (0 : Int) := by omega
                have u2 : (0 : Int) ≤ (0 : Int) := by omega
                have u3 : (0 : Int) ≤ (0 : Int) := by omega
                have a4 : (W2.alloc (.cells #[] 90)).cell? ⟨r, 4, none⟩ = some (.slice A1 0 0) := (World.cell?_alloc_lt W2 _ _ hrl2).trans q4
                have hsrcP : RowAt W2 A1 0 P := by rw [hP]; exact HZ0.out.take 0
                have HPP := Lib.hid (And.intro hPl (And.intro hRl (And.intro hP (And.intro hR (And.intro hsrcP hrow9)))))
                have HQ4 := Lib.hid (And.intro q4 qf4)
                clear hPl hRl hP hR hsrcP qf4 hrow9
                go_upto_region 18 with (
                   (at_builtin; refine wpList_append_rowL rfl (.tmp 114) (.tmp 121) rfl W2.heap.size (some ⟨W2.heap.size, 0, none⟩) 0 0 [] rfl rfl (row_emptyR W2 _ (Nat.le_refl _)) A1 0 0 P HPP.out.1 rfl (HPP.out.2.2.2.2.1.keep (by simp) (fun z _ hz => alloc_old _ _ _ hz)) P 0 (List.nil_append _) HPP.out.1 (by omega) (by simp) ?_
                    intro A7 c7 w7 hrow7 hgr7
                    have hb7 : Below W2.heap.size W2 w7 := (below_box W2 _).grown hgr7 (by simp) (fun k hk => ((row_emptyR W2 W2.heap.size (Nat.le_refl _)).lt k hk).1)
                    have H7 := Lib.hid (And.intro hrow7 hb7)
                    clear hrow7 hgr7 hb7))
                have hs7 : W2.heap.size ≤ w7.heap.size := H7.out.2.size
                have hnews : ∀ (j : Nat) (u : Value), [Value.int .i64 (pg : Int), .slice (some ⟨w7.heap.size, 0, none⟩) cp cp][j]? = some u → ((w7.alloc (.cells (Array.replicate cp (.bool false)) 4)).alloc (.cells #[.int .i64 (pg : Int), .slice (some ⟨w7.heap.size, 0, none⟩) cp cp] 90)).cell? ((⟨w7.heap.size + 1, 0, none⟩ : Addr).add j) = some u := fun j u hu => by
                  have := two_new (w7.alloc (.cells (Array.replicate cp (.bool false)) 4)) (.int .i64 (pg : Int)) (.slice (some ⟨w7.heap.size, 0, none⟩) cp cp) 90 j u hu
                  rw [World.size_alloc] at this
                  exact this
                have HNW := Lib.hid hnews
                clear hnews
                go_upto_region 19 with (
                   (at_builtin; refine wpList_append_lies _ rfl (.tmp 123) (.tmp 128) _ rfl W2.heap.size 90 i0 z0 2 32 Try.underlying67 hi0 hz0 hz1 hz2 hz3 (by omega) (.slice A7 0 c7) 0 (rcells P) rfl (by have := H7.out.1; unfold OwnR at this; rw [HPP.out.1] at this; exact (this.alloc _).alloc _) ⟨w7.heap.size + 1, 0, none⟩ 1 1 [.int .i64 (pg : Int), .slice (some ⟨w7.heap.size, 0, none⟩) cp cp] rfl rfl HNW.out (by simp [Value.oneCell']) (by omega) (by unfold maxLen; omega) (by omega) (by rw [World.size_alloc, World.size_alloc]; omega) (w7.heap.size + 1 + 1) (by simp) ?_
                    intro g8 cap8 w8 hown8 hgrow8 hat8 hlt8
                    have H8 := Lib.hid (And.intro hown8 (And.intro hgrow8 (And.intro hat8 hlt8)))
                    clear hown8 hgrow8 hat8 hlt8))
                obtain ⟨y, hyE⟩ : ∃ y : RS, y = (⟨pg, List.replicate cp false⟩, w7.heap.size, cp) := ⟨_, rfl⟩
                obtain ⟨hown8, hgrow8, hat8, hlt8⟩ := H8.out
                have hs8 : w7.heap.size + 2 ≤ w8.heap.size := by have := hgrow8.size; simp only [World.size_alloc] at this; omega
                have hA7n : ∀ k, (Value.slice A7 0 c7).ownBlock = some k → W2.heap.size ≤ k ∧ k < w7.heap.size := fun k hk => by have := H7.out.1; unfold OwnR at this; rw [HPP.out.1] at this; exact this.lt k hk
                have hb8 : Below W2.heap.size W2 w8 := ((H7.out.2.alloc hs7 _).alloc (by rw [World.size_alloc]; omega) _).grown hgrow8 (by rw [World.size_alloc, World.size_alloc]; omega) (fun k hk => (hA7n k hk).1)
                have hrow8 : OwnR w8 W2.heap.size (some ⟨g8, 0, none⟩) cap8 (P ++ [y]) := by
                  unfold OwnR
                  rw [rcells_add, rcells_one', hyE, List.length_append, HPP.out.1]
                  dsimp only
                  rw [List.length_replicate]
                  exact hown8
                have hg8 : g8 ≠ w7.heap.size := fun e => by
                  rcases hat8 with h | h
                  · have := (hA7n g8 h).2; omega
                  · omega
                have hU8 : w8.heap[w7.heap.size]? = some (.cells (Array.replicate cp (.bool false)) 4 (0, 0)) :=
                  (hgrow8.block _ (by rw [World.size_alloc, World.size_alloc]; omega) (fun e => by have := (hA7n _ e.symm).2; omega)).trans ((alloc_old _ _ _ (by rw [World.size_alloc]; omega)).trans (bools_new w7 cp))
                have q48 : w8.cell? ⟨r, 4, none⟩ = some (.slice A1 0 0) := (hb8.cell (p := ⟨r, 4, none⟩) hrl2).trans q4
                have hl8 : (P ++ [y]).length = 0 + 1 := by rw [List.length_append, HPP.out.1]; rfl
                have HG8 := Lib.hid (And.intro hb8 (And.intro hrow8 (And.intro hg8 (And.intro hU8 (And.intro hyE hl8)))))
                clear hown8 hgrow8 hat8 hlt8 hA7n hb8 hrow8 hg8 hU8 hyE hl8 q4
                obtain ⟨Z, hZ⟩ : ∃ Z, (P ++ [y]) ++ R = Z := ⟨_, rfl⟩
                have hZl : Z.length = 0 + 1 := by
                  have e1 := HG8.out.2.2.2.2.2
                  have e2 := HPP.out.2.1
                  rw [← hZ, List.length_append]
                  omega
                have HZ := Lib.hid (And.intro hZ hZl)
                clear hZ hZl
                go_wp2_with (
                   (at_builtin; refine wpList_append_rowL rfl (.tmp 131) (.tmp 138) rfl W2.heap.size (some ⟨g8, 0, none⟩) (0 + 1) cap8 (P ++ [y]) HG8.out.2.2.2.2.2 rfl HG8.out.2.1 A1 (0 - 0) (0 - 0) R HPP.out.2.1 rfl (by rw [HPP.out.2.2.2.1]; exact HPP.out.2.2.2.2.2 w8 HG8.out.1) Z (0 + 1) HZ.out.1 HZ.out.2 (by omega) HG8.out.1.size ?_
                    intro A9 c9 w9 hrow9 hgr9
                    have hb9 : Below W2.heap.size W2 w9 := HG8.out.1.grown hgr9 HG8.out.1.size (fun k hk => (HG8.out.2.1.lt k hk).1)
                    have hU9 : w9.heap[w7.heap.size]? = some (.cells (Array.replicate cp (.bool false)) 4 (0, 0)) := (hgr9.block _ (by omega) (fun e => HG8.out.2.2.1 (by injection e with e; exact e.symm))).trans HG8.out.2.2.2.1
                    have q49 : w9.cell? ⟨r, 4, none⟩ = some (.slice A1 0 0) := (hb9.cell (p := ⟨r, 4, none⟩) hrl2).trans HQ4.out.1
                    have qf49 : w9.frozen? ⟨r, 4, none⟩ = false := (hb9.frozen (p := ⟨r, 4, none⟩) hrl2).trans HQ4.out.2
                    have H9 := Lib.hid (And.intro hrow9 (And.intro hb9 hU9))
                    clear hrow9 hgr9 hb9 hU9))
                obtain ⟨hrow9, hb9, hU9⟩ := H9.out
                obtain ⟨_, _, ho5, hbw⟩ := H5.out
                have hyE := HG8.out.2.2.2.2.1
                have hu9 : w9.ownsRow W2.heap.size 4 1 (.slice (some ⟨w7.heap.size, 0, none⟩) (List.replicate cp false).length cp) (List.replicate cp false).length (bcells (List.replicate cp false)) := by
                  rw [List.length_replicate]
                  refine ⟨by rw [bcells_len, List.length_replicate]; omega, .inr ⟨w7.heap.size, cp, Array.replicate cp (.bool false), rfl, hs7, hU9, Nat.le_refl _, by unfold maxLen; omega, by simp, ?_⟩⟩
                  unfold bcells
                  rw [List.map_replicate, Array.toList_replicate]
                  simp
                have hUA : A9.map (·.block) ≠ some w7.heap.size := fun e => by
                  rcases hrow9.2 with ⟨hv, _⟩ | ⟨g, cp9, cur, hv, _, hg, _⟩
                  · injection hv with hv; rw [hv] at e; cases e
                  · injection hv with hv
                    rw [hv] at e
                    have e : g = w7.heap.size := by injection e
                    rw [e, hU9] at hg
                    injection hg with hg; injection hg with _ hg; cases hg
                have hZm : ∀ x ∈ Z, x ∈ q ∨ x = ((⟨pg, List.replicate cp false⟩, w7.heap.size, cp) : RS) := fun x hx => by
                  rw [← HZ.out.1] at hx
                  rcases List.mem_append.1 hx with hx | hx
                  · rcases List.mem_append.1 hx with hx | hx
                    · rw [HPP.out.2.2.1] at hx; exact .inl (List.mem_of_mem_take hx)
                    · rw [List.mem_singleton] at hx; exact .inr (hx.trans hyE)
                  · rw [HPP.out.2.2.2.1] at hx; exact .inl (List.mem_of_mem_drop hx)
                obtain ⟨hS3, hN3⟩ := ins_done (n := ⟨pg, List.replicate cp false⟩) HR.out.1 hbw ho5 HP.out.2.2.1 hb9 hrow9 hu9 hUA hZm HZ.out.2
                have hN3 := HR.out.2.1.trans hN3
                obtain ⟨W3, hW3⟩ : ∃ W3, W3 = w9.setCell ⟨r, 4, none⟩ (.slice A9 (0 + 1) c9) := ⟨_, rfl⟩
                rw [← hW3] at hS3 hN3 ⊢
                obtain ⟨q3, hq3⟩ : ∃ q3, q3 = Z := ⟨_, rfl⟩
                have hj : (0 : Nat) = 0 := rfl
                rw [← hq3] at hS3
                have hy3 : q3[0]? = some y := by
                  rw [hq3, ← HZ.out.1, List.append_assoc, List.getElem?_append_right (by have := HPP.out.1; omega), HPP.out.1, Nat.sub_self]; rfl
                have hmap : q3.map (·.1) = insS l ⟨pg, List.replicate cp false⟩ := by
                  rw [insS_at (fresh_page HX.out.2.2.1 HPK.out.2), hq3, ← HZ.out.1, List.map_append, List.map_append, HPP.out.2.2.1, HPP.out.2.2.2.1, HP.out.2.1, hyE, ← HX.out.2.1, List.map_take, List.map_drop, List.append_assoc]; rfl
                have hd3 : q3.Pairwise fun a b => a.1.pg < b.1.pg := by
                  have := insS_asc (x := ⟨pg, List.replicate cp false⟩) HX.out.2.2.1.asc (fresh_page HX.out.2.2.1 HPK.out.2)
                  rw [show (⟨s, o, kp, l⟩ : Ca).sl = l from rfl, ← hmap, List.pairwise_map] at this
                  exact this
                have hm3 : y.1.many < y.1.us.length := by rw [hyE]; show (List.replicate cp false).count true < (List.replicate cp false).length; rw [List.length_replicate, List.count_replicate]; simp; omega
                have hpg3 : y.1.pg < 1024 := by
                  have := page_lt (ok_ins (us := true :: List.replicate (cp - 1) false) HX.out.2.2.1 HPK.out.2 (by rw [List.length_cons, List.length_replicate]; show _ = capa s o; rw [← HX.out.2.2.2.2.2]; omega) (by simp)) ⟨pg, true :: List.replicate (cp - 1) false⟩ (mem_insS.2 (.inl rfl))
                  rw [hyE]; exact this
                have hul3 : y.1.us.length ≤ 128 := by rw [hyE]; show (List.replicate cp false).length ≤ 128; rw [List.length_replicate]; exact hcp1.2
                have hq3l : q3.length ≤ 1100 := by rw [hq3, HZ.out.2]; omega
                have HY := Lib.hid (And.intro hyE (And.intro hmap (And.intro hj hW3)))
                clear hrow9 hb9 hU9 ho5 hbw hyE hu9 hUA hZm hmap q48 q49 qf49 a4 hq3 hj hW3 hmk
                obtain ⟨g3, oo3, cap3, hc3, hl31, hl32, hg3, d30, d31⟩ := ref_row hS3.ref hy3
                obtain ⟨_, _, _, _, c43, _⟩ := five_cells hc3
                have hj3 := (List.getElem?_eq_some_iff.1 hy3).1
                obtain ⟨hu1, hu2⟩ := hS3.ref.used 0 y hy3
                obtain ⟨hfl, hff⟩ := freeI_lt hm3
                obtain ⟨fi, hfi⟩ : ∃ fi, fi = freeI y.1.us := ⟨_, rfl⟩
                rw [← hfi] at hfl hff
                have hcells : ∀ (i : Nat) (v : Bool), y.1.us[i]? = some v → W3.cell? ⟨y.2.1, i, none⟩ = some (.bool v) := fun i v hv => row_cell hu2 (by rw [bcells_get, hv]; rfl)
                have dff := row_frozen hu2 fi
                obtain ⟨n3, hn3⟩ : ∃ n3, n3 = q3.length := ⟨_, rfl⟩
                obtain ⟨p3, hp3⟩ : ∃ p3, p3 = y.1.us.length := ⟨_, rfl⟩
                obtain ⟨U, hU⟩ : ∃ U, U = y.2.1 := ⟨_, rfl⟩
                unfold maxLen at hl32
                rw [← hn3] at c43 hl31 hj3 hq3l
                rw [← hp3] at d31 hfl hul3
                rw [← hU] at d31 hcells dff
                simp only [Nat.zero_mul, Nat.add_zero] at d31
                have hset := ref_set hS3 hd3 hy3 (i := fi) (by rw [← hp3]; exact hfl) true
                rw [← hU] at hset
                have hadr := addressR_ok (W3.setCell ⟨U, fi, none⟩ (.bool true)) _ r ⟨B, ob, none⟩ s o kp _ hset.1.ref 0 fi _ (by rw [List.getElem?_set, if_pos rfl, if_pos (List.getElem?_eq_some_iff.1 hy3).1]) (by show y.1.pg ≤ 1024; omega) (by omega) hs10
                have e30 : (0 : Int) ≤ (0 : Int) := by omega
                have e31 : (0 : Int) < (n3 : Int) := by omega
                have HA := Lib.hid hadr
                have H3 := Lib.hid (And.intro hN3 (And.intro hset (And.intro hcells (And.intro hff hfi))))
                clear hS3 hN3 hd3 hy3 hm3 hset hcells hff hfi hadr hc3 d30 hu1 hu2 hn3 hp3 hU
                skip
                go_loop [12] (fun iv => ∃ i : Nat, i ≤ fi ∧ iv = .int .i64 (i : Int)) (fun iv => fi - (intOf iv).toNat)
                case atStart => exact ⟨0, Nat.zero_le _, rfl⟩
                case round =>
                  obtain ⟨i, hi, rfl⟩ := hrel
                  have f0 : (0 : Int) ≤ (i : Int) := by omega
                  have f1 : (i : Int) < (p3 : Int) := by omega
                  by_cases hif : i < fi
                  · have hii : IntKind.i64.wrap ((i : Int) + 1) = ((i + 1 : Nat) : Int) := by rw [IntWalk.i64_in _ (by omega)]; rfl
                    have du := H3.out.2.2.1 i true (freeI_before (by rw [← H3.out.2.2.2.2]; exact hif))
                    go_wp2_with (fail)
                    go_round
                    case rel => exact ⟨i + 1, by omega, by go_num⟩
                    case measure => simp [intOf]; omega
                  · obtain rfl : i = fi := by omega
                    have du := H3.out.2.2.1 i false H3.out.2.2.2.1
                    go_wp2_with (go_at_call 79; fail)
                    refine HA.out.mono ?_
                    rintro _ W5 ⟨rfl, m5, hW5⟩
                    have hb5 : Below (W3.setCell ⟨U, i, none⟩ (.bool true)).heap.size (W3.setCell ⟨U, i, none⟩ (.bool true)) W5 := by rw [hW5]; exact below_drew _ m5
                    obtain ⟨hS5, hN5⟩ := H3.out.2.1.1.same hb5
                    have H5 := Lib.hid (And.intro hS5 ((H3.out.1.trans H3.out.2.1.2).trans hN5))
                    clear hS5 hN5 hb5 hW5
                    go_wp2_with (fail)
                    go_ret2
                    have hfi := H3.out.2.2.2.2
                    obtain ⟨hyE, hmap, hj, _⟩ := HY.out
                    have hf0 : i = 0 := by rw [hfi, hyE]; exact freeI_rep cp
                    have hal : allocC ⟨s, o, kp, l⟩ N L = some (64 * pg, insS l ⟨pg, true :: List.replicate (cp - 1) false⟩, D) := by
                      unfold allocC
                      rw [show (⟨s, o, kp, l⟩ : Ca).sl = l from rfl, show (⟨s, o, kp, l⟩ : Ca).order = o from rfl, HPK.out.1]
                      dsimp only
                      rw [HPK.out.2]
                      dsimp only
                      rw [HX.out.2.2.2.2.2]
                    rw [hal]
                    refine ⟨?_, _, _, _, _, ?_, H5.out.1, H5.out.2⟩
                    · rw [hyE, hf0]
                      show Ending.returned (.tuple #[.int .i64 ((64 * pg + 0 * s : Nat) : Int), .int .i64 0]) = _
                      rw [Nat.zero_mul, Nat.add_zero]
                    · rw [hyE, hf0]
                      have hrep : (List.replicate cp false).set 0 true = true :: List.replicate (cp - 1) false := by
                        obtain ⟨c', hc'⟩ : ∃ c', cp = c' + 1 := ⟨cp - 1, by omega⟩
                        rw [hc', List.replicate_succ]; rfl
                      show List.map _ (q3.set 0 (⟨pg, (List.replicate cp false).set 0 true⟩, _)) = _
                      have hins := ins_set (fresh_page HX.out.2.2.1 HPK.out.2) (List.replicate cp false) (true :: List.replicate (cp - 1) false)
                      rw [show posS _ pg = 0 from HP.out.2.1.symm] at hins
                      rw [hrep, map_set1, hmap]
                      exact hins
              · obtain ⟨g, oo, rfl⟩ : ∃ g oo, A1 = some ⟨g, oo, none⟩ := by
                  cases hA : A1 with
                  | none => exact absurd (hcz.nc hA) hc0
                  | some ad => obtain ⟨g, oo, e⟩ := hcz.fm ad hA; exact ⟨g, oo, by rw [e]⟩
                by_cases hc1 : cap1 = ps
                · obtain rfl : cap1 = ps := hc1
                  obtain rfl : cap1 = t := by omega
                  have hq0 : q.drop cap1 = [] := List.drop_eq_nil_of_le (by rw [HX.out.2.2.2.2.1]; exact Nat.le_refl _)
                  have hrow9 : ∀ w8, Below W2.heap.size W2 w8 → RowAt w8 (some ⟨g, oo, none⟩) 0 (q.drop cap1) := fun w8 _ => by
                    rw [hq0]; exact ⟨Nat.zero_le _, by unfold maxLen; omega, (fun e => by cases e), hcz.fm, fun j x hx => by simp at hx⟩
                  have HZ0 := Lib.hid hcz
                  clear hcz hq0
                  obtain ⟨i0, z0, hi0, hz0, hz1, hz2, hz3⟩ := info_open slblock_info
                  have hmk := fun w => make_bools w cp (by omega)
                  obtain ⟨P, hP⟩ : ∃ P, P = q.take cap1 := ⟨_, rfl⟩
                  obtain ⟨R, hR⟩ : ∃ R, R = q.drop cap1 := ⟨_, rfl⟩
                  have hPl : P.length = cap1 := by have := HX.out.2.2.2.2.1; rw [hP, List.length_take]; omega
                  have hRl : R.length = 0 := by have := HX.out.2.2.2.2.1; rw [hR, List.length_drop]; omega
                  have u0 : (0 : Int) ≤ (cap1 : Int) := by omega
                  have u1 : (cap1 : Int) ≤ (cap1 : Int) := by omega
                  have u2 : (cap1 : Int) ≤ (cap1 : Int) := by omega
                  have u3 : (cap1 : Int) ≤ (cap1 : Int) := by omega
                  have a4 : (W2.alloc (.cells #[] 90)).cell? ⟨r, 4, none⟩ = some (.slice (some ⟨g, oo, none⟩) cap1 cap1) := (World.cell?_alloc_lt W2 _ _ hrl2).trans q4
                  have hsrcP : RowAt W2 (some ⟨g, oo, none⟩) cap1 P := by rw [hP]; exact HZ0.out.take cap1
                  have HPP := Lib.hid (And.intro hPl (And.intro hRl (And.intro hP (And.intro hR (And.intro hsrcP hrow9)))))
                  have HQ4 := Lib.hid (And.intro q4 qf4)
                  clear hPl hRl hP hR hsrcP qf4 hrow9
                  go_upto_region 18 with (
                     (at_builtin; refine wpList_append_rowL rfl (.tmp 114) (.tmp 121) rfl W2.heap.size (some ⟨W2.heap.size, 0, none⟩) 0 0 [] rfl rfl (row_emptyR W2 _ (Nat.le_refl _)) (some ⟨g, oo, none⟩) cap1 cap1 P HPP.out.1 rfl (HPP.out.2.2.2.2.1.keep (by simp) (fun z _ hz => alloc_old _ _ _ hz)) P cap1 (List.nil_append _) HPP.out.1 (by omega) (by simp) ?_
                      intro A7 c7 w7 hrow7 hgr7
                      have hb7 : Below W2.heap.size W2 w7 := (below_box W2 _).grown hgr7 (by simp) (fun k hk => ((row_emptyR W2 W2.heap.size (Nat.le_refl _)).lt k hk).1)
                      have H7 := Lib.hid (And.intro hrow7 hb7)
                      clear hrow7 hgr7 hb7))
                  have hs7 : W2.heap.size ≤ w7.heap.size := H7.out.2.size
                  have hnews : ∀ (j : Nat) (u : Value), [Value.int .i64 (pg : Int), .slice (some ⟨w7.heap.size, 0, none⟩) cp cp][j]? = some u → ((w7.alloc (.cells (Array.replicate cp (.bool false)) 4)).alloc (.cells #[.int .i64 (pg : Int), .slice (some ⟨w7.heap.size, 0, none⟩) cp cp] 90)).cell? ((⟨w7.heap.size + 1, 0, none⟩ : Addr).add j) = some u := fun j u hu => by
                    have := two_new (w7.alloc (.cells (Array.replicate cp (.bool false)) 4)) (.int .i64 (pg : Int)) (.slice (some ⟨w7.heap.size, 0, none⟩) cp cp) 90 j u hu
                    rw [World.size_alloc] at this
                    exact this
                  have HNW := Lib.hid hnews
                  clear hnews
                  go_upto_region 19 with (
                     (at_builtin; refine wpList_append_lies _ rfl (.tmp 123) (.tmp 128) _ rfl W2.heap.size 90 i0 z0 2 32 Try.underlying67 hi0 hz0 hz1 hz2 hz3 (by omega) (.slice A7 cap1 c7) cap1 (rcells P) rfl (by have := H7.out.1; unfold OwnR at this; rw [HPP.out.1] at this; exact (this.alloc _).alloc _) ⟨w7.heap.size + 1, 0, none⟩ 1 1 [.int .i64 (pg : Int), .slice (some ⟨w7.heap.size, 0, none⟩) cp cp] rfl rfl HNW.out (by simp [Value.oneCell']) (by omega) (by unfold maxLen; omega) (by omega) (by rw [World.size_alloc, World.size_alloc]; omega) (w7.heap.size + 1 + 1) (by simp) ?_
                      intro g8 cap8 w8 hown8 hgrow8 hat8 hlt8
                      have H8 := Lib.hid (And.intro hown8 (And.intro hgrow8 (And.intro hat8 hlt8)))
                      clear hown8 hgrow8 hat8 hlt8))
                  obtain ⟨y, hyE⟩ : ∃ y : RS, y = (⟨pg, List.replicate cp false⟩, w7.heap.size, cp) := ⟨_, rfl⟩
                  obtain ⟨hown8, hgrow8, hat8, hlt8⟩ := H8.out
                  have hs8 : w7.heap.size + 2 ≤ w8.heap.size := by have := hgrow8.size; simp only [World.size_alloc] at this; omega
                  have hA7n : ∀ k, (Value.slice A7 cap1 c7).ownBlock = some k → W2.heap.size ≤ k ∧ k < w7.heap.size := fun k hk => by have := H7.out.1; unfold OwnR at this; rw [HPP.out.1] at this; exact this.lt k hk
                  have hb8 : Below W2.heap.size W2 w8 := ((H7.out.2.alloc hs7 _).alloc (by rw [World.size_alloc]; omega) _).grown hgrow8 (by rw [World.size_alloc, World.size_alloc]; omega) (fun k hk => (hA7n k hk).1)
                  have hrow8 : OwnR w8 W2.heap.size (some ⟨g8, 0, none⟩) cap8 (P ++ [y]) := by
                    unfold OwnR
                    rw [rcells_add, rcells_one', hyE, List.length_append, HPP.out.1]
                    dsimp only
                    rw [List.length_replicate]
                    exact hown8
                  have hg8 : g8 ≠ w7.heap.size := fun e => by
                    rcases hat8 with h | h
                    · have := (hA7n g8 h).2; omega
                    · omega
                  have hU8 : w8.heap[w7.heap.size]? = some (.cells (Array.replicate cp (.bool false)) 4 (0, 0)) :=
                    (hgrow8.block _ (by rw [World.size_alloc, World.size_alloc]; omega) (fun e => by have := (hA7n _ e.symm).2; omega)).trans ((alloc_old _ _ _ (by rw [World.size_alloc]; omega)).trans (bools_new w7 cp))
                  have q48 : w8.cell? ⟨r, 4, none⟩ = some (.slice (some ⟨g, oo, none⟩) cap1 cap1) := (hb8.cell (p := ⟨r, 4, none⟩) hrl2).trans q4
                  have hl8 : (P ++ [y]).length = cap1 + 1 := by rw [List.length_append, HPP.out.1]; rfl
                  have HG8 := Lib.hid (And.intro hb8 (And.intro hrow8 (And.intro hg8 (And.intro hU8 (And.intro hyE hl8)))))
                  clear hown8 hgrow8 hat8 hlt8 hA7n hb8 hrow8 hg8 hU8 hyE hl8 q4
                  obtain ⟨Z, hZ⟩ : ∃ Z, (P ++ [y]) ++ R = Z := ⟨_, rfl⟩
                  have hZl : Z.length = cap1 + 1 := by
                    have e1 := HG8.out.2.2.2.2.2
                    have e2 := HPP.out.2.1
                    rw [← hZ, List.length_append]
                    omega
                  have HZ := Lib.hid (And.intro hZ hZl)
                  clear hZ hZl
                  go_wp2_with (
                     (at_builtin; refine wpList_append_rowL rfl (.tmp 131) (.tmp 138) rfl W2.heap.size (some ⟨g8, 0, none⟩) (cap1 + 1) cap8 (P ++ [y]) HG8.out.2.2.2.2.2 rfl HG8.out.2.1 (some ⟨g, oo, none⟩) 0 0 R HPP.out.2.1 rfl (by rw [HPP.out.2.2.2.1]; exact HPP.out.2.2.2.2.2 w8 HG8.out.1) Z (cap1 + 1) HZ.out.1 HZ.out.2 (by omega) HG8.out.1.size ?_
                      intro A9 c9 w9 hrow9 hgr9
                      have hb9 : Below W2.heap.size W2 w9 := HG8.out.1.grown hgr9 HG8.out.1.size (fun k hk => (HG8.out.2.1.lt k hk).1)
                      have hU9 : w9.heap[w7.heap.size]? = some (.cells (Array.replicate cp (.bool false)) 4 (0, 0)) := (hgr9.block _ (by omega) (fun e => HG8.out.2.2.1 (by injection e with e; exact e.symm))).trans HG8.out.2.2.2.1
                      have q49 : w9.cell? ⟨r, 4, none⟩ = some (.slice (some ⟨g, oo, none⟩) cap1 cap1) := (hb9.cell (p := ⟨r, 4, none⟩) hrl2).trans HQ4.out.1
                      have qf49 : w9.frozen? ⟨r, 4, none⟩ = false := (hb9.frozen (p := ⟨r, 4, none⟩) hrl2).trans HQ4.out.2
                      have H9 := Lib.hid (And.intro hrow9 (And.intro hb9 hU9))
                      clear hrow9 hgr9 hb9 hU9))
                  obtain ⟨hrow9, hb9, hU9⟩ := H9.out
                  obtain ⟨_, _, ho5, hbw⟩ := H5.out
                  have hyE := HG8.out.2.2.2.2.1
                  have hu9 : w9.ownsRow W2.heap.size 4 1 (.slice (some ⟨w7.heap.size, 0, none⟩) (List.replicate cp false).length cp) (List.replicate cp false).length (bcells (List.replicate cp false)) := by
                    rw [List.length_replicate]
                    refine ⟨by rw [bcells_len, List.length_replicate]; omega, .inr ⟨w7.heap.size, cp, Array.replicate cp (.bool false), rfl, hs7, hU9, Nat.le_refl _, by unfold maxLen; omega, by simp, ?_⟩⟩
                    unfold bcells
                    rw [List.map_replicate, Array.toList_replicate]
                    simp
                  have hUA : A9.map (·.block) ≠ some w7.heap.size := fun e => by
                    rcases hrow9.2 with ⟨hv, _⟩ | ⟨g, cp9, cur, hv, _, hg, _⟩
                    · injection hv with hv; rw [hv] at e; cases e
                    · injection hv with hv
                      rw [hv] at e
                      have e : g = w7.heap.size := by injection e
                      rw [e, hU9] at hg
                      injection hg with hg; injection hg with _ hg; cases hg
                  have hZm : ∀ x ∈ Z, x ∈ q ∨ x = ((⟨pg, List.replicate cp false⟩, w7.heap.size, cp) : RS) := fun x hx => by
                    rw [← HZ.out.1] at hx
                    rcases List.mem_append.1 hx with hx | hx
                    · rcases List.mem_append.1 hx with hx | hx
                      · rw [HPP.out.2.2.1] at hx; exact .inl (List.mem_of_mem_take hx)
                      · rw [List.mem_singleton] at hx; exact .inr (hx.trans hyE)
                    · rw [HPP.out.2.2.2.1] at hx; exact .inl (List.mem_of_mem_drop hx)
                  obtain ⟨hS3, hN3⟩ := ins_done (n := ⟨pg, List.replicate cp false⟩) HR.out.1 hbw ho5 HP.out.2.2.1 hb9 hrow9 hu9 hUA hZm HZ.out.2
                  have hN3 := HR.out.2.1.trans hN3
                  obtain ⟨W3, hW3⟩ : ∃ W3, W3 = w9.setCell ⟨r, 4, none⟩ (.slice A9 (cap1 + 1) c9) := ⟨_, rfl⟩
                  rw [← hW3] at hS3 hN3 ⊢
                  obtain ⟨q3, hq3⟩ : ∃ q3, q3 = Z := ⟨_, rfl⟩
                  obtain ⟨j, hj⟩ : ∃ j, j = cap1 := ⟨_, rfl⟩
                  rw [← hq3] at hS3
                  have hy3 : q3[j]? = some y := by
                    rw [hq3, ← HZ.out.1, hj, List.append_assoc, List.getElem?_append_right (by rw [HPP.out.1]; omega), HPP.out.1, Nat.sub_self]; rfl
                  have hmap : q3.map (·.1) = insS l ⟨pg, List.replicate cp false⟩ := by
                    rw [insS_at (fresh_page HX.out.2.2.1 HPK.out.2), hq3, ← HZ.out.1, List.map_append, List.map_append, HPP.out.2.2.1, HPP.out.2.2.2.1, HP.out.2.1, hyE, ← HX.out.2.1, List.map_take, List.map_drop, List.append_assoc]; rfl
                  have hd3 : q3.Pairwise fun a b => a.1.pg < b.1.pg := by
                    have := insS_asc (x := ⟨pg, List.replicate cp false⟩) HX.out.2.2.1.asc (fresh_page HX.out.2.2.1 HPK.out.2)
                    rw [show (⟨s, o, kp, l⟩ : Ca).sl = l from rfl, ← hmap, List.pairwise_map] at this
                    exact this
                  have hm3 : y.1.many < y.1.us.length := by rw [hyE]; show (List.replicate cp false).count true < (List.replicate cp false).length; rw [List.length_replicate, List.count_replicate]; simp; omega
                  have hpg3 : y.1.pg < 1024 := by
                    have := page_lt (ok_ins (us := true :: List.replicate (cp - 1) false) HX.out.2.2.1 HPK.out.2 (by rw [List.length_cons, List.length_replicate]; show _ = capa s o; rw [← HX.out.2.2.2.2.2]; omega) (by simp)) ⟨pg, true :: List.replicate (cp - 1) false⟩ (mem_insS.2 (.inl rfl))
                    rw [hyE]; exact this
                  have hul3 : y.1.us.length ≤ 128 := by rw [hyE]; show (List.replicate cp false).length ≤ 128; rw [List.length_replicate]; exact hcp1.2
                  have hq3l : q3.length ≤ 1100 := by rw [hq3, HZ.out.2]; omega
                  have HY := Lib.hid (And.intro hyE (And.intro hmap (And.intro hj hW3)))
                  rw [← hj]
                  clear hrow9 hb9 hU9 ho5 hbw hyE hu9 hUA hZm hmap q48 q49 qf49 a4 hq3 hj hW3 hmk
                  obtain ⟨g3, oo3, cap3, hc3, hl31, hl32, hg3, d30, d31⟩ := ref_row hS3.ref hy3
                  obtain ⟨_, _, _, _, c43, _⟩ := five_cells hc3
                  have hj3 := (List.getElem?_eq_some_iff.1 hy3).1
                  obtain ⟨hu1, hu2⟩ := hS3.ref.used j y hy3
                  obtain ⟨hfl, hff⟩ := freeI_lt hm3
                  obtain ⟨fi, hfi⟩ : ∃ fi, fi = freeI y.1.us := ⟨_, rfl⟩
                  rw [← hfi] at hfl hff
                  have hcells : ∀ (i : Nat) (v : Bool), y.1.us[i]? = some v → W3.cell? ⟨y.2.1, i, none⟩ = some (.bool v) := fun i v hv => row_cell hu2 (by rw [bcells_get, hv]; rfl)
                  have dff := row_frozen hu2 fi
                  obtain ⟨n3, hn3⟩ : ∃ n3, n3 = q3.length := ⟨_, rfl⟩
                  obtain ⟨p3, hp3⟩ : ∃ p3, p3 = y.1.us.length := ⟨_, rfl⟩
                  obtain ⟨U, hU⟩ : ∃ U, U = y.2.1 := ⟨_, rfl⟩
                  unfold maxLen at hl32
                  rw [← hn3] at c43 hl31 hj3 hq3l
                  rw [← hp3] at d31 hfl hul3
                  rw [← hU] at d31 hcells dff
                  have hset := ref_set hS3 hd3 hy3 (i := fi) (by rw [← hp3]; exact hfl) true
                  rw [← hU] at hset
                  have hadr := addressR_ok (W3.setCell ⟨U, fi, none⟩ (.bool true)) _ r ⟨B, ob, none⟩ s o kp _ hset.1.ref j fi _ (by rw [List.getElem?_set, if_pos rfl, if_pos (List.getElem?_eq_some_iff.1 hy3).1]) (by show y.1.pg ≤ 1024; omega) (by omega) hs10
                  have e30 : (0 : Int) ≤ (j : Int) := by omega
                  have e31 : (j : Int) < (n3 : Int) := by omega
                  have HA := Lib.hid hadr
                  have H3 := Lib.hid (And.intro hN3 (And.intro hset (And.intro hcells (And.intro hff hfi))))
                  clear hS3 hN3 hd3 hy3 hm3 hset hcells hff hfi hadr hc3 d30 hu1 hu2 hn3 hp3 hU
                  skip
                  go_loop [12] (fun iv => ∃ i : Nat, i ≤ fi ∧ iv = .int .i64 (i : Int)) (fun iv => fi - (intOf iv).toNat)
                  case atStart => exact ⟨0, Nat.zero_le _, rfl⟩
                  case round =>
                    obtain ⟨i, hi, rfl⟩ := hrel
                    have f0 : (0 : Int) ≤ (i : Int) := by omega
                    have f1 : (i : Int) < (p3 : Int) := by omega
                    by_cases hif : i < fi
                    · have hii : IntKind.i64.wrap ((i : Int) + 1) = ((i + 1 : Nat) : Int) := by rw [IntWalk.i64_in _ (by omega)]; rfl
                      have du := H3.out.2.2.1 i true (freeI_before (by rw [← H3.out.2.2.2.2]; exact hif))
                      go_wp2_with (fail)
                      go_round
                      case rel => exact ⟨i + 1, by omega, by go_num⟩
                      case measure => simp [intOf]; omega
                    · obtain rfl : i = fi := by omega
                      have du := H3.out.2.2.1 i false H3.out.2.2.2.1
                      go_wp2_with (go_at_call 79; fail)
                      refine HA.out.mono ?_
                      rintro _ W5 ⟨rfl, m5, hW5⟩
                      have hb5 : Below (W3.setCell ⟨U, i, none⟩ (.bool true)).heap.size (W3.setCell ⟨U, i, none⟩ (.bool true)) W5 := by rw [hW5]; exact below_drew _ m5
                      obtain ⟨hS5, hN5⟩ := H3.out.2.1.1.same hb5
                      have H5 := Lib.hid (And.intro hS5 ((H3.out.1.trans H3.out.2.1.2).trans hN5))
                      clear hS5 hN5 hb5 hW5
                      go_wp2_with (fail)
                      go_ret2
                      have hfi := H3.out.2.2.2.2
                      obtain ⟨hyE, hmap, hj, _⟩ := HY.out
                      have hf0 : i = 0 := by rw [hfi, hyE]; exact freeI_rep cp
                      have hal : allocC ⟨s, o, kp, l⟩ N L = some (64 * pg, insS l ⟨pg, true :: List.replicate (cp - 1) false⟩, D) := by
                        unfold allocC
                        rw [show (⟨s, o, kp, l⟩ : Ca).sl = l from rfl, show (⟨s, o, kp, l⟩ : Ca).order = o from rfl, HPK.out.1]
                        dsimp only
                        rw [HPK.out.2]
                        dsimp only
                        rw [HX.out.2.2.2.2.2]
                      rw [hal]
                      refine ⟨?_, _, _, _, _, ?_, H5.out.1, H5.out.2⟩
                      · rw [hyE, hf0]
                        show Ending.returned (.tuple #[.int .i64 ((64 * pg + 0 * s : Nat) : Int), .int .i64 0]) = _
                        rw [Nat.zero_mul, Nat.add_zero]
                      · rw [hyE, hf0]
                        have hrep : (List.replicate cp false).set 0 true = true :: List.replicate (cp - 1) false := by
                          obtain ⟨c', hc'⟩ : ∃ c', cp = c' + 1 := ⟨cp - 1, by omega⟩
                          rw [hc', List.replicate_succ]; rfl
                        show List.map _ (q3.set j (⟨pg, (List.replicate cp false).set 0 true⟩, _)) = _
                        have hins := ins_set (fresh_page HX.out.2.2.1 HPK.out.2) (List.replicate cp false) (true :: List.replicate (cp - 1) false)
                        rw [show posS _ pg = cap1 from HP.out.2.1.symm] at hins
                        rw [hrep, map_set1, hmap, hj]
                        exact hins
                · have hrow9 : ∀ w8, Below W2.heap.size W2 w8 → RowAt w8 (some ⟨g, oo + ps * 2, none⟩) (cap1 - ps) (q.drop ps) := fun w8 hb => (hcz.drop (by rw [HX.out.2.2.2.2.1]; exact hpn)).keep hb.size fun z _ hz => hb.block z hz
                  have HZ0 := Lib.hid hcz
                  clear hcz
                  obtain ⟨i0, z0, hi0, hz0, hz1, hz2, hz3⟩ := info_open slblock_info
                  have hmk := fun w => make_bools w cp (by omega)
                  obtain ⟨P, hP⟩ : ∃ P, P = q.take ps := ⟨_, rfl⟩
                  obtain ⟨R, hR⟩ : ∃ R, R = q.drop ps := ⟨_, rfl⟩
                  have hPl : P.length = ps := by have := HX.out.2.2.2.2.1; rw [hP, List.length_take]; omega
                  have hRl : R.length = t - ps := by have := HX.out.2.2.2.2.1; rw [hR, List.length_drop]; omega
                  have u0 : (0 : Int) ≤ (ps : Int) := by omega
                  have u1 : (ps : Int) ≤ (t : Int) := by omega
                  have u2 : (t : Int) ≤ (cap1 : Int) := by omega
                  have u3 : (ps : Int) ≤ (cap1 : Int) := by omega
                  have a4 : (W2.alloc (.cells #[] 90)).cell? ⟨r, 4, none⟩ = some (.slice (some ⟨g, oo, none⟩) t cap1) := (World.cell?_alloc_lt W2 _ _ hrl2).trans q4
                  have hsrcP : RowAt W2 (some ⟨g, oo, none⟩) cap1 P := by rw [hP]; exact HZ0.out.take ps
                  have HPP := Lib.hid (And.intro hPl (And.intro hRl (And.intro hP (And.intro hR (And.intro hsrcP hrow9)))))
                  have HQ4 := Lib.hid (And.intro q4 qf4)
                  clear hPl hRl hP hR hsrcP qf4 hrow9
                  go_upto_region 18 with (
                     (at_builtin; refine wpList_append_rowL rfl (.tmp 114) (.tmp 121) rfl W2.heap.size (some ⟨W2.heap.size, 0, none⟩) 0 0 [] rfl rfl (row_emptyR W2 _ (Nat.le_refl _)) (some ⟨g, oo, none⟩) ps cap1 P HPP.out.1 rfl (HPP.out.2.2.2.2.1.keep (by simp) (fun z _ hz => alloc_old _ _ _ hz)) P ps (List.nil_append _) HPP.out.1 (by omega) (by simp) ?_
                      intro A7 c7 w7 hrow7 hgr7
                      have hb7 : Below W2.heap.size W2 w7 := (below_box W2 _).grown hgr7 (by simp) (fun k hk => ((row_emptyR W2 W2.heap.size (Nat.le_refl _)).lt k hk).1)
                      have H7 := Lib.hid (And.intro hrow7 hb7)
                      clear hrow7 hgr7 hb7))
                  have hs7 : W2.heap.size ≤ w7.heap.size := H7.out.2.size
                  have hnews : ∀ (j : Nat) (u : Value), [Value.int .i64 (pg : Int), .slice (some ⟨w7.heap.size, 0, none⟩) cp cp][j]? = some u → ((w7.alloc (.cells (Array.replicate cp (.bool false)) 4)).alloc (.cells #[.int .i64 (pg : Int), .slice (some ⟨w7.heap.size, 0, none⟩) cp cp] 90)).cell? ((⟨w7.heap.size + 1, 0, none⟩ : Addr).add j) = some u := fun j u hu => by
                    have := two_new (w7.alloc (.cells (Array.replicate cp (.bool false)) 4)) (.int .i64 (pg : Int)) (.slice (some ⟨w7.heap.size, 0, none⟩) cp cp) 90 j u hu
                    rw [World.size_alloc] at this
                    exact this
                  have HNW := Lib.hid hnews
                  clear hnews
                  go_upto_region 19 with (
                     (at_builtin; refine wpList_append_lies _ rfl (.tmp 123) (.tmp 128) _ rfl W2.heap.size 90 i0 z0 2 32 Try.underlying67 hi0 hz0 hz1 hz2 hz3 (by omega) (.slice A7 ps c7) ps (rcells P) rfl (by have := H7.out.1; unfold OwnR at this; rw [HPP.out.1] at this; exact (this.alloc _).alloc _) ⟨w7.heap.size + 1, 0, none⟩ 1 1 [.int .i64 (pg : Int), .slice (some ⟨w7.heap.size, 0, none⟩) cp cp] rfl rfl HNW.out (by simp [Value.oneCell']) (by omega) (by unfold maxLen; omega) (by omega) (by rw [World.size_alloc, World.size_alloc]; omega) (w7.heap.size + 1 + 1) (by simp) ?_
                      intro g8 cap8 w8 hown8 hgrow8 hat8 hlt8
                      have H8 := Lib.hid (And.intro hown8 (And.intro hgrow8 (And.intro hat8 hlt8)))
                      clear hown8 hgrow8 hat8 hlt8))
                  obtain ⟨y, hyE⟩ : ∃ y : RS, y = (⟨pg, List.replicate cp false⟩, w7.heap.size, cp) := ⟨_, rfl⟩
                  obtain ⟨hown8, hgrow8, hat8, hlt8⟩ := H8.out
                  have hs8 : w7.heap.size + 2 ≤ w8.heap.size := by have := hgrow8.size; simp only [World.size_alloc] at this; omega
                  have hA7n : ∀ k, (Value.slice A7 ps c7).ownBlock = some k → W2.heap.size ≤ k ∧ k < w7.heap.size := fun k hk => by have := H7.out.1; unfold OwnR at this; rw [HPP.out.1] at this; exact this.lt k hk
                  have hb8 : Below W2.heap.size W2 w8 := ((H7.out.2.alloc hs7 _).alloc (by rw [World.size_alloc]; omega) _).grown hgrow8 (by rw [World.size_alloc, World.size_alloc]; omega) (fun k hk => (hA7n k hk).1)
                  have hrow8 : OwnR w8 W2.heap.size (some ⟨g8, 0, none⟩) cap8 (P ++ [y]) := by
                    unfold OwnR
                    rw [rcells_add, rcells_one', hyE, List.length_append, HPP.out.1]
                    dsimp only
                    rw [List.length_replicate]
                    exact hown8
                  have hg8 : g8 ≠ w7.heap.size := fun e => by
                    rcases hat8 with h | h
                    · have := (hA7n g8 h).2; omega
                    · omega
                  have hU8 : w8.heap[w7.heap.size]? = some (.cells (Array.replicate cp (.bool false)) 4 (0, 0)) :=
                    (hgrow8.block _ (by rw [World.size_alloc, World.size_alloc]; omega) (fun e => by have := (hA7n _ e.symm).2; omega)).trans ((alloc_old _ _ _ (by rw [World.size_alloc]; omega)).trans (bools_new w7 cp))
                  have q48 : w8.cell? ⟨r, 4, none⟩ = some (.slice (some ⟨g, oo, none⟩) t cap1) := (hb8.cell (p := ⟨r, 4, none⟩) hrl2).trans q4
                  have hl8 : (P ++ [y]).length = ps + 1 := by rw [List.length_append, HPP.out.1]; rfl
                  have HG8 := Lib.hid (And.intro hb8 (And.intro hrow8 (And.intro hg8 (And.intro hU8 (And.intro hyE hl8)))))
                  clear hown8 hgrow8 hat8 hlt8 hA7n hb8 hrow8 hg8 hU8 hyE hl8 q4
                  obtain ⟨Z, hZ⟩ : ∃ Z, (P ++ [y]) ++ R = Z := ⟨_, rfl⟩
                  have hZl : Z.length = t + 1 := by
                    have e1 := HG8.out.2.2.2.2.2
                    have e2 := HPP.out.2.1
                    rw [← hZ, List.length_append]
                    omega
                  have HZ := Lib.hid (And.intro hZ hZl)
                  clear hZ hZl
                  go_wp2_with (
                     (at_builtin; refine wpList_append_rowL rfl (.tmp 131) (.tmp 138) rfl W2.heap.size (some ⟨g8, 0, none⟩) (ps + 1) cap8 (P ++ [y]) HG8.out.2.2.2.2.2 rfl HG8.out.2.1 (some ⟨g, oo + ps * 2, none⟩) (t - ps) (cap1 - ps) R HPP.out.2.1 rfl (by rw [HPP.out.2.2.2.1]; exact HPP.out.2.2.2.2.2 w8 HG8.out.1) Z (t + 1) HZ.out.1 HZ.out.2 (by omega) HG8.out.1.size ?_
                      intro A9 c9 w9 hrow9 hgr9
                      have hb9 : Below W2.heap.size W2 w9 := HG8.out.1.grown hgr9 HG8.out.1.size (fun k hk => (HG8.out.2.1.lt k hk).1)
                      have hU9 : w9.heap[w7.heap.size]? = some (.cells (Array.replicate cp (.bool false)) 4 (0, 0)) := (hgr9.block _ (by omega) (fun e => HG8.out.2.2.1 (by injection e with e; exact e.symm))).trans HG8.out.2.2.2.1
                      have q49 : w9.cell? ⟨r, 4, none⟩ = some (.slice (some ⟨g, oo, none⟩) t cap1) := (hb9.cell (p := ⟨r, 4, none⟩) hrl2).trans HQ4.out.1
                      have qf49 : w9.frozen? ⟨r, 4, none⟩ = false := (hb9.frozen (p := ⟨r, 4, none⟩) hrl2).trans HQ4.out.2
                      have H9 := Lib.hid (And.intro hrow9 (And.intro hb9 hU9))
                      clear hrow9 hgr9 hb9 hU9))
                  obtain ⟨hrow9, hb9, hU9⟩ := H9.out
                  obtain ⟨_, _, ho5, hbw⟩ := H5.out
                  have hyE := HG8.out.2.2.2.2.1
                  have hu9 : w9.ownsRow W2.heap.size 4 1 (.slice (some ⟨w7.heap.size, 0, none⟩) (List.replicate cp false).length cp) (List.replicate cp false).length (bcells (List.replicate cp false)) := by
                    rw [List.length_replicate]
                    refine ⟨by rw [bcells_len, List.length_replicate]; omega, .inr ⟨w7.heap.size, cp, Array.replicate cp (.bool false), rfl, hs7, hU9, Nat.le_refl _, by unfold maxLen; omega, by simp, ?_⟩⟩
                    unfold bcells
                    rw [List.map_replicate, Array.toList_replicate]
                    simp
                  have hUA : A9.map (·.block) ≠ some w7.heap.size := fun e => by
                    rcases hrow9.2 with ⟨hv, _⟩ | ⟨g, cp9, cur, hv, _, hg, _⟩
                    · injection hv with hv; rw [hv] at e; cases e
                    · injection hv with hv
                      rw [hv] at e
                      have e : g = w7.heap.size := by injection e
                      rw [e, hU9] at hg
                      injection hg with hg; injection hg with _ hg; cases hg
                  have hZm : ∀ x ∈ Z, x ∈ q ∨ x = ((⟨pg, List.replicate cp false⟩, w7.heap.size, cp) : RS) := fun x hx => by
                    rw [← HZ.out.1] at hx
                    rcases List.mem_append.1 hx with hx | hx
                    · rcases List.mem_append.1 hx with hx | hx
                      · rw [HPP.out.2.2.1] at hx; exact .inl (List.mem_of_mem_take hx)
                      · rw [List.mem_singleton] at hx; exact .inr (hx.trans hyE)
                    · rw [HPP.out.2.2.2.1] at hx; exact .inl (List.mem_of_mem_drop hx)
                  obtain ⟨hS3, hN3⟩ := ins_done (n := ⟨pg, List.replicate cp false⟩) HR.out.1 hbw ho5 HP.out.2.2.1 hb9 hrow9 hu9 hUA hZm HZ.out.2
                  have hN3 := HR.out.2.1.trans hN3
                  obtain ⟨W3, hW3⟩ : ∃ W3, W3 = w9.setCell ⟨r, 4, none⟩ (.slice A9 (t + 1) c9) := ⟨_, rfl⟩
                  rw [← hW3] at hS3 hN3 ⊢
                  obtain ⟨q3, hq3⟩ : ∃ q3, q3 = Z := ⟨_, rfl⟩
                  obtain ⟨j, hj⟩ : ∃ j, j = ps := ⟨_, rfl⟩
                  rw [← hq3] at hS3
                  have hy3 : q3[j]? = some y := by
                    rw [hq3, ← HZ.out.1, hj, List.append_assoc, List.getElem?_append_right (by rw [HPP.out.1]; omega), HPP.out.1, Nat.sub_self]; rfl
                  have hmap : q3.map (·.1) = insS l ⟨pg, List.replicate cp false⟩ := by
                    rw [insS_at (fresh_page HX.out.2.2.1 HPK.out.2), hq3, ← HZ.out.1, List.map_append, List.map_append, HPP.out.2.2.1, HPP.out.2.2.2.1, HP.out.2.1, hyE, ← HX.out.2.1, List.map_take, List.map_drop, List.append_assoc]; rfl
                  have hd3 : q3.Pairwise fun a b => a.1.pg < b.1.pg := by
                    have := insS_asc (x := ⟨pg, List.replicate cp false⟩) HX.out.2.2.1.asc (fresh_page HX.out.2.2.1 HPK.out.2)
                    rw [show (⟨s, o, kp, l⟩ : Ca).sl = l from rfl, ← hmap, List.pairwise_map] at this
                    exact this
                  have hm3 : y.1.many < y.1.us.length := by rw [hyE]; show (List.replicate cp false).count true < (List.replicate cp false).length; rw [List.length_replicate, List.count_replicate]; simp; omega
                  have hpg3 : y.1.pg < 1024 := by
                    have := page_lt (ok_ins (us := true :: List.replicate (cp - 1) false) HX.out.2.2.1 HPK.out.2 (by rw [List.length_cons, List.length_replicate]; show _ = capa s o; rw [← HX.out.2.2.2.2.2]; omega) (by simp)) ⟨pg, true :: List.replicate (cp - 1) false⟩ (mem_insS.2 (.inl rfl))
                    rw [hyE]; exact this
                  have hul3 : y.1.us.length ≤ 128 := by rw [hyE]; show (List.replicate cp false).length ≤ 128; rw [List.length_replicate]; exact hcp1.2
                  have hq3l : q3.length ≤ 1100 := by rw [hq3, HZ.out.2]; omega
                  have HY := Lib.hid (And.intro hyE (And.intro hmap (And.intro hj hW3)))
                  rw [← hj]
                  clear hrow9 hb9 hU9 ho5 hbw hyE hu9 hUA hZm hmap q48 q49 qf49 a4 hq3 hj hW3 hmk
                  obtain ⟨g3, oo3, cap3, hc3, hl31, hl32, hg3, d30, d31⟩ := ref_row hS3.ref hy3
                  obtain ⟨_, _, _, _, c43, _⟩ := five_cells hc3
                  have hj3 := (List.getElem?_eq_some_iff.1 hy3).1
                  obtain ⟨hu1, hu2⟩ := hS3.ref.used j y hy3
                  obtain ⟨hfl, hff⟩ := freeI_lt hm3
                  obtain ⟨fi, hfi⟩ : ∃ fi, fi = freeI y.1.us := ⟨_, rfl⟩
                  rw [← hfi] at hfl hff
                  have hcells : ∀ (i : Nat) (v : Bool), y.1.us[i]? = some v → W3.cell? ⟨y.2.1, i, none⟩ = some (.bool v) := fun i v hv => row_cell hu2 (by rw [bcells_get, hv]; rfl)
                  have dff := row_frozen hu2 fi
                  obtain ⟨n3, hn3⟩ : ∃ n3, n3 = q3.length := ⟨_, rfl⟩
                  obtain ⟨p3, hp3⟩ : ∃ p3, p3 = y.1.us.length := ⟨_, rfl⟩
                  obtain ⟨U, hU⟩ : ∃ U, U = y.2.1 := ⟨_, rfl⟩
                  unfold maxLen at hl32
                  rw [← hn3] at c43 hl31 hj3 hq3l
                  rw [← hp3] at d31 hfl hul3
                  rw [← hU] at d31 hcells dff
                  have hset := ref_set hS3 hd3 hy3 (i := fi) (by rw [← hp3]; exact hfl) true
                  rw [← hU] at hset
                  have hadr := addressR_ok (W3.setCell ⟨U, fi, none⟩ (.bool true)) _ r ⟨B, ob, none⟩ s o kp _ hset.1.ref j fi _ (by rw [List.getElem?_set, if_pos rfl, if_pos (List.getElem?_eq_some_iff.1 hy3).1]) (by show y.1.pg ≤ 1024; omega) (by omega) hs10
                  have e30 : (0 : Int) ≤ (j : Int) := by omega
                  have e31 : (j : Int) < (n3 : Int) := by omega
                  have HA := Lib.hid hadr
                  have H3 := Lib.hid (And.intro hN3 (And.intro hset (And.intro hcells (And.intro hff hfi))))
                  clear hS3 hN3 hd3 hy3 hm3 hset hcells hff hfi hadr hc3 d30 hu1 hu2 hn3 hp3 hU
                  skip
                  go_loop [12] (fun iv => ∃ i : Nat, i ≤ fi ∧ iv = .int .i64 (i : Int)) (fun iv => fi - (intOf iv).toNat)
                  case atStart => exact ⟨0, Nat.zero_le _, rfl⟩
                  case round =>
                    obtain ⟨i, hi, rfl⟩ := hrel
                    have f0 : (0 : Int) ≤ (i : Int) := by omega
                    have f1 : (i : Int) < (p3 : Int) := by omega
                    by_cases hif : i < fi
                    · have hii : IntKind.i64.wrap ((i : Int) + 1) = ((i + 1 : Nat) : Int) := by rw [IntWalk.i64_in _ (by omega)]; rfl
                      have du := H3.out.2.2.1 i true (freeI_before (by rw [← H3.out.2.2.2.2]; exact hif))
                      go_wp2_with (fail)
                      go_round
                      case rel => exact ⟨i + 1, by omega, by go_num⟩
                      case measure => simp [intOf]; omega
                    · obtain rfl : i = fi := by omega
                      have du := H3.out.2.2.1 i false H3.out.2.2.2.1
                      go_wp2_with (go_at_call 79; fail)
                      refine HA.out.mono ?_
                      rintro _ W5 ⟨rfl, m5, hW5⟩
                      have hb5 : Below (W3.setCell ⟨U, i, none⟩ (.bool true)).heap.size (W3.setCell ⟨U, i, none⟩ (.bool true)) W5 := by rw [hW5]; exact below_drew _ m5
                      obtain ⟨hS5, hN5⟩ := H3.out.2.1.1.same hb5
                      have H5 := Lib.hid (And.intro hS5 ((H3.out.1.trans H3.out.2.1.2).trans hN5))
                      clear hS5 hN5 hb5 hW5
                      go_wp2_with (fail)
                      go_ret2
                      have hfi := H3.out.2.2.2.2
                      obtain ⟨hyE, hmap, hj, _⟩ := HY.out
                      have hf0 : i = 0 := by rw [hfi, hyE]; exact freeI_rep cp
                      have hal : allocC ⟨s, o, kp, l⟩ N L = some (64 * pg, insS l ⟨pg, true :: List.replicate (cp - 1) false⟩, D) := by
                        unfold allocC
                        rw [show (⟨s, o, kp, l⟩ : Ca).sl = l from rfl, show (⟨s, o, kp, l⟩ : Ca).order = o from rfl, HPK.out.1]
                        dsimp only
                        rw [HPK.out.2]
                        dsimp only
                        rw [HX.out.2.2.2.2.2]
                      rw [hal]
                      refine ⟨?_, _, _, _, _, ?_, H5.out.1, H5.out.2⟩
                      · rw [hyE, hf0]
                        show Ending.returned (.tuple #[.int .i64 ((64 * pg + 0 * s : Nat) : Int), .int .i64 0]) = _
                        rw [Nat.zero_mul, Nat.add_zero]
                      · rw [hyE, hf0]
                        have hrep : (List.replicate cp false).set 0 true = true :: List.replicate (cp - 1) false := by
                          obtain ⟨c', hc'⟩ : ∃ c', cp = c' + 1 := ⟨cp - 1, by omega⟩
                          rw [hc', List.replicate_succ]; rfl
                        show List.map _ (q3.set j (⟨pg, (List.replicate cp false).set 0 true⟩, _)) = _
                        have hins := ins_set (fresh_page HX.out.2.2.1 HPK.out.2) (List.replicate cp false) (true :: List.replicate (cp - 1) false)
                        rw [show posS _ pg = ps from HP.out.2.1.symm] at hins
                        rw [hrep, map_set1, hmap, hj]
                        exact hins
end Sl
end Go.Proofs.Ytlknhbcambdccaa
