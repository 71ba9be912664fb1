/- SortFunc at a row of one's own, of any elements. -/
import Derived.Test.YtionocafkaemiaaDoorK2
import Derived.Test.YtionocafkaemiaaDoorJShSrt
import Derived.Shelf.SlSortCmp.NoneTotal
import Derived.Shelf.SlSortCmp.WholeK
namespace Go.Proofs.YtionocafkaemiaaDoor
open Go.RowKit Go.Shelf Go.Lib Go.Sort
namespace Sx

section
variable {α : Type} [Inhabited α] {enc : α → List Value} {k : Nat}
theorem flat_ce (E : Enc enc k) (L : List α) : (flatK enc k L.toArray).toList = ce enc L := by
  have hp := E.pos
  apply List.ext_getElem?
  intro t
  by_cases h : t < L.length * k
  · obtain ⟨j, i, x, rfl, hi, hx⟩ := ce_at E h
    rw [ce_get E hx hi]
    have e1 : (j * k + i) / k = j := by rw [Nat.mul_comm, Nat.mul_add_div hp, Nat.div_eq_of_lt hi, Nat.add_zero]
    have e2 : (j * k + i) % k = i := by rw [Nat.mul_comm, Nat.mul_add_mod, Nat.mod_eq_of_lt hi]
    have hl := (List.getElem?_eq_some_iff.1 hx).1
    have hg := get_flatK enc k L.toArray (j * k + i) (by simpa using h)
    have hsz : j * k + i < (flatK enc k L.toArray).size := by simpa using h
    rw [Array.getElem?_toList, Array.getElem?_eq_getElem hsz, ← getElem!_pos (flatK enc k L.toArray) (j * k + i) hsz, hg, e1, e2]
    have hx2 : L.toArray[j]! = x := by
      rw [getElem!_pos L.toArray j (by simpa using hl)]
      obtain ⟨_, h2⟩ := List.getElem?_eq_some_iff.1 hx
      simpa using h2
    rw [hx2]
    have hli : i < (enc x).length := by rw [E.len]; exact hi
    rw [getElem!_pos (enc x) i hli, List.getElem?_eq_getElem hli]
  · rw [List.getElem?_eq_none (by simp; omega), List.getElem?_eq_none (by rw [ce_len E]; omega)]
theorem put_take (F c : Array Value) (h : F.size ≤ c.size) : (putCells id 0 F c).size = c.size ∧ (putCells id 0 F c).toList.take F.size = F.toList := by
  refine ⟨by simp [putCells], ?_⟩
  apply List.ext_getElem?
  intro t
  by_cases e : t < F.size
  · rw [List.getElem?_take_of_lt e]
    simp only [Array.getElem?_toList]
    have hc : t < c.size := by omega
    simp [putCells, e, hc]
  · rw [List.getElem?_take_eq_none (by omega), List.getElem?_eq_none (by simpa using Nat.le_of_not_lt e)]
theorem sw_heap (enc : α → List Value) (kk : Nat) (w : World) (blk n : Nat) (d : Array α) (os : Array Obj) (k : Nat) (hk : k < w.heap.size) :
    (sortWorldK enc kk w blk 0 n d os).heap[k]? = if k = blk then (w.heap[k]?).map (onCells (putCells id 0 (flatK enc kk d))) else w.heap[k]? := by
  show ((w.heap.modify blk (onCells (putCells id 0 (flatK enc kk d)))) ++ os)[k]? = _
  rw [Array.getElem?_append_left (by simpa using hk), Array.getElem?_modify]
  by_cases e : blk = k
  · rw [if_pos e, if_pos e.symm]
  · rw [if_neg e, if_neg (fun h => e h.symm)]
/-- A world where one row's block is written, and new blocks lie. -/
structure RowOnly (A : Option Addr) (w w' : World) : Prop where
  os : w'.os = w.os
  tape : w'.tape = w.tape
  output : w'.output = w.output
  size : w.heap.size ≤ w'.heap.size
  block : ∀ k, k < w.heap.size → A.map (·.block) ≠ some k → w'.heap[k]? = w.heap[k]?
theorem RowOnly.below {A : Option Addr} {w w' : World} {n : Nat} (h : RowOnly A w w') (hn : n ≤ w.heap.size) (hA : ∀ g, A.map (·.block) = some g → n ≤ g) : Below n w w' :=
  ⟨h.os, h.tape, h.output, h.size, fun k hk => h.block k (by omega) fun e => by have := hA k e; omega⟩
theorem sort_rows (E : Enc enc k) {ρ : Ren} (Lr : SlLaysF0.n6 Tryd.prog ρ) (aE : ∀ w, (isAgg (ρ.t 24)).run Tryd.prog w = .ok true w) (zE : ∀ w, (Go.sizeOf (ρ.t 24)).run Tryd.prog w = .ok k w) (cf : α → α → Int) (hO : SWO (ltOf cf)) (g : Nat)
    (eg : ∀ args w, (callFunc g args).run Tryd.prog w = .ok (.enter g args) w)
    (hcl : ∀ x y W, Calls Tryd.prog g #[.agg (enc x).toArray, .agg (enc y).toArray] W fun e w' => e = .returned (.int .i64 (cf x y)) ∧ ∃ q os', w' = grow (W.drewN q) os')
    (w : World) (B T c : Nat) (A : Option Addr) (L : List α) (hr : OwnE enc k w B T A c L) (hL : L.length < 4611686018427387904) :
    Calls Tryd.prog (ρ.f 6) #[.slice A L.length c, .func (.func g) #[] #[]] w fun e w' => e = .returned (.tuple #[]) ∧
      ∃ L' : List α, L'.Perm L ∧ L'.Pairwise (fun x y => ltOf cf y x = false) ∧ OwnE enc k w' B T A c L' ∧ RowOnly A w w' := by
  rcases hr.2 with ⟨hn, h0⟩ | ⟨b, cap, cur, hv, hB, hg, hnc, hcm, hsz, htk⟩
  · injection hn with h1 h2 h3
    subst h1
    obtain rfl : L = [] := List.length_eq_zero_iff.1 h0
    refine (AnyF.slices_SortFunc_none Lr none c (.func (.func g) #[] #[]) w).mono ?_
    rintro e w' ⟨he, rfl⟩
    exact ⟨he, [], List.Perm.refl _, List.Pairwise.nil, hr, rfl, rfl, rfl, Nat.le_refl _, fun _ _ _ => rfl⟩
  · injection hv with h1 h2 h3
    subst h1
    subst h3
    have hgl := lt_of_heap hg
    have hFs : (flatK enc k L.toArray).size = L.length * k := by simp
    have hH : HoldsK enc k w b 0 L.toArray := by
      intro j hj
      rw [hFs] at hj
      have e1 : (ce enc L)[j]? = some (flatK enc k L.toArray)[j]! := by
        rw [← flat_ce E L, Array.getElem?_toList, Array.getElem?_eq_getElem (by omega), getElem!_pos _ j (by omega)]
      refine ⟨?_, by simp [World.frozen?, hg]⟩
      rw [cell_of_row w b _ cur _ _ hg, Nat.zero_add]
      rw [← htk, List.getElem?_take_of_lt hj, Array.getElem?_toList] at e1
      exact e1
    have hs := AnyQ.slices_SortFunc Lr k aE zE enc E.len E.one cf hO g #[] b 0 c L.toArray w eg (fun _ _ _ _ x y => hcl x y _) hH hgl (by simpa using hL)
    rw [show L.toArray.size = L.length by simp] at hs
    refine Calls.mono hs ?_
    rintro e w' ⟨he, d', n, os, ⟨hp1, _, hp3⟩, hso, rfl⟩
    have hd : d'.size = L.length := by simpa using hp1
    have hcl' : (sortWorldK enc k w b 0 n d' os).heap[b]? = some (.cells (putCells id 0 (flatK enc k d') cur) T (0, 0)) := by
      rw [sw_heap _ _ _ _ _ _ _ _ hgl, if_pos rfl, hg]
      rfl
    have hFs' : (flatK enc k d').size = L.length * k := by simp [hd]
    obtain ⟨p1, p2⟩ := put_take (flatK enc k d') cur (by rw [hFs', hsz]; exact Nat.mul_le_mul_right _ hnc)
    have hfl : (flatK enc k d').toList = ce enc d'.toList := by have := flat_ce E d'.toList; simpa using this
    refine ⟨he, d'.toList, ?_, ?_, ?_, rfl, rfl, rfl, ?_, fun k hk hne => ?_⟩
    · have e1 : d'.extract 0 L.length = d' := by rw [← hd]; simp
      have e2 : L.toArray.extract 0 L.length = L.toArray := by simp
      rw [e1, e2] at hp3
      simpa using hp3
    · rw [List.pairwise_iff_getElem]
      intro i j hi hj hij
      have := hso i j (Nat.zero_le _) hij (by simp at hj ⊢; omega)
      simp only [Array.length_toList] at hi hj
      rw [getElem!_pos d' i hi, getElem!_pos d' j hj] at this
      simpa using this
    · have hdl : d'.toList.length = L.length := by simp [hd]
      unfold OwnE
      rw [hdl]
      refine ⟨by rw [ce_len E, hdl], .inr ⟨b, c, _, rfl, hB, hcl', hnc, hcm, by rw [p1]; exact hsz, ?_⟩⟩
      rw [← hfl, ← p2, hFs']
    · show w.heap.size ≤ ((w.heap.modify b _) ++ os).size
      simp
    · rw [sw_heap _ _ _ _ _ _ _ _ hk, if_neg (by rintro rfl; simp at hne)]
end
end Sx
end Go.Proofs.YtionocafkaemiaaDoor
