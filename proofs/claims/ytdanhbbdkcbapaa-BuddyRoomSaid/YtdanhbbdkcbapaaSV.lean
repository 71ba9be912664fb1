/- SortFunc at the row that sorted has collected. -/
import Derived.Test.YtdanhbbdkcbapaaST
import Derived.Shelf.SlSortCmp.NoneTotal
namespace Go.Proofs.Ytdanhbbdkcbapaa
open Go.RowKit Go.Shelf Go.Lib Go.Sort
namespace Bu

theorem cellsB_cons (x : PB) (L : List PB) : cellsB (x :: L) = .int .i64 ((x.1.val : Nat) : Int) :: .int .i64 ((x.2.val : Nat) : Int) :: cellsB L := by simp [cellsB, encB]
theorem cellsB_len (L : List PB) : (cellsB L).length = L.length * 2 := by
  induction L with
  | nil => rfl
  | cons x L ih => rw [cellsB_cons]; simp only [List.length_cons, ih]; omega
theorem cellsB_get : ∀ (L : List PB) (t : Nat) (h : t / 2 < L.length), (cellsB L)[t]? = some (encB L[t / 2])[t % 2]! := by
  intro L
  induction L with
  | nil => intro t h; simp at h
  | cons x L ih =>
    intro t h
    rw [cellsB_cons]
    match t, h with
    | 0, _ => simp [encB]
    | 1, _ => simp [encB]
    | t + 2, h =>
      have e1 : (t + 2) / 2 = t / 2 + 1 := by omega
      have e2 : (t + 2) % 2 = t % 2 := by omega
      have h' : t / 2 < L.length := by simp only [List.length_cons] at h; omega
      simp only [List.getElem?_cons_succ, e1, e2, List.getElem_cons_succ]
      exact ih t h'

theorem flat_cells (L : List PB) : (flatK encB 2 L.toArray).toList = cellsB L := by
  apply List.ext_getElem?
  intro t
  by_cases h : t < L.length * 2
  · have h2 : t / 2 < L.length := by omega
    rw [cellsB_get L t h2]
    simp [flatK, h, h2]
  · rw [List.getElem?_eq_none (by simp; omega), List.getElem?_eq_none (by rw [cellsB_len]; omega)]

theorem put_take (F c : Array Value) (h : F.size ≤ c.size) : (putCells id 0 F c).size = c.size ∧ (putCells id 0 F c).toList.take F.size = F.toList := by
  refine ⟨by simp [putCells], ?_⟩
  apply List.ext_getElem?
  intro t
  by_cases e : t < F.size
  · rw [List.getElem?_take_of_lt e]
    simp only [Array.getElem?_toList]
    have hc : t < c.size := by omega
    simp [putCells, e, hc, Array.getElem?_eq_getElem]
  · rw [List.getElem?_take_eq_none (by omega), List.getElem?_eq_none (by simpa using Nat.le_of_not_lt e)]

theorem sw_heap (w : World) (blk n : Nat) (d : Array PB) (os : Array Obj) (k : Nat) (hk : k < w.heap.size) :
    (sortWorldK encB 2 w blk 0 n d os).heap[k]? = if k = blk then (w.heap[k]?).map (onCells (putCells id 0 (flatK encB 2 d))) else w.heap[k]? := by
  show ((w.heap.modify blk (onCells (putCells id 0 (flatK encB 2 d)))) ++ os)[k]? = _
  rw [Array.getElem?_append_left (by simpa using hk), Array.getElem?_modify]
  by_cases e : blk = k
  · rw [if_pos e, if_pos e.symm]
  · rw [if_neg e, if_neg (fun h => e h.symm)]

/-- A world where one row's block is written, and new blocks lie. -/
structure RowOnly (A : Option Addr) (w w' : World) : Prop where
  os : w'.os = w.os
  tape : w'.tape = w.tape
  output : w'.output = w.output
  size : w.heap.size ≤ w'.heap.size
  block : ∀ k, k < w.heap.size → A.map (·.block) ≠ some k → w'.heap[k]? = w.heap[k]?

/-- Two worlds that differ in blocks of deferred calls alone. -/
structure Shut2 (lo : Nat) (W W' : World) : Prop where
  os : W'.os = W.os
  tape : W'.tape = W.tape
  output : W'.output = W.output
  size : W'.heap.size = W.heap.size
  block : ∀ k, (k < lo ∨ W.heap[k]? ≠ some (.deferred (some []))) → W'.heap[k]? = W.heap[k]?

theorem row_shut2 {lo B e s n : Nat} {v : Value} {xs : List Value} {w w' : World} (h : w.ownsRow B e s v n xs) (hs : Shut2 lo w w') : w'.ownsRow B e s v n xs := by
  refine ⟨h.1, ?_⟩
  rcases h.2 with hn | ⟨g, cap, cur, rfl, hB, hgg, rest⟩
  · exact .inl hn
  · exact .inr ⟨g, cap, cur, rfl, hB, by rw [hs.block g (.inr (by rw [hgg]; simp))]; exact hgg, rest⟩

theorem leaves_marks2 {F : Fence} {n : Nat} {P : Program} {fn : Func} {tmps : Array Value} {R : Ending → World → Prop} (lo : Nat) : ∀ (ds : List Deferred) (hi : Nat) (W : World), Marks lo W hi ds →
    (∀ W', Shut2 lo W W' → ∃ v, (results fn tmps).run P W' = .ok v W' ∧ R (.returned v) W') → LeavesInM F n P fn tmps R ds .returning W := by
  intro ds
  induction ds with
  | nil => intro _ W _ h; exact h W ⟨rfl, rfl, rfl, rfl, fun _ _ => rfl⟩
  | cons d ds ih =>
    rintro hi W ⟨r, h1, h2, rfl, h4, h5⟩ h
    refine ⟨by simp, .inl ⟨r, _, rfl, run_takeDeferred h4, ih r _ ?_ ?_⟩⟩
    · have key : ∀ (ds : List Deferred) (hi : Nat), hi ≤ r → Marks lo W hi ds → Marks lo (W.putObj r (.deferred none)) hi ds := by
        intro ds
        induction ds with
        | nil => intro _ _ _; trivial
        | cons d ds ih2 =>
          rintro hi hle ⟨q, g1, g2, g3, g4, g5⟩
          exact ⟨q, g1, g2, g3, by rw [World.putObj_heap_other (by omega)]; exact g4, ih2 q (by omega) g5⟩
      exact key ds r (Nat.le_refl _) h5
    · intro W' hs
      refine h W' ⟨hs.os, hs.tape, hs.output, by rw [hs.size]; simp, fun k hk => ?_⟩
      have hkr : k ≠ r := by
        rintro rfl
        rcases hk with hk | hk
        · omega
        · exact hk h4
      rw [hs.block k (by rw [World.putObj_heap_other hkr]; exact hk), World.putObj_heap_other hkr]

theorem sort_row (w : World) (B c : Nat) (A : Option Addr) (L : List PB) (hr : w.ownsRow B 39 2 (.slice A L.length c) L.length (cellsB L)) (hL : L.length < 4611686018427387904) :
    Calls Try.prog 46 #[.slice A L.length c, .func (.func 47) #[] #[]] w fun e w' => e = .returned (.tuple #[]) ∧
      ∃ L' : List PB, L'.Perm L ∧ L'.Pairwise (fun x y => x.1.val ≤ y.1.val) ∧ w'.ownsRow B 39 2 (.slice A L.length c) L.length (cellsB L') ∧ RowOnly A w w' := by
  rcases hr.2 with ⟨hn, h0⟩ | ⟨g, cap, cur, hv, hB, hg, hnc, hcm, hsz, htk⟩
  · injection hn with h1 h2 h3
    subst h1
    obtain rfl : L = [] := List.length_eq_zero_iff.1 h0
    refine (AnyF.slices_SortFunc_none Try.sortBl none c (.func (.func 47) #[] #[]) w).mono ?_
    rintro e w' ⟨he, rfl⟩
    exact ⟨he, [], List.Perm.refl _, List.Pairwise.nil, hr, rfl, rfl, rfl, Nat.le_refl _, fun _ _ _ => rfl⟩
  · injection hv with h1 h2 h3
    subst h1
    subst h3
    have hgl := lt_of_heap hg
    have hFs : (flatK encB 2 L.toArray).size = L.length * 2 := by simp
    have hH : HoldsK encB 2 w g 0 L.toArray := by
      intro j hj
      rw [hFs] at hj
      have e1 : (cellsB L)[j]? = some (flatK encB 2 L.toArray)[j]! := by
        rw [← flat_cells L, Array.getElem?_toList, Array.getElem?_eq_getElem (by omega), getElem!_pos _ j (by omega)]
      refine ⟨?_, by simp [World.frozen?, hg]⟩
      rw [cell_of_row w g _ cur _ _ hg, Nat.zero_add]
      rw [← htk, List.getElem?_take_of_lt hj, Array.getElem?_toList] at e1
      exact e1
    have hs := sort_ok g 0 c L.toArray w hH hgl (by simpa using hL)
    rw [show L.toArray.size = L.length by simp] at hs
    refine Calls.mono hs ?_
    rintro e w' ⟨he, d', n, os, ⟨hp1, _, hp3⟩, hso, rfl⟩
    have hd : d'.size = L.length := by simpa using hp1
    have hcl : (sortWorldK encB 2 w g 0 n d' os).heap[g]? = some (.cells (putCells id 0 (flatK encB 2 d') cur) 39 (0, 0)) := by
      rw [sw_heap _ _ _ _ _ _ hgl, if_pos rfl, hg]
      rfl
    have hFs' : (flatK encB 2 d').size = L.length * 2 := by simp [hd]
    obtain ⟨p1, p2⟩ := put_take (flatK encB 2 d') cur (by rw [hFs', hsz]; omega)
    have hfl : (flatK encB 2 d').toList = cellsB d'.toList := flat_cells d'.toList
    refine ⟨he, d'.toList, ?_, ?_, ⟨?_, .inr ⟨g, c, _, rfl, hB, hcl, hnc, hcm, by rw [p1]; exact hsz, ?_⟩⟩, rfl, rfl, rfl, ?_, fun k hk hne => ?_⟩
    · have e1 : d'.extract 0 L.length = d' := by rw [← hd]; simp
      have e2 : L.toArray.extract 0 L.length = L.toArray := by simp
      rw [e1, e2] at hp3
      simpa using hp3
    · rw [List.pairwise_iff_getElem]
      intro i j hi hj hij
      have := hso i j (Nat.zero_le _) hij (by simp at hj ⊢; omega)
      rw [ltB] at this
      simp only [Array.length_toList] at hi hj
      rw [getElem!_pos d' i hi, getElem!_pos d' j hj] at this
      simp at this
      simpa using this
    · rw [cellsB_len]; simp [hd]
    · rw [← hfl, ← p2, hFs']
    · show w.heap.size ≤ ((w.heap.modify g _) ++ os).size
      simp
    · rw [sw_heap _ _ _ _ _ _ hk, if_neg (by rintro rfl; simp at hne)]
end Bu
end Go.Proofs.Ytdanhbbdkcbapaa
