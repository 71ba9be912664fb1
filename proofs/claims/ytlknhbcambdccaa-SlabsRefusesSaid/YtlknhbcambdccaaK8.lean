/- The row that sorted collects. SortFunc at the row that sorted has collected. sorted. The specification's small functions; how lists of blocks lie in memory. -/
import Derived.Test.YtlknhbcambdccaaK7
import Derived.Maps.OwnIn
import Derived.Shelf.SlSortCmp.NoneTotal
import Derived.Test.YtlknhbcambdccaaK4
import Derived.Test.YtlknhbcambdccaaK0
namespace Go.Proofs.Ytlknhbcambdccaa
open Go.RowKit Go.Shelf
namespace Bu
attribute [local go_sem] Oper.semAt_some

def cellsB (L : List PB) : List Value := L.flatMap encB
theorem cellsB_add (L : List PB) (x : PB) : cellsB (L ++ [x]) = cellsB L ++ encB x := by simp [cellsB]

/-- The caller's variable, and its row. -/
def Out (bo : Nat) (own : Ow) (L : List PB) (V : World) : Prop :=
  ∃ A c, Boxed V bo 44 (.slice A L.length c) ∧ V.ownsRow bo 126 2 (.slice A L.length c) L.length (cellsB L) ∧ own bo ≠ none ∧ ∀ g, (Value.slice A L.length c).ownBlock = some g → own g ≠ none

theorem out_keep {bo : Nat} {own : Ow} {L : List PB} {V V' : World} (h : Out bo own L V) (hk : ∀ x, own x ≠ none → x < V.heap.size → V'.heap[x]? = V.heap[x]?) : Out bo own L V' := by
  obtain ⟨A, c, hb, hr, ho, hg⟩ := h
  refine ⟨A, c, (hk _ ho hb.lt).trans hb, ⟨hr.1, ?_⟩, ho, hg⟩
  rcases hr.2 with hn | ⟨g, cap, cur, e, hB, hgg, rest⟩
  · exact .inl hn
  · exact .inr ⟨g, cap, cur, e, hB, by rw [hk g (hg g (by rw [e]; rfl)) (lt_of_heap hgg)]; exact hgg, rest⟩

theorem out_step {bo : Nat} {own : Ow} {L : List PB} {V w1 : World} {x : PB} {A : Option Addr} {c : Nat} {ob : Obj} {v' : Value}
    (hb : Boxed V bo 44 (.slice A L.length c)) (hr : V.ownsRow bo 126 2 (.slice A L.length c) L.length (cellsB L)) (ho : own bo ≠ none) (hg : ∀ g, (Value.slice A L.length c).ownBlock = some g → own g ≠ none)
    (hown : w1.ownsRow bo 126 2 v' (L.length + 1) (cellsB L ++ encB x)) (hgrow : (V.alloc ob).grownBy w1 (Value.slice A L.length c).ownBlock)
    (hat : v'.ownBlock = (Value.slice A L.length c).ownBlock ∨ v'.ownBlock = some (V.alloc ob).heap.size) :
    ∃ own', Keeps own own' V (w1.setCell ⟨bo, 0, none⟩ v') ∧ Out bo own' (L ++ [x]) (w1.setCell ⟨bo, 0, none⟩ v') := by
  have hbl := hb.lt
  obtain ⟨h1, h2, h3, _, h5⟩ := hb.appended (by decide) hr (Nat.le_of_lt hbl) (Nat.le_refl bo) hown hgrow
  obtain ⟨gg, cap, rfl⟩ := ownsRow_succ hown
  have hgs := hgrow.size
  simp at hgs
  refine ⟨fun y => if V.heap.size ≤ y ∧ y = gg then some 0 else own y, ⟨h5.os, h5.tape, h5.output, ?_, fun y hy hn => ?_, fun y hy => ?_, fun y hy => ?_⟩, some ⟨gg, 0, none⟩, cap, by simpa using h2, ?_, ?_, fun g hg' => ?_⟩
  · rw [setCell_size]; omega
  · rw [setCell_far _ _ _ _ (fun e => by rw [e] at hn; exact ho hn), hgrow.block y (by simp; omega) (fun e => hg y e.symm hn)]
    exact Below.heap_alloc _ _ _ hy
  · show (if V.heap.size ≤ y ∧ y = gg then some 0 else own y) = own y
    rw [if_neg (by omega)]
  · by_cases e : V.heap.size ≤ y ∧ y = gg
    · right
      refine ⟨e.1, ?_⟩
      rw [setCell_size, e.2]
      exact (hown.lt gg rfl).2
    · left
      rwa [if_neg e] at hy
  · rw [cellsB_add]; simpa using h3
  · show (if V.heap.size ≤ bo ∧ bo = gg then some 0 else own bo) ≠ none
    rw [if_neg (by omega)]; exact ho
  · obtain rfl : gg = g := by simpa [Value.ownBlock] using hg'
    show (if V.heap.size ≤ gg ∧ gg = gg then some 0 else own gg) ≠ none
    by_cases e : V.heap.size ≤ gg
    · rw [if_pos ⟨e, rfl⟩]; simp
    · rw [if_neg (by omega)]
      rcases hat with hat | hat
      · exact hg gg hat.symm
      · simp [Value.ownBlock] at hat; omega
end Bu
end Go.Proofs.Ytlknhbcambdccaa
namespace Go.Proofs.Ytlknhbcambdccaa
open Go.RowKit Go.Shelf Go.Lib Go.Sort
namespace Bu

theorem cellsB_cons (x : PB) (L : List PB) : cellsB (x :: L) = .int .i64 ((x.1.val : Nat) : Int) :: .int .i64 ((x.2.val : Nat) : Int) :: cellsB L := by simp [cellsB, encB]
theorem cellsB_len (L : List PB) : (cellsB L).length = L.length * 2 := by
  induction L with
  | nil => rfl
  | cons x L ih => rw [cellsB_cons]; simp only [List.length_cons, ih]; omega
theorem cellsB_get : ∀ (L : List PB) (t : Nat) (h : t / 2 < L.length), (cellsB L)[t]? = some (encB L[t / 2])[t % 2]! := by
  intro L
  induction L with
  | nil => intro t h; simp at h
  | cons x L ih =>
    intro t h
    rw [cellsB_cons]
    match t, h with
    | 0, _ => simp [encB]
    | 1, _ => simp [encB]
    | t + 2, h =>
      have e1 : (t + 2) / 2 = t / 2 + 1 := by omega
      have e2 : (t + 2) % 2 = t % 2 := by omega
      have h' : t / 2 < L.length := by simp only [List.length_cons] at h; omega
      simp only [List.getElem?_cons_succ, e1, e2, List.getElem_cons_succ]
      exact ih t h'

theorem flat_cells (L : List PB) : (flatK encB 2 L.toArray).toList = cellsB L := by
  apply List.ext_getElem?
  intro t
  by_cases h : t < L.length * 2
  · have h2 : t / 2 < L.length := by omega
    rw [cellsB_get L t h2]
    simp [flatK, h, h2]
  · rw [List.getElem?_eq_none (by simp; omega), List.getElem?_eq_none (by rw [cellsB_len]; omega)]

theorem put_take (F c : Array Value) (h : F.size ≤ c.size) : (putCells id 0 F c).size = c.size ∧ (putCells id 0 F c).toList.take F.size = F.toList := by
  refine ⟨by simp [putCells], ?_⟩
  apply List.ext_getElem?
  intro t
  by_cases e : t < F.size
  · rw [List.getElem?_take_of_lt e]
    simp only [Array.getElem?_toList]
    have hc : t < c.size := by omega
    simp [putCells, e, hc, Array.getElem?_eq_getElem]
  · rw [List.getElem?_take_eq_none (by omega), List.getElem?_eq_none (by simpa using Nat.le_of_not_lt e)]

theorem sw_heap (w : World) (blk n : Nat) (d : Array PB) (os : Array Obj) (k : Nat) (hk : k < w.heap.size) :
    (sortWorldK encB 2 w blk 0 n d os).heap[k]? = if k = blk then (w.heap[k]?).map (onCells (putCells id 0 (flatK encB 2 d))) else w.heap[k]? := by
  show ((w.heap.modify blk (onCells (putCells id 0 (flatK encB 2 d)))) ++ os)[k]? = _
  rw [Array.getElem?_append_left (by simpa using hk), Array.getElem?_modify]
  by_cases e : blk = k
  · rw [if_pos e, if_pos e.symm]
  · rw [if_neg e, if_neg (fun h => e h.symm)]

/-- A world where one row's block is written, and new blocks lie. -/
structure RowOnly (A : Option Addr) (w w' : World) : Prop where
  os : w'.os = w.os
  tape : w'.tape = w.tape
  output : w'.output = w.output
  size : w.heap.size ≤ w'.heap.size
  block : ∀ k, k < w.heap.size → A.map (·.block) ≠ some k → w'.heap[k]? = w.heap[k]?

/-- Two worlds that differ in blocks of deferred calls alone. -/
structure Shut2 (lo : Nat) (W W' : World) : Prop where
  os : W'.os = W.os
  tape : W'.tape = W.tape
  output : W'.output = W.output
  size : W'.heap.size = W.heap.size
  block : ∀ k, (k < lo ∨ W.heap[k]? ≠ some (.deferred (some []))) → W'.heap[k]? = W.heap[k]?

theorem row_shut2 {lo B e s n : Nat} {v : Value} {xs : List Value} {w w' : World} (h : w.ownsRow B e s v n xs) (hs : Shut2 lo w w') : w'.ownsRow B e s v n xs := by
  refine ⟨h.1, ?_⟩
  rcases h.2 with hn | ⟨g, cap, cur, rfl, hB, hgg, rest⟩
  · exact .inl hn
  · exact .inr ⟨g, cap, cur, rfl, hB, by rw [hs.block g (.inr (by rw [hgg]; simp))]; exact hgg, rest⟩

theorem leaves_marks2 {F : Fence} {n : Nat} {P : Program} {fn : Func} {tmps : Array Value} {R : Ending → World → Prop} (lo : Nat) : ∀ (ds : List Deferred) (hi : Nat) (W : World), Marks lo W hi ds →
    (∀ W', Shut2 lo W W' → ∃ v, (results fn tmps).run P W' = .ok v W' ∧ R (.returned v) W') → LeavesInM F n P fn tmps R ds .returning W := by
  intro ds
  induction ds with
  | nil => intro _ W _ h; exact h W ⟨rfl, rfl, rfl, rfl, fun _ _ => rfl⟩
  | cons d ds ih =>
    rintro hi W ⟨r, h1, h2, rfl, h4, h5⟩ h
    refine ⟨by simp, .inl ⟨r, _, rfl, run_takeDeferred h4, ih r _ ?_ ?_⟩⟩
    · have key : ∀ (ds : List Deferred) (hi : Nat), hi ≤ r → Marks lo W hi ds → Marks lo (W.putObj r (.deferred none)) hi ds := by
        intro ds
        induction ds with
        | nil => intro _ _ _; trivial
        | cons d ds ih2 =>
          rintro hi hle ⟨q, g1, g2, g3, g4, g5⟩
          exact ⟨q, g1, g2, g3, by rw [World.putObj_heap_other (by omega)]; exact g4, ih2 q (by omega) g5⟩
      exact key ds r (Nat.le_refl _) h5
    · intro W' hs
      refine h W' ⟨hs.os, hs.tape, hs.output, by rw [hs.size]; simp, fun k hk => ?_⟩
      have hkr : k ≠ r := by
        rintro rfl
        rcases hk with hk | hk
        · omega
        · exact hk h4
      rw [hs.block k (by rw [World.putObj_heap_other hkr]; exact hk), World.putObj_heap_other hkr]

theorem sort_row (w : World) (B c : Nat) (A : Option Addr) (L : List PB) (hr : w.ownsRow B 126 2 (.slice A L.length c) L.length (cellsB L)) (hL : L.length < 4611686018427387904) :
    Calls Try.prog 76 #[.slice A L.length c, .func (.func 77) #[] #[]] w fun e w' => e = .returned (.tuple #[]) ∧
      ∃ L' : List PB, L'.Perm L ∧ L'.Pairwise (fun x y => x.1.val ≤ y.1.val) ∧ w'.ownsRow B 126 2 (.slice A L.length c) L.length (cellsB L') ∧ RowOnly A w w' := by
  rcases hr.2 with ⟨hn, h0⟩ | ⟨g, cap, cur, hv, hB, hg, hnc, hcm, hsz, htk⟩
  · injection hn with h1 h2 h3
    subst h1
    obtain rfl : L = [] := List.length_eq_zero_iff.1 h0
    refine (AnyF.slices_SortFunc_none Try.sortBl none c (.func (.func 77) #[] #[]) w).mono ?_
    rintro e w' ⟨he, rfl⟩
    exact ⟨he, [], List.Perm.refl _, List.Pairwise.nil, hr, rfl, rfl, rfl, Nat.le_refl _, fun _ _ _ => rfl⟩
  · injection hv with h1 h2 h3
    subst h1
    subst h3
    have hgl := lt_of_heap hg
    have hFs : (flatK encB 2 L.toArray).size = L.length * 2 := by simp
    have hH : HoldsK encB 2 w g 0 L.toArray := by
      intro j hj
      rw [hFs] at hj
      have e1 : (cellsB L)[j]? = some (flatK encB 2 L.toArray)[j]! := by
        rw [← flat_cells L, Array.getElem?_toList, Array.getElem?_eq_getElem (by omega), getElem!_pos _ j (by omega)]
      refine ⟨?_, by simp [World.frozen?, hg]⟩
      rw [cell_of_row w g _ cur _ _ hg, Nat.zero_add]
      rw [← htk, List.getElem?_take_of_lt hj, Array.getElem?_toList] at e1
      exact e1
    have hs := sort_ok g 0 c L.toArray w hH hgl (by simpa using hL)
    rw [show L.toArray.size = L.length by simp] at hs
    refine Calls.mono hs ?_
    rintro e w' ⟨he, d', n, os, ⟨hp1, _, hp3⟩, hso, rfl⟩
    have hd : d'.size = L.length := by simpa using hp1
    have hcl : (sortWorldK encB 2 w g 0 n d' os).heap[g]? = some (.cells (putCells id 0 (flatK encB 2 d') cur) 126 (0, 0)) := by
      rw [sw_heap _ _ _ _ _ _ hgl, if_pos rfl, hg]
      rfl
    have hFs' : (flatK encB 2 d').size = L.length * 2 := by simp [hd]
    obtain ⟨p1, p2⟩ := put_take (flatK encB 2 d') cur (by rw [hFs', hsz]; omega)
    have hfl : (flatK encB 2 d').toList = cellsB d'.toList := flat_cells d'.toList
    refine ⟨he, d'.toList, ?_, ?_, ⟨?_, .inr ⟨g, c, _, rfl, hB, hcl, hnc, hcm, by rw [p1]; exact hsz, ?_⟩⟩, rfl, rfl, rfl, ?_, fun k hk hne => ?_⟩
    · have e1 : d'.extract 0 L.length = d' := by rw [← hd]; simp
      have e2 : L.toArray.extract 0 L.length = L.toArray := by simp
      rw [e1, e2] at hp3
      simpa using hp3
    · rw [List.pairwise_iff_getElem]
      intro i j hi hj hij
      have := hso i j (Nat.zero_le _) hij (by simp at hj ⊢; omega)
      rw [ltB] at this
      simp only [Array.length_toList] at hi hj
      rw [getElem!_pos d' i hi, getElem!_pos d' j hj] at this
      simp at this
      simpa using this
    · rw [cellsB_len]; simp [hd]
    · rw [← hfl, ← p2, hFs']
    · show w.heap.size ≤ ((w.heap.modify g _) ++ os).size
      simp
    · rw [sw_heap _ _ _ _ _ _ hk, if_neg (by rintro rfl; simp at hne)]
end Bu
end Go.Proofs.Ytlknhbcambdccaa
namespace Go.Proofs.Ytlknhbcambdccaa
open Go.RowKit Go.Shelf Go.Lib Go.Sort
attribute [local go_sem] Oper.semAt_some
namespace Bu

def ListsAt (w : World) (b o : Nat) (F : Nat → Nat → Bool) : Prop := ∀ k, k < 11 → SetAt w b (o + k * 16) (F k)
def mkB (p k : Nat) : PB := (⟨p % 1024, Nat.mod_lt _ (by decide)⟩, ⟨k % 11, Nat.mod_lt _ (by decide)⟩)
/-- The blocks of the first j orders, as sorted collects them. -/
def collB (F : Nat → Nat → Bool) : Nat → List PB
  | 0 => []
  | j + 1 => collB F j ++ (members (F j) 1024).map (mkB · j)
theorem collB_len (F : Nat → Nat → Bool) : ∀ j, (collB F j).length ≤ j * 1024
  | 0 => by simp [collB]
  | j + 1 => by
    have h1 := collB_len F j
    have h2 := members_len (F j) 1024
    rw [collB, List.length_append, List.length_map]
    omega

theorem mkB_enc {x j : Nat} (hx : x < 1024) (hj : j < 11) : encB (mkB x j) = [.int .i64 ((x : Nat) : Int), .int .i64 ((j : Nat) : Int)] := by
  simp [encB, mkB, Nat.mod_eq_of_lt hx, Nat.mod_eq_of_lt hj]
/-- What the variable and its row own. -/
def ownA (bo : Nat) (A : Option Addr) : Ow := fun x => if x = bo ∨ A.map (·.block) = some x then some 0 else none
def OwnCells (own : Ow) (V : World) : Prop := ∀ x, own x ≠ none → ∃ cs T, V.heap[x]? = some (.cells cs T (0, 0))
theorem out_of {bo : Nat} {L : List PB} {V : World} {A : Option Addr} {c : Nat} (hb : Boxed V bo 44 (.slice A L.length c)) (hr : V.ownsRow bo 126 2 (.slice A L.length c) L.length (cellsB L)) :
    Out bo (ownA bo A) L V ∧ OwnCells (ownA bo A) V ∧ ∀ x, x < bo → ownA bo A x = none := by
  have key : ∀ x, ownA bo A x ≠ none → x = bo ∨ A.map (·.block) = some x := fun x hx => by
    unfold ownA at hx
    by_cases e : x = bo ∨ A.map (·.block) = some x
    · exact e
    · rw [if_neg e] at hx; exact absurd rfl hx
  refine ⟨⟨A, c, hb, hr, by simp [ownA], fun g hg => ?_⟩, fun x hx => ?_, fun x hx => ?_⟩
  · cases A with
    | none => cases hg
    | some a =>
      have : a.block = g := by simpa [Value.ownBlock] using hg
      simp [ownA, this]
  · rcases key x hx with rfl | h
    · exact ⟨_, _, hb⟩
    · rcases hr.2 with ⟨hn, _⟩ | ⟨g, cap, cur, hv, _, hg, _⟩
      · injection hn with h1; subst h1; cases h
      · injection hv with h1; subst h1
        simp at h; subst h
        exact ⟨_, _, hg⟩
  · refine Classical.byContradiction fun hn => ?_
    rcases key x hn with rfl | h
    · omega
    · cases A with
      | none => cases h
      | some a =>
        have : a.block = x := by simpa using h
        have := (hr.lt x (by simp [Value.ownBlock, this])).1
        omega

/-- The loop of sorted. -/
def SortedI (w : World) (b o : Nat) (F : Nat → Nat → Bool) (m : Nat) (a : Act) (W : World) : Prop :=
  ∃ (j : Nat) (ds : List Deferred) (own : Ow) (u1 u4 u5 u7 u8 u9 u10 u11 u12 u13 u14 u15 u16 u17 u18 u19 u20 u21 u22 u23 u24 : Value), m = 11 - j ∧ j ≤ 11 ∧ Out w.heap.size own (collB F j) W ∧ Fresh own W ∧ (∀ x, x < w.heap.size → own x = none) ∧ OwnCells own W ∧ Below w.heap.size w W ∧ Marks (w.heap.size + 1) W W.heap.size ds ∧
    a = ⟨#[.pointer (some ⟨b, o, none⟩), u1, .slice none 0 0, .pointer (some ⟨w.heap.size, 0, none⟩), u4, u5, .int .i64 (j : Int), u7, u8, u9, u10, u11, u12, u13, u14, u15, u16, u17, u18, u19, u20, u21, u22, u23, u24], ds⟩

set_option maxRecDepth 100000 in
set_option maxHeartbeats 2000000 in
theorem sorted_ok (w : World) (b o : Nat) (F : Nat → Nat → Bool) (hb : b < w.heap.size) (hL : ListsAt w b o F) :
    Calls Try.prog 48 #[.pointer (some ⟨b, o, none⟩)] w fun e w' => ∃ A c L, e = .returned (.slice A L.length c) ∧ L.Perm (collB F 11) ∧ L.Pairwise (fun x y => x.1.val ≤ y.1.val) ∧ w'.ownsRow w.heap.size 126 2 (.slice A L.length c) L.length (cellsB L) ∧ Below w.heap.size w w' := by
  refine (callsIn_wide (n := 8)).1 ?_
  refine callsIn_of_wp_marks Try.func48 rfl trivial ?_ rfl
  simp only [Try.ntmps48, List.size_toArray, List.length_cons, List.length_nil, Nat.reduceAdd, Nat.reduceSub, Array.replicate_succ, Array.replicate_zero, List.push_toArray, List.append_toArray, List.nil_append, List.cons_append]
  refine wpIn_wide.2 ?_
  go_wp2_with (fail)
  refine (wpIn_wide (n := 8)).1 ?_
  refine loopK (SortedI w b o F) 11 ?_ ?_
  · refine ⟨0, [], fun x => if x = w.heap.size then some 0 else none, _, _, _, _, _, _, _, _, _, _, _, _, _, _, _, _, _, _, _, _, _, rfl, by omega, ⟨none, 0, Boxed.new _ _ _, World.ownsRow_nil _ _ _ _, by simp, fun g h => by cases h⟩, ?_, fun x hx => by simp; omega, ?_, below_box _ _, trivial, rfl⟩
    · intro x hx
      by_cases e : x = w.heap.size
      · simp [e]
      · simp [e] at hx
    · intro x hx
      by_cases e : x = w.heap.size
      · subst e; exact ⟨_, _, heap_alloc_new _ _⟩
      · simp [e] at hx
  · rintro m a W ⟨j, ds, own, u1, u4, u5, u7, u8, u9, u10, u11, u12, u13, u14, u15, u16, u17, u18, u19, u20, u21, u22, u23, u24, hm, hj, hO, hf, hn, hoc, hbW, hM, rfl⟩ K hK
    by_cases hlt : j < 11
    · have e1 : (0 : Int) ≤ (j : Int) := by omega
      have e2 : (j : Int) < 11 := by omega
      have hsW := hbW.size
      have hSW0 : w.heap.size < W.heap.size := by obtain ⟨A, c, hbx, _⟩ := hO; exact hbx.lt
      have hrk : (W.alloc (.cells #[.int .i64 (j : Int)] 3)).heap[W.heap.size]? = some (.cells #[.int .i64 (j : Int)] 3 (0, 0)) := heap_alloc_new _ _
      obtain ⟨c4, _⟩ := one_cell hrk
      have hb4 : Below W.heap.size W (W.alloc (.cells #[.int .i64 (j : Int)] 3)) := below_box _ _
      have hs4 : (W.alloc (.cells #[.int .i64 (j : Int)] 3)).heap.size = W.heap.size + 1 := by simp
      have HX := Lib.hid (And.intro hO (And.intro hf (And.intro hn (And.intro hbW (And.intro hM (And.intro hL hoc))))))
      have HK := Lib.hid hK
      clear hO hf hn hbW hM hK hL hoc
      refine wpIn_wide.2 ?_
      go_wp2_with (fail)
      generalize W.alloc (.cells #[.int .i64 (j : Int)] 3) = W4 at *
      obtain ⟨WA, hWA⟩ : ∃ WA, WA = W4.drew.alloc (.cells #[.pointer (some ⟨b, o + j * 16, none⟩)] 144) := ⟨_, rfl⟩
      have hsA : WA.heap.size = W.heap.size + 2 := by rw [hWA]; simp [hs4]
      have hs4' : W4.drew.heap.size = W.heap.size + 1 := hs4
      have HAq := Lib.hid (all_ok W4.drew b (o + j * 16))
      rw [← hWA] at HAq
      have HA := Lib.hid hWA
      clear hWA
      refine wp_region_still_tail 4 (by kernel_rfl) (by kernel_rfl) ?_
      simp only [List.take_succ_cons, List.take_zero, List.drop_succ_cons, List.drop_zero]
      change wpStill _ _ (World.drew _) (fun a' => wpList _ _ _ _ a' (World.drew _)) _ _
      repeat still_step
      refine wpStill_nil ?_
      go_wp2_with (go_at_call 73; refine HAq.out.mono ?_; rintro e w' ⟨rfl, hw'⟩; rw [hs4', hw'])
      refine (wpIn_wide (n := 8)).1 ?_
      obtain ⟨i0, z0, hi0, hz0, hz1, hz2, hz3⟩ := info_open block_info
      have hbA : Below W.heap.size W WA := by rw [HA.out]; exact (hb4.drew).alloc (by show W.heap.size ≤ W4.drew.heap.size; omega) _
      have hrA : WA.heap[W.heap.size]? = some (.cells #[.int .i64 (j : Int)] 3 (0, 0)) := by rw [HA.out, heapAlloc, if_neg (by omega)]; exact hrk
      have hDA : WA.heap[W.heap.size + 1]? = some (.cells #[.pointer (some ⟨b, o + j * 16, none⟩)] 144 (0, 0)) := by rw [HA.out, heapAlloc, if_pos hs4'.symm]
      obtain ⟨ob, hob⟩ : ∃ ob, WA.heap[b]? = some ob := ⟨_, Array.getElem?_eq_getElem (by omega)⟩
      have hSet : ∀ V : World, V.heap[b]? = some ob → SetAt V b (o + j * 16) (F j) := fun V hV q hq => by
        have h1 := HX.out.2.2.2.2.2.1 j hlt q hq
        have h2 : V.heap[b]? = w.heap[b]? := hV.trans (hob.symm.trans ((hbA.block b (by omega)).trans (HX.out.2.2.2.1.block b hb)))
        exact ⟨(cell_of_block h2).trans h1.1, by have := h1.2; simp only [World.frozen?, h2] at this ⊢; exact this⟩
      obtain ⟨own0, hown⟩ : ∃ own0 : Ow, ∀ x, own0 x = if x = b ∨ x = W.heap.size then some 0 else own x := ⟨fun x => if x = b ∨ x = W.heap.size then some 0 else own x, fun _ => rfl⟩
      have HO := Lib.hid (And.intro hSet (And.intro hrA (And.intro hbA (And.intro hDA (And.intro hown hob)))))
      clear hSet hrA hbA hDA hown hob HAq hrk c4 hb4
      have hfr : ∀ x, W.heap.size ≤ x → own x = none := fun x hx => by
        cases e : own x with
        | none => rfl
        | some v => exact absurd (HX.out.2.1 x (by rw [e]; simp)) (by omega)
      refine rangeZ (I := fun own2 pre V => Out w.heap.size own2 (collB F j ++ pre.map (mkB · j)) V ∧ V.heap[b]? = some ob ∧ own2 b ≠ none ∧ V.heap[W.heap.size]? = some (.cells #[.int .i64 (j : Int)] 3 (0, 0)) ∧ own2 W.heap.size ≠ none ∧ pre.length ≤ 1024)
        (Ix := fun _ _ _ _ => False)
        rfl (by omega) (gf := 92) (lb := #[.pointer (some ⟨W.heap.size + 1, 0, none⟩)]) rfl trivial (enters_of Try.func92 (by kernel_rfl) rfl) (allseq (8 - 1) (by omega) (W.heap.size + 1) b (o + j * 16) (F j))
        own0 ?hf0 ?hD ?hR (fun _ => rfl) ?hE ?hI (fun _ _ _ _ _ h _ _ => h) ?h0 ?a1 ?assign ?body ?done ?stop
      case hf0 =>
        intro x hx
        rw [HO.out.2.2.2.2.1] at hx
        by_cases e : x = b ∨ x = W.heap.size
        · omega
        · rw [if_neg e] at hx
          have := HX.out.2.1 x hx
          omega
      case hD =>
        intro V hV
        exact ⟨by have := hV.size; omega, (one_cell ((hV.block _ (by omega)).trans HO.out.2.2.2.1)).1⟩
      case hR =>
        rintro x rfl
        refine ⟨?_, by omega⟩
        rw [HO.out.2.2.2.2.1, if_neg (by omega)]
        exact hfr _ (by omega)
      case hE =>
        rintro own2 pre V ⟨_, h, _⟩
        exact HO.out.1 V h
      case hI =>
        rintro own2 pre V V' ⟨h1, h2, h3, h4, h5, h6⟩ hs hk
        exact ⟨out_keep h1 hk, (hk _ h3 (lt_of_heap h2)).trans h2, h3, (hk _ h5 (lt_of_heap h4)).trans h4, h5, h6⟩
      case h0 =>
        have hO := HX.out.1
        refine ⟨?_, HO.out.2.2.2.2.2, by rw [HO.out.2.2.2.2.1, if_pos (.inl rfl)]; simp, HO.out.2.1, by rw [HO.out.2.2.2.2.1, if_pos (.inr rfl)]; simp, by simp⟩
        rw [List.map_nil, List.append_nil]
        obtain ⟨A, c, hbx, hrw, hox, hgx⟩ := out_keep hO (V' := WA) fun x _ hx => HO.out.2.2.1.block x hx
        refine ⟨A, c, hbx, hrw, ?_, fun g hg => ?_⟩
        · rw [HO.out.2.2.2.2.1]
          show (if _ then _ else _) ≠ none
          split
          · simp
          · exact hox
        · rw [HO.out.2.2.2.2.1]
          show (if _ then _ else _) ≠ none
          split
          · simp
          · exact hgx g hg
      case assign =>
        intro l x V K hK
        gi_wp2
        exact hK
      case body =>
        rintro l own2 pre x V ⟨⟨A, c, hbx, hrw, hox, hgx⟩, hbV, hob2, hrV, hor, hlen⟩ hfV ⟨hx1, hx2, hx3⟩
        have hbc := hbx.cell
        have hbf := hbx.frozen
        have hbl := hbx.lt
        obtain ⟨c4, _⟩ := one_cell hrV
        have hrVl := lt_of_heap hrV
        have hSW : w.heap.size < W.heap.size := hSW0
        have hpre : pre.length + 1 ≤ 1024 := by
          have := members_len (F j) x
          rw [← hx3] at this
          omega
        have hcl := collB_len F j
        obtain ⟨L, hL⟩ : ∃ L, L = collB F j ++ pre.map (mkB · j) := ⟨_, rfl⟩
        have hLl : L.length ≤ 20000 := by rw [hL, List.length_append, List.length_map]; omega
        rw [← hL] at hbx hrw hgx hbc
        have hee := mkB_enc hx1 hlt
        have HE := Lib.hid (And.intro hbx (And.intro hox (And.intro hgx (And.intro hbV (And.intro hob2 (And.intro hrV (And.intro hor (And.intro hpre (And.intro hee hL)))))))))
        clear hbx hox hgx hbV hob2 hrV hor hpre hcl hL hlen hx2 hx3 hee
        gi_wp2_with (gi_at_builtin; refine wpListIn_append_own_at _ rfl _ _ 44 rfl w.heap.size 126 i0 z0 2 16 Try.underlying44 hi0 hz0 hz1 hz2 hz3 (by omega) (.slice A L.length c) L.length (cellsB L) rfl (hrw.alloc _) ⟨V.heap.size, 0, none⟩ 1 1 [.int .i64 (x : Int), .int .i64 (j : Int)] rfl rfl (two_new _ _ _ _) (by simp [Value.oneCell']) (by unfold maxLen; omega) (by omega) (by simp; omega) ?_
                     intro v' w1 hown' hgrow _ hat
                     rw [← HE.out.2.2.2.2.2.2.2.2.1] at hown'
                     obtain ⟨own3, hk3, ho3⟩ := out_step HE.out.1 hrw HE.out.2.1 HE.out.2.2.1 hown' hgrow hat
                     obtain ⟨g', cap', rfl⟩ := ownsRow_succ hown'
                     have hc1 : w1.cell? ⟨w.heap.size, 0, none⟩ = some (.slice A L.length c) := (HE.out.1.appended (by decide) hrw (by omega) (Nat.le_refl _) hown' hgrow).1.cell
                     have hf1 : w1.frozen? ⟨w.heap.size, 0, none⟩ = false := (HE.out.1.appended (by decide) hrw (by omega) (Nat.le_refl _) hown' hgrow).1.frozen
                     have H3 := Lib.hid (And.intro hk3 (And.intro ho3 hgrow))
                     clear hk3 ho3 hgrow)
        have hbk : w1.heap[b]? = some ob := (H3.out.2.2.block b (by rw [World.size_alloc]; omega) (fun e => by have := (hrw.lt b e.symm).1; omega)).trans ((alloc_old V _ b (by omega)).trans HE.out.2.2.2.1)
        have hrB : Boxed V W.heap.size 3 (.int .i64 (j : Int)) := HE.out.2.2.2.2.2.1
        have hrk : Boxed w1 W.heap.size 3 (.int .i64 (j : Int)) := (hrB.alloc _).kept H3.out.2.2 (hrB.not_row (by decide) hrw)
        refine ⟨own3, H3.out.1, ?_, ?_, ?_, ?_, ?_, ?_⟩
        · rw [List.map_append, ← List.append_assoc, ← HE.out.2.2.2.2.2.2.2.2.2]
          exact H3.out.2.1
        · exact (setCell_far _ _ _ _ (by show b ≠ w.heap.size; omega)).trans hbk
        · rw [H3.out.1.same b (by omega)]; exact HE.out.2.2.2.2.1
        · exact (setCell_far _ _ _ _ (by show W.heap.size ≠ w.heap.size; omega)).trans hrk
        · rw [H3.out.1.same _ (by omega)]; exact HE.out.2.2.2.2.2.2.1
        · rw [List.length_append, List.length_singleton]; exact HE.out.2.2.2.2.2.2.2.1
      case done =>
        rintro own2 xs V hxs ⟨hO2, hbV, hob2, hrV, hor, hlen⟩ hKV hd hdv
        have hz : ∀ x, x ≠ b → x ≠ W.heap.size → own x = none → own0 x = none := fun x h1 h2 h3 => by
          rw [HO.out.2.2.2.2.1, if_neg (by omega)]; exact h3
        have hBl : Below w.heap.size w V := by
          have h1 := HX.out.2.2.2.1
          have h2 := HO.out.2.2.1
          refine ⟨hKV.os.trans (h2.os.trans h1.os), hKV.tape.trans (h2.tape.trans h1.tape), hKV.output.trans (h2.output.trans h1.output), Nat.le_trans h1.size (Nat.le_trans h2.size hKV.size), fun x hx => ?_⟩
          by_cases hxb : x = b
          · rw [hxb, hbV, ← HO.out.2.2.2.2.2, h2.block b (by omega), h1.block b (by omega)]
          · rw [hKV.block x (by omega) (hz x hxb (by omega) (HX.out.2.2.1 x hx)), h2.block x (by omega), h1.block x hx]
        have hMV : Marks (w.heap.size + 1) V V.heap.size ({ target := .collected WA.heap.size, args := #[] } :: ds) := by
          refine ⟨WA.heap.size, by omega, lt_of_heap hdv, rfl, hdv, HX.out.2.2.2.2.1.keep (by omega) fun x hx hxd => ?_⟩
          have hxl := lt_of_heap hxd
          have hxo : own x = none := by
            refine Classical.byContradiction fun hn => ?_
            obtain ⟨cs, T, he⟩ := HX.out.2.2.2.2.2.2 x hn
            rw [he] at hxd; cases hxd
          rw [hKV.block x (by omega) (hz x (by omega) (by omega) hxo), HO.out.2.2.1.block x hxl]
          exact hxd
        have hcB : collB F j ++ xs.map (mkB · j) = collB F (j + 1) := by rw [collB, hxs]
        rw [hcB] at hO2
        have hO4 := hO2
        obtain ⟨A2, c2, hbx2, hrw2, _, _⟩ := hO4
        obtain ⟨g1, g2, g3⟩ := out_of hbx2 hrw2
        have hkk : IntKind.i64.wrap ((j : Int) + 1) = ((j + 1 : Nat) : Int) := by rw [IntWalk.i64_in _ (by omega)]; rfl
        have HL := Lib.hid (And.intro hMV (And.intro g1 (And.intro g2 (And.intro g3 hBl))))
        clear hMV hO2 hKV hd hdv hxs hBl hrV hbV hbx2 hrw2 g1 g2 g3 hcB hz
        go_wp2
        refine HK.out (11 - (j + 1)) _ _ (by omega) ?_
        refine ⟨j + 1, _, ownA w.heap.size A2, _, _, _, _, _, _, _, _, _, _, _, _, _, _, _, _, _, _, _, _, _, rfl, by omega, HL.out.2.1, fun x hx => ?_, HL.out.2.2.2.1, HL.out.2.2.1, HL.out.2.2.2.2, HL.out.1, rfl⟩
        obtain ⟨cs, T, he⟩ := HL.out.2.2.1 x hx
        exact lt_of_heap he
      case stop =>
        rintro own2 c pre V hSp h
        exact h.elim
    · obtain rfl : j = 11 := by omega
      obtain ⟨A, c, hbx, hrw, _, _⟩ := hO
      have hbc := hbx.cell
      have hSo := Lib.hid (sort_row W w.heap.size c A (collB F 11) hrw (by have := collB_len F 11; omega))
      have hSne := hbx.not_row (by decide) hrw
      have hrlt := hrw.lt
      have hcells : ∀ x, A.map (·.block) = some x → W.heap[x]? ≠ some (.deferred (some [])) := by
        intro x hx hd
        rcases hrw.2 with ⟨hn, _⟩ | ⟨g, cap, cur, hv, _, hg, _⟩
        · injection hn with h1; subst h1; cases hx
        · injection hv with h1; subst h1
          simp at hx; subst hx
          rw [hg] at hd; cases hd
      have hAb : ∀ x, A.map (·.block) = some x → (Value.slice A (collB F 11).length c).ownBlock = some x := by
        intro x hx
        cases A with
        | none => cases hx
        | some a => simpa [Value.ownBlock] using hx
      have HX := Lib.hid (And.intro hbx (And.intro hbW (And.intro hM (And.intro hSne (And.intro hrlt (And.intro hcells hAb))))))
      clear hbx hbW hM hSne hrlt hcells hAb hrw hf hn hoc hL hK
      generalize hG : collB F 11 = L0 at *
      have HG := Lib.hid hG
      clear hG
      refine wpIn_wide.2 ?_
      go_wp2_with (go_at_call 76; refine hSo.out.mono ?_; rintro e w' ⟨rfl, L', hp, hs, hr', hro⟩; have hSk : A.map (·.block) ≠ some w.heap.size := (fun h => HX.out.2.2.2.1 (HX.out.2.2.2.2.2.2 _ h).symm); have hb' : Boxed w' w.heap.size 44 (.slice A L0.length c) := ((hro.block _ HX.out.1.lt hSk).trans HX.out.1); have hbc2 := hb'.cell; have H3 := Lib.hid (And.intro hp (And.intro hs (And.intro hr' (And.intro hro hb')))); clear hp hs hr' hro hb')
      have hMw : Marks (w.heap.size + 1) w' w'.heap.size ds := HX.out.2.2.1.keep H3.out.2.2.2.1.size fun x hx hd => by
        have hxl := lt_of_heap hd
        rw [H3.out.2.2.2.1.block x hxl fun h => HX.out.2.2.2.2.2.1 x h hd]; exact hd
      refine leaves_marks2 (w.heap.size + 1) ds _ _ hMw fun V' hs => ⟨_, results_tmp rfl _ _ _, ?_⟩
      have hlen : L'.length = L0.length := H3.out.1.length_eq
      have hro := H3.out.2.2.2.1
      have hbW := HX.out.2.1
      refine ⟨A, c, L', by rw [hlen]; rfl, by rw [HG.out]; exact H3.out.1, H3.out.2.1, ?_, ?_⟩
      · rw [hlen]
        exact row_shut2 H3.out.2.2.1 hs
      · refine ⟨hs.os.trans (hro.os.trans hbW.os), hs.tape.trans (hro.tape.trans hbW.tape), hs.output.trans (hro.output.trans hbW.output), by rw [hs.size]; exact Nat.le_trans hbW.size hro.size, fun x hx => ?_⟩
        have := hbW.size
        rw [hs.block x (.inl (by omega)), hro.block x (by omega) (fun h => by have := (HX.out.2.2.2.2.1 x (HX.out.2.2.2.2.2.2 x h)).1; omega)]
        exact hbW.block x hx
end Bu
end Go.Proofs.Ytlknhbcambdccaa
namespace Go.Proofs.Ytlknhbcambdccaa
open Go.RowKit
namespace Bu

theorem below_drewN {n : Nat} {w w' : World} (h : Below n w w') (q : Nat) : Below n w (w'.drewN q) := ⟨h.os, h.tape, h.output, h.size, h.block⟩
/-- A slice of blocks, with whatever numbers. -/
def ZAt (w : World) (A : Option Addr) (c : Nat) (L : List (Int × Int)) : Prop :=
  L.length ≤ c ∧ c ≤ maxLen ∧ ∀ (j : Nat) (x : Int × Int), L[j]? = some x → ∃ g o, A = some ⟨g, o, none⟩ ∧ g < w.heap.size ∧ w.cell? ⟨g, o + j * 2, none⟩ = some (.int .i64 x.1) ∧ w.cell? ⟨g, o + j * 2 + 1, none⟩ = some (.int .i64 x.2)

theorem ZAt.keep {w w' : World} {A : Option Addr} {c : Nat} {L : List (Int × Int)} (h : ZAt w A c L) (hs : w.heap.size ≤ w'.heap.size) (hk : ∀ g, A.map (·.block) = some g → g < w.heap.size → w'.heap[g]? = w.heap[g]?) : ZAt w' A c L := by
  refine ⟨h.1, h.2.1, fun j x hx => ?_⟩
  obtain ⟨g, o, hA, hg, h1, h2⟩ := h.2.2 j x hx
  have e := hk g (by rw [hA]; rfl) hg
  exact ⟨g, o, hA, by omega, (World.cell?_of_block (a := ⟨g, _, none⟩) e).trans h1, (World.cell?_of_block (a := ⟨g, _, none⟩) e).trans h2⟩
theorem ZAt.below {w w' : World} {A : Option Addr} {c : Nat} {L : List (Int × Int)} (h : ZAt w A c L) (hb : Below w.heap.size w w') : ZAt w' A c L :=
  h.keep hb.size fun g _ hg => hb.block g hg

def zb (x : Blk) : Int × Int := ((x.1 : Int), (x.2 : Int))
/-- A slice that reads as blocks. -/
def BlkAt (w : World) (A : Option Addr) (c : Nat) (L : List Blk) : Prop := ZAt w A c (L.map zb)
theorem BlkAt.keep {w w' : World} {A : Option Addr} {c : Nat} {L : List Blk} (h : BlkAt w A c L) (hs : w.heap.size ≤ w'.heap.size) (hk : ∀ g, A.map (·.block) = some g → g < w.heap.size → w'.heap[g]? = w.heap[g]?) : BlkAt w' A c L := ZAt.keep h hs hk
theorem BlkAt.below {w w' : World} {A : Option Addr} {c : Nat} {L : List Blk} (h : BlkAt w A c L) (hb : Below w.heap.size w w') : BlkAt w' A c L := ZAt.below h hb
theorem BlkAt.at {w : World} {A : Option Addr} {c : Nat} {L : List Blk} (h : BlkAt w A c L) {j : Nat} {x : Blk} (hx : L[j]? = some x) :
    ∃ g o, A = some ⟨g, o, none⟩ ∧ g < w.heap.size ∧ w.cell? ⟨g, o + j * 2, none⟩ = some (.int .i64 (x.1 : Int)) ∧ w.cell? ⟨g, o + j * 2 + 1, none⟩ = some (.int .i64 (x.2 : Int)) :=
  h.2.2 j (zb x) (by rw [List.getElem?_map, hx]; rfl)
theorem BlkAt.len {w : World} {A : Option Addr} {c : Nat} {L : List Blk} (h : BlkAt w A c L) : L.length ≤ c ∧ c ≤ maxLen := by
  have := h.1; rw [List.length_map] at this; exact ⟨this, h.2.1⟩

/-- A state as a value. -/
abbrev sv (N : Int) (A : Option Addr) (n c : Nat) : Value := .agg #[.int .i64 N, .slice A n c]

theorem order_ok (n : Int) (w : World) : Calls Try.prog 98 #[.int .i64 n] w fun e w' => e = .returned (.bool (decide (0 ≤ n ∧ n ≤ 10))) ∧ w = w' := by
  have hc : (n < 0) ∨ (0 ≤ n ∧ n ≤ 10) ∨ (0 ≤ n ∧ 10 < n) := by omega
  rcases hc with h | ⟨h, h2⟩ | ⟨h, h2⟩
  · go_enter Try.func98, Try.ntmps98
    go_wp2
    go_ret
    exact ⟨congrArg (fun x => Ending.returned (.bool x)) (by simp; omega), rfl⟩
  · go_enter Try.func98, Try.ntmps98
    go_wp2
    go_ret
    exact ⟨congrArg (fun x => Ending.returned (.bool x)) (by simp; omega), rfl⟩
  · go_enter Try.func98, Try.ntmps98
    go_wp2
    go_ret
    exact ⟨congrArg (fun x => Ending.returned (.bool x)) (by simp; omega), rfl⟩

theorem size_ok (n : Nat) (w : World) (hn : n ≤ 11) : Calls Try.prog 87 #[.int .i64 (n : Int)] w fun e w' => e = .returned (.int .i64 ((2 ^ n : Nat) : Int)) ∧ w = w' := by
  have hp := pow_w64 n hn
  have hu : IntKind.u64.wrap (n : Int) = (n : Int) := by simp [IntKind.wrap, IntKind.bits, IntKind.signed]; omega
  have h0 : (0 : Int) ≤ (n : Int) := by omega
  have hmin : min n 64 = n := by omega
  obtain ⟨M, hM⟩ : ∃ M : Nat, M = 2 ^ n := ⟨_, rfl⟩
  rw [← hM] at hp ⊢
  clear hM
  go_enter Try.func87, Try.ntmps87
  go_wp2
  go_ret
  exact ⟨congrArg (fun x => Ending.returned (.int .i64 x)) hp, rfl⟩

/-- In, of whatever numbers. -/
def inZ (N : Nat) (p n : Int) : Bool := decide (0 ≤ n ∧ n ≤ 10 ∧ n ≤ N ∧ 0 ≤ p ∧ InB N (p.toNat, n.toNat))

theorem inZ_nat {N : Nat} (hN : N ≤ 10) (p n : Nat) : inZ N (p : Int) (n : Int) = decide (InB N (p, n)) := by
  unfold inZ
  rw [decide_eq_decide]
  constructor
  · rintro ⟨_, _, _, _, h⟩; simpa using h
  · intro h
    have h1 : n ≤ N := h.1
    exact ⟨by omega, by omega, by omega, by omega, by simpa using h⟩
theorem inZ_true {N : Nat} {p n : Int} (h : inZ N p n = true) : ∃ q k : Nat, p = q ∧ n = k ∧ InB N (q, k) := by
  unfold inZ at h
  rw [decide_eq_true_eq] at h
  exact ⟨p.toNat, n.toNat, by omega, by omega, h.2.2.2.2⟩

set_option maxRecDepth 100000 in
set_option maxHeartbeats 1000000 in
theorem inR_nat (N p n : Nat) (hN : N ≤ 10) (hn : n ≤ N) (w : World) :
    Calls Try.prog 101 #[.int .i64 (N : Int), .int .i64 (p : Int), .int .i64 (n : Int)] w fun e w' => e = .returned (.bool (decide (InB N (p, n)))) ∧ w = w' := by
  have HO0 := order_ok (n : Int) w
  rw [decide_eq_true (show (0 : Int) ≤ (n : Int) ∧ (n : Int) ≤ 10 by omega)] at HO0
  have HO := Lib.hid HO0
  have HN := Lib.hid (size_ok N w (by omega))
  have Hn := Lib.hid (size_ok n w (by omega))
  have hle : 2 ^ n ≤ 2 ^ N := Nat.pow_le_pow_right (by decide) hn
  have hlt : 2 ^ N ≤ 1024 := by
    have : 2 ^ N ≤ 2 ^ 10 := Nat.pow_le_pow_right (by omega) hN
    omega
  have hpos := pow_pos2 n
  have hin : InB N (p, n) ↔ p % 2 ^ n = 0 ∧ p + 2 ^ n ≤ 2 ^ N := ⟨fun h => h.2, fun h => ⟨hn, h⟩⟩
  obtain ⟨M, hM⟩ : ∃ M : Nat, M = 2 ^ N := ⟨_, rfl⟩
  obtain ⟨m, hm⟩ : ∃ m : Nat, m = 2 ^ n := ⟨_, rfl⟩
  rw [← hM] at HN hle hlt hin
  rw [← hm] at Hn hle hpos hin
  have e1 : (0 : Int) ≤ (n : Int) := by omega
  have e2 : (n : Int) ≤ (N : Int) := by omega
  have e3 : (0 : Int) ≤ (p : Int) := by omega
  have hsub : IntKind.i64.wrap ((M : Int) - (m : Int)) = ((M - m : Nat) : Int) := by rw [IntWalk.i64_in _ (by omega)]; omega
  have hsub2 : (M : Int) - (m : Int) = ((M - m : Nat) : Int) := by omega
  have H2 := Lib.hid hsub2
  have HI := Lib.hid hin
  clear HO0 hM hm hin hsub2
  by_cases hp : p ≤ M - m
  · have e4 : (p : Int) ≤ ((M - m : Nat) : Int) := by omega
    have e5 : (p : Int) ≤ (M : Int) - (m : Int) := by omega
    have hmm : ((m : Nat) : Int) ≠ 0 := by omega
    have hdec : decide (InB N (p, n)) = (((p : Int) % (m : Int)) == 0) := by
      rw [Bool.eq_iff_iff, decide_eq_true_eq, beq_iff_eq, HI.out]
      omega
    have HD := Lib.hid hdec
    clear hdec
    go_enter Try.func101, Try.ntmps101
    go_wp2_with (first | (go_at_call 98; refine HO.out.mono ?_; rintro e w' ⟨rfl, rfl⟩) | (go_at_call 87; refine HN.out.mono ?_; rintro e w' ⟨rfl, rfl⟩) | (go_at_call 87; refine Hn.out.mono ?_; rintro e w' ⟨rfl, rfl⟩))
    go_ret
    exact ⟨congrArg (fun x => Ending.returned (.bool x)) HD.out.symm, rfl⟩
  · have e4 : (((M - m : Nat) : Int)) < (p : Int) := by omega
    have e5 : ¬ (p : Int) ≤ (M : Int) - (m : Int) := by omega
    have hdec : decide (InB N (p, n)) = false := by rw [decide_eq_false_iff_not, HI.out]; omega
    have HD := Lib.hid hdec
    clear hdec
    go_enter Try.func101, Try.ntmps101
    go_wp2_with (first | (go_at_call 98; refine HO.out.mono ?_; rintro e w' ⟨rfl, rfl⟩) | (go_at_call 87; refine HN.out.mono ?_; rintro e w' ⟨rfl, rfl⟩) | (go_at_call 87; refine Hn.out.mono ?_; rintro e w' ⟨rfl, rfl⟩))
    go_ret
    exact ⟨congrArg (fun x => Ending.returned (.bool x)) HD.out.symm, rfl⟩

set_option maxRecDepth 100000 in
set_option maxHeartbeats 1000000 in
theorem inR_bad (N : Nat) (p n : Int) (hN : N ≤ 10) (h : n < 0 ∨ 10 < n ∨ (0 ≤ n ∧ n ≤ 10 ∧ (N : Int) < n) ∨ (0 ≤ n ∧ n ≤ 10 ∧ n ≤ N ∧ p < 0)) (w : World) :
    Calls Try.prog 101 #[.int .i64 (N : Int), .int .i64 p, .int .i64 n] w fun e w' => e = .returned (.bool false) ∧ w = w' := by
  have HO0 := order_ok n w
  rcases h with h | h | ⟨h, h2, h3⟩ | ⟨h, h2, h3, h4⟩
  · rw [decide_eq_false (show ¬ ((0 : Int) ≤ n ∧ n ≤ 10) by omega)] at HO0
    have HO := Lib.hid HO0
    clear HO0
    go_enter Try.func101, Try.ntmps101
    go_wp2_with (go_at_call 98; refine HO.out.mono ?_; rintro e w' ⟨rfl, rfl⟩)
    go_ret
    exact ⟨rfl, rfl⟩
  · rw [decide_eq_false (show ¬ ((0 : Int) ≤ n ∧ n ≤ 10) by omega)] at HO0
    have HO := Lib.hid HO0
    clear HO0
    go_enter Try.func101, Try.ntmps101
    go_wp2_with (go_at_call 98; refine HO.out.mono ?_; rintro e w' ⟨rfl, rfl⟩)
    go_ret
    exact ⟨rfl, rfl⟩
  · rw [decide_eq_true (show ((0 : Int) ≤ n ∧ n ≤ 10) by omega)] at HO0
    have HO := Lib.hid HO0
    clear HO0
    go_enter Try.func101, Try.ntmps101
    go_wp2_with (go_at_call 98; refine HO.out.mono ?_; rintro e w' ⟨rfl, rfl⟩)
    go_ret
    exact ⟨rfl, rfl⟩
  · rw [decide_eq_true (show ((0 : Int) ≤ n ∧ n ≤ 10) by omega)] at HO0
    have HO := Lib.hid HO0
    clear HO0
    go_enter Try.func101, Try.ntmps101
    go_wp2_with (go_at_call 98; refine HO.out.mono ?_; rintro e w' ⟨rfl, rfl⟩)
    go_ret
    exact ⟨rfl, rfl⟩

theorem inR_ok (N : Nat) (p n : Int) (hN : N ≤ 10) (w : World) :
    Calls Try.prog 101 #[.int .i64 (N : Int), .int .i64 p, .int .i64 n] w fun e w' => e = .returned (.bool (inZ N p n)) ∧ w = w' := by
  by_cases h : 0 ≤ n ∧ n ≤ 10 ∧ n ≤ N ∧ 0 ≤ p
  · obtain ⟨h1, h2, h3, h4⟩ := h
    obtain ⟨k, rfl⟩ := Int.eq_ofNat_of_zero_le h1
    obtain ⟨q, rfl⟩ := Int.eq_ofNat_of_zero_le h4
    rw [inZ_nat hN]
    exact inR_nat N q k hN (by omega) w
  · have e : inZ N p n = false := by
      unfold inZ
      rw [decide_eq_false_iff_not]
      rintro ⟨h1, h2, h3, h4, _⟩
      exact h ⟨h1, h2, h3, h4⟩
    rw [e]
    exact inR_bad N p n hN (by omega) w
end Bu
end Go.Proofs.Ytlknhbcambdccaa
