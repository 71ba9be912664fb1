/- The iterator of orders: its memory. The iterator of orders: a whole order is handed out. -/
import Derived.Test.YtjgakcpjphdicaaK30
import Derived.Test.YtjgakcpjphdicaaK12
import Derived.Test.YtjgakcpjphdicaaK8
import Derived.Deep.DeepAppendRoom
import Derived.Test.YtjgakcpjphdicaaK28
import Derived.Shelf.Slices.Turned
namespace Go.Proofs.Ytjgakcpjphdicaa
open Go.RowKit Go.Shelf
namespace Of

/-- Blocks that nobody owns are as they were, but for some. -/
structure Kz (X : Nat → Prop) (own own' : Ow) (w w' : World) : Prop where
  os : w'.os = w.os
  tape : w'.tape = w.tape
  output : w'.output = w.output
  size : w.heap.size ≤ w'.heap.size
  block : ∀ k, k < w.heap.size → own k = none → ¬ X k → w'.heap[k]? = w.heap[k]?
  same : ∀ k, k < w.heap.size → own' k = own k
  new : ∀ k, own' k ≠ none → own k ≠ none ∨ (w.heap.size ≤ k ∧ k < w'.heap.size)
theorem Kz.refl (X : Nat → Prop) (own : Ow) (w : World) : Kz X own own w w := ⟨rfl, rfl, rfl, Nat.le_refl _, fun _ _ _ _ => rfl, fun _ _ => rfl, fun _ h => .inl h⟩
theorem Kz.trans {X : Nat → Prop} {o1 o2 o3 : Ow} {a b c : World} (h : Kz X o1 o2 a b) (k : Kz X o2 o3 b c) : Kz X o1 o3 a c :=
  ⟨k.os.trans h.os, k.tape.trans h.tape, k.output.trans h.output, Nat.le_trans h.size k.size,
    fun i hi hn hx => (k.block i (Nat.lt_of_lt_of_le hi h.size) ((h.same i hi).trans hn) hx).trans (h.block i hi hn hx),
    fun i hi => (k.same i (Nat.lt_of_lt_of_le hi h.size)).trans (h.same i hi),
    fun i hi => by
      have h1 := h.size
      have h2 := k.size
      rcases k.new i hi with h3 | h3
      · rcases h.new i h3 with h4 | h4
        · exact .inl h4
        · exact .inr ⟨h4.1, by omega⟩
      · exact .inr ⟨by omega, h3.2⟩⟩
theorem Kz.of_keeps {X : Nat → Prop} {own own' : Ow} {w w' : World} (h : Keeps own own' w w') : Kz X own own' w w' := ⟨h.os, h.tape, h.output, h.size, fun k h1 h2 _ => h.block k h1 h2, h.same, h.new⟩
theorem Kz.keeps {X : Nat → Prop} {own own' : Ow} {w w' : World} (h : Kz X own own' w w') (hX : ∀ k, X k → w.heap.size ≤ k) : Keeps own own' w w' := ⟨h.os, h.tape, h.output, h.size, fun k h1 h2 => h.block k h1 h2 fun hx => by have := hX k hx; omega, h.same, h.new⟩
theorem Fresh.kz {X : Nat → Prop} {own own' : Ow} {w w' : World} (h : Fresh own w) (k : Kz X own own' w w') : Fresh own' w' := fun i hi => by
  rcases k.new i hi with h1 | h1
  · exact Nat.lt_of_lt_of_le (h i h1) k.size
  · exact h1.2
theorem Kz.of_grow {X : Nat → Prop} (own : Ow) {g : Nat} {w w' : World} (h : Grow1 g w w') (hX : X g) : Kz X own own w w' :=
  ⟨h.os, h.tape, h.output, h.size, fun k hk _ hx => h.block k hk (fun e => hx (by rw [e]; exact hX)), fun _ _ => rfl, fun _ h => .inl h⟩
theorem Kz.cell {X : Nat → Prop} {own own' : Ow} {w w' : World} (h : Kz X own own' w w') {k o : Nat} {v : Value} (hc : w.cell? ⟨k, o, none⟩ = some v) (hn : own k = none) (hx : ¬ X k) : w'.cell? ⟨k, o, none⟩ = some v :=
  (World.cell?_of_block (a := ⟨k, o, none⟩) (h.block k (World.block_lt_of_cell? w (a := ⟨k, o, none⟩) hc) hn hx)).trans hc

/-- The blocks that the iterator writes. -/
abbrev wr3 (co ga go : Nat) (k : Nat) : Prop := k = co ∨ k = ga ∨ k = go
/-- The closure that goes deeper. -/
abbrev deepC (yb b2 b3 ca cd co : Nat) : Array Value := #[.pointer (some ⟨co, 0, none⟩), .pointer (some ⟨b2, 0, none⟩), .pointer (some ⟨yb, 0, none⟩), .pointer (some ⟨ca, 0, none⟩), .pointer (some ⟨b3, 0, none⟩), .pointer (some ⟨cd, 0, none⟩)]
/-- What stays. -/
structure ItC (own : Ow) (W : World) (l bb : Nat) (lA : Option Addr) (lc : Nat) (L : List OB) (yb b2 b3 ca cd co ga go : Nat) : Prop where
  cy : W.cell? ⟨yb, 0, none⟩ = some (.func (.yield l) #[] #[])
  c2 : W.cell? ⟨b2, 0, none⟩ = some (.slice lA L.length lc)
  c3 : W.cell? ⟨b3, 0, none⟩ = some (.pointer (some ⟨bb, 0, none⟩))
  cA : W.cell? ⟨ca, 0, none⟩ = some (.slice (some ⟨ga, 0, none⟩) L.length L.length)
  cD : W.cell? ⟨cd, 0, none⟩ = some (.func (.func 60) #[] (deepC yb b2 b3 ca cd co))
  oN : own yb = none ∧ own b2 = none ∧ own b3 = none ∧ own ca = none ∧ own cd = none ∧ own co = none ∧ own ga = none ∧ own go = none
  ne : ¬ wr3 co ga go yb ∧ ¬ wr3 co ga go b2 ∧ ¬ wr3 co ga go b3 ∧ ¬ wr3 co ga go ca ∧ ¬ wr3 co ga go cd
  ne3 : co ≠ ga ∧ co ≠ go ∧ ga ≠ go
  l : OBAt W lA lc L
  lo : 0 < L.length → ∀ g, lA.map (·.block) = some g → own g = none ∧ ¬ wr3 co ga go g
theorem obat_kz {X : Nat → Prop} {own own' : Ow} {w w' : World} {lA : Option Addr} {lc : Nat} {L : List OB} (k : Kz X own own' w w') (h : OBAt w lA lc L) (hl : 0 < L.length → ∀ g, lA.map (·.block) = some g → own g = none ∧ ¬ X g) : OBAt w' lA lc L := by
  refine ⟨h.1, h.2.1, fun j x hx => ?_⟩
  have hp : 0 < L.length := by have := (List.getElem?_eq_some_iff.1 hx).1; omega
  obtain ⟨g, o, hA, hg, h1, h2, h3, h4⟩ := h.2.2 j x hx
  obtain ⟨e1, e2⟩ := hl hp g (by rw [hA]; rfl)
  have e := k.block g hg e1 e2
  have := k.size
  exact ⟨g, o, hA, by omega, (World.cell?_of_block (a := ⟨g, _, none⟩) e).trans h1, (World.cell?_of_block (a := ⟨g, _, none⟩) e).trans h2, (World.cell?_of_block (a := ⟨g, _, none⟩) e).trans h3, (World.cell?_of_block (a := ⟨g, _, none⟩) e).trans h4⟩
theorem ItC.kz {own own' : Ow} {W W' : World} {l bb : Nat} {lA : Option Addr} {lc : Nat} {L : List OB} {yb b2 b3 ca cd co ga go : Nat} (h : ItC own W l bb lA lc L yb b2 b3 ca cd co ga go) (hco : co < W.heap.size) (hga : ga < W.heap.size) (hgo : go < W.heap.size)
    (k : Kz (wr3 co ga go) own own' W W') : ItC own' W' l bb lA lc L yb b2 b3 ca cd co ga go := by
  obtain ⟨o1, o2, o3, o4, o5, o6, o7, o8⟩ := h.oN
  obtain ⟨n1, n2, n3, n4, n5⟩ := h.ne
  have lt : ∀ {q o : Nat} {v : Value}, W.cell? ⟨q, o, none⟩ = some v → q < W.heap.size := fun hc => World.block_lt_of_cell? W (a := ⟨_, _, none⟩) hc
  refine ⟨k.cell h.cy o1 n1, k.cell h.c2 o2 n2, k.cell h.c3 o3 n3, k.cell h.cA o4 n4, k.cell h.cD o5 n5, ⟨(k.same _ (lt h.cy)).trans o1, (k.same _ (lt h.c2)).trans o2, (k.same _ (lt h.c3)).trans o3, (k.same _ (lt h.cA)).trans o4, (k.same _ (lt h.cD)).trans o5, (k.same _ hco).trans o6, (k.same _ hga).trans o7, (k.same _ hgo).trans o8⟩, h.ne, h.ne3, obat_kz k h.l h.lo, fun hp g hg => ?_⟩
  obtain ⟨e1, e2⟩ := h.lo hp g hg
  obtain ⟨g', o', hA, hg'⟩ := h.l.head hp
  have : g' = g := by rw [hA] at hg; injection hg
  exact ⟨(k.same g (by omega)).trans e1, e2⟩
/-- The order so far. -/
structure OrdAt (W : World) (co go n : Nat) (b : List Nat) : Prop where
  cell : W.heap[co]? = some (.cells #[.slice (some ⟨go, 0, none⟩) b.length n] 25 (0, 0))
  row : W.ownsRow 0 3 1 (.slice (some ⟨go, 0, none⟩) b.length n) b.length (ci (zsP b))
theorem OrdAt.lt {W : World} {co go n : Nat} {b : List Nat} (h : OrdAt W co go n b) : co < W.heap.size ∧ go < W.heap.size := ⟨lt_of_heap h.cell, (h.row.lt go rfl).2⟩
theorem OrdAt.keep {W W' : World} {co go n : Nat} {b : List Nat} (h : OrdAt W co go n b) (h1 : W'.heap[co]? = W.heap[co]?) (h2 : W'.heap[go]? = W.heap[go]?) : OrdAt W' co go n b :=
  ⟨h1.trans h.cell, row_same h.row fun g hg => by
    have : go = g := by injection hg
    rw [← this]; exact h2⟩
theorem OrdAt.iat {W : World} {co go n : Nat} {b : List Nat} (h : OrdAt W co go n b) : IAt W (some ⟨go, 0, none⟩) n (zsP b) := by
  have e : (zsP b).length = b.length := List.length_map _
  have h1 : OwnI W 0 3 (some ⟨go, 0, none⟩) n (zsP b) := by unfold OwnI; rw [e]; exact h.row
  exact h1.at.1
/-- A row that is cut. -/
theorem own_cut {W : World} {B T g n m c : Nat} {xs ys : List Value} (h : W.ownsRow B T 1 (.slice (some ⟨g, 0, none⟩) n c) n (xs ++ ys)) (hx : xs.length = m) : W.ownsRow B T 1 (.slice (some ⟨g, 0, none⟩) m c) m xs := by
  refine ⟨by rw [Nat.mul_one]; exact hx, .inr ?_⟩
  have hl := h.1
  rw [List.length_append] at hl
  rcases h.2 with ⟨hv, _⟩ | ⟨g', cp, cur, hv, hB, hg, h1, h2, h3, h4⟩
  · cases hv
  · injection hv with e1 e2 e3
    injection e1 with e1; injection e1 with e1
    subst e1; subst e3
    refine ⟨g, c, cur, rfl, hB, hg, by omega, h2, h3, ?_⟩
    have h5 := congrArg (List.take m) h4
    rw [List.take_take, List.take_left' hx] at h5
    rw [← h5]
    congr 1
    omega

/-- What a call that goes deeper finds. -/
structure DIn (J : Ow → List BI → World → Prop) (own : Ow) (pre : List BI) (W : World) (l bb : Nat) (lA : Option Addr) (lc : Nat) (L : List OB) (yb b2 b3 ca cd co ga go : Nat) (A : List Int) (b : List Nat) (bx : Nat) : Prop where
  c : ItC own W l bb lA lc L yb b2 b3 ca cd co ga go
  o : OrdAt W co go L.length b
  j : J own pre W
  f : Fresh own W
  agree : ∀ k, k ∈ b → addr A k = addr (lays L b).A k
  len : A.length = L.length
  laid : ∃ (iA : Option Addr) (ic : Nat) (I : List Nat), LaidAt W bx lA lc L ga A iA ic I ∧ (∀ k, k ∈ I ↔ k ∈ b) ∧ Asc A I ∧ I.length = b.length ∧ ∀ g, iA.map (·.block) = some g → own g = none ∧ g ≠ go
  ob : own bx = none
/-- The blocks of what was laid are none that are written. -/
theorem laid_far {W : World} {lA : Option Addr} {lc : Nat} {L : List OB} {co ga go : Nat} {A : List Int} {b : List Nat} {bx : Nat}
    (ho : OrdAt W co go L.length b) {iA : Option Addr} {ic : Nat} {I : List Nat} (h : LaidAt W bx lA lc L ga A iA ic I) : bx ≠ co ∧ bx ≠ go ∧ ∀ g, iA.map (·.block) = some g → g ≠ co := by
  have h1 := h.box
  refine ⟨fun e => ?_, fun e => ?_, fun g hg e => ?_⟩
  · rw [e, ho.cell] at h1
    injection h1 with h1
    injection h1 with _ e2 _
    exact absurd e2 (by decide)
  · rcases ho.row.2 with ⟨hv, _⟩ | ⟨g', cp, cur, hv, hB, hg', _⟩
    · cases hv
    · injection hv with e1 _ _
      injection e1 with e1; injection e1 with e1
      rw [e, e1, hg'] at h1
      injection h1 with h1
      injection h1 with _ e2 _
      exact absurd e2 (by decide)
  · rcases h.in_.2 with ⟨hv, _⟩ | ⟨g', cp, cur, hv, hB, hg', _⟩
    · injection hv with hv _ _; rw [hv] at hg; cases hg
    · injection hv with hv _ _
      rw [hv] at hg
      injection hg with hg
      have e3 : g' = g := hg
      rw [e3, e, ho.cell] at hg'
      injection hg' with hg'
      injection hg' with _ e2 _
      exact absurd e2 (by decide)
/-- Where in the search a call stands. -/
structure DPos (L : List OB) (f : Nat) (b : List Nat) (pre : List BI) (l1 l2 : List (List Nat)) : Prop where
  ord : Ord L.length b
  len : b.length + f = L.length
  all : allF L.length L.length [] = l1 ++ (allF L.length f b ++ l2)
  st : leafs L l1 (stB []) = stB pre
  lt : topOf L b < (stB pre).2
/-- What it leaves. -/
def DOut (J Jx : Ow → List BI → World → Prop) (own : Ow) (W : World) (L : List OB) (co ga go : Nat) (A : List Int) (f : Nat) (b : List Nat) (l1 : List (List Nat)) (e : Ending) (W' : World) : Prop :=
  ∃ (own' : Ow) (pre' : List BI) (A' : List Int), Kz (wr3 co ga go) own own' W W' ∧ OrdAt W' co go L.length b ∧ RowI 2 W' ga A' ∧ A'.length = L.length ∧ (∀ k, k ∈ b → addr A' k = addr A k) ∧
    ((e = .returned (.bool true) ∧ J own' pre' W' ∧ leafs L (l1 ++ allF L.length f b) (stB []) = stB pre') ∨ (e = .returned (.bool false) ∧ Jx own' pre' W' ∧ SpB L pre'))
end Of
end Go.Proofs.Ytjgakcpjphdicaa
namespace Go.Proofs.Ytjgakcpjphdicaa
open Go.RowKit Go.Shelf
namespace Of
attribute [local go_sem] Oper.semAt_some

theorem zsP_mem {b : List Nat} {i : Nat} : (zsP b).contains (i : Int) = decide (i ∈ b) := by
  rw [Bool.eq_iff_iff, decide_eq_true_eq, List.contains_iff_mem]
  unfold zsP
  rw [List.mem_map]
  constructor
  · rintro ⟨j, hj, e⟩
    have : j = i := by omega
    rw [← this]; exact hj
  · intro h; exact ⟨i, h, rfl⟩
theorem contains_ok (W : World) (go n : Nat) (b : List Nat) (i : Nat) (h : IAt W (some ⟨go, 0, none⟩) n (zsP b)) (hb : b.length ≤ 1000) :
    Calls Try.prog 61 #[.slice (some ⟨go, 0, none⟩) b.length n, .int .i64 (i : Int)] W fun e w' => e = .returned (.bool (decide (i ∈ b))) ∧ w' = W := by
  have hl : (zsP b).length = b.length := List.length_map _
  have hr := Any.slices_Contains_int Try.contI go 0 b.length n (zsP b) (i : Int) W (by omega) (by omega) (fun j hj => by
    obtain ⟨g, o, e, _, hc⟩ := h.at hj
    injection e with e; injection e with e1 e2
    subst e1; subst e2
    exact hc)
  rw [← hl, List.take_length, zsP_mem] at hr
  rw [hl] at hr
  exact hr

abbrev encB (x : BI) : Array Value := #[.slice x.1.1 x.2.1.length x.1.2, .int .i64 x.2.2]
/-- What is handed out. -/
def AtB (L : List OB) (_pre : List BI) (x : BI) (W : World) : Prop := IAt W x.1.1 x.1.2 (zsP x.2.1) ∧ Ord L.length x.2.1 ∧ x.2.1.length = L.length ∧ x.2.2 = topOf L x.2.1 ∧ ∃ g, x.1.1 = some ⟨g, 0, none⟩
/-- What the loop does in a round. -/
def YieldsB (n l : Nat) (L : List OB) (J Jx : Ow → List BI → World → Prop) : Prop :=
  ∀ own pre x W1, J own pre W1 → Fresh own W1 → AtB L pre x W1 → YieldAt Fence.wide n Try.prog l (encB x) W1 fun e W' =>
      ∃ own', Keeps own own' W1 W' ∧ ((e = .returned (.bool true) ∧ J own' (pre ++ [x]) W') ∨ (e = .returned (.bool false) ∧ Jx own' (pre ++ [x]) W'))

theorem leaf_one {L : List OB} {b : List Nat} {s : SSt} (h : topOf L b < s.2) : leafs L [b] s = (some b, topOf L b) := by
  show leafV L b s = _
  unfold leafV
  rw [if_pos (.inr h)]
set_option maxRecDepth 100000 in
set_option maxHeartbeats 2000000 in
theorem deep_leaf (n l bb : Nat) (hn : 1 ≤ n) (lA : Option Addr) (lc : Nat) (L : List OB) (hL : OkL L) (yb b2 b3 ca cd co ga go : Nat) (J Jx : Ow → List BI → World → Prop) (HY : YieldsB n l L J Jx)
    (own : Ow) (pre : List BI) (W : World) (A : List Int) (b : List Nat) (bx : Nat) (l1 l2 : List (List Nat)) (D : DIn J own pre W l bb lA lc L yb b2 b3 ca cd co ga go A b bx) (Z : DPos L 0 b pre l1 l2) :
    Calls Try.prog 60 #[.pointer (some ⟨bx, 0, none⟩), .int .i64 (topOf L b), .pointer (some ⟨co, 0, none⟩), .pointer (some ⟨b2, 0, none⟩), .pointer (some ⟨yb, 0, none⟩), .pointer (some ⟨ca, 0, none⟩), .pointer (some ⟨b3, 0, none⟩), .pointer (some ⟨cd, 0, none⟩)] W (DOut J Jx own W L co ga go A 0 b l1) := by
  have hbl : b.length = L.length := Z.len
  have hcy := D.c.cy
  have hc2 := D.c.c2
  have hco := (one_cell D.o.cell).1
  have hlen := hL.1
  have hcap := D.c.l.2.1
  have hlc := D.c.l.1
  unfold maxLen at hcap
  obtain ⟨fn, tmps, assign, body, hy, hRd⟩ := HY own pre ((some ⟨go, 0, none⟩, L.length), b, topOf L b) W D.j D.f ⟨D.o.iat, Z.ord, hbl, rfl, go, rfl⟩
  simp only [encB, hbl] at hy
  have HD := Lib.hid (And.intro D Z)
  have hfin : ∀ (own' : Ow) (W' : World), Keeps own own' W W' → Kz (wr3 co ga go) own own' W W' ∧ OrdAt W' co go L.length b ∧ RowI 2 W' ga A := by
    intro own' W' hk
    obtain ⟨o1, o2, o3, o4, o5, o6, o7, o8⟩ := D.c.oN
    obtain ⟨iA, ic, I, hla, _⟩ := D.laid
    exact ⟨Kz.of_keeps hk, D.o.keep (hk.block co D.o.lt.1 o6) (hk.block go D.o.lt.2 o8), hla.at_.keep (hk.block ga hla.at_.lt o7)⟩
  have HF := Lib.hid hfin
  have heq : ((b.length : Int) == (L.length : Int)) = true := by simp; omega
  clear D Z hfin HY
  refine (callsIn_wide (n := n + 1)).1 ?_
  have hdp : Fence.wide.depth.isSome = false := rfl
  refine callsIn_of_wp Try.func60 rfl trivial ?_ rfl
  simp only [Try.ntmps60, List.size_toArray, List.length_cons, List.length_nil, Nat.reduceAdd, Nat.reduceSub, Array.replicate_succ, Array.replicate_zero, List.push_toArray, List.append_toArray, List.nil_append, List.cons_append]
  gi_wp2
  refine hRd.mono ?_
  rintro e W3 ⟨own3, hK3, (⟨rfl, hJ3⟩ | ⟨rfl, hJ3⟩)⟩
  · have H3 := Lib.hid (And.intro hJ3 hK3)
    clear hJ3 hK3
    gi_wp2
    refine bodyPost_ret (results_tmp rfl _ _ _) rfl ?_
    obtain ⟨k1, k2, k3⟩ := HF.out own3 W3 H3.out.2
    refine ⟨own3, _, A, k1, k2, k3, HD.out.1.len, fun _ _ => rfl, .inl ⟨rfl, H3.out.1, ?_⟩⟩
    rw [leafs_append, HD.out.2.st, stB_snoc]
    exact leaf_one HD.out.2.lt
  · have H3 := Lib.hid (And.intro hJ3 hK3)
    clear hJ3 hK3
    gi_wp2
    refine bodyPost_ret (results_tmp rfl _ _ _) rfl ?_
    obtain ⟨k1, k2, k3⟩ := HF.out own3 W3 H3.out.2
    refine ⟨own3, _, A, k1, k2, k3, HD.out.1.len, fun _ _ => rfl, .inr ⟨rfl, H3.out.1, ⟨by simp, l1 ++ [b], l2, ?_, ?_⟩⟩⟩
    · rw [HD.out.2.all]; simp [allF]
    · rw [leafs_append, HD.out.2.st, stB_snoc]
      exact leaf_one HD.out.2.lt
end Of
end Go.Proofs.Ytjgakcpjphdicaa
