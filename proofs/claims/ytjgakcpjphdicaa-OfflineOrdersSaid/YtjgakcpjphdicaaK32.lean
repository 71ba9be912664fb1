/- The iterator of orders: what the steps of a round leave. The iterator of orders: a call that goes deeper. -/
import Derived.Test.YtjgakcpjphdicaaK31
namespace Go.Proofs.Ytjgakcpjphdicaa
open Go.RowKit Go.Shelf
namespace Of

section
variable {J Jx : Ow → List BI → World → Prop} {own own' : Ow} {pre pre' : List BI} {W W' : World} {l bb : Nat} {lA : Option Addr} {lc : Nat} {L : List OB} {yb b2 b3 ca cd co ga go : Nat} {A A' : List Int} {b : List Nat} {bx : Nat}

theorem asc_congr {A A' : List Int} {I : List Nat} (h : Asc A I) (he : ∀ k, k ∈ I → addr A' k = addr A k) : Asc A' I := by
  unfold Asc at *
  refine List.Pairwise.imp_of_mem ?_ h
  intro x y hx hy hxy
  rw [he x hx, he y hy]; exact hxy
theorem not_wr3 {co ga go k : Nat} (h1 : k ≠ co) (h2 : k ≠ ga) (h3 : k ≠ go) : ¬ wr3 co ga go k := fun h => h.elim h1 fun h => h.elim h2 h3
/-- Behind a step that leaves the rest as it was. -/
theorem DIn.back (D : DIn J own pre W l bb lA lc L yb b2 b3 ca cd co ga go A b bx) (k : Kz (wr3 co ga go) own own' W W') (ho : OrdAt W' co go L.length b) (hr : RowI 2 W' ga A') (hl : A'.length = L.length) (ha : ∀ x, x ∈ b → addr A' x = addr A x) (hj : J own' pre' W') :
    DIn J own' pre' W' l bb lA lc L yb b2 b3 ca cd co ga go A' b bx := by
  obtain ⟨iA, ic, I, h1, h2, h3, h4, h5⟩ := D.laid
  obtain ⟨f1, f2, f3⟩ := laid_far D.o h1
  obtain ⟨n1, n2⟩ := h1.ne
  have hbx := lt_of_heap h1.box
  have hC := D.c.kz D.o.lt.1 h1.at_.lt D.o.lt.2 k
  refine ⟨hC, ho, hj, D.f.kz k, fun x hx => (ha x hx).trans (D.agree x hx), hl, ⟨iA, ic, I, ⟨?_, hC.l, hr, ?_⟩, h2, asc_congr h3 fun x hx => ha x ((h2 x).1 hx), h4, fun g hg => ?_⟩, (k.same bx hbx).trans D.ob⟩
  · rw [k.block bx hbx D.ob (not_wr3 f1 n1 f2), show A'.length = A.length from hl.trans D.len.symm]
    exact h1.box
  · refine row_same h1.in_ fun g hg => ?_
    have hg' : iA.map (·.block) = some g := by cases iA with | none => cases hg | some a => exact hg
    exact k.block g (h1.in_.lt g hg).2 (h5 g hg').1 (not_wr3 (f3 g hg') (n2 g hg').1 (h5 g hg').2)
  · have hl2 : g < W.heap.size := by
      cases iA with
      | none => cases hg
      | some a => exact (h1.in_.lt g hg).2
    exact ⟨(k.same g hl2).trans (h5 g hg).1, (h5 g hg).2⟩
theorem framed_kz {I : Ow → List BI → World → Prop} (hI : Framed I) (h : I own pre W) (hs : W.heap.size ≤ W'.heap.size) (hk : ∀ k, own k ≠ none → k < W.heap.size → W'.heap[k]? = W.heap[k]?) : I own pre W' := hI own pre W W' h hs hk

/-- Behind add. -/
theorem DIn.added (hL : OkL L) (D : DIn J own pre W l bb lA lc L yb b2 b3 ca cd co ga go A b bx) (hJ : Framed J) (hO : Ord L.length b) {i bx' : Nat} {I : List Nat} (hi : i < L.length) (hn : i ∉ b) (hI : ∀ k, k ∈ I ↔ k ∈ b) (hs : Asc A I) (hIl : I.length = b.length)
    (h : AddOut W W' bx' lA lc L ga (A.set i (placeGo L A (blk L i) I 0)) I i) :
    DIn J own pre W' l bb lA lc L yb b2 b3 ca cd co ga go (A.set i (placeGo L A (blk L i) I 0)) b bx ∧ Kz (wr3 co ga go) own own W W' ∧
    (∀ x, x ∈ b ++ [i] → addr (A.set i (placeGo L A (blk L i) I 0)) x = addr (lays L (b ++ [i])).A x) ∧ (A.set i (placeGo L A (blk L i) I 0)).length = L.length ∧ own bx' = none ∧
    ∃ (iA : Option Addr) (ic : Nat) (I' : List Nat), LaidAt W' bx' lA lc L ga (A.set i (placeGo L A (blk L i) I 0)) iA ic I' ∧ (∀ k, k ∈ I' ↔ k ∈ b ++ [i]) ∧ Asc (A.set i (placeGo L A (blk L i) I 0)) I' ∧ I'.length = (b ++ [i]).length ∧ ∀ g, iA.map (·.block) = some g → own g = none ∧ g ≠ go := by
  obtain ⟨o1, o2, o3, o4, o5, o6, o7, o8⟩ := D.c.oN
  obtain ⟨n1, n2, n3⟩ := D.c.ne3
  have hiA : i < A.length := by rw [D.len]; exact hi
  have hk : Kz (wr3 co ga go) own own W W' := Kz.of_grow own h.grow (.inr (.inl rfl))
  have hpf : placeGo L A (blk L i) I 0 = fit L (lays L b).A (lays L b).S (blk L i) := by
    rw [place_fit (hL.blk i) hL hI hs]
    have h1 := (fit_is (L := L) (A := A) (hL.blk i) b).congr (A' := (lays L b).A) (S' := b) (fun _ => Iff.rfl) (fun x hx => (D.agree x hx).symm)
    rw [lays_S]
    exact h1.uniq (fit_is (hL.blk i) b)
  have hag : ∀ x, x ∈ b → addr (A.set i (placeGo L A (blk L i) I 0)) x = addr A x := fun x hx => by
    rw [addr_set hiA, if_neg (fun e => hn (by rw [← e]; exact hx))]
  have hfr : ∀ x, own x = none ∨ x < W.heap.size := fun x => by
    cases e : own x with
    | none => exact .inl rfl
    | some v => exact .inr (D.f x (by rw [e]; simp))
  obtain ⟨⟨iA, ic, I', q1, q2, q3, q4, q5⟩, q6, q7⟩ := h
  have hnew : ∀ x, W.heap.size ≤ x → own x = none := fun x hx => by
    rcases hfr x with e | e
    · exact e
    · omega
  have hj : J own pre W' := hJ own pre W W' D.j q7.size fun x hx hlx => q7.block x hlx fun e => hx (by rw [e]; exact o7)
  have ho : OrdAt W' co go L.length b := D.o.keep (q7.block co D.o.lt.1 n1) (q7.block go D.o.lt.2 fun e => n3 e.symm)
  refine ⟨D.back hk ho q1.at_ (by rw [List.length_set]; exact D.len) hag hj, hk, fun x hx => ?_, by rw [List.length_set]; exact D.len, hnew bx' q6, iA, ic, I', q1, fun x => ?_, q3, by rw [q4, hIl]; simp, fun g hg => ⟨hnew g (q5 g hg), fun e => ?_⟩⟩
  · rw [lays_snoc]
    show _ = addr ((lays L b).A.set i _) x
    rw [addr_set hiA, addr_set (by rw [lays_len]; exact hi)]
    by_cases e : x = i
    · rw [if_pos e, if_pos e, hpf]
    · rw [if_neg e, if_neg e]
      refine D.agree x ?_
      rcases List.mem_append.1 hx with hx | hx
      · exact hx
      · simp at hx; exact absurd hx e
  · rw [q2, hI]; simp [or_comm]
  · have := q5 g hg; have := D.o.lt.2; omega
/-- Where the next call finds its order. -/
theorem DIn.push {i bx' : Nat} (D : DIn J own pre W l bb lA lc L yb b2 b3 ca cd co ga go A b bx) (hag : ∀ x, x ∈ b ++ [i] → addr A x = addr (lays L (b ++ [i])).A x) (hob : own bx' = none)
    (hla : ∃ (iA : Option Addr) (ic : Nat) (I' : List Nat), LaidAt W bx' lA lc L ga A iA ic I' ∧ (∀ k, k ∈ I' ↔ k ∈ b ++ [i]) ∧ Asc A I' ∧ I'.length = (b ++ [i]).length ∧ ∀ g, iA.map (·.block) = some g → own g = none ∧ g ≠ go)
    (k : Kz (wr3 co ga go) own own W W') (ho : OrdAt W' co go L.length (b ++ [i])) (hg : W'.heap[ga]? = W.heap[ga]?) (hj : J own pre W') :
    DIn J own pre W' l bb lA lc L yb b2 b3 ca cd co ga go A (b ++ [i]) bx' := by
  obtain ⟨iA, ic, I, h1, h2, h3, h4, h5⟩ := hla
  obtain ⟨f1, f2, f3⟩ := laid_far D.o h1
  obtain ⟨n1, n2⟩ := h1.ne
  have hbx := lt_of_heap h1.box
  have hC := D.c.kz D.o.lt.1 h1.at_.lt D.o.lt.2 k
  refine ⟨hC, ho, hj, D.f.kz k, hag, D.len, ⟨iA, ic, I, ⟨?_, hC.l, h1.at_.keep hg, ?_⟩, h2, h3, h4, h5⟩, hob⟩
  · rw [k.block bx' hbx hob (not_wr3 f1 n1 f2)]
    exact h1.box
  · refine row_same h1.in_ fun g hg => ?_
    have hg' : iA.map (·.block) = some g := by cases iA with | none => cases hg | some a => exact hg
    exact k.block g (h1.in_.lt g hg).2 (h5 g hg').1 (not_wr3 (f3 g hg') (n2 g hg').1 (h5 g hg').2)
end

/-- Whoever owns what. -/
theorem Kz.any {X Y : Nat → Prop} {W W' : World} (own : Ow) (h : Kz X (fun _ => none) (fun _ => none) W W') (hXY : ∀ k, X k → Y k) : Kz Y own own W W' :=
  ⟨h.os, h.tape, h.output, h.size, fun k hk _ hx => h.block k hk rfl fun e => hx (hXY k e), fun _ _ => rfl, fun _ h => .inl h⟩
theorem Kz.framed {X : Nat → Prop} {W W' : World} {I : Ow → List BI → World → Prop} {own : Ow} {pre : List BI} (h : Kz X (fun _ => none) (fun _ => none) W W') (hI : Framed I) (hx : ∀ k, X k → own k = none) (hi : I own pre W) : I own pre W' :=
  hI own pre W W' hi h.size fun k hk hl => h.block k hl rfl fun e => hk (hx k e)
abbrev none_ : Ow := fun _ => none
theorem ci_snoc (b : List Nat) (i : Nat) : ci (zsP (b ++ [i])) = ci (zsP b) ++ [.int .i64 (i : Int)] := by unfold zsP; rw [List.map_append, ci_add]; rfl
theorem ord_over {W W3 : World} {co go n : Nat} {b : List Nat} {o : Obj} (h : OrdAt W co go n b) (hne : co ≠ go) (hgr : (W.alloc o).grownBy W3 (some go)) : W3.cell? ⟨co, 0, none⟩ = some (.slice (some ⟨go, 0, none⟩) b.length n) ∧ W3.frozen? ⟨co, 0, none⟩ = false := by
  have hco := h.lt.1
  have hs : (W.alloc o).heap.size = W.heap.size + 1 := by simp
  refine one_cell (T := 25) ?_
  rw [hgr.block co (by omega) (by intro e; injection e with e; exact hne e), alloc_old _ _ _ hco]
  exact h.cell
/-- An index behind the order. -/
theorem ord_push {W W3 : World} {co go n i : Nat} {b : List Nat} {o : Obj} (h : OrdAt W co go n b) (hne : co ≠ go)
    (hown : W3.ownsRow 0 3 1 (.slice (some ⟨go, 0, none⟩) (b.length + 1) n) (b.length + 1) (ci (zsP b) ++ [.int .i64 (i : Int)])) (hgr : (W.alloc o).grownBy W3 (some go)) :
    OrdAt (W3.setCell ⟨co, 0, none⟩ (.slice (some ⟨go, 0, none⟩) (b.length + 1) n)) co go n (b ++ [i]) ∧ Kz (fun k => k = co ∨ k = go) none_ none_ W (W3.setCell ⟨co, 0, none⟩ (.slice (some ⟨go, 0, none⟩) (b.length + 1) n)) := by
  have hl : (b ++ [i]).length = b.length + 1 := by simp
  have hco := h.lt.1
  have hs : (W.alloc o).heap.size = W.heap.size + 1 := by simp
  have hc3 : W3.heap[co]? = some (.cells #[.slice (some ⟨go, 0, none⟩) b.length n] 25 (0, 0)) := by
    rw [hgr.block co (by omega) (by intro e; injection e with e; exact hne e), alloc_old _ _ _ hco]
    exact h.cell
  refine ⟨⟨?_, ?_⟩, ⟨hgr.os, hgr.tape, hgr.output, ?_, fun k hk _ hx => ?_, fun _ _ => rfl, fun _ h => .inl h⟩⟩
  · rw [setCell_at _ _ _ _ _ _ hc3, hl]
    rfl
  · rw [hl, ci_snoc]
    exact row_same hown fun g hg => setCell_far _ _ _ _ (by injection hg with hg; rw [← hg]; exact hne.symm)
  · have := hgr.size
    rw [setCell_size]; omega
  · rw [setCell_far _ _ _ _ (fun e => hx (.inl e)), hgr.block k (by omega) (by intro e; injection e with e; exact hx (.inr e)), alloc_old _ _ _ hk]
/-- The last index is taken off. -/
theorem ord_pop {W : World} {co go n i : Nat} {b : List Nat} (h : OrdAt W co go n (b ++ [i])) (hne : co ≠ go) :
    OrdAt (W.setCell ⟨co, 0, none⟩ (.slice (some ⟨go, 0, none⟩) b.length n)) co go n b ∧ Kz (fun k => k = co ∨ k = go) none_ none_ W (W.setCell ⟨co, 0, none⟩ (.slice (some ⟨go, 0, none⟩) b.length n)) := by
  refine ⟨⟨?_, ?_⟩, ⟨rfl, rfl, rfl, by rw [setCell_size]; exact Nat.le_refl _, fun k hk _ hx => setCell_far _ _ _ _ fun e => hx (.inl e), fun _ _ => rfl, fun _ h => .inl h⟩⟩
  · rw [setCell_at _ _ _ _ _ _ h.cell]
    rfl
  · have h1 := h.row
    rw [ci_snoc] at h1
    exact row_same (own_cut h1 (by rw [ci_len, List.length_map])) fun g hg => setCell_far _ _ _ _ (by injection hg with hg; rw [← hg]; exact hne.symm)
theorem DOut.split {J Jx : Ow → List BI → World → Prop} {own : Ow} {W W' : World} {L : List OB} {co ga go f : Nat} {A : List Int} {b : List Nat} {l1 : List (List Nat)} {e : Ending} (h : DOut J Jx own W L co ga go A f b l1 e W') :
    ∃ (v : Bool) (own' : Ow) (pre' : List BI) (A' : List Int), e = .returned (.bool v) ∧ Kz (wr3 co ga go) own own' W W' ∧ OrdAt W' co go L.length b ∧ RowI 2 W' ga A' ∧ A'.length = L.length ∧ (∀ k, k ∈ b → addr A' k = addr A k) ∧
      (v = true → J own' pre' W' ∧ leafs L (l1 ++ allF L.length f b) (stB []) = stB pre') ∧ (v = false → Jx own' pre' W' ∧ SpB L pre') := by
  obtain ⟨own', pre', A', h1, h2, h3, h4, h5, (⟨rfl, h6, h7⟩ | ⟨rfl, h6, h7⟩)⟩ := h
  · exact ⟨true, own', pre', A', rfl, h1, h2, h3, h4, h5, fun _ => ⟨h6, h7⟩, fun h => by cases h⟩
  · exact ⟨false, own', pre', A', rfl, h1, h2, h3, h4, h5, (fun h => by cases h), fun _ => ⟨h6, h7⟩⟩
theorem AddOut.drew {w w' : World} {bx' : Nat} {lA : Option Addr} {lc : Nat} {L : List OB} {ga : Nat} {A : List Int} {I : List Nat} {i : Nat} (h : AddOut w w' bx' lA lc L ga A I i) : AddOut w w'.drew bx' lA lc L ga A I i := by
  obtain ⟨⟨iA, ic, I', h1, h2⟩, h3, h4⟩ := h
  exact ⟨⟨iA, ic, I', h1.below (below_drew (Below.refl _ _)) (Nat.le_refl _), h2⟩, h3, h4.drew⟩
theorem stB_none {pre : List BI} (h : (stB pre).2 ≤ 40000000) : (stB pre).1 ≠ none := by
  rcases List.eq_nil_or_concat pre with e | ⟨p, x, e⟩
  · rw [e, stB_nil] at h; exact absurd h (by decide)
  · rw [e, List.concat_eq_append, stB_snoc]; simp
/-- A part of the search that cannot better the best. -/
theorem leafs_skip {L : List OB} {l1 : List (List Nat)} {n f k : Nat} {b : List Nat} {pre : List BI} (hk : k ∉ b) (h : leafs L (l1 ++ upTo n f b k) (stB []) = stB pre) (hb : (stB pre).2 ≤ topOf L (b ++ [k])) (ht : topOf L (b ++ [k]) ≤ 40000000) :
    leafs L (l1 ++ upTo n f b (k + 1)) (stB []) = stB pre := by
  rw [upTo_succ, if_neg hk, ← List.append_assoc, leafs_append, h]
  exact leafs_prune L _ _ (stB_none (by omega)) fun p hp => Int.le_trans hb (topOf_allF L n f _ p hp)
end Of
end Go.Proofs.Ytjgakcpjphdicaa
namespace Go.Proofs.Ytjgakcpjphdicaa
open Go.RowKit Go.Shelf
namespace Of

/-- What the call is handed. -/
abbrev deepA (T : Int) (yb b2 b3 ca cd co bx : Nat) : Array Value := #[.pointer (some ⟨bx, 0, none⟩), .int .i64 T, .pointer (some ⟨co, 0, none⟩), .pointer (some ⟨b2, 0, none⟩), .pointer (some ⟨yb, 0, none⟩), .pointer (some ⟨ca, 0, none⟩), .pointer (some ⟨b3, 0, none⟩), .pointer (some ⟨cd, 0, none⟩)]

set_option maxRecDepth 100000 in
set_option maxHeartbeats 8000000 in
theorem deep_step (l bb : Nat) (lA : Option Addr) (lc : Nat) (L : List OB) (hL : OkL L) (yb b2 b3 ca cd co ga go : Nat) (J Jx : Ow → List BI → World → Prop) (hJ : Framed J) (hJx : Framed Jx) (hE : ∀ own pre W, J own pre W → W.cell? ⟨bb, 0, none⟩ = some (.int .i64 (stB pre).2)) (f : Nat)
    (ih : ∀ (own : Ow) (pre : List BI) (W : World) (A : List Int) (b : List Nat) (bx : Nat) (l1 l2 : List (List Nat)), DIn J own pre W l bb lA lc L yb b2 b3 ca cd co ga go A b bx → DPos L f b pre l1 l2 →
      Calls Try.prog 60 (deepA (topOf L b) yb b2 b3 ca cd co bx) W (DOut J Jx own W L co ga go A f b l1))
    (own : Ow) (pre : List BI) (W : World) (A : List Int) (b : List Nat) (bx : Nat) (l1 l2 : List (List Nat)) (D : DIn J own pre W l bb lA lc L yb b2 b3 ca cd co ga go A b bx) (Z : DPos L (f + 1) b pre l1 l2) :
    Calls Try.prog 60 (deepA (topOf L b) yb b2 b3 ca cd co bx) W (DOut J Jx own W L co ga go A (f + 1) b l1) := by
  have hbl : b.length + (f + 1) = L.length := Z.len
  have c2 := D.c.c2
  have co0 := (one_cell D.o.cell).1
  have hlen := hL.1
  have hcap := D.c.l.2.1
  have hlc := D.c.l.1
  unfold maxLen at hcap
  have hlt : b.length < L.length := by omega
  have heq : ((b.length : Int) == (L.length : Int)) = false := by
    cases h : ((b.length : Int) == (L.length : Int)) with
    | false => rfl
    | true => simp at h; omega
  have HD := Lib.hid (And.intro D Z)
  have HI := Lib.hid ih
  have HJ := Lib.hid (And.intro hJ (And.intro hJx hE))
  clear D Z ih hJ hJx hE
  obtain ⟨TB, hTB⟩ : ∃ z, z = topOf L b := ⟨_, rfl⟩
  rw [← hTB]
  have HTB := Lib.hid hTB
  clear hTB
  obtain ⟨n, hn⟩ : ∃ n, n = L.length := ⟨_, rfl⟩
  go_enter Try.func60, Try.ntmps60
  go_wp2_with (fail)
  go_loopw [26] (fun iv wr => ∃ (k : Nat) (own' : Ow) (pre' : List BI) (A' : List Int), k ≤ L.length ∧ iv = .int .i64 k ∧ Kz (wr3 co ga go) own own' W wr ∧ DIn J own' pre' wr l bb lA lc L yb b2 b3 ca cd co ga go A' b bx ∧ (∀ x, x ∈ b → addr A' x = addr A x) ∧ leafs L (l1 ++ upTo L.length f b k) (stB []) = stB pre') (fun iv _ => L.length - (intOf iv).toNat)
  case atStart => exact ⟨0, own, pre, A, Nat.zero_le _, rfl, Kz.refl _ _ _, HD.out.1, fun _ _ => rfl, by unfold upTo; rw [List.range_zero, List.flatMap_nil, List.append_nil]; exact HD.out.2.st⟩
  case round =>
    clear co0 c2
    obtain ⟨k, own1, pre1, A1, hk, rfl, hK, hD, hA, hst⟩ := hrel
    by_cases hkl : k < L.length
    · have co1 := (one_cell hD.o.cell).1
      have hct := contains_ok wr go L.length b k hD.o.iat (by omega)
      by_cases hin : k ∈ b
      · rw [decide_eq_true hin] at hct
        have HCT := Lib.hid hct
        have HX := Lib.hid (And.intro hK (And.intro hD (And.intro hA hst)))
        clear hct hK hD hA hst
        go_wp2_with (go_at_call 61; refine HCT.out.mono ?_; rintro e w1 ⟨rfl, rfl⟩)
        go_roundw
        case rel => exact ⟨k + 1, own1, pre1, A1, by omega, by go_num, HX.out.1, HX.out.2.1, HX.out.2.2.1, by rw [upTo_succ, if_pos hin, List.append_nil]; exact HX.out.2.2.2⟩
        case measure => simp [intOf]; omega
      · rw [decide_eq_false hin] at hct
        have HCT := Lib.hid hct
        clear hct
        obtain ⟨iA, ic, I, h1, h2, h3, h4, h5⟩ := id hD.laid
        have hgood := good hL HD.out.2.ord
        have hTb := topOf_bd hL HD.out.2.ord
        have hO1 : Ord L.length (b ++ [k]) := HD.out.2.ord.push hkl hin
        have hTb1 := topOf_bd hL hO1
        have hsep : lA.map (·.block) ≠ some ga := fun e => (hD.c.lo (by omega) ga e).2 (.inr (.inl rfl))
        have hadd := add_ok wr bx lA lc L ga A1 iA ic I k (topOf L b) h1 hL hD.len hkl (fun e => hin ((h2 k).1 e)) h3 (by omega)
          (fun x hx => by
            have hx1 := (h2 x).1 hx
            have hx' : x ∈ (lays L b).S := by rw [lays_S]; exact hx1
            have e := hD.agree x hx1
            exact ⟨hgood.in_ x hx', by rw [e]; exact hgood.pos x hx', by rw [e]; exact hgood.top x hx'⟩) hTb.1 (by omega) hsep
        have hadded := fun w' bx' (hA : AddOut wr w' bx' lA lc L ga (A1.set k (placeGo L A1 (blk L k) I 0)) I k) => hD.added hL HJ.out.1 HD.out.2.ord hkl hin h2 h3 h4 hA
        obtain ⟨A2, hA2⟩ : ∃ z, z = A1.set k (placeGo L A1 (blk L k) I 0) := ⟨_, rfl⟩
        rw [← hA2] at hadd hadded
        have HADD := Lib.hid hadd
        have HADDED := Lib.hid hadded
        have HX := Lib.hid (And.intro hK (And.intro hD (And.intro hA hst)))
        have HT := Lib.hid (And.intro hTb (And.intro hTb1 hO1))
        clear hadd hadded hK hD hA hst hA2 h1 h2 h3 h4 h5 hgood hTb hTb1 hO1 hsep
        go_upto_region 8 with (first | (go_at_call 61; refine HCT.out.mono ?_; rintro e w1 ⟨rfl, rfl⟩) | (go_at_call 62; refine HADD.out.mono ?_; rintro e w2 ⟨bx', rfl, hA⟩; have HA := Lib.hid hA; clear hA))
        obtain ⟨q1, q2, q3, q4, q5, q6⟩ := HADDED.out w2 bx' HA.out
        clear co1
        have d5 := q1.c.cA
        have d3 := q1.c.c2
        have dk : w2.cell? ⟨ga, k, none⟩ = some (.int .i64 (addr A2 k)) := by
          obtain ⟨iA, ic, I, h1, _⟩ := q1.laid
          exact h1.at_.cell (by rw [q4]; exact hkl)
        have hak : addr A2 k = addr (lays L (b ++ [k])).A k := q3 k (by simp)
        obtain ⟨TN, hTN⟩ : ∃ z, z = topOf L (b ++ [k]) := ⟨_, rfl⟩
        have hTN2 : TN = max TB (addr A2 k + (blk L k).s) := by
          rw [hTN, hak, HTB.out]
          unfold topOf
          rw [lays_snoc]
          show max _ _ = _
          unfold St.next
          dsimp only
          rw [addr_set (by rw [lays_len]; exact hkl), if_pos rfl]
        have hpk : 0 ≤ addr A2 k ∧ addr A2 k ≤ 35000000 := by
          have hg := good hL HT.out.2.2
          have hm : k ∈ (lays L (b ++ [k])).S := by rw [lays_S]; simp
          have e1 := hg.pos k hm
          have e2 := hg.top k hm
          have e3 := (hL.blk k).s1
          have e4 := HT.out.2.1.2
          unfold topOf at e4
          rw [hak]; omega
        obtain ⟨g, oo, hlA, hg, d0, _, _, _⟩ := q1.c.l.at hkl
        have hsb := hL.blk k
        have hs1 := hsb.s1
        have hs2 := hsb.s2
        have HQ := Lib.hid (And.intro q1 (And.intro q2 (And.intro q3 (And.intro q4 (And.intro q5 q6)))))
        have HTN := Lib.hid hTN
        have HL0 := Lib.hid hlA
        generalize hp : addr A2 k = p at *
        generalize hs : (blk L k).s = s at *
        clear q1 q2 q3 q4 q5 q6 hak hTN hsb hlA
        have hps : IntKind.i64.wrap (p + s) = p + s := IntWalk.i64_in _ (by omega)
        rw [HL0.out] at d3
        go_region
        have hA3 := HA.out.drew
        generalize w2.drew = w3 at *
        clear HA HQ d5 d3 dk d0 hp hs hpk hs1 hs2 hps
        rw [← hTN2]
        obtain ⟨q1, q2, q3, q4, q5, q6⟩ := HADDED.out w3 bx' hA3
        have hbd := HJ.out.2.2 own1 pre1 w3 q1.j
        have c3 := q1.c.c3
        obtain ⟨B, hB⟩ : ∃ z, z = (stB pre1).2 := ⟨_, rfl⟩
        rw [← hB] at hbd
        have HB := Lib.hid hB
        clear hB hTN2
        have HQ := Lib.hid (And.intro q1 (And.intro q2 (And.intro q3 (And.intro q4 (And.intro q5 q6)))))
        by_cases hge : B ≤ TN
        · clear q1 q2 q3 q4 q5 q6
          go_wp2
          go_roundw
          case rel => exact ⟨k + 1, own1, pre1, A2, by omega, by go_num, HX.out.1.trans HQ.out.2.1, HQ.out.1, fun x hx => (HQ.out.1.agree x hx).trans (HD.out.1.agree x hx).symm, leafs_skip hin HX.out.2.2.2 (by rw [← HB.out, ← HTN.out]; exact hge) (by have := HT.out.2.1.2; omega)⟩
          case measure => simp [intOf]; omega
        · have co3 := (one_cell q1.o.cell).1
          have cd3 := q1.c.cD
          have hrow := q1.o.row
          obtain ⟨i0, hi0, hz0, hz2, hz3⟩ := info_parts int_row
          clear q1 q2 q3 q4 q5 q6
          go_upto_region 11 with (at_builtin; go_loud (refine wpList_append_own_spare _ rfl _ _ 25 rfl 0 3 i0 1 Try.underlying25 hi0 hz2 go b.length L.length (ci (zsP b)) rfl (hrow.alloc _) ⟨w3.heap.size, 0, none⟩ 1 1 [.int .i64 (k : Int)] rfl rfl (cell_one_new _ _ _) (by simp [Value.oneCell']) (by omega) ?_); intro w4 hown4 hgr4; obtain ⟨co4, fz4⟩ := ord_over HQ.out.1.o HQ.out.1.c.ne3.2.1 hgr4; have H4 := Lib.hid (And.intro hown4 hgr4); clear hown4 hgr4)
          obtain ⟨o5, z5⟩ := ord_push HQ.out.1.o HQ.out.1.c.ne3.2.1 H4.out.1 H4.out.2
          obtain ⟨x1, x2, x3, x4, x5, x6, x7, x8⟩ := HQ.out.1.c.oN
          have hwx : ∀ x, x = co ∨ x = go → own1 x = none := fun x hx => by rcases hx with rfl | rfl <;> assumption
          have hga3 : ga < w3.heap.size := by obtain ⟨_, _, _, hl, _⟩ := HQ.out.1.laid; exact hl.at_.lt
          have k5 : Kz (wr3 co ga go) own1 own1 w3 _ := z5.any own1 fun x hx => hx.elim .inl fun h => .inr (.inr h)
          have D5 := HQ.out.1.push HQ.out.2.2.1 HQ.out.2.2.2.2.1 HQ.out.2.2.2.2.2 k5 o5 (z5.block ga hga3 rfl fun e => e.elim (fun h => HQ.out.1.c.ne3.1 h.symm) HQ.out.1.c.ne3.2.2) (z5.framed HJ.out.1 hwx HQ.out.1.j)
          obtain ⟨m, hm⟩ := upTo_part (f := f) hkl hin
          have Z5 : DPos L f (b ++ [k]) pre1 (l1 ++ upTo L.length f b k) (m ++ l2) := ⟨HT.out.2.2, by simp; omega, by rw [HD.out.2.all, hm]; simp, HX.out.2.2.2, by rw [← HB.out, ← HTN.out]; omega⟩
          have hc := HI.out own1 pre1 _ A2 (b ++ [k]) bx' _ _ D5 Z5
          rw [← HTN.out] at hc
          have hcd := D5.c.cD
          have HK5 := Lib.hid (And.intro k5 D5)
          clear o5 z5 hwx hga3 k5 D5 Z5 hm x1 x2 x3 x4 x5 x6 x7 x8 co4 fz4 H4 hbd c3 cd3 co3 hrow hi0 hz0 hz2 hz3
          generalize w4.setCell ⟨co, 0, none⟩ (.slice (some ⟨go, 0, none⟩) (b.length + 1) L.length) = w5 at *
          have HC := Lib.hid hc
          clear hc
          go_upto_region 12 with (go_at_call 60; refine HC.out.mono ?_; intro e w6 hd6; obtain ⟨v, own6, pre6, A6, rfl, y1, y2, y3, y4, y5, y6, y7⟩ := hd6.split; have H6 := Lib.hid (And.intro y1 (And.intro y2 (And.intro y3 (And.intro y4 (And.intro y5 (And.intro y6 y7)))))); clear hd6 y1 y2 y3 y4 y5 y6 y7)
          have hlk : (b ++ [k]).length = b.length + 1 := by simp
          have cell6 := H6.out.2.1.cell
          rw [hlk] at cell6
          obtain ⟨co6, fz6⟩ := one_cell cell6
          have hw1 : IntKind.i64.wrap (((b.length + 1 : Nat) : Int) - 1) = (b.length : Int) := by rw [IntKind.wrap_i64]; omega
          have hb0 : (0 : Int) ≤ (b.length : Int) := by omega
          have hb1 : (b.length : Int) ≤ (L.length : Int) := by omega
          clear cell6
          go_upto_region 13 with (fail)
          obtain ⟨o7, z7⟩ := ord_pop H6.out.2.1 HQ.out.1.c.ne3.2.1
          have C6 := HK5.out.2.c.kz HK5.out.2.o.lt.1 (by obtain ⟨_, _, _, hl, _⟩ := HK5.out.2.laid; exact hl.at_.lt) HK5.out.2.o.lt.2 H6.out.1
          obtain ⟨x1, x2, x3, x4, x5, x6, x7, x8⟩ := C6.oN
          have hwx : ∀ x, x = co ∨ x = go → own6 x = none := fun x hx => by rcases hx with rfl | rfl <;> assumption
          have k7 : Kz (wr3 co ga go) own6 own6 w6 _ := z7.any own6 fun x hx => hx.elim .inl fun h => .inr (.inr h)
          have k37 := (HK5.out.1.trans H6.out.1).trans k7
          have r7 := H6.out.2.2.1.keep (z7.block ga H6.out.2.2.1.lt rfl fun e => e.elim (fun h => HQ.out.1.c.ne3.1 h.symm) HQ.out.1.c.ne3.2.2)
          have a7 : ∀ x, x ∈ b → addr A6 x = addr A2 x := fun x hx => H6.out.2.2.2.2.1 x (by simp [hx])
          have a8 : ∀ x, x ∈ b → addr A6 x = addr A x := fun x hx => (a7 x hx).trans ((HQ.out.1.agree x hx).trans (HD.out.1.agree x hx).symm)
          cases v with
          | true =>
            obtain ⟨j6, s6⟩ := H6.out.2.2.2.2.2.1 rfl
            have H7 := Lib.hid (And.intro (HX.out.1.trans (HQ.out.2.1.trans k37)) (HQ.out.1.back k37 o7 r7 H6.out.2.2.2.1 a7 (z7.framed HJ.out.1 hwx j6)))
            have A8 := Lib.hid a8
            have S6 := Lib.hid s6
            clear o7 z7 C6 x1 x2 x3 x4 x5 x6 x7 x8 hwx k7 k37 r7 a7 a8 j6 s6
            go_wp2
            go_roundw
            case rel => exact ⟨k + 1, own6, pre6, A6, by omega, by go_num, H7.out.1, H7.out.2, A8.out, by rw [upTo_succ, if_neg hin, ← List.append_assoc]; exact S6.out⟩
            case measure => simp [intOf]; omega
          | false =>
            obtain ⟨j6, s6⟩ := H6.out.2.2.2.2.2.2 rfl
            have H7 := Lib.hid (And.intro (HX.out.1.trans (HQ.out.2.1.trans k37)) (And.intro o7 (And.intro r7 (And.intro a8 (And.intro (z7.framed HJ.out.2.1 hwx j6) s6)))))
            clear o7 z7 C6 x1 x2 x3 x4 x5 x6 x7 x8 hwx k7 k37 r7 a7 a8 j6 s6
            go_wp2
            go_ret
            exact ⟨own6, pre6, A6, H7.out.1, H7.out.2.1, H7.out.2.2.1, H6.out.2.2.2.1, H7.out.2.2.2.1, .inr ⟨rfl, H7.out.2.2.2.2.1, H7.out.2.2.2.2.2⟩⟩
    · obtain rfl : k = L.length := by omega
      have HX := Lib.hid (And.intro hK (And.intro hD (And.intro hA hst)))
      clear hK hD hA hst
      go_wp2
      go_ret
      obtain ⟨iA, ic, I, hla, _⟩ := HX.out.2.1.laid
      exact ⟨own1, pre1, A1, HX.out.1, HX.out.2.1.o, hla.at_, HX.out.2.1.len, HX.out.2.2.1, .inl ⟨rfl, HX.out.2.1.j, HX.out.2.2.2⟩⟩
end Of
end Go.Proofs.Ytjgakcpjphdicaa
