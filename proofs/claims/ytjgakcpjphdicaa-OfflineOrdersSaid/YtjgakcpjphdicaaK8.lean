/- add. lay. -/
import Derived.Test.YtjgakcpjphdicaaK7
import Derived.Test.YtjgakcpjphdicaaK2
namespace Go.Proofs.Ytjgakcpjphdicaa
open Go.RowKit
namespace Of

/-- A world after add: the row of addresses is written, all else stands. -/
structure AddOut (w w' : World) (bx' : Nat) (lA : Option Addr) (lc : Nat) (L : List OB) (ga : Nat) (A : List Int) (I : List Nat) (i : Nat) : Prop where
  out : ∃ (iA : Option Addr) (ic : Nat) (I' : List Nat), LaidAt w' bx' lA lc L ga A iA ic I' ∧ (∀ k, k ∈ I' ↔ k = i ∨ k ∈ I) ∧ Asc A I' ∧ I'.length = I.length + 1 ∧ (∀ g, iA.map (·.block) = some g → w.heap.size ≤ g)
  new : w.heap.size ≤ bx'
  grow : Grow1 ga w w'

theorem LaidAt.ne {w : World} {bx lc ga ic : Nat} {lA iA : Option Addr} {L : List OB} {A : List Int} {I : List Nat} (h : LaidAt w bx lA lc L ga A iA ic I) : bx ≠ ga ∧ ∀ g, iA.map (·.block) = some g → g ≠ ga ∧ g ≠ bx := by
  obtain ⟨cs, h1, h2⟩ := h.at_
  refine ⟨fun e => ?_, fun g hg => ?_⟩
  · have := h.box
    rw [e, h1] at this
    injection this with this
    injection this with _ e2 _
    exact absurd e2 (by decide)
  · rcases h.in_.2 with ⟨hv, h3⟩ | ⟨g', cp, cur, hv, hB, hg', _⟩
    · injection hv with hv _ _; rw [hv] at hg; cases hg
    · injection hv with hv _ _
      rw [hv] at hg
      injection hg with hg
      subst hg
      refine ⟨fun e => ?_, fun e => ?_⟩
      · rw [show g' = ga from e, h1] at hg'
        injection hg' with hg'
        injection hg' with _ e2 _
        exact absurd e2 (by decide)
      · have := h.box
        rw [← show g' = bx from e, hg'] at this
        injection this with this
        injection this with _ e2 _
        exact absurd e2 (by decide)
theorem LaidAt.set {w : World} {bx lc ga ic : Nat} {lA iA : Option Addr} {L : List OB} {A : List Int} {I : List Nat} (h : LaidAt w bx lA lc L ga A iA ic I) (hsep : lA.map (·.block) ≠ some ga) (i : Nat) (p : Int) :
    LaidAt (w.setCell ⟨ga, i, none⟩ (.int .i64 p)) bx lA lc L ga (A.set i p) iA ic I := by
  obtain ⟨n1, n2⟩ := h.ne
  refine ⟨?_, h.l.keep (by rw [setCell_size]; exact Nat.le_refl _) fun g hg _ => setCell_far _ _ _ _ (fun e => hsep (by rw [hg]; exact congrArg some e)), h.at_.set i p, row_same h.in_ fun g hg => setCell_far _ _ _ _ (n2 g ?_).1⟩
  · rw [setCell_far _ _ _ _ n1, List.length_set]; exact h.box
  · cases iA with
    | none => cases hg
    | some a => exact hg
theorem asc_set {A : List Int} {I : List Nat} {i : Nat} {p : Int} (h : Asc A I) (hi : i < A.length) (hn : i ∉ I) : Asc (A.set i p) I := by
  unfold Asc at *
  refine List.Pairwise.imp_of_mem ?_ h
  intro a b ha hb hab
  rw [addr_set hi, addr_set hi, if_neg (fun e => hn (by rw [← e]; exact ha)), if_neg (fun e => hn (by rw [← e]; exact hb))]
  exact hab
theorem asc_ins {A : List Int} {I : List Nat} {i j : Nat} (h : Asc A I) (h1 : ∀ k, k ∈ I.take j → addr A k < addr A i) (h2 : ∀ k, k ∈ I.drop j → addr A i ≤ addr A k) : Asc A (I.take j ++ [i] ++ I.drop j) := by
  unfold Asc at *
  rw [← List.take_append_drop j I] at h
  obtain ⟨p1, p2, p3⟩ := List.pairwise_append.1 h
  rw [List.append_assoc, List.pairwise_append]
  refine ⟨p1, ?_, fun a ha b hb => ?_⟩
  · rw [List.singleton_append, List.pairwise_cons]
    exact ⟨fun k hk => h2 k hk, p2⟩
  · rw [List.singleton_append] at hb
    rcases List.mem_cons.1 hb with rfl | hb
    · exact Int.le_of_lt (h1 a ha)
    · exact p3 a ha b hb
theorem mem_ins {I : List Nat} {i j k : Nat} : k ∈ I.take j ++ [i] ++ I.drop j ↔ k = i ∨ k ∈ I := by
  conv => rhs; rw [← List.take_append_drop j I]
  simp only [List.mem_append, List.mem_singleton]
  constructor
  · rintro ((h | h) | h)
    · exact .inr (.inl h)
    · exact .inl h
    · exact .inr (.inr h)
  · rintro (h | h | h)
    · exact .inl (.inr h)
    · exact .inl (.inl h)
    · exact .inr h

/-- What the last statement of add reads. -/
abbrev AddS (w3 : World) (bp bx : Nat) (x0 x1 x2 : Value) (w' : World) : Prop :=
  Below w3.heap.size w3 w' ∧ w'.cell? ⟨bp, 0, none⟩ = some (.pointer (some ⟨bx, 0, none⟩)) ∧ w'.cell? ⟨bx, 0, none⟩ = some x0 ∧ w'.cell? ⟨bx, 1, none⟩ = some x1 ∧ w'.cell? ⟨bx, 2, none⟩ = some x2
theorem adds {w3 w' : World} {bp bx : Nat} {x0 x1 x2 : Value} (c : w3.cell? ⟨bp, 0, none⟩ = some (.pointer (some ⟨bx, 0, none⟩))) (b0 : w3.cell? ⟨bx, 0, none⟩ = some x0) (b1 : w3.cell? ⟨bx, 1, none⟩ = some x1) (b2 : w3.cell? ⟨bx, 2, none⟩ = some x2)
    (hb : Below w3.heap.size w3 w') : AddS w3 bp bx x0 x1 x2 w' := ⟨hb, cell_keep2 hb c, cell_keep2 hb b0, cell_keep2 hb b1, cell_keep2 hb b2⟩
theorem add_fin {w w3 w8 : World} {bx lc ga ic j i c8 : Nat} {lA iA A8 : Option Addr} {L : List OB} {A : List Int} {I : List Nat} {Z : List Int} (h3 : LaidAt w3 bx lA lc L ga A iA ic I) (hG : Grow1 ga w w3) (hZ : Z = zs (I.take j ++ [i] ++ I.drop j)) (hj : j ≤ I.length)
    (hown : OwnI w8 w3.heap.size 3 A8 c8 Z) (hb : Below w3.heap.size w3 w8) (hi : i < A.length) (hs : Asc A I) (h1 : ∀ k, k ∈ I.take j → addr A k < addr A i) (h2 : ∀ k, k ∈ I.drop j → addr A i ≤ addr A k) {W : World} (hW : W.heap = (w8.alloc (.cells #[.slice lA L.length lc, .slice (some ⟨ga, 0, none⟩) A.length A.length, .slice A8 Z.length c8] 87)).heap ∧ W.os = w8.os ∧ W.tape = w8.tape ∧ W.output = w8.output) : AddOut w W w8.heap.size lA lc L ga A I i := by
  have hbo : Below w8.heap.size w8 (w8.alloc (.cells #[.slice lA L.length lc, .slice (some ⟨ga, 0, none⟩) A.length A.length, .slice A8 Z.length c8] 87)) := below_box _ _
  have hbW : Below w8.heap.size w8 W := ⟨hW.2.1, hW.2.2.1, hW.2.2.2, by rw [hW.1]; exact hbo.size, fun k hk => by rw [hW.1]; exact hbo.block k hk⟩
  have hb3W : Below w3.heap.size w3 W := hb.trans (hbW.mono hb.size)
  have hlen : Z.length = (I.take j ++ [i] ++ I.drop j).length := by rw [hZ, List.length_map]
  have hga := h3.at_.lt
  refine ⟨⟨A8, c8, I.take j ++ [i] ++ I.drop j, ⟨?_, h3.l.below hb3W (Nat.le_refl _), h3.at_.keep (hb3W.block _ hga), ?_⟩, fun k => mem_ins, asc_ins hs h1 h2, ?_, fun g hg => ?_⟩, Nat.le_trans hG.size hb.size, ?_⟩
  · rw [hW.1, ← hlen, heapAlloc, if_pos rfl]
  · rw [← hlen, ← hZ]
    exact row_low (row_below hown hbW) (Nat.zero_le _)
  · simp only [List.length_append, List.length_take, List.length_drop, List.length_cons, List.length_nil]; omega
  · have := (OwnI.at hown).2 g hg
    have := hG.size
    omega
  · exact hG.trans ⟨hb3W.os, hb3W.tape, hb3W.output, hb3W.size, fun k hk _ => hb3W.block k hk⟩
theorem ite_ne_none (q : Prop) [Decidable q] (x y : Addr) : (if q then some x else some y) ≠ none := by split <;> simp
theorem own_grown_below {w w1 w2 : World} {n B T c : Nat} {A : Option Addr} {M : List Int} (h : OwnI w1 B T A c M) (hb : Below n w w1) (hn : n ≤ B) (hg : w1.grownBy w2 (Value.slice A M.length c).ownBlock) (hs : n ≤ w.heap.size := by exact Nat.le_refl _) : Below n w w2 :=
  hb.trans (below_grown hg (Nat.le_trans hs hb.size) fun g e => by
    have := (OwnI.at h).2 g (by cases A with | none => cases e | some a => exact e)
    omega)
set_option maxRecDepth 100000 in
set_option maxHeartbeats 4000000 in
theorem add_ok (w : World) (bx : Nat) (lA : Option Addr) (lc : Nat) (L : List OB) (ga : Nat) (A : List Int) (iA : Option Addr) (ic : Nat) (I : List Nat) (i : Nat) (T : Int)
    (h : LaidAt w bx lA lc L ga A iA ic I) (hL : OkL L) (hA : A.length = L.length) (hi : i < L.length) (hn : i ∉ I) (hs : Asc A I) (hIl : I.length ≤ 500) (hI : ∀ k, k ∈ I → k < L.length ∧ 0 ≤ addr A k ∧ addr A k + (blk L k).s ≤ T) (hT0 : 0 ≤ T) (hT : T ≤ 40000000)
    (hsep : lA.map (·.block) ≠ some ga) :
    Calls Try.prog 62 #[.pointer (some ⟨bx, 0, none⟩), .int .i64 (i : Int)] w fun e w' => ∃ bx', e = .returned (.pointer (some ⟨bx', 0, none⟩)) ∧ AddOut w w' bx' lA lc L ga (A.set i (placeGo L A (blk L i) I 0)) I i := by
  have hob : ∀ W : World, Below W.heap.size W (W.alloc (.cells #[.pointer (some ⟨bx, 0, none⟩)] 84)) := fun W => below_box _ _
  have hs0 : (w.alloc (.cells #[.pointer (some ⟨bx, 0, none⟩)] 84)).heap.size = w.heap.size + 1 := by simp
  have hb0 := hob w
  have hh0 : (w.alloc (.cells #[.pointer (some ⟨bx, 0, none⟩)] 84)).heap[w.heap.size]? = some (.cells #[.pointer (some ⟨bx, 0, none⟩)] 84 (0, 0)) := by rw [heapAlloc, if_pos rfl]
  have c0 := (one_cell hh0).1
  have h0 := h.below hb0 (Nat.le_refl _)
  have hpl := place_ok _ bx lA lc L ga A iA ic I i T h0 hL hA hi hI hT0 hT
  have HPL := Lib.hid hpl
  have HH := Lib.hid (And.intro h (And.intro hL (And.intro hA (And.intro hs (And.intro hI hsep)))))
  have H0 := Lib.hid (And.intro hb0 (And.intro c0 (And.intro hs0 h0)))
  clear hpl h hL hA hs hI hb0 hh0 hs0 h0 hob hsep
  generalize hp : placeGo L A (blk L i) I 0 = p at *
  clear hp
  go_enter Try.func62, Try.ntmps62
  go_upto_region 1 with (fail)
  generalize w.alloc (.cells #[.pointer (some ⟨bx, 0, none⟩)] 84) = W0 at *
  obtain ⟨bp, hbp⟩ : ∃ z, z = w.heap.size := ⟨_, rfl⟩
  rw [← hbp] at H0 c0 ⊢
  have HZ := Lib.hid hbp
  clear hbp
  go_upto_region 2 with (go_at_call 75; refine HPL.out.mono ?_; rintro e w1 ⟨rfl, hb1⟩; have HB1 := Lib.hid hb1; clear hb1)
  have h1 := H0.out.2.2.2.below HB1.out (Nat.le_refl _)
  have c1 := cell_keep2 HB1.out c0
  have hbx := lt_of_heap HH.out.1.box
  have hnb := h1.ne.1
  have h2 := h1.set HH.out.2.2.2.2.2 i p
  obtain ⟨_, b1, _⟩ := three_at h1.box
  have hbpne : bp ≠ ga := by have := HH.out.1.at_.lt; have := HZ.out; omega
  have hbpx : bp ≠ bx := by have := HZ.out; omega
  have hiA : i < A.length := by rw [HH.out.2.2.1]; exact hi
  have hfz := h1.at_.frozen i
  have hci := h1.at_.cell hiA
  clear c0
  have H2 := Lib.hid (And.intro h2 h1)
  have c2 : (w1.setCell ⟨ga, i, none⟩ (.int .i64 p)).cell? ⟨bp, 0, none⟩ = some (.pointer (some ⟨bx, 0, none⟩)) := (World.cell?_of_block (a := ⟨bp, 0, none⟩) (setCell_far _ _ _ _ hbpne)).trans c1
  have hss : (w1.setCell ⟨ga, i, none⟩ (.int .i64 p)).heap.size = w1.heap.size := setCell_size _ _ _
  have HS := Lib.hid (And.intro c2 hss)
  clear h1 h2 c2 hss
  go_upto_region 3 with (fail)
  generalize hW2 : w1.setCell ⟨ga, i, none⟩ (.int .i64 p) = W2 at *
  have HW2 := Lib.hid hW2
  clear hW2 c1 b1 hfz hci
  have c2 := HS.out.1
  obtain ⟨b0, b1, b2⟩ := three_at H2.out.1.box
  have hbin := bin_ok W2 bx bp lc ga ic lA iA L (A.set i p) I p H2.out.1 c2 (fun k hk => by rw [List.length_set, HH.out.2.2.1]; exact (HH.out.2.2.2.2.1 k hk).1) (asc_set HH.out.2.2.2.1 hiA hn) (by omega) (fun g hg => by
    have h3 := HH.out.1.ne.2 g hg
    have h4 : g < w.heap.size := by
      rcases HH.out.1.in_.2 with ⟨hv, _⟩ | ⟨g', _, _, hv, _, hg', _⟩
      · injection hv with hv _ _; rw [hv] at hg; cases hg
      · injection hv with hv _ _
        rw [hv] at hg
        injection hg with hg
        have := lt_of_heap hg'
        have e : g' = g := hg
        omega
    exact ⟨by have := HZ.out; omega, h3.2, h3.1⟩)
  rw [List.length_set] at b1
  have HBN := Lib.hid hbin
  clear hbin
  go_upto_region 4 with (go_at_call 76; refine HBN.out.mono ?_; rintro e w3 ⟨j, bb, rfl, hj1, hj2, hj3, hb3⟩; have H3 := Lib.hid (And.intro hj2 (And.intro hj3 hb3)); clear hj2 hj3 hb3)
  clear b0 b1 b2 c2
  have h3 := H2.out.1.below H3.out.2.2 (Nat.le_refl _)
  have c3 := cell_keep2 H3.out.2.2 HS.out.1
  obtain ⟨b0, b1, b2⟩ := three_at h3.box
  rw [List.length_set] at b1
  have hia := h3.ia
  have hw3 := h3.in_
  have hbx3 : bx < w3.heap.size := lt_of_heap h3.box
  have hbp3 : bp < w3.heap.size := World.block_lt_of_cell? w3 (a := ⟨bp, 0, none⟩) c3
  have hG1 : Grow1 ga w w3 := by
    have g1 : Grow1 ga w w1 := ⟨(H0.out.1.trans (HB1.out.mono (by have := H0.out.2.2.1; omega))).os, (H0.out.1.trans (HB1.out.mono (by have := H0.out.2.2.1; omega))).tape, (H0.out.1.trans (HB1.out.mono (by have := H0.out.2.2.1; omega))).output, (H0.out.1.trans (HB1.out.mono (by have := H0.out.2.2.1; omega))).size, fun k hk _ => (H0.out.1.trans (HB1.out.mono (by have := H0.out.2.2.1; omega))).block k (by have := HZ.out; omega)⟩
    have g2 : Grow1 ga w W2 := by rw [← HW2.out]; exact g1.setCell _ _
    exact g2.trans ⟨H3.out.2.2.os, H3.out.2.2.tape, H3.out.2.2.output, H3.out.2.2.size, fun k hk _ => H3.out.2.2.block k hk⟩
  have H4 := Lib.hid (And.intro h3 (And.intro hia (And.intro hw3 hG1)))
  have hcap := hia.2.1
  have hicl := hia.1
  rw [List.length_map] at hicl
  unfold maxLen at hcap
  clear h3 hia hw3 hG1
  have e1 : (0 : Int) ≤ (j : Int) := by omega
  have e2 : (j : Int) ≤ (I.length : Int) := by omega
  have e3 : (j : Int) ≤ (ic : Int) := by omega
  have hjic : j ≤ ic := by omega
  obtain ⟨X, hX⟩ : ∃ X, X = zs (I.take j) := ⟨_, rfl⟩
  have hXl : X.length = j := by rw [hX, List.length_map, List.length_take]; omega
  obtain ⟨N, hN⟩ : ∃ N, N = zs (I.drop j) := ⟨_, rfl⟩
  have hNl : N.length = I.length - j := by rw [hN, List.length_map, List.length_drop]
  obtain ⟨Y, hY⟩ : ∃ Y, Y = X ++ [(i : Int)] := ⟨_, rfl⟩
  obtain ⟨Z, hZ⟩ : ∃ Z, Z = Y ++ N := ⟨_, rfl⟩
  have hYl : Y.length = j + 1 := by rw [hY, List.length_append, hXl]; rfl
  have hZl : Z.length = I.length + 1 := by rw [hZ, List.length_append, hYl, hNl]; omega
  have hbox : Below w3.heap.size w3 (w3.alloc (.cells #[.int .i64 (i : Int)] 3)).drew := below_drew (below_box _ _)
  have hbsz : (w3.alloc (.cells #[.int .i64 (i : Int)] 3)).drew.heap.size = w3.heap.size + 1 := by show (w3.alloc _).heap.size = _; simp
  have hI1 : IAt (w3.alloc (.cells #[.int .i64 (i : Int)] 3)).drew (some ⟨w3.heap.size, 0, none⟩) 1 [(i : Int)] := by
    refine ⟨Nat.le_refl _, by unfold maxLen; omega, fun q x hx => ⟨w3.heap.size, 0, rfl, by rw [hbsz]; omega, ?_⟩⟩
    have hq : q = 0 := by have := (List.getElem?_eq_some_iff.1 hx).1; simp at this; omega
    subst hq
    simp at hx
    subst hx
    exact (one_cell (show (w3.alloc (.cells #[.int .i64 (i : Int)] 3)).drew.heap[w3.heap.size]? = some (.cells #[.int .i64 (i : Int)] 3 (0, 0)) from by show (w3.alloc _).heap[w3.heap.size]? = _; rw [heapAlloc, if_pos rfl])).1
  have HL := Lib.hid (And.intro hX (And.intro hN (And.intro hY (And.intro hZ (And.intro hXl (And.intro hNl (And.intro hYl (And.intro hZl (And.intro hbox (And.intro hbsz hI1))))))))))
  clear hX hN hY hZ hXl hNl hYl hZl hbox hbsz hI1
  rcases (show iA = none ∨ ∃ gi, iA = some ⟨gi, 0, none⟩ from by
    rcases H4.out.2.2.1.2 with ⟨hv, _⟩ | ⟨g', _, _, hv, _⟩
    · injection hv with hv _ _; exact .inl hv
    · injection hv with hv _ _; exact .inr ⟨g', hv⟩) with rfl | ⟨gi, rfl⟩
  · have hI0 : I = [] := by
      rcases H4.out.2.2.1.2 with ⟨_, h0⟩ | ⟨g', _, _, hv, _⟩
      · exact List.length_eq_zero_iff.1 h0
      · injection hv with hv _ _; cases hv
    have hic0 : ic = 0 := by
      rcases H4.out.2.2.1.2 with ⟨hv, _⟩ | ⟨g', _, _, hv, _⟩
      · injection hv
      · injection hv with hv _ _; cases hv
    have hj0 : j = 0 := by rw [hI0] at hj1; simpa using hj1
    subst hic0; subst hj0
    have hX0 : X = [] := by rw [HL.out.1]; simp
    have hN0 : N = [] := by rw [HL.out.2.1, hI0]; rfl
    have HN0 := Lib.hid hN0
    have HX0 := Lib.hid hX0
    have HI0 := Lib.hid hI0
    have hIl0 : I.length = 0 := by rw [hI0]; rfl
    clear hX0 hN0 hI0
    rw [hIl0] at b2
    have HIL := Lib.hid hIl0
    go_wp2_with (fail)
    have S0 := adds c3 b0 b1 b2 (below_drew (Below.refl w3.heap.size w3))
    have S1 := adds c3 b0 b1 b2 HL.out.2.2.2.2.2.2.2.2.1
    have HA := Lib.hid (fun (W : World) (hW : Below w3.heap.size w3 W) => adds c3 b0 b1 b2 hW)
    clear c3 b0 b1 b2 hIl0
    unfold AddS at S0 S1
    go_region_held3 (fun w' => Below w3.heap.size w3 w' ∧ w'.cell? ⟨bp, 0, none⟩ = some (.pointer (some ⟨bx, 0, none⟩)) ∧ w'.cell? ⟨bx, 0, none⟩ = some (.slice lA L.length lc) ∧ w'.cell? ⟨bx, 1, none⟩ = some (.slice (some ⟨ga, 0, none⟩) A.length A.length) ∧ w'.cell? ⟨bx, 2, none⟩ = some (.slice none 0 0))
      (first | exact S0 | exact S1 | exact S7.out | exact S8.out | exact S9.out | go_keep)
      (first
      | (refine step_append_i Try.underlying25 int_row ?_ (.tmp 45) (.tmp 51) ?_ w3.heap.size (.slice A7 Y.length c7) Y ?_ ?_ none 0 N ?_ ?_ ?_ ?_ ?_ ?_
         (exact rfl)
         (exact rfl)
         (exact rfl)
         (exact row_low H7.out.1 (Nat.le_succ _))
         (rw [HN0.out]; exact rfl)
         (rw [HN0.out]; exact iat_nil _)
         (exact fun _ => rfl)
         (rw [HL.out.2.2.2.2.2.2.1, HN0.out]; exact Nat.le_of_ble_eq_true rfl)
         (exact H7.out.2.size)
         intro A8 c8 w8 hrow8 hgr8
         rw [← HL.out.2.2.2.1] at hrow8 ⊢
         have hb38 : Below w3.heap.size w3 w8 := own_grown_below H7.out.1 H7.out.2 (Nat.le_succ _) hgr8
         have S8 := Lib.hid (HA.out w8 hb38)
         have S9 := Lib.hid (HA.out _ (hb38.alloc hb38.size (.cells #[.slice lA L.length lc, .slice (some ⟨ga, 0, none⟩) A.length A.length, .slice A8 Z.length c8] 87)))
         have H8 := Lib.hid (And.intro hrow8 hb38)
         clear hrow8 hgr8 hb38)
      | (refine step_append_full Try.underlying25 int_row ?_ (.tmp 42) (.tmp 44) ?_ none X ?_ ?_ ?_ ⟨w3.heap.size, 0, none⟩ 1 [(i : Int)] ?_ ?_ ?_ ?_ ?_
         (exact rfl)
         (exact rfl)
         (rw [HX0.out]; exact rfl)
         (rw [HX0.out]; exact iat_nil _)
         (exact fun _ => HX0.out)
         (exact rfl)
         (exact HL.out.2.2.2.2.2.2.2.2.2.2)
         (exact Nat.zero_lt_one)
         (rw [HX0.out]; exact Nat.le_of_ble_eq_true rfl)
         intro A7 c7 w7 hrow7 hb7
         rw [HL.out.2.2.2.2.2.2.2.2.2.1] at hrow7 hb7
         rw [← HL.out.2.2.1] at hrow7 ⊢
         have hb37 : Below w3.heap.size w3 w7 := HL.out.2.2.2.2.2.2.2.2.1.trans (hb7.mono (by omega))
         have S7 := Lib.hid (HA.out w7 hb37)
         have H7 := Lib.hid (And.intro hrow7 hb37)
         clear hrow7 hb7 hb37))
    go_wp2
    all_goals
      go_ret
      refine ⟨w8.heap.size, rfl, add_fin (iA := none) (ic := 0) (bx := bx) (j := 0) (w3 := w3) (w8 := w8) (Z := Z) H4.out.1 H4.out.2.2.2 ?_ hj1 H8.out.1 H8.out.2 (by rw [List.length_set]; exact hiA) (asc_set HH.out.2.2.2.1 hiA hn) ?_ ?_ ⟨?_, rfl, rfl, rfl⟩⟩
      · rw [HL.out.2.2.2.1, HL.out.2.2.1, HL.out.1, HL.out.2.1]; simp
      · intro k hk
        have := H3.out.1 k hk
        rwa [addr_set hiA (k := i), if_pos rfl]
      · intro k hk
        have := H3.out.2.1 k hk
        rwa [addr_set hiA (k := i), if_pos rfl]
      · first | (rw [List.length_set]; done) | (rw [List.length_set]; rfl)
  · 
    have hgi : gi < w3.heap.size := by
      rcases H4.out.2.2.1.2 with ⟨hv, _⟩ | ⟨g', _, _, hv, _, hg', _⟩
      · injection hv with hv _ _; cases hv
      · injection hv with hv _ _; injection hv with hv; injection hv with hv _ _; rw [hv]; exact lt_of_heap hg'
    have hsrc1 : IAt w3 (some ⟨gi, 0, none⟩) X.length X := by
      have := H4.out.2.1.take j j (by omega) (by unfold maxLen; omega)
      rw [HL.out.2.2.2.2.1, HL.out.1]; unfold zs at this ⊢; rw [List.map_take]; exact this
    have hsrc2 : IAt w3 (if ic = j then some ⟨gi, 0, none⟩ else some ⟨gi, j, none⟩) (ic - j) N := by
      by_cases hcj : ic = j
      · have hN0 : N = [] := List.length_eq_zero_iff.1 (by rw [HL.out.2.2.2.2.2.1]; omega)
        rw [if_pos hcj, hN0]
        exact ⟨Nat.zero_le _, by unfold maxLen; omega, fun q x hx => by simp at hx⟩
      · rw [if_neg hcj]
        have := H4.out.2.1.drop (k := j) (by rw [List.length_map]; exact hj1)
        rw [Nat.zero_add] at this
        rw [HL.out.2.1]; unfold zs at this ⊢; rw [List.map_drop]; exact this
    have HS := Lib.hid (And.intro hsrc1 hsrc2)
    clear hsrc1 hsrc2
    go_wp2_with (fail)
    have S0 := adds c3 b0 b1 b2 (below_drew (Below.refl w3.heap.size w3))
    have S1 := adds c3 b0 b1 b2 HL.out.2.2.2.2.2.2.2.2.1
    have HA := Lib.hid (fun (W : World) (hW : Below w3.heap.size w3 W) => adds c3 b0 b1 b2 hW)
    clear c3 b0 b1 b2
    unfold AddS at S0 S1
    go_region_held3 (fun w' => Below w3.heap.size w3 w' ∧ w'.cell? ⟨bp, 0, none⟩ = some (.pointer (some ⟨bx, 0, none⟩)) ∧ w'.cell? ⟨bx, 0, none⟩ = some (.slice lA L.length lc) ∧ w'.cell? ⟨bx, 1, none⟩ = some (.slice (some ⟨ga, 0, none⟩) A.length A.length) ∧ w'.cell? ⟨bx, 2, none⟩ = some (.slice (some ⟨gi, 0, none⟩) I.length ic))
      (first | exact S0 | exact S1 | exact S7.out | exact S8.out | exact S9.out | go_keep)
      (first
      | (refine step_append_i Try.underlying25 int_row ?_ (.tmp 45) (.tmp 51) ?_ w3.heap.size (.slice A7 Y.length c7) Y ?_ ?_ (if ic = j then some ⟨gi, 0, none⟩ else some ⟨gi, j, none⟩) (ic - j) N ?_ ?_ ?_ ?_ ?_ ?_
         (exact rfl)
         (exact rfl)
         (exact rfl)
         (exact row_low H7.out.1 (Nat.le_succ _))
         (rw [HL.out.2.2.2.2.2.1]; exact rfl)
         (exact HS.out.2.below H7.out.2 (Nat.le_refl _))
         (exact fun h => absurd h (ite_ne_none _ _ _))
         (rw [HL.out.2.2.2.2.2.2.1, HL.out.2.2.2.2.2.1]; omega)
         (exact H7.out.2.size)
         intro A8 c8 w8 hrow8 hgr8
         rw [← HL.out.2.2.2.1] at hrow8 ⊢
         have hb38 : Below w3.heap.size w3 w8 := own_grown_below H7.out.1 H7.out.2 (Nat.le_succ _) hgr8
         have S8 := Lib.hid (HA.out w8 hb38)
         have S9 := Lib.hid (HA.out _ (hb38.alloc hb38.size (.cells #[.slice lA L.length lc, .slice (some ⟨ga, 0, none⟩) A.length A.length, .slice A8 Z.length c8] 87)))
         have H8 := Lib.hid (And.intro hrow8 hb38)
         clear hrow8 hgr8 hb38)
      | (refine step_append_full Try.underlying25 int_row ?_ (.tmp 42) (.tmp 44) ?_ (some ⟨gi, 0, none⟩) X ?_ ?_ ?_ ⟨w3.heap.size, 0, none⟩ 1 [(i : Int)] ?_ ?_ ?_ ?_ ?_
         (exact rfl)
         (exact rfl)
         (rw [HL.out.2.2.2.2.1]; exact rfl)
         (exact HS.out.1.below HL.out.2.2.2.2.2.2.2.2.1 (Nat.le_refl _))
         (exact fun h => by cases h)
         (exact rfl)
         (exact HL.out.2.2.2.2.2.2.2.2.2.2)
         (exact Nat.zero_lt_one)
         (rw [HL.out.2.2.2.2.1]; show j + 1 ≤ 1000000; omega)
         intro A7 c7 w7 hrow7 hb7
         rw [HL.out.2.2.2.2.2.2.2.2.2.1] at hrow7 hb7
         rw [← HL.out.2.2.1] at hrow7 ⊢
         have hb37 : Below w3.heap.size w3 w7 := HL.out.2.2.2.2.2.2.2.2.1.trans (hb7.mono (by omega))
         have S7 := Lib.hid (HA.out w7 hb37)
         have H7 := Lib.hid (And.intro hrow7 hb37)
         clear hrow7 hb7 hb37))
    go_wp2
    all_goals
      go_ret
      refine ⟨w8.heap.size, rfl, add_fin (iA := some ⟨gi, 0, none⟩) (ic := ic) (bx := bx) (j := j) (w3 := w3) (w8 := w8) (Z := Z) H4.out.1 H4.out.2.2.2 ?_ hj1 H8.out.1 H8.out.2 (by rw [List.length_set]; exact hiA) (asc_set HH.out.2.2.2.1 hiA hn) ?_ ?_ ⟨?_, rfl, rfl, rfl⟩⟩
      · rw [HL.out.2.2.2.1, HL.out.2.2.1, HL.out.1, HL.out.2.1]; simp
      · intro k hk
        have := H3.out.1 k hk
        rwa [addr_set hiA (k := i), if_pos rfl]
      · intro k hk
        have := H3.out.2.1 k hk
        rwa [addr_set hiA (k := i), if_pos rfl]
      · first | (rw [List.length_set]; done) | (rw [List.length_set]; rfl)
end Of
end Go.Proofs.Ytjgakcpjphdicaa
namespace Go.Proofs.Ytjgakcpjphdicaa
open Go.RowKit
namespace Of

theorem ord_take {n k : Nat} {o : List Nat} (h : Ord n o) : Ord n (o.take k) := ⟨h.1.sublist (List.take_sublist ..), fun i hi => h.2 i (List.mem_of_mem_take hi)⟩
theorem ord_next {n k i : Nat} {o : List Nat} (h : Ord n o) (hk : o[k]? = some i) : i < n ∧ i ∉ o.take k := by
  have h1 : Ord n (o.take k ++ [i]) := by rw [← take_next hk]; exact ord_take h
  exact h1.snoc.2
theorem take_next' {α : Type} {L : List α} {k : Nat} {x : α} (h : L[k]? = some x) : L.take (k + 1) = L.take k ++ [x] := take_next h
/-- While laying: what was laid. -/
structure LayS (w wr : World) (bx : Nat) (lA : Option Addr) (lc : Nat) (L : List OB) (ga : Nat) (o : List Nat) : Prop where
  at_ : ∃ (iA : Option Addr) (ic : Nat) (I : List Nat), LaidAt wr bx lA lc L ga (lays L o).A iA ic I ∧ (∀ k, k ∈ I ↔ k ∈ o) ∧ Asc (lays L o).A I ∧ I.length = o.length
  below : Below ga w wr
theorem LayS.drew {w wr : World} {bx lc ga : Nat} {lA : Option Addr} {L : List OB} {o : List Nat} (h : LayS w wr bx lA lc L ga o) : LayS w wr.drew bx lA lc L ga o := by
  obtain ⟨iA, ic, I, h1, h2⟩ := h.at_
  exact ⟨⟨iA, ic, I, h1.below (below_drew (Below.refl _ _)) (Nat.le_refl _), h2⟩, below_drew h.below⟩
theorem LayS.next {w wr w' : World} {bx' lc ga i : Nat} {lA : Option Addr} {L : List OB} {o : List Nat} {I : List Nat} (hL : OkL L) (hb : Below ga w wr) (hgr : ga < wr.heap.size) (hI : ∀ k, k ∈ I ↔ k ∈ o) (hs : Asc (lays L o).A I) (hl : I.length = o.length)
    (h : AddOut wr w' bx' lA lc L ga ((lays L o).A.set i (placeGo L (lays L o).A (blk L i) I 0)) I i) : LayS w w' bx' lA lc L ga (o ++ [i]) := by
  have hp := place_fit (hL.blk i) hL hI hs
  have e : (lays L (o ++ [i])).A = (lays L o).A.set i (placeGo L (lays L o).A (blk L i) I 0) := by
    rw [lays_snoc, hp]; unfold St.next; rw [lays_S]
  obtain ⟨⟨iA, ic, I', h1, h2, h3, h4, h5⟩, h6, h7⟩ := h
  refine ⟨⟨iA, ic, I', by rw [e]; exact h1, fun k => ?_, by rw [e]; exact h3, by rw [h4, hl]; simp⟩, ?_⟩
  · rw [h2, hI]; simp [or_comm]
  · exact ⟨h7.os.trans hb.os, h7.tape.trans hb.tape, h7.output.trans hb.output, Nat.le_trans hb.size h7.size, fun k hk => by
      have := hb.block k hk
      rw [← this]
      exact h7.block k (by omega) (by omega)⟩

set_option maxRecDepth 100000 in
set_option maxHeartbeats 4000000 in
theorem lay_ok (w : World) (lA : Option Addr) (lc : Nat) (L : List OB) (oA : Option Addr) (oc : Nat) (o : List Nat) (hl : OBAt w lA lc L) (ho : IAt w oA oc (zs o)) (hL : OkL L) (hO : Ord L.length o) :
    Calls Try.prog 35 #[.slice lA L.length lc, .slice oA o.length oc] w fun e w' => ∃ ga, e = .returned (.tuple #[.slice (some ⟨ga, 0, none⟩) L.length L.length, .int .i64 (lays L o).T]) ∧ RowI 2 w' ga (lays L o).A ∧ w.heap.size ≤ ga ∧ Below w.heap.size w w' := by
  have hlen := hL.1
  have hcl := hl.1
  have hcm := hl.2.1
  have hol := ord_len hO
  have hoc := ho.1
  rw [List.length_map] at hoc
  have hom := ho.2.1
  unfold maxLen at hcm hom
  have hmk := make_row w 24 2 L.length L.length Try.underlying24 i64_row (by omega) (Nat.le_refl _)
  have hr0 := row_made w 2 L.length
  have hb0 := below_box w (.cells (Array.replicate L.length (.int .i64 0)) 2)
  have hs0 : (w.alloc (.cells (Array.replicate L.length (.int .i64 0)) 2)).heap.size = w.heap.size + 1 := by simp
  have HH := Lib.hid (And.intro hl (And.intro ho (And.intro hL hO)))
  have H0 := Lib.hid (And.intro hr0 (And.intro hb0 hs0))
  clear hl ho hL hO hr0 hb0 hs0
  go_enter Try.func35, Try.ntmps35
  go_upto_region 2 with (fail)
  generalize w.alloc (.cells (Array.replicate L.length (.int .i64 0)) 2) = W0 at *
  clear hmk
  obtain ⟨ga, hga⟩ : ∃ z, z = w.heap.size := ⟨_, rfl⟩
  rw [← hga] at H0 ⊢
  have HZ := Lib.hid hga
  clear hga
  have hbx : Below W0.heap.size W0 (W0.alloc (.cells #[.slice lA L.length lc, .slice (some ⟨ga, 0, none⟩) L.length L.length, .slice none 0 0] 87)) := below_box _ _
  have hx : (W0.alloc (.cells #[.slice lA L.length lc, .slice (some ⟨ga, 0, none⟩) L.length L.length, .slice none 0 0] 87)).heap[ga + 1]? = some (.cells #[.slice lA L.length lc, .slice (some ⟨ga, 0, none⟩) L.length L.length, .slice none 0 0] 87 (0, 0)) := by rw [heapAlloc, if_pos H0.out.2.2.symm]
  have hsz1 : (W0.alloc (.cells #[.slice lA L.length lc, .slice (some ⟨ga, 0, none⟩) L.length L.length, .slice none 0 0] 87)).heap.size = ga + 2 := by have := H0.out.2.2; simp; omega
  generalize W0.alloc (.cells #[.slice lA L.length lc, .slice (some ⟨ga, 0, none⟩) L.length L.length, .slice none 0 0] 87) = W1 at *
  have hb1 : Below ga w W1 := H0.out.2.1.trans (hbx.mono (by have := H0.out.2.2; omega))
  have hl1 := HH.out.1.below hb1 (Nat.le_of_eq HZ.out.symm)
  have hr1 : RowI 2 W1 ga (List.replicate L.length 0) := H0.out.1.keep (hbx.block ga (by have := H0.out.2.2; omega))
  have hst : LayS w W1 (ga + 1) lA lc L ga [] := ⟨⟨none, 0, [], ⟨by unfold lays st0; rw [List.foldl_nil, List.length_replicate]; exact hx, hl1, hr1, ⟨rfl, .inl ⟨rfl, rfl⟩⟩⟩, fun k => Iff.rfl, List.Pairwise.nil, rfl⟩, hb1⟩
  have H1 := Lib.hid (And.intro hst hsz1)
  clear hbx hx hb1 hl1 hr1 hst hsz1
  have hsep : 0 < L.length → lA.map (·.block) ≠ some ga := fun h0 e => by
    obtain ⟨g, oo, e1, e2⟩ := HH.out.1.head h0
    rw [e1] at e
    injection e with e
    have : g = ga := e
    have := HZ.out; omega
  have HSP := Lib.hid hsep
  clear hsep
  go_wp2_with (fail)
  go_loopw [6, 7, 18] (fun x top i wr => ∃ (k bx : Nat), k ≤ o.length ∧ i = .int .i64 k ∧ x = .pointer (some ⟨bx, 0, none⟩) ∧ top = .int .i64 (lays L (o.take k)).T ∧ LayS w wr bx lA lc L ga (o.take k)) (fun _ _ i _ => o.length - (intOf i).toNat)
  case atStart => exact ⟨0, ga + 1, Nat.zero_le _, rfl, rfl, rfl, H1.out.1⟩
  case round =>
    obtain ⟨k, bx, hk, rfl, rfl, rfl, hS⟩ := hrel
    by_cases hlt : k < o.length
    · obtain ⟨i, hi⟩ : ∃ i, o[k]? = some i := ⟨_, List.getElem?_eq_getElem hlt⟩
      obtain ⟨hil, hin⟩ := ord_next HH.out.2.2.2 hi
      have hOt := ord_take (k := k) HH.out.2.2.2
      have hgood := good HH.out.2.2.1 hOt
      have hotl : (o.take k).length = k := by rw [List.length_take]; omega
      have hTk := hgood.bd
      rw [lays_S, hotl] at hTk
      have hT0 := hgood.t0
      obtain ⟨⟨iA, ic, I, h1, h2, h3, h4⟩, h5⟩ := hS
      rw [hotl] at h4
      have hadd := add_ok wr bx lA lc L ga (lays L (o.take k)).A iA ic I i (lays L (o.take k)).T h1 HH.out.2.2.1 (lays_len _ _) hil (fun e => hin ((h2 i).1 e)) h3 (by omega)
        (fun x hx => by
          have hx' : x ∈ (lays L (o.take k)).S := by rw [lays_S]; exact (h2 x).1 hx
          exact ⟨hgood.in_ x hx', hgood.pos x hx', hgood.top x hx'⟩) hT0 (by omega) (HSP.out (by omega))
      have hnx : ∀ (w' : World) (bx' : Nat), AddOut wr w' bx' lA lc L ga ((lays L (o.take k)).A.set i (placeGo L (lays L (o.take k)).A (blk L i) I 0)) I i → LayS w w' bx' lA lc L ga (o.take k ++ [i]) :=
        fun w' bx' hA => LayS.next HH.out.2.2.1 h5 h1.at_.lt h2 h3 (by rw [hotl]; exact h4) hA
      have hlx : lays L (o.take (k + 1)) = (lays L (o.take k)).next L i := by rw [take_next hi, lays_snoc]
      have hpv : addr (lays L (o.take (k + 1))).A i = fit L (lays L (o.take k)).A (lays L (o.take k)).S (blk L i) := by
        rw [hlx]; unfold St.next; rw [addr_set (by rw [lays_len]; exact hil), if_pos rfl]
      have hTv : (lays L (o.take (k + 1))).T = max (lays L (o.take k)).T (fit L (lays L (o.take k)).A (lays L (o.take k)).S (blk L i) + (blk L i).s) := by rw [hlx]; rfl
      rw [← hpv] at hTv
      have hOt' := ord_take (k := k + 1) HH.out.2.2.2
      have hgood' := good HH.out.2.2.1 hOt'
      have hpb : 0 ≤ addr (lays L (o.take (k + 1))).A i ∧ addr (lays L (o.take (k + 1))).A i ≤ 35000000 := by
        have hmem : i ∈ (lays L (o.take (k + 1))).S := by rw [lays_S, take_next hi]; simp
        have e1 := hgood'.pos i hmem
        have e2 := hgood'.top i hmem
        have e3 := hgood'.bd
        have e4 : (o.take (k + 1)).length ≤ 500 := by rw [List.length_take]; omega
        have e5 := (HH.out.2.2.1.blk i).s1
        rw [lays_S] at e3
        omega
      have hsb := HH.out.2.2.1.blk i
      have hs1 := hsb.s1
      have hs2 := hsb.s2
      obtain ⟨g, oo, rfl, hg, d0, _, _, _⟩ := HH.out.1.at hil
      obtain ⟨og, oo2, rfl, hog, ox⟩ := iat_nat HH.out.2.1 hi
      have hbw := h5
      have d0 : wr.cell? ⟨g, oo + i * 4, none⟩ = some (.int .i64 (blk L i).s) := (hbw.cell (p := ⟨g, oo + i * 4, none⟩) (by have := HZ.out; show g < ga; omega)).trans d0
      have ox := (hbw.cell (p := ⟨og, oo2 + k, none⟩) (by have := HZ.out; show og < ga; omega)).trans ox
      have hgga : g < ga := by have := HZ.out; omega
      generalize hTn : (lays L (o.take k)).T = T at *
      generalize hTn' : (lays L (o.take (k + 1))).T = T' at *
      generalize hpn : addr (lays L (o.take (k + 1))).A i = p at *
      generalize hsn : (blk L i).s = s at *
      have HNX := Lib.hid hnx
      have HAD := Lib.hid hadd
      have HTV := Lib.hid hTv
      have HPN := Lib.hid hpn
      have HI := Lib.hid hi
      have HTN := Lib.hid hTn'
      clear hnx hadd hTv hpn hi hlx hpv hgood hgood' hOt hOt' h1 h2 h3 h5 hsb hTn hTn' hsn hbw
      go_upto_region 7 with (go_at_call 62; refine HAD.out.mono ?_; rintro e w2 ⟨bx', rfl, hA⟩; have HA := Lib.hid hA; clear hA)
      have hS2 := HNX.out w2 bx' HA.out
      rw [← take_next HI.out] at hS2
      obtain ⟨⟨iA2, ic2, I2, j1, _⟩, j5⟩ := id hS2
      obtain ⟨_, b1, _⟩ := three_at j1.box
      rw [lays_len] at b1
      have hc := j1.at_.cell (j := i) (by rw [lays_len]; exact hil)
      rw [HPN.out] at hc
      have hgw : g ≠ ga := by omega
      have d0 : w2.cell? ⟨g, oo + i * 4, none⟩ = some (.int .i64 s) := by
        have := HA.out.grow.block g (World.block_lt_of_cell? wr (a := ⟨g, oo + i * 4, none⟩) d0) hgw
        exact (World.cell?_of_block (a := ⟨g, oo + i * 4, none⟩) this).trans d0
      have hps : IntKind.i64.wrap (p + s) = p + s := IntWalk.i64_in _ (by omega)
      have HS2 := Lib.hid hS2
      clear hS2 j1 j5
      go_region
      go_wp2
      go_roundw
      case rel => exact ⟨k + 1, bx', by omega, by go_num, rfl, by rw [HTN.out, HTV.out], by first | exact HS2.out | exact HS2.out.drew⟩
      case measure => simp [intOf]; omega
    · obtain rfl : k = o.length := by omega
      rw [List.take_length] at *
      obtain ⟨⟨iA, ic, I, h1, _⟩, h2⟩ := hS
      obtain ⟨_, b1, _⟩ := three_at h1.box
      rw [lays_len] at b1
      have HF := Lib.hid (And.intro h1.at_ h2)
      clear h1 h2
      go_wp2
      go_ret2
      exact ⟨ga, rfl, HF.out.1, Nat.le_of_eq HZ.out.symm, by rw [← HZ.out]; exact HF.out.2⟩
end Of
end Go.Proofs.Ytjgakcpjphdicaa
