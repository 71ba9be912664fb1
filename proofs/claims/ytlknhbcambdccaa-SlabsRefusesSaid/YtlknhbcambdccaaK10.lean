/- put of the specification. SameBlocks and Same. Owner, Largest and Room of the specification. Largest and Room of the specification. -/
import Derived.Test.YtlknhbcambdccaaK9
import Derived.Deep.AppendLies
import Derived.Deep.RegionLaw
import Derived.Outline
import Derived.Laws.StructEq
import Derived.ChangeKeysEq
namespace Go.Proofs.Ytlknhbcambdccaa
open Go.RowKit
namespace Bu

def restB (dn : Bool) (l : List Blk) (x : Blk) : List Blk := if dn then l else putB l x

/-- A state in a block of the call's own. -/
structure OutAt (w : World) (S : Nat) (N : Int) (A : Option Addr) (c : Nat) (L : List Blk) : Prop where
  blk : w.heap[S]? = some (.cells #[.int .i64 N, .slice A L.length c] 46 (0, 0))
  row : Own w (S + 1) A c L

theorem OutAt.keep {w w' : World} {S : Nat} {N : Int} {A : Option Addr} {c : Nat} {L : List Blk} (h : OutAt w S N A c L) (hk : ∀ k, S ≤ k → k < w.heap.size → w'.heap[k]? = w.heap[k]?) : OutAt w' S N A c L :=
  ⟨(hk S (Nat.le_refl _) (lt_of_heap h.blk)).trans h.blk, row_keep h.row fun g hg hl => hk g (by omega) hl⟩
theorem OutAt.row1 {w : World} {S : Nat} {N : Int} {A : Option Addr} {c : Nat} {L : List Blk} (h : OutAt w S N A c L) (ob : Obj) : (w.alloc ob).drew.ownsRow (S + 1) 126 2 (.slice A L.length c) L.length (cellsL L) := h.row.alloc ob
theorem OutAt.cells {w : World} {S : Nat} {N : Int} {A : Option Addr} {c : Nat} {L : List Blk} (h : OutAt w S N A c L) :
    w.cell? ⟨S, 0, none⟩ = some (.int .i64 N) ∧ w.cell? ⟨S, 1, none⟩ = some (.slice A L.length c) ∧ w.frozen? ⟨S, 0, none⟩ = false ∧ w.frozen? ⟨S, 1, none⟩ = false ∧ S < w.heap.size :=
  ⟨(two_cells h.blk).1, (two_cells h.blk).2.1, (two_cells h.blk).2.2.1, (two_cells h.blk).2.2.2, lt_of_heap h.blk⟩
theorem OutAt.ne {w : World} {S : Nat} {N : Int} {A : Option Addr} {c : Nat} {L : List Blk} (h : OutAt w S N A c L) : some S ≠ (Value.slice A L.length c).ownBlock := fun e => by
  have := (h.row.lt S e.symm).1; omega

theorem two_set {w : World} {R : Nat} {a b : Value} {T : TypeId} (h : w.heap[R]? = some (.cells #[a, b] T (0, 0))) (x y : Value) : ((w.setCell ⟨R, 0, none⟩ x).setCell ⟨R, 1, none⟩ y).heap[R]? = some (.cells #[x, y] T (0, 0)) :=
  setCell_at _ _ _ _ _ _ (setCell_at _ _ _ _ _ _ h)
theorem row_low {w : World} {B C e s n : Nat} {v : Value} {xs : List Value} (h : w.ownsRow B e s v n xs) (hBC : C ≤ B) : w.ownsRow C e s v n xs := by
  refine ⟨h.1, ?_⟩
  rcases h.2 with hn | ⟨g, cap, cur, rfl, hB, r⟩
  · exact .inl hn
  · exact .inr ⟨g, cap, cur, rfl, by omega, r⟩

theorem out_push {w w1 : World} {S : Nat} {N : Int} {A : Option Addr} {c : Nat} {pre : List Blk} {x : Blk} {ob : Obj} {v' : Value} (hO : OutAt w S N A c pre)
    (hrow : w1.ownsRow (S + 1) 126 2 v' (pre.length + 1) (cellsL pre ++ [.int .i64 (x.1 : Int), .int .i64 (x.2 : Int)])) (hgrow : (w.alloc ob).grownBy w1 (Value.slice A pre.length c).ownBlock) :
    ∃ A2 c2, v' = .slice A2 (pre.length + 1) c2 ∧ OutAt (w1.setCell ⟨S, 1, none⟩ v') S N A2 c2 (pre ++ [x]) ∧ ∀ B a, B ≤ S → Below B a w → Below B a (w1.setCell ⟨S, 1, none⟩ v') := by
  obtain ⟨A2, c2, rfl⟩ := own_value hrow
  have hSl := lt_of_heap hO.blk
  have h1 : w1.heap[S]? = some (.cells #[.int .i64 N, .slice A pre.length c] 46 (0, 0)) := by
    rw [hgrow.block S (by simp; omega) hO.ne, alloc_old _ _ _ hSl]; exact hO.blk
  refine ⟨A2, c2, rfl, ⟨?_, ?_⟩, fun B a hB hb => ?_⟩
  · have := setCell_at w1 S 1 _ _ (.slice A2 (pre.length + 1) c2) h1
    rw [List.length_append, List.length_singleton]
    exact this
  · unfold Own
    rw [List.length_append, List.length_singleton, cellsL_add]
    exact row_keep hrow fun g hg _ => setCell_far _ _ _ _ (by show g ≠ S; omega)
  · exact ((hb.alloc (by have := hb.size; omega) ob).grown hgrow (by simp; omega) fun k hk => by have := (hO.row.lt k hk).1; omega).setCell (p := ⟨S, 1, none⟩) hB _

set_option maxRecDepth 100000 in
set_option maxHeartbeats 8000000 in
theorem putR_ok (w : World) (N : Int) (A : Option Addr) (c : Nat) (L : List Blk) (x : Blk) (h : BlkAt w A c L) (hL : L.length ≤ 2048) :
    Calls Try.prog 100 #[sv N A L.length c, .agg #[.int .i64 (x.1 : Int), .int .i64 (x.2 : Int)]] w fun e w' => (∃ A' c', e = .returned (sv N A' (putB L x).length c') ∧ Own w' w.heap.size A' c' (putB L x)) ∧ Below w.heap.size w w' := by
  obtain ⟨q, m⟩ := x
  obtain ⟨hlc, hcap⟩ := h.len
  unfold maxLen at hcap
  obtain ⟨R, hR⟩ : ∃ R, R = putB L (q, m) := ⟨_, rfl⟩
  have hst : R = [] ++ putB (L.drop 0) (q, m) := by rw [hR, List.drop_zero, List.nil_append]
  rw [← hR]
  have HR := Lib.hid hst
  have hinfo := info_open block_info
  obtain ⟨i0, z0, hi0, hz0, hz1, hz2, hz3⟩ := hinfo
  have HL := Lib.hid h
  clear h hR hst
  go_enter Try.func100, Try.ntmps100
  go_wp2_with (fail)
  generalize hS : w.heap.size + 1 + 1 + 1 = S
  generalize hW0 : (((w.alloc (.cells #[.int .i64 N, .slice A L.length c] 46)).alloc (.cells #[.int .i64 (q : Int), .int .i64 (m : Int)] 126)).alloc (.cells #[.int .i64 0, .slice none 0 0] 46)).alloc (.cells #[.int .i64 N, .slice none 0 0] 46) = W0
  have hs0 : W0.heap.size = w.heap.size + 4 := by rw [← hW0]; simp
  have g0 : W0.heap[w.heap.size]? = some (.cells #[.int .i64 N, .slice A L.length c] 46 (0, 0)) := by
    rw [← hW0, alloc_old _ _ _ (by simp <;> omega), alloc_old _ _ _ (by simp <;> omega), alloc_old _ _ _ (by simp <;> omega), heapAlloc, if_pos rfl]
  have g1 : W0.heap[w.heap.size + 1]? = some (.cells #[.int .i64 (q : Int), .int .i64 (m : Int)] 126 (0, 0)) := by
    rw [← hW0, alloc_old _ _ _ (by simp <;> omega), alloc_old _ _ _ (by simp <;> omega), heapAlloc, if_pos (by simp <;> omega)]
  have g2 : W0.heap[w.heap.size + 1 + 1]? = some (.cells #[.int .i64 0, .slice none 0 0] 46 (0, 0)) := by
    rw [← hW0, alloc_old _ _ _ (by simp <;> omega), heapAlloc, if_pos (by simp <;> omega)]
  have g3 : OutAt W0 S N none 0 [] := ⟨by rw [← hW0, ← hS, heapAlloc, if_pos (by simp <;> omega)]; rfl, World.ownsRow_nil _ _ _ _⟩
  have hbw0 : Below w.heap.size w W0 := by
    rw [← hW0]; exact (((below_box w _).alloc (by simp <;> omega) _).alloc (by simp <;> omega) _).alloc (by simp <;> omega) _
  have HG := Lib.hid (And.intro g2 (And.intro hbw0 (And.intro hS hs0)))
  obtain ⟨s0, s1, _, _⟩ := two_cells g0
  obtain ⟨x0, x1, _, _⟩ := two_cells g1
  have HX := Lib.hid (And.intro (HL.out.below hbw0) (And.intro hS hs0))
  have hSw : w.heap.size + 3 = S := by omega
  clear hW0 g0 g1 g2 hbw0 hS hs0
  go_loopw [6, 7] (fun d i wr => ∃ (k : Nat) (dn : Bool) (pre : List Blk) (A' : Option Addr) (c' : Nat), k ≤ L.length ∧ i = .int .i64 (k : Int) ∧ d = .bool dn ∧ OutAt wr S N A' c' pre ∧ Below S W0 wr ∧ R = pre ++ restB dn (L.drop k) (q, m) ∧ pre.length ≤ 2 * k) (fun _ i _ => L.length - (intOf i).toNat)
  case atStart => exact ⟨0, false, [], none, 0, Nat.zero_le _, rfl, rfl, g3, Below.refl _ _, HR.out, Nat.zero_le _⟩
  case round =>
    obtain ⟨k, dn, pre, A', c', hk, rfl, rfl, hout, hbw, hRR, hpl⟩ := hrel
    have hs1 := s1
    replace s0 := (hbw.cell (p := ⟨w.heap.size, 0, none⟩) (by show w.heap.size < S; omega)).trans s0
    replace s1 := (hbw.cell (p := ⟨w.heap.size, 1, none⟩) (by show w.heap.size < S; omega)).trans s1
    replace x0 := (hbw.cell (p := ⟨w.heap.size + 1, 0, none⟩) (by show w.heap.size + 1 < S; omega)).trans x0
    replace x1 := (hbw.cell (p := ⟨w.heap.size + 1, 1, none⟩) (by show w.heap.size + 1 < S; omega)).trans x1
    obtain ⟨_, o1, _, of1, hSW⟩ := hout.cells
    have hne := hout.ne
    by_cases hlt : k < L.length
    · obtain ⟨y, hy⟩ : ∃ y, L[k]? = some y := ⟨_, List.getElem?_eq_getElem hlt⟩
      obtain ⟨g, o, hA, hgw, d1, d2⟩ := HL.out.at hy
      have hd : L.drop k = y :: L.drop (k + 1) := by
        rw [List.drop_eq_getElem_cons hlt]
        congr 1
        rw [List.getElem?_eq_getElem hlt] at hy
        injection hy
      obtain ⟨p, n⟩ := y
      subst hA
      have hgS : g < S := by omega
      have hgW : g < wr.heap.size := by omega
      have hsW : w.heap.size < wr.heap.size := by omega
      have hblk : wr.heap[g]? = w.heap[g]? := (hbw.block g hgS).trans (HG.out.2.1.block g hgw)
      replace d1 := (World.cell?_of_block (a := ⟨g, _, none⟩) hblk).trans d1
      replace d2 := (World.cell?_of_block (a := ⟨g, _, none⟩) hblk).trans d2
      have hkk : IntKind.i64.wrap ((k : Int) + 1) = ((k + 1 : Nat) : Int) := by rw [IntWalk.i64_in _ (by omega)]; rfl
      have e1 : (0 : Int) ≤ (k : Int) := by omega
      have e2 : (k : Int) < (L.length : Int) := by omega
      dsimp only at d1 d2
      cases dn with
      | true =>
        have hres : restB true (L.drop k) (q, m) = (p, n) :: restB true (L.drop (k + 1)) (q, m) := by rw [hd]; rfl
        rw [hres] at hRR
        have HOUT0 := Lib.hid (And.intro hout (And.intro hbw (And.intro hRR (And.intro hpl hne))))
        clear hout hbw hRR hpl hres hd hy hne hblk
        go_wp2_with (fail)
        go_quiet (fail)
        go_wp2_with (fail)
        generalize hq : wr.drewN _ = W
        have HOUT : Hid (OutAt W S N A' c' pre) := Lib.hid (by rw [← hq]; exact HOUT0.out.1.keep fun _ _ _ => rfl)
        have HB : Hid (Below S W0 W ∧ R = pre ++ (p, n) :: restB true (L.drop (k + 1)) (q, m) ∧ pre.length ≤ 2 * k) := Lib.hid ⟨by rw [← hq]; exact below_drewN HOUT0.out.2.1 _, HOUT0.out.2.2.1, HOUT0.out.2.2.2.1⟩
        have HNE := Lib.hid HOUT0.out.2.2.2.2
        replace o1 : W.cell? ⟨S, 1, none⟩ = some (.slice A' pre.length c') := by rw [← hq]; exact o1
        replace of1 : W.frozen? ⟨S, 1, none⟩ = false := by rw [← hq]; exact of1
        replace s1 : W.cell? ⟨w.heap.size, 1, none⟩ = some (.slice (some ⟨g, o, none⟩) L.length c) := by rw [← hq]; exact s1
        replace d1 : W.cell? ⟨g, o + k * 2, none⟩ = some (.int .i64 (p : Int)) := by rw [← hq]; exact d1
        replace d2 : W.cell? ⟨g, o + k * 2 + 1, none⟩ = some (.int .i64 (n : Int)) := by rw [← hq]; exact d2
        replace hSW : S < W.heap.size := by rw [← hq]; exact hSW
        replace hgW : g < W.heap.size := by rw [← hq]; exact hgW
        replace hsW : w.heap.size < W.heap.size := by rw [← hq]; exact hsW
        have hpl := HB.out.2.2
        clear hq s0 x0 x1 HOUT0 hs1
        have s5 : (W.alloc (.cells #[.int .i64 (p : Int), .int .i64 (n : Int)] 126)).drew.cell? ⟨S, 1, none⟩ = some (.slice A' pre.length c') ∧ (W.alloc (.cells #[.int .i64 (p : Int), .int .i64 (n : Int)] 126)).drew.frozen? ⟨S, 1, none⟩ = false ∧ (W.alloc (.cells #[.int .i64 (p : Int), .int .i64 (n : Int)] 126)).drew.cell? ⟨w.heap.size, 1, none⟩ = some (.slice (some ⟨g, o, none⟩) L.length c) ∧ (W.alloc (.cells #[.int .i64 (p : Int), .int .i64 (n : Int)] 126)).drew.cell? ⟨g, o + k * 2, none⟩ = some (.int .i64 (p : Int)) ∧ (W.alloc (.cells #[.int .i64 (p : Int), .int .i64 (n : Int)] 126)).drew.cell? ⟨g, o + k * 2 + 1, none⟩ = some (.int .i64 (n : Int)) :=
          ⟨(World.cell?_alloc_lt W _ _ hSW).trans o1, (World.frozen?_alloc_old W _ _ (Nat.ne_of_lt hSW)).trans of1, (World.cell?_alloc_lt W _ _ hsW).trans s1, (World.cell?_alloc_lt W _ _ hgW).trans d1, (World.cell?_alloc_lt W _ _ hgW).trans d2⟩
        have hsd : (W.alloc (.cells #[.int .i64 (p : Int), .int .i64 (n : Int)] 126)).drew.heap.size = W.heap.size + 1 := by show (W.alloc _).heap.size = _; simp
        obtain ⟨r0, r1, r2, r3, r4⟩ := s5
        have HNW := Lib.hid (show ∀ j u, [Value.int .i64 (p : Int), .int .i64 (n : Int)][j]? = some u → (W.alloc (.cells #[.int .i64 (p : Int), .int .i64 (n : Int)] 126)).drew.cell? ((⟨W.heap.size, 0, none⟩ : Addr).add j) = some u from fun j u hu => two_new W _ _ _ j u hu)
        have HSD := Lib.hid hsd
        clear hsd
        go_region_law ((refine step_append_lies _ (by rfl) (.tmp 38) (.tmp 44) _ (by rfl) (S + 1) 126 i0 z0 2 16 Try.underlying44 hi0 hz0 hz1 hz2 hz3 (by omega) (.slice A' pre.length c') pre.length (cellsL pre) (by rfl) (HOUT.out.row1 _) ⟨W.heap.size, 0, none⟩ 1 1 [.int .i64 (p : Int), .int .i64 (n : Int)] (by rfl) (by rfl) HNW.out (by simp [Value.oneCell']) (by omega) (by unfold maxLen; omega) (by omega) (by rw [HSD.out]; omega) (W.heap.size + 1) HSD.out ?_; intro g6 cap6 w6 hown6 hgrow6 hat6 hlt6; have u0 : w6.cell? ⟨S, 1, none⟩ = some (.slice A' pre.length c') := (hgrow6.cell_far ⟨_, _, none⟩ (by rw [HSD.out]; exact Nat.lt_succ_of_lt hSW) HNE.out).trans r0; have u1 : w6.frozen? ⟨S, 1, none⟩ = false := (hgrow6.frozen_far ⟨_, _, none⟩ (by rw [HSD.out]; exact Nat.lt_succ_of_lt hSW) HNE.out).trans r1; have H6 := Lib.hid (And.intro hown6 hgrow6); clear hown6 hgrow6 hat6 hlt6))
        all_goals
          obtain ⟨A2, c2, hv2, ho2, hb2⟩ := out_push (w := W) (x := (p, n)) (ob := .cells #[.int .i64 (p : Int), .int .i64 (n : Int)] 126) HOUT.out H6.out.1 ⟨H6.out.2.os, H6.out.2.tape, H6.out.2.output, H6.out.2.size, H6.out.2.block⟩
          have H7 := Lib.hid (And.intro ho2 hb2)
          clear ho2 hb2
          injection hv2 with hv3 hv4 hv5
          subst hv3; subst hv5
          go_wp2_with (fail)
          go_roundw
          case rel =>
            refine ⟨k + 1, true, pre ++ [(p, n)], _, _, by omega, by go_num, rfl, H7.out.1.keep fun _ _ _ => rfl, ?_, by rw [HB.out.2.1]; simp, by rw [List.length_append, List.length_singleton]; have := HB.out.2.2; omega⟩
            have := H7.out.2 S W0 (Nat.le_refl _) HB.out.1
            first | exact this | exact this.drew
          case measure => simp [intOf]; omega

      | false =>
        by_cases hlt2 : q < p
        · have hres : restB false (L.drop k) (q, m) = (q, m) :: (p, n) :: restB true (L.drop (k + 1)) (q, m) := by rw [hd]; show putB _ _ = _; rw [putB, if_pos hlt2]; rfl
          rw [hres] at hRR
          have t1 : (q : Int) < (p : Int) := by omega
          have HOUT0 := Lib.hid (And.intro hout (And.intro hbw (And.intro hRR (And.intro hpl (And.intro hne (And.intro d1 d2))))))
          clear hout hbw hRR hpl hres hd hy hne hblk
          go_wp2_with (fail)
          go_quiet (fail)
          generalize hq : wr.drewN _ = Wq
          have HOUTq : Hid (OutAt Wq S N A' c' pre ∧ Below S W0 Wq) := Lib.hid ⟨by rw [← hq]; exact HOUT0.out.1.keep fun _ _ _ => rfl, by rw [← hq]; exact below_drewN HOUT0.out.2.1 _⟩
          have hsq : wr.heap.size = Wq.heap.size := by rw [← hq]; rfl
          have hq2 : ∀ b : Nat, Wq.heap[b]? = wr.heap[b]? := fun b => by rw [← hq]; rfl
          have HQ2 := Lib.hid hq2
          replace o1 : Wq.cell? ⟨S, 1, none⟩ = some (.slice A' pre.length c') := by rw [← hq]; exact o1
          replace of1 : Wq.frozen? ⟨S, 1, none⟩ = false := by rw [← hq]; exact of1
          replace x0 : Wq.cell? ⟨w.heap.size + 1, 0, none⟩ = some (.int .i64 (q : Int)) := by rw [← hq]; exact x0
          replace x1 : Wq.cell? ⟨w.heap.size + 1, 1, none⟩ = some (.int .i64 (m : Int)) := by rw [← hq]; exact x1
          have hplq := HOUT0.out.2.2.2.1
          have hSWq : S < Wq.heap.size := by omega
          clear hq hq2 d1 d2 s0
          go_wp2_with (at_builtin; refine wpList_append_own _ rfl (.tmp 32) (.tmp 34) 44 rfl (S + 1) 126 i0 z0 2 16 Try.underlying44 hi0 hz0 hz1 hz2 hz3 (by omega) (.slice A' pre.length c') pre.length (cellsL pre) rfl (HOUTq.out.1.row.alloc _) ⟨Wq.heap.size, 0, none⟩ 1 1 [.int .i64 (q : Int), .int .i64 (m : Int)] rfl rfl (two_new Wq _ _ _) (by simp [Value.oneCell']) (by unfold maxLen; omega) (by omega) (by simp <;> omega) ?_; intro v' w1 hown1 hgrow1 _; have u0 : w1.cell? ⟨S, 1, none⟩ = some (.slice A' pre.length c') := (hgrow1.cell_far ⟨_, _, none⟩ (by simp <;> omega) HOUT0.out.2.2.2.2.1).trans ((World.cell?_alloc_lt _ _ _ hSWq).trans o1); have u1 : w1.frozen? ⟨S, 1, none⟩ = false := (hgrow1.frozen_far ⟨_, _, none⟩ (by simp <;> omega) HOUT0.out.2.2.2.2.1).trans ((World.frozen?_alloc_old _ _ _ (Nat.ne_of_lt hSWq)).trans of1); obtain ⟨A1, c1, hv1⟩ := own_value hown1; subst hv1; have H5 := Lib.hid (And.intro hown1 hgrow1); clear hown1 hgrow1)
          obtain ⟨A3, c3, hv1, ho1, hb1⟩ := out_push (w := Wq) (x := (q, m)) HOUTq.out.1 H5.out.1 H5.out.2
          injection hv1 with hv2 hv3 hv4
          subst hv2; subst hv4
          have hb2 := hb1 S W0 (Nat.le_refl _) HOUTq.out.2
          generalize hW : w1.setCell ⟨S, 1, none⟩ (.slice A1 (pre.length + 1) c1) = W at *
          obtain ⟨pre2, hp2⟩ : ∃ pre2, pre2 = pre ++ [(q, m)] := ⟨_, rfl⟩
          rw [← hp2] at ho1
          have hpl : pre2.length ≤ 2 * k + 1 := by rw [hp2, List.length_append, List.length_singleton]; omega
          have HNE := Lib.hid ho1.ne
          have HB : Hid (Below S W0 W ∧ R = pre2 ++ (p, n) :: restB true (L.drop (k + 1)) (q, m) ∧ pre2.length ≤ 2 * k + 1) := Lib.hid ⟨hb2, by rw [HOUT0.out.2.2.1, hp2]; simp, hpl⟩
          have hszW : w.heap.size + 4 ≤ W.heap.size := by have := hb2.size; have := HG.out.2.2.2; omega
          replace hsW : w.heap.size < W.heap.size := by omega
          replace hgW : g < W.heap.size := by omega
          have hbk : ∀ b : Nat, b < S → W.heap[b]? = wr.heap[b]? := fun b hb => (hb2.block b hb).trans (HOUT0.out.2.1.block b hb).symm
          replace s1 : W.cell? ⟨w.heap.size, 1, none⟩ = some (.slice (some ⟨g, o, none⟩) L.length c) := (World.cell?_of_block (a := ⟨_, _, none⟩) (hbk _ (by show w.heap.size < S; omega))).trans s1
          have d1 : W.cell? ⟨g, o + k * 2, none⟩ = some (.int .i64 (p : Int)) := (World.cell?_of_block (a := ⟨g, _, none⟩) (hbk g hgS)).trans HOUT0.out.2.2.2.2.2.1
          have d2 : W.cell? ⟨g, o + k * 2 + 1, none⟩ = some (.int .i64 (n : Int)) := (World.cell?_of_block (a := ⟨g, _, none⟩) (hbk g hgS)).trans HOUT0.out.2.2.2.2.2.2
          replace o1 := ho1.cells.2.1
          replace of1 := ho1.cells.2.2.2.1
          replace hSW := ho1.cells.2.2.2.2
          have HOUT := Lib.hid ho1
          clear ho1 hb1 hb2 hbk hp2 hW hv3 u0 u1 H5 x0 x1 HOUT0 hs1 hsq HQ2 hSWq
          have s5 : (W.alloc (.cells #[.int .i64 (p : Int), .int .i64 (n : Int)] 126)).drew.cell? ⟨S, 1, none⟩ = some (.slice A1 pre2.length c1) ∧ (W.alloc (.cells #[.int .i64 (p : Int), .int .i64 (n : Int)] 126)).drew.frozen? ⟨S, 1, none⟩ = false ∧ (W.alloc (.cells #[.int .i64 (p : Int), .int .i64 (n : Int)] 126)).drew.cell? ⟨w.heap.size, 1, none⟩ = some (.slice (some ⟨g, o, none⟩) L.length c) ∧ (W.alloc (.cells #[.int .i64 (p : Int), .int .i64 (n : Int)] 126)).drew.cell? ⟨g, o + k * 2, none⟩ = some (.int .i64 (p : Int)) ∧ (W.alloc (.cells #[.int .i64 (p : Int), .int .i64 (n : Int)] 126)).drew.cell? ⟨g, o + k * 2 + 1, none⟩ = some (.int .i64 (n : Int)) :=
            ⟨(World.cell?_alloc_lt W _ _ hSW).trans o1, (World.frozen?_alloc_old W _ _ (Nat.ne_of_lt hSW)).trans of1, (World.cell?_alloc_lt W _ _ hsW).trans s1, (World.cell?_alloc_lt W _ _ hgW).trans d1, (World.cell?_alloc_lt W _ _ hgW).trans d2⟩
          have hsd : (W.alloc (.cells #[.int .i64 (p : Int), .int .i64 (n : Int)] 126)).drew.heap.size = W.heap.size + 1 := by show (W.alloc _).heap.size = _; simp
          obtain ⟨r0, r1, r2, r3, r4⟩ := s5
          have HNW := Lib.hid (show ∀ j u, [Value.int .i64 (p : Int), .int .i64 (n : Int)][j]? = some u → (W.alloc (.cells #[.int .i64 (p : Int), .int .i64 (n : Int)] 126)).drew.cell? ((⟨W.heap.size, 0, none⟩ : Addr).add j) = some u from fun j u hu => two_new W _ _ _ j u hu)
          have HSD := Lib.hid hsd
          clear hsd
          go_region_law ((refine step_append_lies _ (by rfl) (.tmp 38) (.tmp 44) _ (by rfl) (S + 1) 126 i0 z0 2 16 Try.underlying44 hi0 hz0 hz1 hz2 hz3 (by omega) (.slice A1 pre2.length c1) pre2.length (cellsL pre2) (by rfl) (HOUT.out.row1 _) ⟨W.heap.size, 0, none⟩ 1 1 [.int .i64 (p : Int), .int .i64 (n : Int)] (by rfl) (by rfl) HNW.out (by simp [Value.oneCell']) (by omega) (by unfold maxLen; omega) (by omega) (by rw [HSD.out]; omega) (W.heap.size + 1) HSD.out ?_; intro g6 cap6 w6 hown6 hgrow6 hat6 hlt6; have u0 : w6.cell? ⟨S, 1, none⟩ = some (.slice A1 pre2.length c1) := (hgrow6.cell_far ⟨_, _, none⟩ (by rw [HSD.out]; exact Nat.lt_succ_of_lt hSW) HNE.out).trans r0; have u1 : w6.frozen? ⟨S, 1, none⟩ = false := (hgrow6.frozen_far ⟨_, _, none⟩ (by rw [HSD.out]; exact Nat.lt_succ_of_lt hSW) HNE.out).trans r1; have H6 := Lib.hid (And.intro hown6 hgrow6); clear hown6 hgrow6 hat6 hlt6))
          all_goals
            obtain ⟨A2, c2, hv2, ho2, hb2⟩ := out_push (w := W) (x := (p, n)) (ob := .cells #[.int .i64 (p : Int), .int .i64 (n : Int)] 126) HOUT.out H6.out.1 ⟨H6.out.2.os, H6.out.2.tape, H6.out.2.output, H6.out.2.size, H6.out.2.block⟩
            have H7 := Lib.hid (And.intro ho2 hb2)
            clear ho2 hb2
            injection hv2 with hv3 hv4 hv5
            subst hv3; subst hv5
            go_wp2_with (fail)
            go_roundw
            case rel =>
              refine ⟨k + 1, true, pre2 ++ [(p, n)], _, _, by omega, by go_num, rfl, H7.out.1.keep fun _ _ _ => rfl, ?_, by rw [HB.out.2.1]; simp, by rw [List.length_append, List.length_singleton]; have := HB.out.2.2; omega⟩
              have := H7.out.2 S W0 (Nat.le_refl _) HB.out.1
              first | exact this | exact this.drew
            case measure => simp [intOf]; omega

        · have hres : restB false (L.drop k) (q, m) = (p, n) :: restB false (L.drop (k + 1)) (q, m) := by rw [hd]; show putB _ _ = _; rw [putB, if_neg hlt2]; rfl
          rw [hres] at hRR
          have t1 : ¬ (q : Int) < (p : Int) := by omega
          have HOUT0 := Lib.hid (And.intro hout (And.intro hbw (And.intro hRR (And.intro hpl hne))))
          clear hout hbw hRR hpl hres hd hy hne hblk
          go_wp2_with (fail)
          go_quiet (fail)
          go_wp2_with (fail)
          generalize hq : wr.drewN _ = W
          have HOUT : Hid (OutAt W S N A' c' pre) := Lib.hid (by rw [← hq]; exact HOUT0.out.1.keep fun _ _ _ => rfl)
          have HB : Hid (Below S W0 W ∧ R = pre ++ (p, n) :: restB false (L.drop (k + 1)) (q, m) ∧ pre.length ≤ 2 * k) := Lib.hid ⟨by rw [← hq]; exact below_drewN HOUT0.out.2.1 _, HOUT0.out.2.2.1, HOUT0.out.2.2.2.1⟩
          have HNE := Lib.hid HOUT0.out.2.2.2.2
          replace o1 : W.cell? ⟨S, 1, none⟩ = some (.slice A' pre.length c') := by rw [← hq]; exact o1
          replace of1 : W.frozen? ⟨S, 1, none⟩ = false := by rw [← hq]; exact of1
          replace s1 : W.cell? ⟨w.heap.size, 1, none⟩ = some (.slice (some ⟨g, o, none⟩) L.length c) := by rw [← hq]; exact s1
          replace d1 : W.cell? ⟨g, o + k * 2, none⟩ = some (.int .i64 (p : Int)) := by rw [← hq]; exact d1
          replace d2 : W.cell? ⟨g, o + k * 2 + 1, none⟩ = some (.int .i64 (n : Int)) := by rw [← hq]; exact d2
          replace hSW : S < W.heap.size := by rw [← hq]; exact hSW
          replace hgW : g < W.heap.size := by rw [← hq]; exact hgW
          replace hsW : w.heap.size < W.heap.size := by rw [← hq]; exact hsW
          have hpl := HB.out.2.2
          clear hq s0 x0 x1 HOUT0 hs1
          have s5 : (W.alloc (.cells #[.int .i64 (p : Int), .int .i64 (n : Int)] 126)).drew.cell? ⟨S, 1, none⟩ = some (.slice A' pre.length c') ∧ (W.alloc (.cells #[.int .i64 (p : Int), .int .i64 (n : Int)] 126)).drew.frozen? ⟨S, 1, none⟩ = false ∧ (W.alloc (.cells #[.int .i64 (p : Int), .int .i64 (n : Int)] 126)).drew.cell? ⟨w.heap.size, 1, none⟩ = some (.slice (some ⟨g, o, none⟩) L.length c) ∧ (W.alloc (.cells #[.int .i64 (p : Int), .int .i64 (n : Int)] 126)).drew.cell? ⟨g, o + k * 2, none⟩ = some (.int .i64 (p : Int)) ∧ (W.alloc (.cells #[.int .i64 (p : Int), .int .i64 (n : Int)] 126)).drew.cell? ⟨g, o + k * 2 + 1, none⟩ = some (.int .i64 (n : Int)) :=
            ⟨(World.cell?_alloc_lt W _ _ hSW).trans o1, (World.frozen?_alloc_old W _ _ (Nat.ne_of_lt hSW)).trans of1, (World.cell?_alloc_lt W _ _ hsW).trans s1, (World.cell?_alloc_lt W _ _ hgW).trans d1, (World.cell?_alloc_lt W _ _ hgW).trans d2⟩
          have hsd : (W.alloc (.cells #[.int .i64 (p : Int), .int .i64 (n : Int)] 126)).drew.heap.size = W.heap.size + 1 := by show (W.alloc _).heap.size = _; simp
          obtain ⟨r0, r1, r2, r3, r4⟩ := s5
          have HNW := Lib.hid (show ∀ j u, [Value.int .i64 (p : Int), .int .i64 (n : Int)][j]? = some u → (W.alloc (.cells #[.int .i64 (p : Int), .int .i64 (n : Int)] 126)).drew.cell? ((⟨W.heap.size, 0, none⟩ : Addr).add j) = some u from fun j u hu => two_new W _ _ _ j u hu)
          have HSD := Lib.hid hsd
          clear hsd
          go_region_law ((refine step_append_lies _ (by rfl) (.tmp 38) (.tmp 44) _ (by rfl) (S + 1) 126 i0 z0 2 16 Try.underlying44 hi0 hz0 hz1 hz2 hz3 (by omega) (.slice A' pre.length c') pre.length (cellsL pre) (by rfl) (HOUT.out.row1 _) ⟨W.heap.size, 0, none⟩ 1 1 [.int .i64 (p : Int), .int .i64 (n : Int)] (by rfl) (by rfl) HNW.out (by simp [Value.oneCell']) (by omega) (by unfold maxLen; omega) (by omega) (by rw [HSD.out]; omega) (W.heap.size + 1) HSD.out ?_; intro g6 cap6 w6 hown6 hgrow6 hat6 hlt6; have u0 : w6.cell? ⟨S, 1, none⟩ = some (.slice A' pre.length c') := (hgrow6.cell_far ⟨_, _, none⟩ (by rw [HSD.out]; exact Nat.lt_succ_of_lt hSW) HNE.out).trans r0; have u1 : w6.frozen? ⟨S, 1, none⟩ = false := (hgrow6.frozen_far ⟨_, _, none⟩ (by rw [HSD.out]; exact Nat.lt_succ_of_lt hSW) HNE.out).trans r1; have H6 := Lib.hid (And.intro hown6 hgrow6); clear hown6 hgrow6 hat6 hlt6))
          all_goals
            obtain ⟨A2, c2, hv2, ho2, hb2⟩ := out_push (w := W) (x := (p, n)) (ob := .cells #[.int .i64 (p : Int), .int .i64 (n : Int)] 126) HOUT.out H6.out.1 ⟨H6.out.2.os, H6.out.2.tape, H6.out.2.output, H6.out.2.size, H6.out.2.block⟩
            have H7 := Lib.hid (And.intro ho2 hb2)
            clear ho2 hb2
            injection hv2 with hv3 hv4 hv5
            subst hv3; subst hv5
            go_wp2_with (fail)
            go_roundw
            case rel =>
              refine ⟨k + 1, false, pre ++ [(p, n)], _, _, by omega, by go_num, rfl, H7.out.1.keep fun _ _ _ => rfl, ?_, by rw [HB.out.2.1]; simp, by rw [List.length_append, List.length_singleton]; have := HB.out.2.2; omega⟩
              have := H7.out.2 S W0 (Nat.le_refl _) HB.out.1
              first | exact this | exact this.drew
            case measure => simp [intOf]; omega

    · obtain rfl : k = L.length := by omega
      rw [List.drop_length] at hRR
      cases dn with
      | true =>
        have HB := Lib.hid (And.intro hout (And.intro hbw (And.intro (hRR.trans (by show pre ++ [] = pre; simp)) hne)))
        clear hout hbw hRR hpl hne
        have hres0 := (HB.out.2.1.block (w.heap.size + 1 + 1) (by omega)).trans HG.out.1
        obtain ⟨q2, q3, q0, q1⟩ := two_cells hres0
        have o0 := HB.out.1.cells.1
        have H9 := Lib.hid (two_set hres0 (.int .i64 N) (.slice A' pre.length c'))
        clear hres0
        go_wp2_with (fail)
        obtain ⟨q4, q5, _, _⟩ := two_cells H9.out
        refine bodyPost_ret (v := sv N A' pre.length c') (by simp [results, Try.results100, go_sem, q4, q5]) rfl ⟨⟨A', c', by rw [HB.out.2.2.1], ?_⟩, ?_⟩
        · rw [HB.out.2.2.1]
          exact row_low (row_keep HB.out.1.row fun b hb _ => (setCell_far _ _ _ _ (by show b ≠ w.heap.size + 1 + 1; omega)).trans (setCell_far _ _ _ _ (by show b ≠ w.heap.size + 1 + 1; omega))) (by omega)
        · exact (((HG.out.2.1.trans (HB.out.2.1.mono (by omega))).setCell (p := ⟨w.heap.size + 1 + 1, 0, none⟩) (by show w.heap.size ≤ w.heap.size + 1 + 1; omega) _).setCell (p := ⟨w.heap.size + 1 + 1, 1, none⟩) (by show w.heap.size ≤ w.heap.size + 1 + 1; omega) _)
      | false =>
        have hRR2 : R = pre ++ [(q, m)] := hRR
        have HOUT0 := Lib.hid (And.intro hout (And.intro hbw (And.intro hRR2 hne)))
        clear hout hbw hRR hRR2 hne
        go_wp2_with (at_builtin; refine wpList_append_own _ rfl (.tmp 50) (.tmp 52) 44 rfl (S + 1) 126 i0 z0 2 16 Try.underlying44 hi0 hz0 hz1 hz2 hz3 (by omega) (.slice A' pre.length c') pre.length (cellsL pre) rfl (HOUT0.out.1.row.alloc _) ⟨wr.heap.size, 0, none⟩ 1 1 [.int .i64 (q : Int), .int .i64 (m : Int)] rfl rfl (two_new wr _ _ _) (by simp [Value.oneCell']) (by unfold maxLen; omega) (by omega) (by simp <;> omega) ?_; intro v' w1 hown1 hgrow1 _; have u0 : w1.cell? ⟨S, 1, none⟩ = some (.slice A' pre.length c') := (hgrow1.cell_far ⟨_, _, none⟩ (by simp <;> omega) HOUT0.out.2.2.2).trans ((World.cell?_alloc_lt _ _ _ hSW).trans o1); have u1 : w1.frozen? ⟨S, 1, none⟩ = false := (hgrow1.frozen_far ⟨_, _, none⟩ (by simp <;> omega) HOUT0.out.2.2.2).trans ((World.frozen?_alloc_old _ _ _ (Nat.ne_of_lt hSW)).trans of1); have u2 : w1.cell? ⟨S, 0, none⟩ = some (.int .i64 N) := (hgrow1.cell_far ⟨_, _, none⟩ (by simp <;> omega) HOUT0.out.2.2.2).trans ((World.cell?_alloc_lt _ _ _ hSW).trans HOUT0.out.1.cells.1); have hr1 : w1.heap[w.heap.size + 1 + 1]? = some (.cells #[.int .i64 0, .slice none 0 0] 46 (0, 0)) := (hgrow1.block _ (by simp <;> omega) (fun e => by have := (HOUT0.out.1.row.lt _ e.symm).1; omega)).trans ((alloc_old _ _ _ (by omega)).trans ((HOUT0.out.2.1.block _ (by omega)).trans HG.out.1)); obtain ⟨q2, q3, q0, q1⟩ := two_cells hr1; clear hr1; obtain ⟨A1, c1, hv1, ho1, hb1⟩ := out_push (w := wr) (x := (q, m)) HOUT0.out.1 hown1 hgrow1; subst hv1; have hb2 := hb1 S W0 (Nat.le_refl _) HOUT0.out.2.1; have H5 := Lib.hid (And.intro ho1 hb2); clear hown1 hgrow1 ho1 hb1 hb2)
        generalize hW : w1.setCell ⟨S, 1, none⟩ (.slice A1 (pre.length + 1) c1) = W at *
        clear hW u0 u1 u2 q0 q1 q2 q3
        have hb2 := H5.out.2
        have ho1 := H5.out.1
        have hres0 := (hb2.block (w.heap.size + 1 + 1) (by omega)).trans HG.out.1
        have H9 := Lib.hid (two_set hres0 (.int .i64 N) (.slice A1 (pre ++ [(q, m)]).length c1))
        have HB := Lib.hid (And.intro ho1 (And.intro hb2 HOUT0.out.2.2.1))
        clear ho1 hb2 hres0
        obtain ⟨pre2, hp2⟩ : ∃ pre2, pre2 = pre ++ [(q, m)] := ⟨_, rfl⟩
        have hpl2 : pre.length + 1 = pre2.length := by rw [hp2]; simp
        rw [← hp2] at H9 HB
        rw [hpl2]
        clear hp2
        obtain ⟨q4, q5, _, _⟩ := two_cells H9.out
        refine bodyPost_ret (v := sv N A1 pre2.length c1) (by simp [results, Try.results100, go_sem, q4, q5]) rfl ⟨⟨A1, c1, by rw [HB.out.2.2], ?_⟩, ?_⟩
        · rw [HB.out.2.2]
          exact row_low (row_keep HB.out.1.row fun b hb _ => (setCell_far _ _ _ _ (by show b ≠ w.heap.size + 1 + 1; omega)).trans (setCell_far _ _ _ _ (by show b ≠ w.heap.size + 1 + 1; omega))) (by omega)
        · exact (((HG.out.2.1.trans (HB.out.2.1.mono (by omega))).setCell (p := ⟨w.heap.size + 1 + 1, 0, none⟩) (by show w.heap.size ≤ w.heap.size + 1 + 1; omega) _).setCell (p := ⟨w.heap.size + 1 + 1, 1, none⟩) (by show w.heap.size ≤ w.heap.size + 1 + 1; omega) _)
end Bu
end Go.Proofs.Ytlknhbcambdccaa
namespace Go.Proofs.Ytlknhbcambdccaa
open Go.RowKit
namespace Bu

theorem run_blk_eq (w : World) (a b c d : Int) : (Op.equalIn 10000 126 (.agg #[.int .i64 a, .int .i64 b]) (.agg #[.int .i64 c, .int .i64 d])).run Try.prog w = .ok (a == c && b == d) w := by
  have hu : Try.prog.underlying 126 = some (.struct (Try.prog.fieldsOf 126)) := by kernel_rfl
  have hp : Try.prog.stoodInHeld 126 = false := by kernel_rfl
  have hf : (Try.prog.fieldsOf 126).toList.map (fun f => (f.name, f.type, f.offset)) = [("Page", 3, 0), ("Order", 3, 1)] := by kernel_rfl
  have he : Try.prog.plainKey 3 = true := by kernel_rfl
  have hi : Try.prog.underlying 3 = some (.int .i64) := by kernel_rfl
  rw [show (10000 : Nat) = 9999 + 1 from rfl, run_equalIn_struct w 9999 _ _ _ hu hp]
  generalize (Try.prog.fieldsOf 126).toList = fs at hf
  have hl : fs.length = 2 := by have := congrArg List.length hf; simpa using this
  obtain ⟨f, g, rfl⟩ : ∃ f g, fs = [f, g] := by
    cases fs with
    | nil => simp at hl
    | cons f fs => cases fs with
      | nil => simp at hl
      | cons g fs => cases fs with
        | nil => exact ⟨f, g, rfl⟩
        | cons h fs => simp at hl
  simp only [List.map_cons, List.map_nil, List.cons.injEq, Prod.mk.injEq, and_true] at hf
  obtain ⟨⟨f1, f2, f3⟩, g1, g2, g3⟩ := hf
  have p1 := fun (x y : Value) => run_part_plain (P := Try.prog) (w := w) he (xs := #[x, y]) (off := 0) (v := x) rfl
  have p2 := fun (x y : Value) => run_part_plain (P := Try.prog) (w := w) he (xs := #[x, y]) (off := 1) (v := y) rfl
  simp only [Op.eqFields, f1, f2, f3, g1, g2, g3, if_pos (show ("Page" : String) ≠ "_" by decide), if_pos (show ("Order" : String) ≠ "_" by decide), Sem.run_bind, p1, p2, Result.andThen, run_equalIn_int w 9998 3 .i64 .i64 _ _ hi]
  cases h1 : (a == c) with
  | false => simp
  | true =>
    cases h2 : (b == d) with
    | false => simp [Sem.run_bind, p2, Result.andThen, run_equalIn_int w 9998 3 .i64 .i64 _ _ hi, h2]
    | true => simp [Sem.run_bind, p2, Result.andThen, run_equalIn_int w 9998 3 .i64 .i64 _ _ hi, h2]

theorem eq_of_take {L M : List Blk} (h : ∀ j, j < L.length → j < M.length → L[j]? = M[j]?) (hl : L.length = M.length) : L = M := by
  apply List.ext_getElem?
  intro j
  by_cases e : j < L.length
  · exact h j e (by omega)
  · rw [List.getElem?_eq_none (by omega), List.getElem?_eq_none (by omega)]

set_option maxRecDepth 100000 in
set_option maxHeartbeats 2000000 in
theorem sameB_ok (w : World) (A B : Option Addr) (c d : Nat) (L M : List Blk) (h1 : BlkAt w A c L) (h2 : BlkAt w B d M) :
    Calls Try.prog 50 #[.slice A L.length c, .slice B M.length d] w fun e w' => e = .returned (.bool (decide (L = M))) ∧ ∃ n, w' = w.drewN n := by
  obtain ⟨l1, l2⟩ := h1.len
  obtain ⟨m1, m2⟩ := h2.len
  unfold maxLen at l2 m2
  obtain ⟨r, hr⟩ : ∃ r, r = decide (L = M) := ⟨_, rfl⟩
  rw [← hr]
  have HR := Lib.hid hr
  have H1 := Lib.hid (And.intro h1 h2)
  have heq := fun W x y z t => run_blk_eq W x y z t
  clear h1 h2 hr
  go_enter Try.func50, Try.ntmps50
  go_wp2
  go_loopw [5] (fun i wr => ∃ (k : Nat), k ≤ L.length ∧ k ≤ M.length ∧ i = .int .i64 k ∧ (∀ j, j < k → L[j]? = M[j]?) ∧ ∃ n, wr = w.drewN n) (fun i _ => L.length - (intOf i).toNat)
  case atStart => exact ⟨0, Nat.zero_le _, Nat.zero_le _, rfl, fun j hj => by omega, 0, rfl⟩
  case round =>
    obtain ⟨k, hk, hk2, rfl, hall, hn⟩ := hrel
    have HN := Lib.hid (And.intro hall hn)
    have b1 : BlkAt wr A c L := by obtain ⟨n, rfl⟩ := hn; exact H1.out.1
    have b2 : BlkAt wr B d M := by obtain ⟨n, rfl⟩ := hn; exact H1.out.2
    clear hall hn
    have e0 : (0 : Int) ≤ (k : Int) := by omega
    by_cases hlt : k < L.length
    · have hkk : IntKind.i64.wrap ((k : Int) + 1) = ((k + 1 : Nat) : Int) := by rw [IntWalk.i64_in _ (by omega)]; rfl
      have e1 : (k : Int) < (L.length : Int) := by omega
      by_cases hlt2 : k < M.length
      · have e2 : (k : Int) < (M.length : Int) := by omega
        obtain ⟨x, hx⟩ : ∃ x, L[k]? = some x := ⟨_, List.getElem?_eq_getElem hlt⟩
        obtain ⟨y, hy⟩ : ∃ y, M[k]? = some y := ⟨_, List.getElem?_eq_getElem hlt2⟩
        obtain ⟨g, o, hA, hg, d1, d2⟩ := b1.at hx
        obtain ⟨g', o', hB, hg', d3, d4⟩ := b2.at hy
        obtain ⟨p, n⟩ := x
        obtain ⟨q, m⟩ := y
        subst hA
        subst hB
        have HXY := Lib.hid (And.intro hx hy)
        clear hx hy b1 b2
        dsimp only at d1 d2 d3 d4
        by_cases hpq : p = q
        · have t1 : ((p : Int) == (q : Int)) = true := by simp [hpq]
          by_cases hnm : n = m
          · have t2 : ((n : Int) == (m : Int)) = true := by simp [hnm]
            have HE := Lib.hid (And.intro hpq hnm)
            clear hpq hnm
            go_wp2_with (fail)
            go_quiet (fail)
            go_wp2
            go_roundw
            case rel =>
              refine ⟨k + 1, by omega, by omega, by go_num, fun j hj => ?_, ?_⟩
              · by_cases e : j = k
                · subst e; rw [HXY.out.1, HXY.out.2, HE.out.1, HE.out.2]
                · exact HN.out.1 j (by omega)
              · obtain ⟨n, hn⟩ := HN.out.2
                exact ⟨_, by rw [hn]; exact World.drewN_drewN _ _ _⟩
            case measure => simp [intOf]; omega
          · have t2 : ((n : Int) == (m : Int)) = false := by rw [beq_eq_false_iff_ne]; omega
            have HE := Lib.hid hnm
            clear hpq hnm
            go_wp2_with (fail)
            go_quiet (fail)
            go_wp2
            go_ret
            refine ⟨?_, ?_⟩
            · rw [HR.out, decide_eq_false (fun h => by have := HXY.out; rw [h] at this; have := this.1.symm.trans this.2; injection this with this; injection this with h1 h2; exact HE.out h2)]; rfl
            · obtain ⟨n, hn⟩ := HN.out.2
              exact ⟨_, by rw [hn]; exact World.drewN_drewN _ _ _⟩
        · have t1 : ((p : Int) == (q : Int)) = false := by rw [beq_eq_false_iff_ne]; omega
          have HE := Lib.hid hpq
          clear hpq
          go_wp2_with (fail)
          go_quiet (fail)
          go_wp2
          go_ret
          refine ⟨?_, ?_⟩
          · rw [HR.out, decide_eq_false (fun h => by have := HXY.out; rw [h] at this; have := this.1.symm.trans this.2; injection this with this; injection this with h1 h2; exact HE.out h1)]; rfl
          · obtain ⟨n, hn⟩ := HN.out.2
            exact ⟨_, by rw [hn]; exact World.drewN_drewN _ _ _⟩
      · obtain rfl : k = M.length := by omega
        have t3 : ((L.length : Int) == (M.length : Int)) = false := by rw [beq_eq_false_iff_ne]; omega
        have t4 : ¬ ((M.length : Nat) : Int) < (M.length : Int) := by omega
        clear hkk b1 b2
        go_wp2
        go_ret
        refine ⟨?_, HN.out.2⟩
        rw [HR.out, decide_eq_false (fun h => by rw [h] at hlt; omega)]; rfl
    · obtain rfl : k = L.length := by omega
      clear b1 b2
      by_cases hl : L.length = M.length
      · have t3 : ((L.length : Int) == (M.length : Int)) = true := by rw [hl]; simp
        have HL := Lib.hid hl
        clear hl
        go_wp2
        go_ret
        refine ⟨?_, HN.out.2⟩
        rw [HR.out, decide_eq_true (eq_of_take (fun j h1 _ => HN.out.1 j h1) HL.out)]; rfl
      · have t3 : ((L.length : Int) == (M.length : Int)) = false := by rw [beq_eq_false_iff_ne]; omega
        have HL := Lib.hid hl
        clear hl
        go_wp2
        go_ret
        refine ⟨?_, HN.out.2⟩
        rw [HR.out, decide_eq_false (fun h => HL.out (by rw [h]))]; rfl

set_option maxRecDepth 100000 in
set_option maxHeartbeats 1000000 in
theorem same_ok (w : World) (N N' : Int) (A B : Option Addr) (c d : Nat) (L M : List Blk) (h1 : BlkAt w A c L) (h2 : BlkAt w B d M) :
    Calls Try.prog 21 #[sv N A L.length c, sv N' B M.length d] w fun e w' => e = .returned (.bool (decide (N = N' ∧ L = M))) ∧ Below w.heap.size w w' := by
  obtain ⟨b1, b2⟩ := state_cells w (.int .i64 N) (.slice A L.length c) 46
  have hb0 := below_box w (.cells #[.int .i64 N, .slice A L.length c] 46)
  obtain ⟨W1, hW1⟩ : ∃ W1, W1 = w.alloc (.cells #[.int .i64 N, .slice A L.length c] 46) := ⟨_, rfl⟩
  rw [← hW1] at b1 b2 hb0
  obtain ⟨b3, b4⟩ := state_cells W1 (.int .i64 N') (.slice B M.length d) 46
  have hb1 := below_box W1 (.cells #[.int .i64 N', .slice B M.length d] 46)
  have hs1 : W1.heap.size = w.heap.size + 1 := by rw [hW1]; simp
  obtain ⟨W2, hW2⟩ : ∃ W2, W2 = W1.alloc (.cells #[.int .i64 N', .slice B M.length d] 46) := ⟨_, rfl⟩
  rw [← hW2] at b3 b4 hb1
  rw [hs1] at b3 b4
  replace b1 := cell_keep2 hb1 b1
  replace b2 := cell_keep2 hb1 b2
  have hbb : Below w.heap.size w W2 := hb0.trans (hb1.mono (by omega))
  have HS := Lib.hid (sameB_ok W2 A B c d L M (h1.below hbb) (h2.below hbb))
  obtain ⟨r, hr⟩ : ∃ r, r = decide (N = N' ∧ L = M) := ⟨_, rfl⟩
  rw [← hr]
  have HR := Lib.hid (And.intro hr hbb)
  have HW := Lib.hid (And.intro hW1 hW2)
  clear hb0 hb1 hs1 hW1 hW2 h1 h2 hr hbb
  by_cases hN : N = N'
  · have t : (N == N') = true := by rw [hN]; simp
    have HN := Lib.hid hN
    clear hN
    go_enter Try.func21, Try.ntmps21
    go_wp2_with (fail)
    rw [← HW.out.1, ← HW.out.2]
    go_wp2_with (go_at_call 50; refine HS.out.mono ?_; rintro e w' ⟨rfl, n, rfl⟩)
    go_ret
    refine ⟨?_, below_drewN HR.out.2 _⟩
    rw [HR.out.1, HN.out]; simp
  · have t : (N == N') = false := by rw [beq_eq_false_iff_ne]; exact hN
    have HN := Lib.hid hN
    clear hN
    go_enter Try.func21, Try.ntmps21
    go_wp2_with (fail)
    rw [← HW.out.1, ← HW.out.2]
    go_wp2
    go_ret
    refine ⟨?_, HR.out.2⟩
    rw [HR.out.1, decide_eq_false (fun h => HN.out h.1)]; rfl
end Bu
end Go.Proofs.Ytlknhbcambdccaa
namespace Go.Proofs.Ytlknhbcambdccaa
open Go.RowKit
namespace Bu

theorem find_idx {α : Type} (f : α → Bool) : ∀ L : List α, L.find? f = (L.findIdx? f).bind fun i => L[i]? := by
  intro L
  induction L with
  | nil => rfl
  | cons x L ih =>
    rw [List.find?_cons, List.findIdx?_cons]
    cases h : f x with
    | true => simp
    | false =>
      simp only [Bool.false_eq_true, if_false]
      rw [ih]
      cases L.findIdx? f <;> rfl

def OwnV : Option Blk → Value
  | some x => .tuple #[.agg #[.int .i64 (x.1 : Int), .int .i64 (x.2 : Int)], .int .i64 0]
  | none => .tuple #[.agg #[.int .i64 0, .int .i64 0], .int .i64 4]

theorem givenI_owner {L : List Blk} {p : Nat} : (givenI L p = -1 ∧ ownerB L p = none) ∨ ∃ i x, givenI L p = ((i : Nat) : Int) ∧ L[i]? = some x ∧ ownerB L p = some x := by
  unfold givenI ownerB
  rw [find_idx]
  cases e : L.findIdx? (hasP · p) with
  | none => exact .inl ⟨rfl, rfl⟩
  | some i =>
    obtain ⟨h1, _⟩ := List.findIdx?_eq_some_iff_getElem.1 e
    exact .inr ⟨i, L[i], rfl, List.getElem?_eq_getElem h1, List.getElem?_eq_getElem h1⟩

theorem blk_new (V : World) (x y : Value) (T : TypeId) : (V.alloc (.cells #[x, y] T)).heap[V.heap.size]? = some (.cells #[x, y] T (0, 0)) := by rw [heapAlloc, if_pos rfl]

set_option maxRecDepth 100000 in
set_option maxHeartbeats 2000000 in
theorem ownerR_bad (w : World) (N : Nat) (A : Option Addr) (c : Nat) (L : List Blk) (page : Int) (hN : N ≤ 10) (hp : page < 0 ∨ ((2 ^ N : Nat) : Int) ≤ page) :
    Calls Try.prog 90 #[sv N A L.length c, .int .i64 page] w fun e w' => e = .returned (.tuple #[.agg #[.int .i64 0, .int .i64 0], .int .i64 7]) ∧ Below w.heap.size w w' := by
  obtain ⟨b1, b2⟩ := state_cells w (.int .i64 (N : Int)) (.slice A L.length c) 46
  have hb0 := below_box w (.cells #[.int .i64 (N : Int), .slice A L.length c] 46)
  obtain ⟨W1, hW1⟩ : ∃ W1, W1 = w.alloc (.cells #[.int .i64 (N : Int), .slice A L.length c] 46) := ⟨_, rfl⟩
  rw [← hW1] at b1 b2 hb0
  have hs1 : W1.heap.size = w.heap.size + 1 := by rw [hW1]; simp
  have hn := blk_new W1 (.int .i64 0) (.int .i64 0) 126
  obtain ⟨W2, hW2⟩ : ∃ W2, W2 = W1.alloc (.cells #[.int .i64 0, .int .i64 0] 126) := ⟨_, rfl⟩
  rw [← hW2, hs1] at hn
  have hb1 : Below w.heap.size w W2 := by rw [hW2]; exact hb0.alloc (by omega) _
  have hbx : Below W1.heap.size W1 W2 := by rw [hW2]; exact below_box _ _
  replace b1 := cell_keep2 hbx b1
  replace b2 := cell_keep2 hbx b2
  have h4 := two_cells hn
  obtain ⟨c1, c2, f1, f2⟩ := h4
  have h5 := two_cells (setCell_at _ _ 1 _ _ (.int .i64 0) (setCell_at _ _ 0 _ _ (.int .i64 0) hn))
  have HW := Lib.hid (And.intro hW1 hW2)
  have HB := Lib.hid hb1
  have H5 := Lib.hid h5
  have HZ := Lib.hid (size_ok N W2 (by omega))
  obtain ⟨M, hM⟩ : ∃ M : Nat, M = 2 ^ N := ⟨_, rfl⟩
  rw [← hM] at HZ hp
  clear hW1 hW2 hb0 hb1 hbx hs1 hn h5 hM
  rcases hp with hp | hp
  · go_enter Try.func90, Try.ntmps90
    go_wp2_with (fail)
    rw [← HW.out.1, ← HW.out.2]
    go_wp2
    obtain ⟨q1, q2, _, _⟩ := H5.out
    refine bodyPost_ret (v := .tuple #[.agg #[.int .i64 0, .int .i64 0], .int .i64 7]) (by simp [results, Try.results90, go_sem, q1, q2, c1, c2]) rfl ⟨rfl, ?_⟩
    first | exact HB.out | exact ((HB.out.setCell (p := ⟨w.heap.size + 1, 0, none⟩) (by show w.heap.size ≤ w.heap.size + 1; omega) _).setCell (p := ⟨w.heap.size + 1, 1, none⟩) (by show w.heap.size ≤ w.heap.size + 1; omega) _)
  · have hp0 : ¬ page < 0 := by omega
    go_enter Try.func90, Try.ntmps90
    go_wp2_with (fail)
    rw [← HW.out.1, ← HW.out.2]
    go_wp2_with (go_at_call 87; refine HZ.out.mono ?_; rintro e w' ⟨rfl, rfl⟩)
    obtain ⟨q1, q2, _, _⟩ := H5.out
    refine bodyPost_ret (v := .tuple #[.agg #[.int .i64 0, .int .i64 0], .int .i64 7]) (by simp [results, Try.results90, go_sem, q1, q2, c1, c2]) rfl ⟨rfl, ?_⟩
    first | exact HB.out | exact ((HB.out.setCell (p := ⟨w.heap.size + 1, 0, none⟩) (by show w.heap.size ≤ w.heap.size + 1; omega) _).setCell (p := ⟨w.heap.size + 1, 1, none⟩) (by show w.heap.size ≤ w.heap.size + 1; omega) _)

set_option maxRecDepth 100000 in
set_option maxHeartbeats 2000000 in
theorem ownerR_ok (w : World) (N : Nat) (A : Option Addr) (c : Nat) (L : List Blk) (page : Nat) (hN : N ≤ 10) (h : BlkAt w A c L) (hS : Small L) (hp : page < 2 ^ N) :
    Calls Try.prog 90 #[sv N A L.length c, .int .i64 (page : Int)] w fun e w' => e = .returned (OwnV (ownerB L page)) ∧ Below w.heap.size w w' := by
  have hlt : 2 ^ N ≤ 1024 := by
    have : 2 ^ N ≤ 2 ^ 10 := Nat.pow_le_pow_right (by omega) hN
    omega
  obtain ⟨b1, b2⟩ := state_cells w (.int .i64 (N : Int)) (.slice A L.length c) 46
  have hb0 := below_box w (.cells #[.int .i64 (N : Int), .slice A L.length c] 46)
  obtain ⟨W1, hW1⟩ : ∃ W1, W1 = w.alloc (.cells #[.int .i64 (N : Int), .slice A L.length c] 46) := ⟨_, rfl⟩
  rw [← hW1] at b1 b2 hb0
  have hs1 : W1.heap.size = w.heap.size + 1 := by rw [hW1]; simp
  have hn := blk_new W1 (.int .i64 0) (.int .i64 0) 126
  obtain ⟨W2, hW2⟩ : ∃ W2, W2 = W1.alloc (.cells #[.int .i64 0, .int .i64 0] 126) := ⟨_, rfl⟩
  rw [← hW2, hs1] at hn
  have hs2 : W2.heap.size = w.heap.size + 2 := by rw [hW2]; simp [hs1]
  have hb1 : Below w.heap.size w W2 := by rw [hW2]; exact hb0.alloc (by omega) _
  have hbx : Below W1.heap.size W1 W2 := by rw [hW2]; exact below_box _ _
  replace b1 := cell_keep2 hbx b1
  replace b2 := cell_keep2 hbx b2
  have h4 := two_cells hn
  obtain ⟨c1, c2, f1, f2⟩ := h4
  have HW := Lib.hid (And.intro hW1 hW2)
  have hZ := size_ok N W2 (by omega)
  obtain ⟨M, hM⟩ : ∃ M : Nat, M = 2 ^ N := ⟨_, rfl⟩
  rw [← hM] at hZ hp hlt
  have HZ := Lib.hid hZ
  have hG := given_ok W2 N A c L page (h.below hb1) hS (by omega)
  have e1 : (page : Int) < (M : Int) := by omega
  have e0 : (0 : Int) ≤ (page : Int) := by omega
  have HB := Lib.hid (And.intro hb1 (And.intro hs2 (And.intro (h.below hb1) hn)))
  rcases @givenI_owner L page with ⟨g1, g2⟩ | ⟨i, x, g1, g2, g3⟩
  · rw [g1] at hG
    rw [g2]
    have HG := Lib.hid hG
    clear hW1 hW2 hb0 hb1 hbx hs1 hs2 hM g1 g2 hG hZ h hS hn
    go_enter Try.func90, Try.ntmps90
    go_wp2_with (fail)
    rw [← HW.out.1, ← HW.out.2]
    go_wp2_with (first | (go_at_call 87; refine HZ.out.mono ?_; rintro e w' ⟨rfl, rfl⟩) | (go_at_call 102; refine HG.out.mono ?_; rintro e w' ⟨rfl, hbG⟩; have hn3 := (hbG.block (w.heap.size + 1) (by have := HB.out.2.1; omega)).trans HB.out.2.2.2; obtain ⟨c3, c4, f3, f4⟩ := two_cells hn3; have H5 := Lib.hid (And.intro hbG hn3); clear hbG hn3))
    obtain ⟨q1, q2, _, _⟩ := two_cells (setCell_at _ _ 1 _ _ (.int .i64 0) (setCell_at _ _ 0 _ _ (.int .i64 0) H5.out.2))
    refine bodyPost_ret (v := .tuple #[.agg #[.int .i64 0, .int .i64 0], .int .i64 4]) (by simp [results, Try.results90, go_sem, q1, q2]) rfl ⟨rfl, ?_⟩
    exact (((HB.out.1.trans (H5.out.1.mono (by have := HB.out.2.1; omega))).setCell (p := ⟨w.heap.size + 1, 0, none⟩) (by show w.heap.size ≤ w.heap.size + 1; omega) _).setCell (p := ⟨w.heap.size + 1, 1, none⟩) (by show w.heap.size ≤ w.heap.size + 1; omega) _)
  · rw [g1] at hG
    rw [g3]
    obtain ⟨hlc, hcap⟩ := h.len
    unfold maxLen at hcap
    have hil : i < L.length := (List.getElem?_eq_some_iff.1 g2).1
    have e2 : (0 : Int) ≤ (i : Int) := by omega
    have e3 : (i : Int) < (L.length : Int) := by omega
    obtain ⟨g, o, hA, hg, d1, d2⟩ := (h.below hb1).at g2
    obtain ⟨p, n⟩ := x
    subst hA
    dsimp only at d1 d2
    have HG := Lib.hid (And.intro hG (And.intro d1 d2))
    clear hW1 hW2 hb0 hb1 hbx hs1 hs2 hM g1 g2 g3 hG hZ h hS hn d1 d2
    go_enter Try.func90, Try.ntmps90
    go_wp2_with (fail)
    rw [← HW.out.1, ← HW.out.2]
    go_wp2_with (first | (go_at_call 87; refine HZ.out.mono ?_; rintro e w' ⟨rfl, rfl⟩) | (go_at_call 102; refine HG.out.1.mono ?_; rintro e w' ⟨rfl, hbG⟩; have hn3 := (hbG.block (w.heap.size + 1) (by have := HB.out.2.1; omega)).trans HB.out.2.2.2; obtain ⟨c3, c4, f3, f4⟩ := two_cells hn3; have c5 := cell_keep2 hbG b2; have d1 := cell_keep2 hbG HG.out.2.1; have d2 := cell_keep2 hbG HG.out.2.2; have H5 := Lib.hid (And.intro hbG hn3); clear hbG hn3))
    obtain ⟨q1, q2, _, _⟩ := two_cells (setCell_at _ _ 1 _ _ (.int .i64 (n : Int)) (setCell_at _ _ 0 _ _ (.int .i64 (p : Int)) H5.out.2))
    refine bodyPost_ret (v := .tuple #[.agg #[.int .i64 (p : Int), .int .i64 (n : Int)], .int .i64 0]) (by simp [results, Try.results90, go_sem, q1, q2]) rfl ⟨rfl, ?_⟩
    exact (((HB.out.1.trans (H5.out.1.mono (by have := HB.out.2.1; omega))).setCell (p := ⟨w.heap.size + 1, 0, none⟩) (by show w.heap.size ≤ w.heap.size + 1; omega) _).setCell (p := ⟨w.heap.size + 1, 1, none⟩) (by show w.heap.size ≤ w.heap.size + 1; omega) _)
end Bu
end Go.Proofs.Ytlknhbcambdccaa
namespace Go.Proofs.Ytlknhbcambdccaa
open Go.RowKit
namespace Bu

def largeI : Option Nat → Int
  | some k => (k : Int)
  | none => -1
def LargeV : Option Nat → Value
  | some k => .tuple #[.int .i64 (k : Int), .int .i64 0]
  | none => .tuple #[.int .i64 0, .int .i64 4]

theorem largeI_next (a : Option Nat) (n : Nat) : largeI (some (max (a.getD 0) n)) = max (largeI a) (n : Int) := by
  cases a with
  | none => show (((max 0 n : Nat)) : Int) = max (-1) (n : Int); omega
  | some k => show (((max k n : Nat)) : Int) = max (k : Int) (n : Int); omega

theorem small_blocks {N : Nat} {L : List Blk} (h : St N L) : Small (blocksB N L) := fun x hx => by
  have := ((mem_blocks h x).1 hx).lt
  have hn := h.n10
  have : 2 ^ N ≤ 2 ^ 10 := Nat.pow_le_pow_right (by omega) hn
  omega
theorem asc_len {L : List Blk} {N : Nat} (ha : L.Pairwise fun a b => a.1 + 2 ^ a.2 ≤ b.1) (hb : ∀ x ∈ L, x.1 + 2 ^ x.2 ≤ N) : L.length ≤ N := by
  have key : ∀ (L : List Blk) (s : Nat), L.Pairwise (fun a b => a.1 + 2 ^ a.2 ≤ b.1) → (∀ x ∈ L, s ≤ x.1 ∧ x.1 + 2 ^ x.2 ≤ N) → s ≤ N → L.length + s ≤ N := by
    intro L
    induction L with
    | nil => intro s _ _ h; simpa using h
    | cons x L ih =>
      intro s hp hx hs
      rw [List.pairwise_cons] at hp
      have h1 := hx x (List.mem_cons_self ..)
      have h2 := pow_pos2 x.2
      have := ih (x.1 + 2 ^ x.2) hp.2 (fun y hy => ⟨hp.1 y hy, (hx y (List.mem_cons_of_mem _ hy)).2⟩) h1.2
      rw [List.length_cons]
      omega
  have := key L 0 ha (fun x hx => ⟨Nat.zero_le _, hb x hx⟩) (Nat.zero_le _)
  omega
theorem blocks_len {N : Nat} {L : List Blk} (h : St N L) : (blocksB N L).length ≤ 1024 := asc_len (blocks_asc h) fun x hx => (small_blocks h x hx).2
theorem st_len {N : Nat} {L : List Blk} (h : St N L) : L.length ≤ 1024 := asc_len h.asc fun x hx => (st_le h x hx).2

theorem room_len {n : Nat} : ∀ {B : List Blk}, Small B → roomB n B ≤ B.length * 1024 := by
  intro B
  induction B with
  | nil => intro _; exact Nat.zero_le _
  | cons x B ih =>
    intro h
    have h1 := ih fun y hy => h y (List.mem_cons_of_mem _ hy)
    have h2 := h x (List.mem_cons_self ..)
    have h3 : 2 ^ (x.2 - n) ≤ 2 ^ 10 := Nat.pow_le_pow_right (by decide) (by omega)
    have : roomB n (x :: B) = (if n ≤ x.2 then 2 ^ (x.2 - n) else 0) + roomB n B := by unfold roomB; simp
    rw [this, List.length_cons]
    split <;> omega

end Bu
end Go.Proofs.Ytlknhbcambdccaa
