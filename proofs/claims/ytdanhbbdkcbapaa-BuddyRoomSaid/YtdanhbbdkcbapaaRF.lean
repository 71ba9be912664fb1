/- put of the specification. -/
import Derived.Test.YtdanhbbdkcbapaaRE
import Derived.Deep.AppendLies
import Derived.Deep.RegionLaw
import Derived.Outline
namespace Go.Proofs.Ytdanhbbdkcbapaa
open Go.RowKit
namespace Bu

def restB (dn : Bool) (l : List Blk) (x : Blk) : List Blk := if dn then l else putB l x

/-- A state in a block of the call's own. -/
structure OutAt (w : World) (S : Nat) (N : Int) (A : Option Addr) (c : Nat) (L : List Blk) : Prop where
  blk : w.heap[S]? = some (.cells #[.int .i64 N, .slice A L.length c] 24 (0, 0))
  row : Own w (S + 1) A c L

theorem OutAt.keep {w w' : World} {S : Nat} {N : Int} {A : Option Addr} {c : Nat} {L : List Blk} (h : OutAt w S N A c L) (hk : ∀ k, S ≤ k → k < w.heap.size → w'.heap[k]? = w.heap[k]?) : OutAt w' S N A c L :=
  ⟨(hk S (Nat.le_refl _) (lt_of_heap h.blk)).trans h.blk, row_keep h.row fun g hg hl => hk g (by omega) hl⟩
theorem OutAt.row1 {w : World} {S : Nat} {N : Int} {A : Option Addr} {c : Nat} {L : List Blk} (h : OutAt w S N A c L) (ob : Obj) : (w.alloc ob).drew.ownsRow (S + 1) 39 2 (.slice A L.length c) L.length (cellsL L) := h.row.alloc ob
theorem OutAt.cells {w : World} {S : Nat} {N : Int} {A : Option Addr} {c : Nat} {L : List Blk} (h : OutAt w S N A c L) :
    w.cell? ⟨S, 0, none⟩ = some (.int .i64 N) ∧ w.cell? ⟨S, 1, none⟩ = some (.slice A L.length c) ∧ w.frozen? ⟨S, 0, none⟩ = false ∧ w.frozen? ⟨S, 1, none⟩ = false ∧ S < w.heap.size :=
  ⟨(two_cells h.blk).1, (two_cells h.blk).2.1, (two_cells h.blk).2.2.1, (two_cells h.blk).2.2.2, lt_of_heap h.blk⟩
theorem OutAt.ne {w : World} {S : Nat} {N : Int} {A : Option Addr} {c : Nat} {L : List Blk} (h : OutAt w S N A c L) : some S ≠ (Value.slice A L.length c).ownBlock := fun e => by
  have := (h.row.lt S e.symm).1; omega

theorem two_set {w : World} {R : Nat} {a b : Value} {T : TypeId} (h : w.heap[R]? = some (.cells #[a, b] T (0, 0))) (x y : Value) : ((w.setCell ⟨R, 0, none⟩ x).setCell ⟨R, 1, none⟩ y).heap[R]? = some (.cells #[x, y] T (0, 0)) :=
  setCell_at _ _ _ _ _ _ (setCell_at _ _ _ _ _ _ h)
theorem row_low {w : World} {B C e s n : Nat} {v : Value} {xs : List Value} (h : w.ownsRow B e s v n xs) (hBC : C ≤ B) : w.ownsRow C e s v n xs := by
  refine ⟨h.1, ?_⟩
  rcases h.2 with hn | ⟨g, cap, cur, rfl, hB, r⟩
  · exact .inl hn
  · exact .inr ⟨g, cap, cur, rfl, by omega, r⟩

theorem out_push {w w1 : World} {S : Nat} {N : Int} {A : Option Addr} {c : Nat} {pre : List Blk} {x : Blk} {ob : Obj} {v' : Value} (hO : OutAt w S N A c pre)
    (hrow : w1.ownsRow (S + 1) 39 2 v' (pre.length + 1) (cellsL pre ++ [.int .i64 (x.1 : Int), .int .i64 (x.2 : Int)])) (hgrow : (w.alloc ob).grownBy w1 (Value.slice A pre.length c).ownBlock) :
    ∃ A2 c2, v' = .slice A2 (pre.length + 1) c2 ∧ OutAt (w1.setCell ⟨S, 1, none⟩ v') S N A2 c2 (pre ++ [x]) ∧ ∀ B a, B ≤ S → Below B a w → Below B a (w1.setCell ⟨S, 1, none⟩ v') := by
  obtain ⟨A2, c2, rfl⟩ := own_value hrow
  have hSl := lt_of_heap hO.blk
  have h1 : w1.heap[S]? = some (.cells #[.int .i64 N, .slice A pre.length c] 24 (0, 0)) := by
    rw [hgrow.block S (by simp; omega) hO.ne, alloc_old _ _ _ hSl]; exact hO.blk
  refine ⟨A2, c2, rfl, ⟨?_, ?_⟩, fun B a hB hb => ?_⟩
  · have := setCell_at w1 S 1 _ _ (.slice A2 (pre.length + 1) c2) h1
    rw [List.length_append, List.length_singleton]
    exact this
  · unfold Own
    rw [List.length_append, List.length_singleton, cellsL_add]
    exact row_keep hrow fun g hg _ => setCell_far _ _ _ _ (by show g ≠ S; omega)
  · exact ((hb.alloc (by have := hb.size; omega) ob).grown hgrow (by simp; omega) fun k hk => by have := (hO.row.lt k hk).1; omega).setCell (p := ⟨S, 1, none⟩) hB _

set_option maxRecDepth 100000 in
set_option maxHeartbeats 8000000 in
theorem putR_ok (w : World) (N : Int) (A : Option Addr) (c : Nat) (L : List Blk) (x : Blk) (h : BlkAt w A c L) (hL : L.length ≤ 2048) :
    Calls Try.prog 50 #[sv N A L.length c, .agg #[.int .i64 (x.1 : Int), .int .i64 (x.2 : Int)]] w fun e w' => (∃ A' c', e = .returned (sv N A' (putB L x).length c') ∧ Own w' w.heap.size A' c' (putB L x)) ∧ Below w.heap.size w w' := by
  obtain ⟨q, m⟩ := x
  obtain ⟨hlc, hcap⟩ := h.len
  unfold maxLen at hcap
  obtain ⟨R, hR⟩ : ∃ R, R = putB L (q, m) := ⟨_, rfl⟩
  have hst : R = [] ++ putB (L.drop 0) (q, m) := by rw [hR, List.drop_zero, List.nil_append]
  rw [← hR]
  have HR := Lib.hid hst
  have hinfo := info_open block_info
  obtain ⟨i0, z0, hi0, hz0, hz1, hz2, hz3⟩ := hinfo
  have HL := Lib.hid h
  clear h hR hst
  go_enter Try.func50, Try.ntmps50
  go_wp2_with (fail)
  generalize hS : w.heap.size + 1 + 1 + 1 = S
  generalize hW0 : (((w.alloc (.cells #[.int .i64 N, .slice A L.length c] 24)).alloc (.cells #[.int .i64 (q : Int), .int .i64 (m : Int)] 39)).alloc (.cells #[.int .i64 0, .slice none 0 0] 24)).alloc (.cells #[.int .i64 N, .slice none 0 0] 24) = W0
  have hs0 : W0.heap.size = w.heap.size + 4 := by rw [← hW0]; simp
  have g0 : W0.heap[w.heap.size]? = some (.cells #[.int .i64 N, .slice A L.length c] 24 (0, 0)) := by
    rw [← hW0, alloc_old _ _ _ (by simp <;> omega), alloc_old _ _ _ (by simp <;> omega), alloc_old _ _ _ (by simp <;> omega), heapAlloc, if_pos rfl]
  have g1 : W0.heap[w.heap.size + 1]? = some (.cells #[.int .i64 (q : Int), .int .i64 (m : Int)] 39 (0, 0)) := by
    rw [← hW0, alloc_old _ _ _ (by simp <;> omega), alloc_old _ _ _ (by simp <;> omega), heapAlloc, if_pos (by simp <;> omega)]
  have g2 : W0.heap[w.heap.size + 1 + 1]? = some (.cells #[.int .i64 0, .slice none 0 0] 24 (0, 0)) := by
    rw [← hW0, alloc_old _ _ _ (by simp <;> omega), heapAlloc, if_pos (by simp <;> omega)]
  have g3 : OutAt W0 S N none 0 [] := ⟨by rw [← hW0, ← hS, heapAlloc, if_pos (by simp <;> omega)]; rfl, World.ownsRow_nil _ _ _ _⟩
  have hbw0 : Below w.heap.size w W0 := by
    rw [← hW0]; exact (((below_box w _).alloc (by simp <;> omega) _).alloc (by simp <;> omega) _).alloc (by simp <;> omega) _
  have HG := Lib.hid (And.intro g2 (And.intro hbw0 (And.intro hS hs0)))
  obtain ⟨s0, s1, _, _⟩ := two_cells g0
  obtain ⟨x0, x1, _, _⟩ := two_cells g1
  have HX := Lib.hid (And.intro (HL.out.below hbw0) (And.intro hS hs0))
  have hSw : w.heap.size + 3 = S := by omega
  clear hW0 g0 g1 g2 hbw0 hS hs0
  go_loopw [6, 7] (fun d i wr => ∃ (k : Nat) (dn : Bool) (pre : List Blk) (A' : Option Addr) (c' : Nat), k ≤ L.length ∧ i = .int .i64 (k : Int) ∧ d = .bool dn ∧ OutAt wr S N A' c' pre ∧ Below S W0 wr ∧ R = pre ++ restB dn (L.drop k) (q, m) ∧ pre.length ≤ 2 * k) (fun _ i _ => L.length - (intOf i).toNat)
  case atStart => exact ⟨0, false, [], none, 0, Nat.zero_le _, rfl, rfl, g3, Below.refl _ _, HR.out, Nat.zero_le _⟩
  case round =>
    obtain ⟨k, dn, pre, A', c', hk, rfl, rfl, hout, hbw, hRR, hpl⟩ := hrel
    have hs1 := s1
    replace s0 := (hbw.cell (p := ⟨w.heap.size, 0, none⟩) (by show w.heap.size < S; omega)).trans s0
    replace s1 := (hbw.cell (p := ⟨w.heap.size, 1, none⟩) (by show w.heap.size < S; omega)).trans s1
    replace x0 := (hbw.cell (p := ⟨w.heap.size + 1, 0, none⟩) (by show w.heap.size + 1 < S; omega)).trans x0
    replace x1 := (hbw.cell (p := ⟨w.heap.size + 1, 1, none⟩) (by show w.heap.size + 1 < S; omega)).trans x1
    obtain ⟨_, o1, _, of1, hSW⟩ := hout.cells
    have hne := hout.ne
    by_cases hlt : k < L.length
    · obtain ⟨y, hy⟩ : ∃ y, L[k]? = some y := ⟨_, List.getElem?_eq_getElem hlt⟩
      obtain ⟨g, o, hA, hgw, d1, d2⟩ := HL.out.at hy
      have hd : L.drop k = y :: L.drop (k + 1) := by
        rw [List.drop_eq_getElem_cons hlt]
        congr 1
        rw [List.getElem?_eq_getElem hlt] at hy
        injection hy
      obtain ⟨p, n⟩ := y
      subst hA
      have hgS : g < S := by omega
      have hgW : g < wr.heap.size := by omega
      have hsW : w.heap.size < wr.heap.size := by omega
      have hblk : wr.heap[g]? = w.heap[g]? := (hbw.block g hgS).trans (HG.out.2.1.block g hgw)
      replace d1 := (World.cell?_of_block (a := ⟨g, _, none⟩) hblk).trans d1
      replace d2 := (World.cell?_of_block (a := ⟨g, _, none⟩) hblk).trans d2
      have hkk : IntKind.i64.wrap ((k : Int) + 1) = ((k + 1 : Nat) : Int) := by rw [IntWalk.i64_in _ (by omega)]; rfl
      have e1 : (0 : Int) ≤ (k : Int) := by omega
      have e2 : (k : Int) < (L.length : Int) := by omega
      dsimp only at d1 d2
      cases dn with
      | true =>
        have hres : restB true (L.drop k) (q, m) = (p, n) :: restB true (L.drop (k + 1)) (q, m) := by rw [hd]; rfl
        rw [hres] at hRR
        have HOUT0 := Lib.hid (And.intro hout (And.intro hbw (And.intro hRR (And.intro hpl hne))))
        clear hout hbw hRR hpl hres hd hy hne hblk
        go_wp2_with (fail)
        go_quiet (fail)
        go_wp2_with (fail)
        generalize hq : wr.drewN _ = W
        have HOUT : Hid (OutAt W S N A' c' pre) := Lib.hid (by rw [← hq]; exact HOUT0.out.1.keep fun _ _ _ => rfl)
        have HB : Hid (Below S W0 W ∧ R = pre ++ (p, n) :: restB true (L.drop (k + 1)) (q, m) ∧ pre.length ≤ 2 * k) := Lib.hid ⟨by rw [← hq]; exact below_drewN HOUT0.out.2.1 _, HOUT0.out.2.2.1, HOUT0.out.2.2.2.1⟩
        have HNE := Lib.hid HOUT0.out.2.2.2.2
        replace o1 : W.cell? ⟨S, 1, none⟩ = some (.slice A' pre.length c') := by rw [← hq]; exact o1
        replace of1 : W.frozen? ⟨S, 1, none⟩ = false := by rw [← hq]; exact of1
        replace s1 : W.cell? ⟨w.heap.size, 1, none⟩ = some (.slice (some ⟨g, o, none⟩) L.length c) := by rw [← hq]; exact s1
        replace d1 : W.cell? ⟨g, o + k * 2, none⟩ = some (.int .i64 (p : Int)) := by rw [← hq]; exact d1
        replace d2 : W.cell? ⟨g, o + k * 2 + 1, none⟩ = some (.int .i64 (n : Int)) := by rw [← hq]; exact d2
        replace hSW : S < W.heap.size := by rw [← hq]; exact hSW
        replace hgW : g < W.heap.size := by rw [← hq]; exact hgW
        replace hsW : w.heap.size < W.heap.size := by rw [← hq]; exact hsW
        have hpl := HB.out.2.2
        clear hq s0 x0 x1 HOUT0 hs1
        have s5 : (W.alloc (.cells #[.int .i64 (p : Int), .int .i64 (n : Int)] 39)).drew.cell? ⟨S, 1, none⟩ = some (.slice A' pre.length c') ∧ (W.alloc (.cells #[.int .i64 (p : Int), .int .i64 (n : Int)] 39)).drew.frozen? ⟨S, 1, none⟩ = false ∧ (W.alloc (.cells #[.int .i64 (p : Int), .int .i64 (n : Int)] 39)).drew.cell? ⟨w.heap.size, 1, none⟩ = some (.slice (some ⟨g, o, none⟩) L.length c) ∧ (W.alloc (.cells #[.int .i64 (p : Int), .int .i64 (n : Int)] 39)).drew.cell? ⟨g, o + k * 2, none⟩ = some (.int .i64 (p : Int)) ∧ (W.alloc (.cells #[.int .i64 (p : Int), .int .i64 (n : Int)] 39)).drew.cell? ⟨g, o + k * 2 + 1, none⟩ = some (.int .i64 (n : Int)) :=
          ⟨(World.cell?_alloc_lt W _ _ hSW).trans o1, (World.frozen?_alloc_old W _ _ (Nat.ne_of_lt hSW)).trans of1, (World.cell?_alloc_lt W _ _ hsW).trans s1, (World.cell?_alloc_lt W _ _ hgW).trans d1, (World.cell?_alloc_lt W _ _ hgW).trans d2⟩
        have hsd : (W.alloc (.cells #[.int .i64 (p : Int), .int .i64 (n : Int)] 39)).drew.heap.size = W.heap.size + 1 := by show (W.alloc _).heap.size = _; simp
        obtain ⟨r0, r1, r2, r3, r4⟩ := s5
        have HNW := Lib.hid (show ∀ j u, [Value.int .i64 (p : Int), .int .i64 (n : Int)][j]? = some u → (W.alloc (.cells #[.int .i64 (p : Int), .int .i64 (n : Int)] 39)).drew.cell? ((⟨W.heap.size, 0, none⟩ : Addr).add j) = some u from fun j u hu => two_new W _ _ _ j u hu)
        have HSD := Lib.hid hsd
        clear hsd
        go_region_law ((refine step_append_lies _ (by rfl) (.tmp 38) (.tmp 44) _ (by rfl) (S + 1) 39 i0 z0 2 16 Try.underlying22 hi0 hz0 hz1 hz2 hz3 (by omega) (.slice A' pre.length c') pre.length (cellsL pre) (by rfl) (HOUT.out.row1 _) ⟨W.heap.size, 0, none⟩ 1 1 [.int .i64 (p : Int), .int .i64 (n : Int)] (by rfl) (by rfl) HNW.out (by simp [Value.oneCell']) (by omega) (by unfold maxLen; omega) (by omega) (by rw [HSD.out]; omega) (W.heap.size + 1) HSD.out ?_; intro g6 cap6 w6 hown6 hgrow6 hat6 hlt6; have u0 : w6.cell? ⟨S, 1, none⟩ = some (.slice A' pre.length c') := (hgrow6.cell_far ⟨_, _, none⟩ (by rw [HSD.out]; exact Nat.lt_succ_of_lt hSW) HNE.out).trans r0; have u1 : w6.frozen? ⟨S, 1, none⟩ = false := (hgrow6.frozen_far ⟨_, _, none⟩ (by rw [HSD.out]; exact Nat.lt_succ_of_lt hSW) HNE.out).trans r1; have H6 := Lib.hid (And.intro hown6 hgrow6); clear hown6 hgrow6 hat6 hlt6))
        all_goals
          obtain ⟨A2, c2, hv2, ho2, hb2⟩ := out_push (w := W) (x := (p, n)) (ob := .cells #[.int .i64 (p : Int), .int .i64 (n : Int)] 39) HOUT.out H6.out.1 ⟨H6.out.2.os, H6.out.2.tape, H6.out.2.output, H6.out.2.size, H6.out.2.block⟩
          have H7 := Lib.hid (And.intro ho2 hb2)
          clear ho2 hb2
          injection hv2 with hv3 hv4 hv5
          subst hv3; subst hv5
          go_wp2_with (fail)
          go_roundw
          case rel =>
            refine ⟨k + 1, true, pre ++ [(p, n)], _, _, by omega, by go_num, rfl, H7.out.1.keep fun _ _ _ => rfl, ?_, by rw [HB.out.2.1]; simp, by rw [List.length_append, List.length_singleton]; have := HB.out.2.2; omega⟩
            have := H7.out.2 S W0 (Nat.le_refl _) HB.out.1
            first | exact this | exact this.drew
          case measure => simp [intOf]; omega

      | false =>
        by_cases hlt2 : q < p
        · have hres : restB false (L.drop k) (q, m) = (q, m) :: (p, n) :: restB true (L.drop (k + 1)) (q, m) := by rw [hd]; show putB _ _ = _; rw [putB, if_pos hlt2]; rfl
          rw [hres] at hRR
          have t1 : (q : Int) < (p : Int) := by omega
          have HOUT0 := Lib.hid (And.intro hout (And.intro hbw (And.intro hRR (And.intro hpl (And.intro hne (And.intro d1 d2))))))
          clear hout hbw hRR hpl hres hd hy hne hblk
          go_wp2_with (fail)
          go_quiet (fail)
          generalize hq : wr.drewN _ = Wq
          have HOUTq : Hid (OutAt Wq S N A' c' pre ∧ Below S W0 Wq) := Lib.hid ⟨by rw [← hq]; exact HOUT0.out.1.keep fun _ _ _ => rfl, by rw [← hq]; exact below_drewN HOUT0.out.2.1 _⟩
          have hsq : wr.heap.size = Wq.heap.size := by rw [← hq]; rfl
          have hq2 : ∀ b : Nat, Wq.heap[b]? = wr.heap[b]? := fun b => by rw [← hq]; rfl
          have HQ2 := Lib.hid hq2
          replace o1 : Wq.cell? ⟨S, 1, none⟩ = some (.slice A' pre.length c') := by rw [← hq]; exact o1
          replace of1 : Wq.frozen? ⟨S, 1, none⟩ = false := by rw [← hq]; exact of1
          replace x0 : Wq.cell? ⟨w.heap.size + 1, 0, none⟩ = some (.int .i64 (q : Int)) := by rw [← hq]; exact x0
          replace x1 : Wq.cell? ⟨w.heap.size + 1, 1, none⟩ = some (.int .i64 (m : Int)) := by rw [← hq]; exact x1
          have hplq := HOUT0.out.2.2.2.1
          have hSWq : S < Wq.heap.size := by omega
          clear hq hq2 d1 d2 s0
          go_wp2_with (at_builtin; refine wpList_append_own _ rfl (.tmp 32) (.tmp 34) 22 rfl (S + 1) 39 i0 z0 2 16 Try.underlying22 hi0 hz0 hz1 hz2 hz3 (by omega) (.slice A' pre.length c') pre.length (cellsL pre) rfl (HOUTq.out.1.row.alloc _) ⟨Wq.heap.size, 0, none⟩ 1 1 [.int .i64 (q : Int), .int .i64 (m : Int)] rfl rfl (two_new Wq _ _ _) (by simp [Value.oneCell']) (by unfold maxLen; omega) (by omega) (by simp <;> omega) ?_; intro v' w1 hown1 hgrow1 _; have u0 : w1.cell? ⟨S, 1, none⟩ = some (.slice A' pre.length c') := (hgrow1.cell_far ⟨_, _, none⟩ (by simp <;> omega) HOUT0.out.2.2.2.2.1).trans ((World.cell?_alloc_lt _ _ _ hSWq).trans o1); have u1 : w1.frozen? ⟨S, 1, none⟩ = false := (hgrow1.frozen_far ⟨_, _, none⟩ (by simp <;> omega) HOUT0.out.2.2.2.2.1).trans ((World.frozen?_alloc_old _ _ _ (Nat.ne_of_lt hSWq)).trans of1); obtain ⟨A1, c1, hv1⟩ := own_value hown1; subst hv1; have H5 := Lib.hid (And.intro hown1 hgrow1); clear hown1 hgrow1)
          obtain ⟨A3, c3, hv1, ho1, hb1⟩ := out_push (w := Wq) (x := (q, m)) HOUTq.out.1 H5.out.1 H5.out.2
          injection hv1 with hv2 hv3 hv4
          subst hv2; subst hv4
          have hb2 := hb1 S W0 (Nat.le_refl _) HOUTq.out.2
          generalize hW : w1.setCell ⟨S, 1, none⟩ (.slice A1 (pre.length + 1) c1) = W at *
          obtain ⟨pre2, hp2⟩ : ∃ pre2, pre2 = pre ++ [(q, m)] := ⟨_, rfl⟩
          rw [← hp2] at ho1
          have hpl : pre2.length ≤ 2 * k + 1 := by rw [hp2, List.length_append, List.length_singleton]; omega
          have HNE := Lib.hid ho1.ne
          have HB : Hid (Below S W0 W ∧ R = pre2 ++ (p, n) :: restB true (L.drop (k + 1)) (q, m) ∧ pre2.length ≤ 2 * k + 1) := Lib.hid ⟨hb2, by rw [HOUT0.out.2.2.1, hp2]; simp, hpl⟩
          have hszW : w.heap.size + 4 ≤ W.heap.size := by have := hb2.size; have := HG.out.2.2.2; omega
          replace hsW : w.heap.size < W.heap.size := by omega
          replace hgW : g < W.heap.size := by omega
          have hbk : ∀ b : Nat, b < S → W.heap[b]? = wr.heap[b]? := fun b hb => (hb2.block b hb).trans (HOUT0.out.2.1.block b hb).symm
          replace s1 : W.cell? ⟨w.heap.size, 1, none⟩ = some (.slice (some ⟨g, o, none⟩) L.length c) := (World.cell?_of_block (a := ⟨_, _, none⟩) (hbk _ (by show w.heap.size < S; omega))).trans s1
          have d1 : W.cell? ⟨g, o + k * 2, none⟩ = some (.int .i64 (p : Int)) := (World.cell?_of_block (a := ⟨g, _, none⟩) (hbk g hgS)).trans HOUT0.out.2.2.2.2.2.1
          have d2 : W.cell? ⟨g, o + k * 2 + 1, none⟩ = some (.int .i64 (n : Int)) := (World.cell?_of_block (a := ⟨g, _, none⟩) (hbk g hgS)).trans HOUT0.out.2.2.2.2.2.2
          replace o1 := ho1.cells.2.1
          replace of1 := ho1.cells.2.2.2.1
          replace hSW := ho1.cells.2.2.2.2
          have HOUT := Lib.hid ho1
          clear ho1 hb1 hb2 hbk hp2 hW hv3 u0 u1 H5 x0 x1 HOUT0 hs1 hsq HQ2 hSWq
          have s5 : (W.alloc (.cells #[.int .i64 (p : Int), .int .i64 (n : Int)] 39)).drew.cell? ⟨S, 1, none⟩ = some (.slice A1 pre2.length c1) ∧ (W.alloc (.cells #[.int .i64 (p : Int), .int .i64 (n : Int)] 39)).drew.frozen? ⟨S, 1, none⟩ = false ∧ (W.alloc (.cells #[.int .i64 (p : Int), .int .i64 (n : Int)] 39)).drew.cell? ⟨w.heap.size, 1, none⟩ = some (.slice (some ⟨g, o, none⟩) L.length c) ∧ (W.alloc (.cells #[.int .i64 (p : Int), .int .i64 (n : Int)] 39)).drew.cell? ⟨g, o + k * 2, none⟩ = some (.int .i64 (p : Int)) ∧ (W.alloc (.cells #[.int .i64 (p : Int), .int .i64 (n : Int)] 39)).drew.cell? ⟨g, o + k * 2 + 1, none⟩ = some (.int .i64 (n : Int)) :=
            ⟨(World.cell?_alloc_lt W _ _ hSW).trans o1, (World.frozen?_alloc_old W _ _ (Nat.ne_of_lt hSW)).trans of1, (World.cell?_alloc_lt W _ _ hsW).trans s1, (World.cell?_alloc_lt W _ _ hgW).trans d1, (World.cell?_alloc_lt W _ _ hgW).trans d2⟩
          have hsd : (W.alloc (.cells #[.int .i64 (p : Int), .int .i64 (n : Int)] 39)).drew.heap.size = W.heap.size + 1 := by show (W.alloc _).heap.size = _; simp
          obtain ⟨r0, r1, r2, r3, r4⟩ := s5
          have HNW := Lib.hid (show ∀ j u, [Value.int .i64 (p : Int), .int .i64 (n : Int)][j]? = some u → (W.alloc (.cells #[.int .i64 (p : Int), .int .i64 (n : Int)] 39)).drew.cell? ((⟨W.heap.size, 0, none⟩ : Addr).add j) = some u from fun j u hu => two_new W _ _ _ j u hu)
          have HSD := Lib.hid hsd
          clear hsd
          go_region_law ((refine step_append_lies _ (by rfl) (.tmp 38) (.tmp 44) _ (by rfl) (S + 1) 39 i0 z0 2 16 Try.underlying22 hi0 hz0 hz1 hz2 hz3 (by omega) (.slice A1 pre2.length c1) pre2.length (cellsL pre2) (by rfl) (HOUT.out.row1 _) ⟨W.heap.size, 0, none⟩ 1 1 [.int .i64 (p : Int), .int .i64 (n : Int)] (by rfl) (by rfl) HNW.out (by simp [Value.oneCell']) (by omega) (by unfold maxLen; omega) (by omega) (by rw [HSD.out]; omega) (W.heap.size + 1) HSD.out ?_; intro g6 cap6 w6 hown6 hgrow6 hat6 hlt6; have u0 : w6.cell? ⟨S, 1, none⟩ = some (.slice A1 pre2.length c1) := (hgrow6.cell_far ⟨_, _, none⟩ (by rw [HSD.out]; exact Nat.lt_succ_of_lt hSW) HNE.out).trans r0; have u1 : w6.frozen? ⟨S, 1, none⟩ = false := (hgrow6.frozen_far ⟨_, _, none⟩ (by rw [HSD.out]; exact Nat.lt_succ_of_lt hSW) HNE.out).trans r1; have H6 := Lib.hid (And.intro hown6 hgrow6); clear hown6 hgrow6 hat6 hlt6))
          all_goals
            obtain ⟨A2, c2, hv2, ho2, hb2⟩ := out_push (w := W) (x := (p, n)) (ob := .cells #[.int .i64 (p : Int), .int .i64 (n : Int)] 39) HOUT.out H6.out.1 ⟨H6.out.2.os, H6.out.2.tape, H6.out.2.output, H6.out.2.size, H6.out.2.block⟩
            have H7 := Lib.hid (And.intro ho2 hb2)
            clear ho2 hb2
            injection hv2 with hv3 hv4 hv5
            subst hv3; subst hv5
            go_wp2_with (fail)
            go_roundw
            case rel =>
              refine ⟨k + 1, true, pre2 ++ [(p, n)], _, _, by omega, by go_num, rfl, H7.out.1.keep fun _ _ _ => rfl, ?_, by rw [HB.out.2.1]; simp, by rw [List.length_append, List.length_singleton]; have := HB.out.2.2; omega⟩
              have := H7.out.2 S W0 (Nat.le_refl _) HB.out.1
              first | exact this | exact this.drew
            case measure => simp [intOf]; omega

        · have hres : restB false (L.drop k) (q, m) = (p, n) :: restB false (L.drop (k + 1)) (q, m) := by rw [hd]; show putB _ _ = _; rw [putB, if_neg hlt2]; rfl
          rw [hres] at hRR
          have t1 : ¬ (q : Int) < (p : Int) := by omega
          have HOUT0 := Lib.hid (And.intro hout (And.intro hbw (And.intro hRR (And.intro hpl hne))))
          clear hout hbw hRR hpl hres hd hy hne hblk
          go_wp2_with (fail)
          go_quiet (fail)
          go_wp2_with (fail)
          generalize hq : wr.drewN _ = W
          have HOUT : Hid (OutAt W S N A' c' pre) := Lib.hid (by rw [← hq]; exact HOUT0.out.1.keep fun _ _ _ => rfl)
          have HB : Hid (Below S W0 W ∧ R = pre ++ (p, n) :: restB false (L.drop (k + 1)) (q, m) ∧ pre.length ≤ 2 * k) := Lib.hid ⟨by rw [← hq]; exact below_drewN HOUT0.out.2.1 _, HOUT0.out.2.2.1, HOUT0.out.2.2.2.1⟩
          have HNE := Lib.hid HOUT0.out.2.2.2.2
          replace o1 : W.cell? ⟨S, 1, none⟩ = some (.slice A' pre.length c') := by rw [← hq]; exact o1
          replace of1 : W.frozen? ⟨S, 1, none⟩ = false := by rw [← hq]; exact of1
          replace s1 : W.cell? ⟨w.heap.size, 1, none⟩ = some (.slice (some ⟨g, o, none⟩) L.length c) := by rw [← hq]; exact s1
          replace d1 : W.cell? ⟨g, o + k * 2, none⟩ = some (.int .i64 (p : Int)) := by rw [← hq]; exact d1
          replace d2 : W.cell? ⟨g, o + k * 2 + 1, none⟩ = some (.int .i64 (n : Int)) := by rw [← hq]; exact d2
          replace hSW : S < W.heap.size := by rw [← hq]; exact hSW
          replace hgW : g < W.heap.size := by rw [← hq]; exact hgW
          replace hsW : w.heap.size < W.heap.size := by rw [← hq]; exact hsW
          have hpl := HB.out.2.2
          clear hq s0 x0 x1 HOUT0 hs1
          have s5 : (W.alloc (.cells #[.int .i64 (p : Int), .int .i64 (n : Int)] 39)).drew.cell? ⟨S, 1, none⟩ = some (.slice A' pre.length c') ∧ (W.alloc (.cells #[.int .i64 (p : Int), .int .i64 (n : Int)] 39)).drew.frozen? ⟨S, 1, none⟩ = false ∧ (W.alloc (.cells #[.int .i64 (p : Int), .int .i64 (n : Int)] 39)).drew.cell? ⟨w.heap.size, 1, none⟩ = some (.slice (some ⟨g, o, none⟩) L.length c) ∧ (W.alloc (.cells #[.int .i64 (p : Int), .int .i64 (n : Int)] 39)).drew.cell? ⟨g, o + k * 2, none⟩ = some (.int .i64 (p : Int)) ∧ (W.alloc (.cells #[.int .i64 (p : Int), .int .i64 (n : Int)] 39)).drew.cell? ⟨g, o + k * 2 + 1, none⟩ = some (.int .i64 (n : Int)) :=
            ⟨(World.cell?_alloc_lt W _ _ hSW).trans o1, (World.frozen?_alloc_old W _ _ (Nat.ne_of_lt hSW)).trans of1, (World.cell?_alloc_lt W _ _ hsW).trans s1, (World.cell?_alloc_lt W _ _ hgW).trans d1, (World.cell?_alloc_lt W _ _ hgW).trans d2⟩
          have hsd : (W.alloc (.cells #[.int .i64 (p : Int), .int .i64 (n : Int)] 39)).drew.heap.size = W.heap.size + 1 := by show (W.alloc _).heap.size = _; simp
          obtain ⟨r0, r1, r2, r3, r4⟩ := s5
          have HNW := Lib.hid (show ∀ j u, [Value.int .i64 (p : Int), .int .i64 (n : Int)][j]? = some u → (W.alloc (.cells #[.int .i64 (p : Int), .int .i64 (n : Int)] 39)).drew.cell? ((⟨W.heap.size, 0, none⟩ : Addr).add j) = some u from fun j u hu => two_new W _ _ _ j u hu)
          have HSD := Lib.hid hsd
          clear hsd
          go_region_law ((refine step_append_lies _ (by rfl) (.tmp 38) (.tmp 44) _ (by rfl) (S + 1) 39 i0 z0 2 16 Try.underlying22 hi0 hz0 hz1 hz2 hz3 (by omega) (.slice A' pre.length c') pre.length (cellsL pre) (by rfl) (HOUT.out.row1 _) ⟨W.heap.size, 0, none⟩ 1 1 [.int .i64 (p : Int), .int .i64 (n : Int)] (by rfl) (by rfl) HNW.out (by simp [Value.oneCell']) (by omega) (by unfold maxLen; omega) (by omega) (by rw [HSD.out]; omega) (W.heap.size + 1) HSD.out ?_; intro g6 cap6 w6 hown6 hgrow6 hat6 hlt6; have u0 : w6.cell? ⟨S, 1, none⟩ = some (.slice A' pre.length c') := (hgrow6.cell_far ⟨_, _, none⟩ (by rw [HSD.out]; exact Nat.lt_succ_of_lt hSW) HNE.out).trans r0; have u1 : w6.frozen? ⟨S, 1, none⟩ = false := (hgrow6.frozen_far ⟨_, _, none⟩ (by rw [HSD.out]; exact Nat.lt_succ_of_lt hSW) HNE.out).trans r1; have H6 := Lib.hid (And.intro hown6 hgrow6); clear hown6 hgrow6 hat6 hlt6))
          all_goals
            obtain ⟨A2, c2, hv2, ho2, hb2⟩ := out_push (w := W) (x := (p, n)) (ob := .cells #[.int .i64 (p : Int), .int .i64 (n : Int)] 39) HOUT.out H6.out.1 ⟨H6.out.2.os, H6.out.2.tape, H6.out.2.output, H6.out.2.size, H6.out.2.block⟩
            have H7 := Lib.hid (And.intro ho2 hb2)
            clear ho2 hb2
            injection hv2 with hv3 hv4 hv5
            subst hv3; subst hv5
            go_wp2_with (fail)
            go_roundw
            case rel =>
              refine ⟨k + 1, false, pre ++ [(p, n)], _, _, by omega, by go_num, rfl, H7.out.1.keep fun _ _ _ => rfl, ?_, by rw [HB.out.2.1]; simp, by rw [List.length_append, List.length_singleton]; have := HB.out.2.2; omega⟩
              have := H7.out.2 S W0 (Nat.le_refl _) HB.out.1
              first | exact this | exact this.drew
            case measure => simp [intOf]; omega

    · obtain rfl : k = L.length := by omega
      rw [List.drop_length] at hRR
      cases dn with
      | true =>
        have HB := Lib.hid (And.intro hout (And.intro hbw (And.intro (hRR.trans (by show pre ++ [] = pre; simp)) hne)))
        clear hout hbw hRR hpl hne
        have hres0 := (HB.out.2.1.block (w.heap.size + 1 + 1) (by omega)).trans HG.out.1
        obtain ⟨q2, q3, q0, q1⟩ := two_cells hres0
        have o0 := HB.out.1.cells.1
        have H9 := Lib.hid (two_set hres0 (.int .i64 N) (.slice A' pre.length c'))
        clear hres0
        go_wp2_with (fail)
        obtain ⟨q4, q5, _, _⟩ := two_cells H9.out
        refine bodyPost_ret (v := sv N A' pre.length c') (by simp [results, Try.results50, go_sem, q4, q5]) rfl ⟨⟨A', c', by rw [HB.out.2.2.1], ?_⟩, ?_⟩
        · rw [HB.out.2.2.1]
          exact row_low (row_keep HB.out.1.row fun b hb _ => (setCell_far _ _ _ _ (by show b ≠ w.heap.size + 1 + 1; omega)).trans (setCell_far _ _ _ _ (by show b ≠ w.heap.size + 1 + 1; omega))) (by omega)
        · exact (((HG.out.2.1.trans (HB.out.2.1.mono (by omega))).setCell (p := ⟨w.heap.size + 1 + 1, 0, none⟩) (by show w.heap.size ≤ w.heap.size + 1 + 1; omega) _).setCell (p := ⟨w.heap.size + 1 + 1, 1, none⟩) (by show w.heap.size ≤ w.heap.size + 1 + 1; omega) _)
      | false =>
        have hRR2 : R = pre ++ [(q, m)] := hRR
        have HOUT0 := Lib.hid (And.intro hout (And.intro hbw (And.intro hRR2 hne)))
        clear hout hbw hRR hRR2 hne
        go_wp2_with (at_builtin; refine wpList_append_own _ rfl (.tmp 50) (.tmp 52) 22 rfl (S + 1) 39 i0 z0 2 16 Try.underlying22 hi0 hz0 hz1 hz2 hz3 (by omega) (.slice A' pre.length c') pre.length (cellsL pre) rfl (HOUT0.out.1.row.alloc _) ⟨wr.heap.size, 0, none⟩ 1 1 [.int .i64 (q : Int), .int .i64 (m : Int)] rfl rfl (two_new wr _ _ _) (by simp [Value.oneCell']) (by unfold maxLen; omega) (by omega) (by simp <;> omega) ?_; intro v' w1 hown1 hgrow1 _; have u0 : w1.cell? ⟨S, 1, none⟩ = some (.slice A' pre.length c') := (hgrow1.cell_far ⟨_, _, none⟩ (by simp <;> omega) HOUT0.out.2.2.2).trans ((World.cell?_alloc_lt _ _ _ hSW).trans o1); have u1 : w1.frozen? ⟨S, 1, none⟩ = false := (hgrow1.frozen_far ⟨_, _, none⟩ (by simp <;> omega) HOUT0.out.2.2.2).trans ((World.frozen?_alloc_old _ _ _ (Nat.ne_of_lt hSW)).trans of1); have u2 : w1.cell? ⟨S, 0, none⟩ = some (.int .i64 N) := (hgrow1.cell_far ⟨_, _, none⟩ (by simp <;> omega) HOUT0.out.2.2.2).trans ((World.cell?_alloc_lt _ _ _ hSW).trans HOUT0.out.1.cells.1); have hr1 : w1.heap[w.heap.size + 1 + 1]? = some (.cells #[.int .i64 0, .slice none 0 0] 24 (0, 0)) := (hgrow1.block _ (by simp <;> omega) (fun e => by have := (HOUT0.out.1.row.lt _ e.symm).1; omega)).trans ((alloc_old _ _ _ (by omega)).trans ((HOUT0.out.2.1.block _ (by omega)).trans HG.out.1)); obtain ⟨q2, q3, q0, q1⟩ := two_cells hr1; clear hr1; obtain ⟨A1, c1, hv1, ho1, hb1⟩ := out_push (w := wr) (x := (q, m)) HOUT0.out.1 hown1 hgrow1; subst hv1; have hb2 := hb1 S W0 (Nat.le_refl _) HOUT0.out.2.1; have H5 := Lib.hid (And.intro ho1 hb2); clear hown1 hgrow1 ho1 hb1 hb2)
        generalize hW : w1.setCell ⟨S, 1, none⟩ (.slice A1 (pre.length + 1) c1) = W at *
        clear hW u0 u1 u2 q0 q1 q2 q3
        have hb2 := H5.out.2
        have ho1 := H5.out.1
        have hres0 := (hb2.block (w.heap.size + 1 + 1) (by omega)).trans HG.out.1
        have H9 := Lib.hid (two_set hres0 (.int .i64 N) (.slice A1 (pre ++ [(q, m)]).length c1))
        have HB := Lib.hid (And.intro ho1 (And.intro hb2 HOUT0.out.2.2.1))
        clear ho1 hb2 hres0
        obtain ⟨pre2, hp2⟩ : ∃ pre2, pre2 = pre ++ [(q, m)] := ⟨_, rfl⟩
        have hpl2 : pre.length + 1 = pre2.length := by rw [hp2]; simp
        rw [← hp2] at H9 HB
        rw [hpl2]
        clear hp2
        obtain ⟨q4, q5, _, _⟩ := two_cells H9.out
        refine bodyPost_ret (v := sv N A1 pre2.length c1) (by simp [results, Try.results50, go_sem, q4, q5]) rfl ⟨⟨A1, c1, by rw [HB.out.2.2], ?_⟩, ?_⟩
        · rw [HB.out.2.2]
          exact row_low (row_keep HB.out.1.row fun b hb _ => (setCell_far _ _ _ _ (by show b ≠ w.heap.size + 1 + 1; omega)).trans (setCell_far _ _ _ _ (by show b ≠ w.heap.size + 1 + 1; omega))) (by omega)
        · exact (((HG.out.2.1.trans (HB.out.2.1.mono (by omega))).setCell (p := ⟨w.heap.size + 1 + 1, 0, none⟩) (by show w.heap.size ≤ w.heap.size + 1 + 1; omega) _).setCell (p := ⟨w.heap.size + 1 + 1, 1, none⟩) (by show w.heap.size ≤ w.heap.size + 1 + 1; omega) _)
end Bu
end Go.Proofs.Ytdanhbbdkcbapaa
