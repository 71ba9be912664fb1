/- Drop of the specification. AllocAt and Alloc of the specification. Alloc of the specification. What the program's sets say of lists of blocks. -/
import Derived.Test.YtlknhbcambdccaaK10
import Derived.Deep.RegionWith
import Derived.Outline
import Derived.Test.YtlknhbcambdccaaK8
namespace Go.Proofs.Ytlknhbcambdccaa
open Go.RowKit
namespace Bu

/-- What Drop returns. -/
def DropR (N : Nat) (A : Option Addr) (c : Nat) (L : List Blk) (x : Blk) (B : Nat) (e : Ending) (w' : World) : Prop :=
  (x ∈ L ∧ ∃ A' c', e = .returned (.tuple #[sv N A' (delB L x).length c', .int .i64 0]) ∧ Own w' B A' c' (delB L x)) ∨ (x ∉ L ∧ e = .returned (.tuple #[sv N A L.length c, .int .i64 9]))

set_option maxRecDepth 100000 in
set_option maxHeartbeats 2000000 in
theorem dropR_bad (w : World) (N : Nat) (A : Option Addr) (c n : Nat) (p k : Int) (hN : N ≤ 10) (hbad : inZ N p k = false) :
    Calls Try.prog 85 #[sv N A n c, .int .i64 p, .int .i64 k] w fun e w' => e = .returned (.tuple #[sv N A n c, .int .i64 7]) ∧ Below w.heap.size w w' := by
  have hIn := fun W => inR_ok N p k hN W
  rw [hbad] at hIn
  have HI := Lib.hid hIn
  clear hIn hbad
  go_enter Try.func85, Try.ntmps85
  go_wp2_with (go_at_call 101; refine (HI.out _).mono ?_; rintro e w' ⟨rfl, rfl⟩)
  refine bodyPost_ret (v := .tuple #[sv N A n c, .int .i64 7]) (by simp [results, Try.results85, go_sem]) rfl ⟨rfl, ?_⟩
  exact ((below_box w _).alloc (by simp) _)

set_option maxRecDepth 100000 in
set_option maxHeartbeats 8000000 in
theorem dropR_ok (w : World) (N : Nat) (A : Option Addr) (c : Nat) (L : List Blk) (x : Blk) (hN : N ≤ 10) (h : BlkAt w A c L) (hL : L.length ≤ 2048) (hin : InB N x) :
    Calls Try.prog 85 #[sv N A L.length c, .int .i64 (x.1 : Int), .int .i64 (x.2 : Int)] w fun e w' => DropR N A c L x w.heap.size e w' ∧ Below w.heap.size w w' := by
  obtain ⟨q, m⟩ := x
  obtain ⟨hlc, hcap⟩ := h.len
  unfold maxLen at hcap
  have hIn := fun W => inR_ok N (q : Int) (m : Int) hN W
  simp only [inZ_nat hN, decide_eq_true hin] at hIn
  have HI := Lib.hid hIn
  obtain ⟨R, hR⟩ : ∃ R, R = delB L (q, m) := ⟨_, rfl⟩
  have hst : R = [] ++ delB (L.drop 0) (q, m) := by rw [hR, List.drop_zero, List.nil_append]
  have HR := Lib.hid (And.intro hst hR)
  have hinfo := info_open block_info
  obtain ⟨i0, z0, hi0, hz0, hz1, hz2, hz3⟩ := hinfo
  have HL := Lib.hid h
  have heq := fun W x y z t => run_blk_eq W x y z t
  clear h hR hst hIn hin
  dsimp only
  go_enter Try.func85, Try.ntmps85
  go_wp2_with (go_at_call 101; refine (HI.out _).mono ?_; rintro e w' ⟨rfl, rfl⟩)
  generalize hS : w.heap.size + 1 + 1 = S
  generalize hW0 : ((w.alloc (.cells #[.int .i64 (N : Int), .slice A L.length c] 46)).alloc (.cells #[.int .i64 0, .slice none 0 0] 46)).alloc (.cells #[.int .i64 (N : Int), .slice none 0 0] 46) = W0
  have hs0 : W0.heap.size = w.heap.size + 3 := by rw [← hW0]; simp
  have g0 : W0.heap[w.heap.size]? = some (.cells #[.int .i64 (N : Int), .slice A L.length c] 46 (0, 0)) := by
    rw [← hW0, alloc_old _ _ _ (by simp <;> omega), alloc_old _ _ _ (by simp <;> omega), heapAlloc, if_pos rfl]
  have g2 : W0.heap[w.heap.size + 1]? = some (.cells #[.int .i64 0, .slice none 0 0] 46 (0, 0)) := by
    rw [← hW0, alloc_old _ _ _ (by simp <;> omega), heapAlloc, if_pos (by simp <;> omega)]
  have g3 : OutAt W0 S N none 0 [] := ⟨by rw [← hW0, ← hS, heapAlloc, if_pos (by simp)]; rfl, World.ownsRow_nil _ _ _ _⟩
  have hbw0 : Below w.heap.size w W0 := by
    rw [← hW0]; exact ((below_box w _).alloc (by simp) _).alloc (by simp; omega) _
  have HG := Lib.hid (And.intro g2 (And.intro hbw0 (And.intro hS hs0)))
  obtain ⟨s0, s1, _, _⟩ := two_cells g0
  have hSw : w.heap.size + 2 = S := by omega
  clear hW0 g0 g2 hbw0 hS hs0
  go_loopw [9, 10] (fun d i W => ∃ (k : Nat) (fd : Bool) (pre : List Blk) (A' : Option Addr) (c' : Nat), k ≤ L.length ∧ i = .int .i64 (k : Int) ∧ d = .bool fd ∧ OutAt W S N A' c' pre ∧ Below S W0 W ∧ R = pre ++ delB (L.drop k) (q, m) ∧ decide ((q, m) ∈ L) = (fd || decide ((q, m) ∈ L.drop k)) ∧ pre.length ≤ k) (fun _ i _ => L.length - (intOf i).toNat)
  case atStart => exact ⟨0, false, [], none, 0, Nat.zero_le _, rfl, rfl, g3, Below.refl _ _, HR.out.1, by simp, Nat.zero_le _⟩
  case round =>
    obtain ⟨W, rfl⟩ : ∃ W : World, W = wr := ⟨_, rfl⟩
    obtain ⟨k, fd, pre, A', c', hk, rfl, rfl, hout, hbw, hRR, hfd, hpl⟩ := hrel
    have hs1 := s1
    replace s0 := (hbw.cell (p := ⟨w.heap.size, 0, none⟩) (by show w.heap.size < S; omega)).trans s0
    replace s1 := (hbw.cell (p := ⟨w.heap.size, 1, none⟩) (by show w.heap.size < S; omega)).trans s1
    obtain ⟨_, o1, _, of1, hSW⟩ := hout.cells
    have hne := hout.ne
    by_cases hlt : k < L.length
    · obtain ⟨y, hy⟩ : ∃ y, L[k]? = some y := ⟨_, List.getElem?_eq_getElem hlt⟩
      obtain ⟨g, o, hA, hgw, d1, d2⟩ := HL.out.at hy
      have hd : L.drop k = y :: L.drop (k + 1) := by
        rw [List.drop_eq_getElem_cons hlt]
        congr 1
        rw [List.getElem?_eq_getElem hlt] at hy
        injection hy
      obtain ⟨p, n⟩ := y
      subst hA
      have hgS : g < S := by omega
      have hgW : g < W.heap.size := by omega
      have hsW : w.heap.size < W.heap.size := by omega
      have hblk : W.heap[g]? = w.heap[g]? := (hbw.block g hgS).trans (HG.out.2.1.block g hgw)
      replace d1 := (World.cell?_of_block (a := ⟨g, _, none⟩) hblk).trans d1
      replace d2 := (World.cell?_of_block (a := ⟨g, _, none⟩) hblk).trans d2
      have hkk : IntKind.i64.wrap ((k : Int) + 1) = ((k + 1 : Nat) : Int) := by rw [IntWalk.i64_in _ (by omega)]; rfl
      have e1 : (0 : Int) ≤ (k : Int) := by omega
      have e2 : (k : Int) < (L.length : Int) := by omega
      dsimp only at d1 d2
      by_cases hpq : p = q
      · by_cases hnm : n = m
        · have t1 : ((p : Int) == (q : Int)) = true := by simp [hpq]
          have t2 : ((n : Int) == (m : Int)) = true := by simp [hnm]
          have hres : delB (L.drop k) (q, m) = delB (L.drop (k + 1)) (q, m) := by rw [hd]; unfold delB; rw [List.filter_cons_of_neg (by simp [hpq, hnm])]
          rw [hres] at hRR
          have hfd2 : decide ((q, m) ∈ L) = true := by rw [hfd, hd]; simp [hpq, hnm]
          have HB := Lib.hid (And.intro hout (And.intro hbw (And.intro hRR hfd2)))
          clear hout hbw hRR hres hd hy hne hblk hfd hfd2 hs1 hpq hnm
          go_wp2_with (fail)
          go_roundw
          case rel => exact ⟨k + 1, true, pre, A', c', by omega, by go_num, rfl, HB.out.1, HB.out.2.1, HB.out.2.2.1, by rw [HB.out.2.2.2]; rfl, by omega⟩
          case measure => simp [intOf]; omega
        · have t1 : ((p : Int) == (q : Int)) = true := by simp [hpq]
          have t2 : ((n : Int) == (m : Int)) = false := by rw [beq_eq_false_iff_ne]; omega
          have hne2 : ((p, n) : Blk) ≠ (q, m) := fun e => by injection e with e1 e2; omega
          have hres : delB (L.drop k) (q, m) = (p, n) :: delB (L.drop (k + 1)) (q, m) := by rw [hd]; unfold delB; rw [List.filter_cons_of_pos (by simpa using hne2)]
          rw [hres] at hRR
          have hfd2 : (decide ((q, m) ∈ L)) = (fd || decide ((q, m) ∈ L.drop (k + 1))) := by rw [hfd, hd]; simp [Ne.symm hne2]
          have hpq2 := hnm
          have HB := Lib.hid (And.intro hbw (And.intro hRR (And.intro (Ne.symm hne2) hfd2)))
          have HOUT := Lib.hid hout
          have HNE := Lib.hid hne
          clear hout hbw hRR hres hd hy hne hblk hfd hfd2 hne2 hpq hpq2 hnm hs1
          go_wp2_with (fail)
          have s5 : (W.alloc (.cells #[.int .i64 (p : Int), .int .i64 (n : Int)] 126)).drew.cell? ⟨S, 1, none⟩ = some (.slice A' pre.length c') ∧ (W.alloc (.cells #[.int .i64 (p : Int), .int .i64 (n : Int)] 126)).drew.frozen? ⟨S, 1, none⟩ = false ∧ (W.alloc (.cells #[.int .i64 (p : Int), .int .i64 (n : Int)] 126)).drew.cell? ⟨w.heap.size, 1, none⟩ = some (.slice (some ⟨g, o, none⟩) L.length c) ∧ (W.alloc (.cells #[.int .i64 (p : Int), .int .i64 (n : Int)] 126)).drew.cell? ⟨g, o + k * 2, none⟩ = some (.int .i64 (p : Int)) ∧ (W.alloc (.cells #[.int .i64 (p : Int), .int .i64 (n : Int)] 126)).drew.cell? ⟨g, o + k * 2 + 1, none⟩ = some (.int .i64 (n : Int)) :=
            ⟨(World.cell?_alloc_lt W _ _ hSW).trans o1, (World.frozen?_alloc_old W _ _ (Nat.ne_of_lt hSW)).trans of1, (World.cell?_alloc_lt W _ _ hsW).trans s1, (World.cell?_alloc_lt W _ _ hgW).trans d1, (World.cell?_alloc_lt W _ _ hgW).trans d2⟩
          have hsd : (W.alloc (.cells #[.int .i64 (p : Int), .int .i64 (n : Int)] 126)).drew.heap.size = W.heap.size + 1 := by show (W.alloc _).heap.size = _; simp
          obtain ⟨r0, r1, r2, r3, r4⟩ := s5
          have HNW := Lib.hid (show ∀ j u, [Value.int .i64 (p : Int), .int .i64 (n : Int)][j]? = some u → (W.alloc (.cells #[.int .i64 (p : Int), .int .i64 (n : Int)] 126)).drew.cell? ((⟨W.heap.size, 0, none⟩ : Addr).add j) = some u from fun j u hu => two_new W _ _ _ j u hu)
          have HSD := Lib.hid hsd
          clear hsd
          go_region_law ((refine step_append_lies _ (by rfl) (.tmp 38) (.tmp 44) _ (by rfl) (S + 1) 126 i0 z0 2 16 Try.underlying44 hi0 hz0 hz1 hz2 hz3 (by omega) (.slice A' pre.length c') pre.length (cellsL pre) (by rfl) (HOUT.out.row1 _) ⟨W.heap.size, 0, none⟩ 1 1 [.int .i64 (p : Int), .int .i64 (n : Int)] (by rfl) (by rfl) HNW.out (by simp [Value.oneCell']) (by omega) (by unfold maxLen; omega) (by omega) (by rw [HSD.out]; omega) (W.heap.size + 1) HSD.out ?_; intro g6 cap6 w6 hown6 hgrow6 hat6 hlt6; have u0 : w6.cell? ⟨S, 1, none⟩ = some (.slice A' pre.length c') := (hgrow6.cell_far ⟨_, _, none⟩ (by rw [HSD.out]; exact Nat.lt_succ_of_lt hSW) HNE.out).trans r0; have u1 : w6.frozen? ⟨S, 1, none⟩ = false := (hgrow6.frozen_far ⟨_, _, none⟩ (by rw [HSD.out]; exact Nat.lt_succ_of_lt hSW) HNE.out).trans r1; have H6 := Lib.hid (And.intro hown6 hgrow6); clear hown6 hgrow6 hat6 hlt6))
          all_goals
            obtain ⟨A2, c2, hv2, ho2, hb2⟩ := out_push (w := W) (x := (p, n)) (ob := .cells #[.int .i64 (p : Int), .int .i64 (n : Int)] 126) HOUT.out H6.out.1 ⟨H6.out.2.os, H6.out.2.tape, H6.out.2.output, H6.out.2.size, H6.out.2.block⟩
            have H7 := Lib.hid (And.intro ho2 hb2)
            clear ho2 hb2
            injection hv2 with hv3 hv4 hv5
            subst hv3; subst hv5
            go_wp2_with (fail)
            go_roundw
            case rel =>
              refine ⟨k + 1, fd, pre ++ [(p, n)], _, _, by omega, by go_num, rfl, H7.out.1.keep fun _ _ _ => rfl, ?_, by rw [HB.out.2.1]; simp, by rw [HB.out.2.2.2], by rw [List.length_append, List.length_singleton]; omega⟩
              have := H7.out.2 S W0 (Nat.le_refl _) HB.out.1
              first | exact this | exact this.drew
            case measure => simp [intOf]; omega

      · have t1 : ((p : Int) == (q : Int)) = false := by rw [beq_eq_false_iff_ne]; omega
        have hne2 : ((p, n) : Blk) ≠ (q, m) := fun e => by injection e with e1 e2; omega
        have hres : delB (L.drop k) (q, m) = (p, n) :: delB (L.drop (k + 1)) (q, m) := by rw [hd]; unfold delB; rw [List.filter_cons_of_pos (by simpa using hne2)]
        rw [hres] at hRR
        have hfd2 : (decide ((q, m) ∈ L)) = (fd || decide ((q, m) ∈ L.drop (k + 1))) := by rw [hfd, hd]; simp [Ne.symm hne2]
        have HB := Lib.hid (And.intro hbw (And.intro hRR (And.intro (Ne.symm hne2) hfd2)))
        have HOUT := Lib.hid hout
        have HNE := Lib.hid hne
        clear hout hbw hRR hres hd hy hne hblk hfd hfd2 hne2 hpq hs1
        go_wp2_with (fail)
        have s5 : (W.alloc (.cells #[.int .i64 (p : Int), .int .i64 (n : Int)] 126)).drew.cell? ⟨S, 1, none⟩ = some (.slice A' pre.length c') ∧ (W.alloc (.cells #[.int .i64 (p : Int), .int .i64 (n : Int)] 126)).drew.frozen? ⟨S, 1, none⟩ = false ∧ (W.alloc (.cells #[.int .i64 (p : Int), .int .i64 (n : Int)] 126)).drew.cell? ⟨w.heap.size, 1, none⟩ = some (.slice (some ⟨g, o, none⟩) L.length c) ∧ (W.alloc (.cells #[.int .i64 (p : Int), .int .i64 (n : Int)] 126)).drew.cell? ⟨g, o + k * 2, none⟩ = some (.int .i64 (p : Int)) ∧ (W.alloc (.cells #[.int .i64 (p : Int), .int .i64 (n : Int)] 126)).drew.cell? ⟨g, o + k * 2 + 1, none⟩ = some (.int .i64 (n : Int)) :=
          ⟨(World.cell?_alloc_lt W _ _ hSW).trans o1, (World.frozen?_alloc_old W _ _ (Nat.ne_of_lt hSW)).trans of1, (World.cell?_alloc_lt W _ _ hsW).trans s1, (World.cell?_alloc_lt W _ _ hgW).trans d1, (World.cell?_alloc_lt W _ _ hgW).trans d2⟩
        have hsd : (W.alloc (.cells #[.int .i64 (p : Int), .int .i64 (n : Int)] 126)).drew.heap.size = W.heap.size + 1 := by show (W.alloc _).heap.size = _; simp
        obtain ⟨r0, r1, r2, r3, r4⟩ := s5
        have HNW := Lib.hid (show ∀ j u, [Value.int .i64 (p : Int), .int .i64 (n : Int)][j]? = some u → (W.alloc (.cells #[.int .i64 (p : Int), .int .i64 (n : Int)] 126)).drew.cell? ((⟨W.heap.size, 0, none⟩ : Addr).add j) = some u from fun j u hu => two_new W _ _ _ j u hu)
        have HSD := Lib.hid hsd
        clear hsd
        go_region_law ((refine step_append_lies _ (by rfl) (.tmp 38) (.tmp 44) _ (by rfl) (S + 1) 126 i0 z0 2 16 Try.underlying44 hi0 hz0 hz1 hz2 hz3 (by omega) (.slice A' pre.length c') pre.length (cellsL pre) (by rfl) (HOUT.out.row1 _) ⟨W.heap.size, 0, none⟩ 1 1 [.int .i64 (p : Int), .int .i64 (n : Int)] (by rfl) (by rfl) HNW.out (by simp [Value.oneCell']) (by omega) (by unfold maxLen; omega) (by omega) (by rw [HSD.out]; omega) (W.heap.size + 1) HSD.out ?_; intro g6 cap6 w6 hown6 hgrow6 hat6 hlt6; have u0 : w6.cell? ⟨S, 1, none⟩ = some (.slice A' pre.length c') := (hgrow6.cell_far ⟨_, _, none⟩ (by rw [HSD.out]; exact Nat.lt_succ_of_lt hSW) HNE.out).trans r0; have u1 : w6.frozen? ⟨S, 1, none⟩ = false := (hgrow6.frozen_far ⟨_, _, none⟩ (by rw [HSD.out]; exact Nat.lt_succ_of_lt hSW) HNE.out).trans r1; have H6 := Lib.hid (And.intro hown6 hgrow6); clear hown6 hgrow6 hat6 hlt6))
        all_goals
          obtain ⟨A2, c2, hv2, ho2, hb2⟩ := out_push (w := W) (x := (p, n)) (ob := .cells #[.int .i64 (p : Int), .int .i64 (n : Int)] 126) HOUT.out H6.out.1 ⟨H6.out.2.os, H6.out.2.tape, H6.out.2.output, H6.out.2.size, H6.out.2.block⟩
          have H7 := Lib.hid (And.intro ho2 hb2)
          clear ho2 hb2
          injection hv2 with hv3 hv4 hv5
          subst hv3; subst hv5
          go_wp2_with (fail)
          go_roundw
          case rel =>
            refine ⟨k + 1, fd, pre ++ [(p, n)], _, _, by omega, by go_num, rfl, H7.out.1.keep fun _ _ _ => rfl, ?_, by rw [HB.out.2.1]; simp, by rw [HB.out.2.2.2], by rw [List.length_append, List.length_singleton]; omega⟩
            have := H7.out.2 S W0 (Nat.le_refl _) HB.out.1
            first | exact this | exact this.drew
          case measure => simp [intOf]; omega

    · obtain rfl : k = L.length := by omega
      have hdl : L.drop L.length = [] := List.drop_length
      rw [hdl] at hRR hfd
      have hRR2 : R = pre := hRR.trans (by show pre ++ [] = pre; simp)
      cases fd with
      | true =>
        have hmem : (q, m) ∈ L := by simpa using hfd
        have HB := Lib.hid (And.intro hout (And.intro hbw (And.intro (HR.out.2.symm.trans hRR2) hmem)))
        clear hout hbw hRR hRR2 hpl hne hfd hdl hmem
        have hres0 := (HB.out.2.1.block (w.heap.size + 1) (by omega)).trans HG.out.1
        obtain ⟨q2, q3, q0, q1⟩ := two_cells hres0
        have o0 := HB.out.1.cells.1
        have H9 := Lib.hid (two_set hres0 (.int .i64 (N : Int)) (.slice A' pre.length c'))
        clear hres0
        go_wp2_with (fail)
        obtain ⟨q4, q5, _, _⟩ := two_cells H9.out
        refine bodyPost_ret (v := .tuple #[sv N A' pre.length c', .int .i64 0]) (by simp [results, Try.results85, go_sem, q4, q5]) rfl ⟨?_, ?_⟩
        · refine .inl ⟨HB.out.2.2.2, A', c', by rw [HB.out.2.2.1], ?_⟩
          rw [HB.out.2.2.1]
          exact row_low (row_keep HB.out.1.row fun b hb _ => (setCell_far _ _ _ _ (by show b ≠ w.heap.size + 1; omega)).trans (setCell_far _ _ _ _ (by show b ≠ w.heap.size + 1; omega))) (by omega)
        · exact (((HG.out.2.1.trans (HB.out.2.1.mono (by omega))).setCell (p := ⟨w.heap.size + 1, 0, none⟩) (by show w.heap.size ≤ w.heap.size + 1; omega) _).setCell (p := ⟨w.heap.size + 1, 1, none⟩) (by show w.heap.size ≤ w.heap.size + 1; omega) _)
      | false =>
        have hmem : (q, m) ∉ L := by simpa using hfd
        have HB := Lib.hid (And.intro hbw hmem)
        have hres0 := (HB.out.1.block (w.heap.size + 1) (by omega)).trans HG.out.1
        obtain ⟨q2, q3, q0, q1⟩ := two_cells hres0
        have H9 := Lib.hid (two_set hres0 (.int .i64 (N : Int)) (.slice A L.length c))
        clear hout hbw hRR hRR2 hpl hne hfd hdl hmem hres0
        go_wp2_with (fail)
        obtain ⟨q4, q5, _, _⟩ := two_cells H9.out
        refine bodyPost_ret (v := .tuple #[sv N A L.length c, .int .i64 9]) (by simp [results, Try.results85, go_sem, q4, q5]) rfl ⟨.inr ⟨HB.out.2, rfl⟩, ?_⟩
        exact (((HG.out.2.1.trans (HB.out.1.mono (by omega))).setCell (p := ⟨w.heap.size + 1, 0, none⟩) (by show w.heap.size ≤ w.heap.size + 1; omega) _).setCell (p := ⟨w.heap.size + 1, 1, none⟩) (by show w.heap.size ≤ w.heap.size + 1; omega) _)
end Bu
end Go.Proofs.Ytlknhbcambdccaa
namespace Go.Proofs.Ytlknhbcambdccaa
open Go.RowKit
namespace Bu

/-- What AllocAt returns. -/
def PutR (N : Nat) (A : Option Addr) (c : Nat) (L : List Blk) (x : Blk) (B : Nat) (e : Ending) (w' : World) : Prop :=
  (freeB L x.1 x.2 = true ∧ ∃ A' c', e = .returned (.tuple #[sv N A' (putB L x).length c', .int .i64 0]) ∧ Own w' B A' c' (putB L x)) ∨ (freeB L x.1 x.2 = false ∧ e = .returned (.tuple #[sv N A L.length c, .int .i64 8]))

end Bu
end Go.Proofs.Ytlknhbcambdccaa
namespace Go.Proofs.Ytlknhbcambdccaa
open Go.RowKit
namespace Bu

set_option maxRecDepth 100000 in
set_option maxHeartbeats 2000000 in
theorem allocR_bad (w : World) (N : Int) (A : Option Addr) (c n : Nat) (k : Int) (hbad : ¬ (0 ≤ k ∧ k ≤ 10)) :
    Calls Try.prog 81 #[sv N A n c, .int .i64 k] w fun e w' => e = .returned (.tuple #[sv N A n c, .int .i64 0, .int .i64 7]) ∧ Below w.heap.size w w' := by
  have hO := fun W => order_ok k W
  rw [decide_eq_false hbad] at hO
  have HO := Lib.hid hO
  clear hO hbad
  go_enter Try.func81, Try.ntmps81
  go_wp2_with (go_at_call 98; refine (HO.out _).mono ?_; rintro e w' ⟨rfl, rfl⟩)
  refine bodyPost_ret (v := .tuple #[sv N A n c, .int .i64 0, .int .i64 7]) (by simp [results, Try.results81, go_sem]) rfl ⟨rfl, ?_⟩
  exact ((below_box w _).alloc (by simp) _)

/-- What Alloc returns. -/
def GiveR (N : Nat) (A : Option Addr) (c : Nat) (L : List Blk) (n B : Nat) (e : Ending) (w' : World) : Prop :=
  match allocB N L n with
  | none => e = .returned (.tuple #[sv N A L.length c, .int .i64 0, .int .i64 5])
  | some (p, L') => ∃ A' c', e = .returned (.tuple #[sv N A' L'.length c', .int .i64 (p : Int), .int .i64 0]) ∧ Own w' B A' c' L'

/-- The best index so far. -/
def BestAt (B : List Blk) (a : Option Blk) (b : Int) : Prop := (a = none ∧ b = -1) ∨ ∃ j x, a = some x ∧ b = ((j : Nat) : Int) ∧ B[j]? = some x

set_option maxRecDepth 100000 in
set_option maxHeartbeats 4000000 in
theorem allocR_ok (w : World) (N : Nat) (A : Option Addr) (c : Nat) (L : List Blk) (n : Nat) (hn : n ≤ 10) (h : BlkAt w A c L) (hS : St N L) :
    Calls Try.prog 81 #[sv N A L.length c, .int .i64 (n : Int)] w fun e w' => GiveR N A c L n w.heap.size e w' ∧ Below w.heap.size w w' := by
  have hN := hS.n10
  have hO := fun W => order_ok (n : Int) W
  rw [decide_eq_true (show (0 : Int) ≤ (n : Int) ∧ (n : Int) ≤ 10 by omega)] at hO
  have HO := Lib.hid hO
  have hb0 := below_box w (.cells #[.int .i64 (N : Int), .slice A L.length c] 46)
  have hg1 := blk_new w (.int .i64 (N : Int)) (.slice A L.length c) 46
  obtain ⟨W1, hW1⟩ : ∃ W1, W1 = w.alloc (.cells #[.int .i64 (N : Int), .slice A L.length c] 46) := ⟨_, rfl⟩
  rw [← hW1] at hb0 hg1
  have hs1 : W1.heap.size = w.heap.size + 1 := by rw [hW1]; simp
  have hg2 := blk_new W1 (.int .i64 0) (.slice none 0 0) 46
  obtain ⟨W2, hW2⟩ : ∃ W2, W2 = W1.alloc (.cells #[.int .i64 0, .slice none 0 0] 46) := ⟨_, rfl⟩
  rw [← hW2, hs1] at hg2
  have hs2 : W2.heap.size = w.heap.size + 2 := by rw [hW2]; simp [hs1]
  have hbx : Below W1.heap.size W1 W2 := by rw [hW2]; exact below_box _ _
  have hb2 : Below w.heap.size w W2 := hb0.trans (hbx.mono (by omega))
  have hg1' := (hbx.block w.heap.size (by omega)).trans hg1
  obtain ⟨b1, b2, _, _⟩ := two_cells hg1'
  have hsm := small_blocks hS
  have hln := blocks_len hS
  have hBl := blocksR_ok W2 N A c L (h.below hb2) (st_le hS) hN
  obtain ⟨B, hB⟩ : ∃ B, B = blocksB N L := ⟨_, rfl⟩
  have hal : allocB N L n = (bestOf n none B).map fun x => (x.1, putB L (x.1, n)) := by unfold allocB; rw [hB]
  rw [← hB] at hBl hsm hln
  have HBl := Lib.hid hBl
  have hP := fun (p : Nat) W (hb : Below W2.heap.size W2 W) => putR_ok W N A c L (p, n) ((h.below hb2).below hb) (by have := st_len hS; omega)
  have HP := Lib.hid hP
  have HG := Lib.hid (And.intro hb2 (And.intro hs2 (And.intro hg2 (And.intro hg1' (And.intro hW1 (And.intro hal hsm))))))
  have HW2 := Lib.hid hW2
  clear hb0 hg1 hW1 hs1 hg2 hW2 hs2 hbx hb2 hg1' hP h hS hO hBl hB hal hsm
  go_enter Try.func81, Try.ntmps81
  go_wp2_with (fail)
  rw [← HG.out.2.2.2.2.1, ← HW2.out]
  go_wp2_with (first | (go_at_call 98; refine (HO.out _).mono ?_; rintro e w' ⟨rfl, rfl⟩) | (go_at_call 99; refine HBl.out.mono ?_; rintro e w5 ⟨⟨A', c', rfl, hown⟩, hbw⟩; have H5 := Lib.hid (And.intro hown hbw); clear hown hbw))
  have hat := H5.out.1.at.1
  have hcap := hat.len
  unfold maxLen at hcap
  have HA := Lib.hid hat
  clear hat
  go_loopw [8, 9] (fun b i wr => ∃ (k : Nat) (a : Option Blk) (bi : Int), k ≤ B.length ∧ i = .int .i64 k ∧ b = .int .i64 bi ∧ BestAt B a bi ∧ bestOf n none B = bestOf n a (B.drop k) ∧ ∃ q, wr = w5.drewN q) (fun _ i _ => B.length - (intOf i).toNat)
  case atStart => exact ⟨0, none, -1, Nat.zero_le _, rfl, rfl, .inl ⟨rfl, rfl⟩, rfl, 0, rfl⟩
  case round =>
    obtain ⟨k, a, bi, hk, rfl, rfl, hba, hbo, hq⟩ := hrel
    have hAt : BlkAt wr A' c' B := by obtain ⟨q, rfl⟩ := hq; exact HA.out
    have e0 : (0 : Int) ≤ (k : Int) := by omega
    by_cases hlt : k < B.length
    · obtain ⟨x, hx⟩ : ∃ x, B[k]? = some x := ⟨_, List.getElem?_eq_getElem hlt⟩
      have hd : B.drop k = x :: B.drop (k + 1) := by
        rw [List.drop_eq_getElem_cons hlt]
        congr 1
        rw [List.getElem?_eq_getElem hlt] at hx
        injection hx
      obtain ⟨g, o, hA, hg, d1, d2⟩ := hAt.at hx
      rw [hd, bestOf] at hbo
      subst hA
      have hkk : IntKind.i64.wrap ((k : Int) + 1) = ((k + 1 : Nat) : Int) := by rw [IntWalk.i64_in _ (by omega)]; rfl
      have e1 : (k : Int) < (B.length : Int) := by omega
      by_cases hmn : n ≤ x.2
      · have t1 : (n : Int) ≤ (x.2 : Int) := by omega
        rcases hba with ⟨rfl, rfl⟩ | ⟨j, y, rfl, rfl, hy⟩
        · rw [if_pos ⟨hmn, fun y e => by cases e⟩] at hbo
          have HB := Lib.hid (And.intro hbo (And.intro hq (show BestAt B (some x) (k : Int) from .inr ⟨k, x, rfl, rfl, hx⟩)))
          clear hbo hq hx hd hAt
          go_wp2_with (fail)
          go_quiet (fail)
          go_wp2_with (fail)
          go_roundw
          case rel =>
            refine ⟨k + 1, some x, (k : Int), by omega, by go_num, rfl, HB.out.2.2, HB.out.1, ?_⟩
            obtain ⟨q, hq⟩ := HB.out.2.1
            exact ⟨_, by rw [hq]; exact World.drewN_drewN _ _ _⟩
          case measure => simp [intOf]; omega
        · obtain ⟨g', o', hA', hg', d3, d4⟩ := hAt.at hy
          obtain ⟨rfl, rfl⟩ : g = g' ∧ o = o' := by injection hA' with h1; injection h1 with h2 h3; exact ⟨h2, h3⟩
          have hjl : j < B.length := (List.getElem?_eq_some_iff.1 hy).1
          have e3 : (0 : Int) ≤ (j : Int) := by omega
          have e4 : (j : Int) < (B.length : Int) := by omega
          have e5 : ¬ (j : Int) < 0 := by omega
          by_cases hxy : x.2 < y.2
          · have t2 : (x.2 : Int) < (y.2 : Int) := by omega
            rw [if_pos ⟨hmn, fun z e => by injection e with e; subst e; exact hxy⟩] at hbo
            have HB := Lib.hid (And.intro hbo (And.intro hq (show BestAt B (some x) (k : Int) from .inr ⟨k, x, rfl, rfl, hx⟩)))
            clear hbo hq hx hd hAt hy hA'
            go_wp2_with (fail)
            go_quiet (fail)
            go_wp2_with (fail)
            go_roundw
            case rel =>
              refine ⟨k + 1, some x, (k : Int), by omega, by go_num, rfl, HB.out.2.2, HB.out.1, ?_⟩
              obtain ⟨q, hq⟩ := HB.out.2.1
              exact ⟨_, by rw [hq]; exact World.drewN_drewN _ _ _⟩
            case measure => simp [intOf]; omega
          · have t2 : ¬ (x.2 : Int) < (y.2 : Int) := by omega
            rw [if_neg (fun h => hxy (h.2 y rfl))] at hbo
            have HB := Lib.hid (And.intro hbo (And.intro hq (show BestAt B (some y) (j : Int) from .inr ⟨j, y, rfl, rfl, hy⟩)))
            clear hbo hq hx hd hAt hy hA'
            go_wp2_with (fail)
            go_quiet (fail)
            go_wp2_with (fail)
            go_roundw
            case rel =>
              refine ⟨k + 1, some y, (j : Int), by omega, by go_num, rfl, HB.out.2.2, HB.out.1, ?_⟩
              obtain ⟨q, hq⟩ := HB.out.2.1
              exact ⟨_, by rw [hq]; exact World.drewN_drewN _ _ _⟩
            case measure => simp [intOf]; omega
      · have t1 : ¬ (n : Int) ≤ (x.2 : Int) := by omega
        rw [if_neg (fun h => hmn h.1)] at hbo
        have HB := Lib.hid (And.intro hbo (And.intro hq hba))
        clear hbo hq hx hd hAt hba
        go_wp2_with (fail)
        go_quiet (fail)
        go_wp2_with (fail)
        go_roundw
        case rel =>
          refine ⟨k + 1, a, bi, by omega, by go_num, rfl, HB.out.2.2, HB.out.1, ?_⟩
          obtain ⟨q, hq⟩ := HB.out.2.1
          exact ⟨_, by rw [hq]; exact World.drewN_drewN _ _ _⟩
        case measure => simp [intOf]; omega
    · obtain rfl : k = B.length := by omega
      rw [List.drop_length, bestOf] at hbo
      have hwb : ∀ b : Nat, wr.heap[b]? = w5.heap[b]? := by obtain ⟨q, rfl⟩ := hq; exact fun _ => rfl
      have hbb : Below W2.heap.size W2 wr := by obtain ⟨q, rfl⟩ := hq; exact below_drewN H5.out.2 _
      have hR := (hwb (w.heap.size + 1)).trans ((H5.out.2.block (w.heap.size + 1) (by have := HG.out.2.1; omega)).trans HG.out.2.2.1)
      have hSt := (hwb w.heap.size).trans ((H5.out.2.block w.heap.size (by have := HG.out.2.1; omega)).trans HG.out.2.2.2.1)
      have hr2 := two_cells hR
      have hs2 := two_cells hSt
      obtain ⟨c1, c2, f1, f2⟩ := hr2
      obtain ⟨s1, s2, _, _⟩ := hs2
      rcases hba with ⟨rfl, rfl⟩ | ⟨j, y, rfl, rfl, hy⟩
      · have HB := Lib.hid (And.intro hbo (And.intro hbb (two_set hR (.int .i64 (N : Int)) (.slice A L.length c))))
        clear hbo hbb hR hSt hAt hwb hq
        go_wp2_with (fail)
        obtain ⟨q4, q5, _, _⟩ := two_cells HB.out.2.2
        refine bodyPost_ret (v := .tuple #[sv N A L.length c, .int .i64 0, .int .i64 5]) (by simp [results, Try.results81, go_sem, q4, q5]) rfl ⟨?_, ?_⟩
        · unfold GiveR
          rw [HG.out.2.2.2.2.2.1, HB.out.1]; rfl
        · exact (((HG.out.1.trans (HB.out.2.1.mono (by have := HG.out.2.1; omega))).setCell (p := ⟨w.heap.size + 1, 0, none⟩) (by show w.heap.size ≤ w.heap.size + 1; omega) _).setCell (p := ⟨w.heap.size + 1, 1, none⟩) (by show w.heap.size ≤ w.heap.size + 1; omega) _)
      · obtain ⟨g, o, hA, hg, d1, d2⟩ := hAt.at hy
        have hjl : j < B.length := (List.getElem?_eq_some_iff.1 hy).1
        have e3 : (0 : Int) ≤ (j : Int) := by omega
        have e4 : (j : Int) < (B.length : Int) := by omega
        have e5 : ¬ (j : Int) < 0 := by omega
        obtain ⟨p, m⟩ := y
        subst hA
        dsimp only at d1 d2
        have hgR : g ≠ w.heap.size + 1 := by
          have := (H5.out.1.at.2 g rfl).1
          have := HG.out.2.1
          omega
        have HB := Lib.hid (And.intro hbo (And.intro hbb (And.intro hR hSt)))
        clear hbo hbb hR hSt hAt hwb hq hy
        go_wp2_with (fail)
        go_region_with (go_at_call 100; refine (HP.out _ _ (by first | exact HB.out.2.1.drew | exact HB.out.2.1)).mono ?_; rintro e w6 ⟨⟨A6, c6, rfl, hown⟩, hb6⟩; have hn3 : w6.heap[w.heap.size + 1]? = some (.cells #[.int .i64 0, .slice none 0 0] 46 (0, 0)) := (hb6.block (w.heap.size + 1) (lt_of_heap HB.out.2.2.1)).trans HB.out.2.2.1; obtain ⟨c3, c4, f3, f4⟩ := two_cells hn3; have d3 : w6.cell? ⟨g, o + j * 2, none⟩ = some (.int .i64 (p : Int)) := (World.cell?_of_block (a := ⟨g, _, none⟩) (hb6.block g hg)).trans d1; have H6 := Lib.hid (And.intro hown (And.intro hb6 (two_set hn3 (.int .i64 (N : Int)) (.slice A6 (putB L (p, n)).length c6)))); clear hown hb6 hn3)
        all_goals
          go_wp2_with (fail)
          obtain ⟨q4, q5, _, _⟩ := two_cells H6.out.2.2
          have hsz := HB.out.2.1.size
          have hsz2 := HG.out.2.1
          refine bodyPost_ret (v := .tuple #[sv N A6 (putB L (p, n)).length c6, .int .i64 (p : Int), .int .i64 0]) (by simp [results, Try.results81, go_sem, q4, q5]) rfl ⟨?_, ?_⟩
          · unfold GiveR
            rw [HG.out.2.2.2.2.2.1, HB.out.1]
            refine ⟨A6, c6, rfl, row_low (row_keep H6.out.1 fun b hb _ => ?_) (show w.heap.size ≤ wr.heap.size by omega)⟩
            have hb : wr.heap.size ≤ b := hb
            exact (setCell_far _ _ _ _ (by show b ≠ w.heap.size + 1; omega)).trans (setCell_far _ _ _ _ (by show b ≠ w.heap.size + 1; omega))
          · have h6 : Below wr.heap.size wr w6 := ⟨H6.out.2.1.os, H6.out.2.1.tape, H6.out.2.1.output, H6.out.2.1.size, H6.out.2.1.block⟩
            exact (((HG.out.1.trans ((HB.out.2.1.trans (h6.mono (by omega))).mono (by omega))).setCell (p := ⟨w.heap.size + 1, 0, none⟩) (by show w.heap.size ≤ w.heap.size + 1; omega) _).setCell (p := ⟨w.heap.size + 1, 1, none⟩) (by show w.heap.size ≤ w.heap.size + 1; omega) _)
end Bu
end Go.Proofs.Ytlknhbcambdccaa
namespace Go.Proofs.Ytlknhbcambdccaa
open Go.RowKit
namespace Bu

def toBlk (x : PB) : Blk := (x.1.val, x.2.val)
theorem toBlk_inj {x y : PB} (h : toBlk x = toBlk y) : x = y := by
  obtain ⟨⟨a, ha⟩, ⟨b, hb⟩⟩ := x
  obtain ⟨⟨c, hc⟩, ⟨d, hd⟩⟩ := y
  unfold toBlk at h
  injection h with h1 h2
  simp at h1 h2
  subst h1; subst h2; rfl
theorem cells_blk (L : List PB) : cellsB L = cellsL (L.map toBlk) := by
  induction L with
  | nil => rfl
  | cons x L ih => rw [cellsB_cons, List.map_cons, cellsL_cons, ih]; rfl

theorem mem_members {S : Nat → Bool} {n p : Nat} : p ∈ members S n ↔ p < n ∧ S p = true := by
  unfold members; rw [List.mem_filter, List.mem_range]
theorem mem_coll {F : Nat → Nat → Bool} : ∀ {j : Nat} {y : PB}, j ≤ 11 → (y ∈ collB F j ↔ y.2.val < j ∧ F y.2.val y.1.val = true) := by
  intro j
  induction j with
  | zero => intro y _; simp [collB]
  | succ j ih =>
    intro y hj
    rw [collB, List.mem_append, ih (by omega), List.mem_map]
    constructor
    · rintro (⟨h1, h2⟩ | ⟨p, hp, rfl⟩)
      · exact ⟨by omega, h2⟩
      · obtain ⟨h1, h2⟩ := mem_members.1 hp
        simp only [mkB, Nat.mod_eq_of_lt h1, Nat.mod_eq_of_lt (show j < 11 by omega)]
        exact ⟨by omega, h2⟩
    · rintro ⟨h1, h2⟩
      by_cases e : y.2.val = j
      · refine .inr ⟨y.1.val, mem_members.2 ⟨y.1.isLt, by rw [← e]; exact h2⟩, ?_⟩
        refine toBlk_inj ?_
        simp only [toBlk, mkB, Nat.mod_eq_of_lt y.1.isLt, Nat.mod_eq_of_lt (show j < 11 by omega), e]
      · exact .inl ⟨by omega, h2⟩
theorem coll_nodup {F : Nat → Nat → Bool} : ∀ {j : Nat}, j ≤ 11 → (collB F j).Nodup := by
  intro j
  induction j with
  | zero => intro _; exact List.nodup_nil
  | succ j ih =>
    intro hj
    rw [collB, List.nodup_append]
    refine ⟨ih (by omega), ?_, ?_⟩
    · have h1 : (members (F j) 1024).Nodup := (List.nodup_range).filter _
      have h2 : (members (F j) 1024).Pairwise fun a b => mkB a j ≠ mkB b j := by
        refine List.Pairwise.imp_of_mem (R := fun a b => a ≠ b) ?_ h1
        intro a b ha hb hne e
        have ha := (mem_members.1 ha).1
        have hb := (mem_members.1 hb).1
        have := congrArg (fun x : PB => x.1.val) e
        simp only [mkB, Nat.mod_eq_of_lt ha, Nat.mod_eq_of_lt hb] at this
        exact hne this
      exact List.pairwise_map.2 h2
    · intro a ha b hb e
      subst e
      obtain ⟨h1, _⟩ := (mem_coll (by omega)).1 ha
      obtain ⟨p, _, rfl⟩ := List.mem_map.1 hb
      simp only [mkB, Nat.mod_eq_of_lt (show j < 11 by omega)] at h1
      omega

/-- What sorted collects, is the list. -/
theorem sorted_is {F : Nat → Nat → Bool} {M : List Blk} {L : List PB} (hM : M.Pairwise fun a b => a.1 < b.1) (hm : ∀ p k, p < 1024 → k < 11 → (F k p = true ↔ (p, k) ∈ M)) (hs : ∀ x ∈ M, x.1 < 1024 ∧ x.2 < 11)
    (hp : L.Perm (collB F 11)) (ho : L.Pairwise fun x y => x.1.val ≤ y.1.val) : L.map toBlk = M := by
  have hmem : ∀ y : PB, y ∈ L ↔ toBlk y ∈ M := fun y => by
    rw [hp.mem_iff, mem_coll (Nat.le_refl _)]
    have := hm y.1.val y.2.val y.1.isLt y.2.isLt
    exact ⟨fun h => this.1 h.2, fun h => ⟨y.2.isLt, this.2 h⟩⟩
  have hnd : L.Nodup := hp.nodup_iff.2 (coll_nodup (Nat.le_refl _))
  have hboth : L.Pairwise fun x y => x.1.val ≤ y.1.val ∧ x ≠ y := List.pairwise_and_iff.2 ⟨ho, hnd⟩
  refine asc_eq (List.pairwise_map.2 (List.Pairwise.imp_of_mem ?_ hboth)) hM fun z => ?_
  · intro a b ha hb ⟨h1, h2⟩
    refine Nat.lt_of_le_of_ne h1 fun e => h2 (toBlk_inj ?_)
    exact asc_uniq hM _ ((hmem a).1 ha) _ ((hmem b).1 hb) e
  · rw [List.mem_map]
    constructor
    · rintro ⟨y, hy, rfl⟩; exact (hmem y).1 hy
    · intro hz
      obtain ⟨h1, h2⟩ := hs z hz
      exact ⟨(⟨z.1, h1⟩, ⟨z.2, h2⟩), (hmem _).2 hz, rfl⟩

/-- An allocator that has given the blocks of a list. -/
def BuL (w : World) (b N : Nat) (L : List Blk) : Prop := Bud w b N (LG L) ∧ St N L
theorem BuL.lt {w : World} {b N : Nat} {L : List Blk} (h : BuL w b N L) : b < w.heap.size := h.1.lt
theorem BuL.keep {w w' : World} {b N : Nat} {L : List Blk} (h : BuL w b N L) (hk : w'.heap[b]? = w.heap[b]?) : BuL w' b N L := ⟨h.1.keep hk, h.2⟩

theorem two_le {N : Nat} (h : N ≤ 10) : 2 ^ N ≤ 1024 := by
  have : 2 ^ N ≤ 2 ^ 10 := Nat.pow_le_pow_right (by omega) h
  omega

theorem sem_given {N : Nat} {Fr Gv : Nat → Nat → Bool} {L : List Blk} (h : Sem N Fr Gv (LG L)) (hS : St N L) {p k : Nat} (hp : p < 1024) (hk : k < 11) : Gv k p = true ↔ (p, k) ∈ L := by
  rw [h.given k p hk hp]
  constructor
  · rintro ⟨h1, h2⟩; exact (mem_LG h1).1 h2
  · intro hm
    have h1 := (hS.inb _ hm).2.1
    exact ⟨h1, (mem_LG h1).2 hm⟩
theorem sem_free {N : Nat} {Fr Gv : Nat → Nat → Bool} {L : List Blk} (h : Sem N Fr Gv (LG L)) (hS : St N L) {p k : Nat} (hp : p < 1024) (hk : k < 11) : Fr k p = true ↔ (p, k) ∈ blocksB N L := by
  rw [h.free k p hk hp, mem_blocks hS]; rfl
theorem st_small {N : Nat} {L : List Blk} (hS : St N L) : ∀ x ∈ L, x.1 < 1024 ∧ x.2 < 11 := fun x hx => by
  have := st_le hS x hx
  have := pow_pos2 x.2
  omega
theorem blocks_small {N : Nat} {L : List Blk} (hS : St N L) : ∀ x ∈ blocksB N L, x.1 < 1024 ∧ x.2 < 11 := fun x hx => by
  have := small_blocks hS x hx
  have := pow_pos2 x.2
  omega
theorem given_is {N : Nat} {Fr Gv : Nat → Nat → Bool} {L : List Blk} {M : List PB} (h : Sem N Fr Gv (LG L)) (hS : St N L) (hp : M.Perm (collB Gv 11)) (ho : M.Pairwise fun x y => x.1.val ≤ y.1.val) : M.map toBlk = L :=
  sorted_is (asc_lt hS.asc) (fun _ _ h1 h2 => sem_given h hS h1 h2) (st_small hS) hp ho
theorem free_is {N : Nat} {Fr Gv : Nat → Nat → Bool} {L : List Blk} {M : List PB} (h : Sem N Fr Gv (LG L)) (hS : St N L) (hp : M.Perm (collB Fr 11)) (ho : M.Pairwise fun x y => x.1.val ≤ y.1.val) : M.map toBlk = blocksB N L :=
  sorted_is (asc_lt (blocks_asc hS)) (fun _ _ h1 h2 => sem_free h hS h1 h2) (blocks_small hS) hp ho

/-- At the beginning. -/
theorem st_nil {N : Nat} (h : N ≤ 10) : St N [] := ⟨h, fun x hx => (by cases hx), List.Pairwise.nil⟩
theorem sem_new {N : Nat} (hN : N ≤ 10) : Sem N (newFree N) noSets (LG []) := by
  have hnu : ∀ x, ¬ Used (LG []) x := fun x ⟨k, hk⟩ => by cases hk
  have hfr : ∀ k i, Free (LG []) k i := fun k i x _ => hnu x
  refine ⟨(st_nil hN).ok, hN, fun k p hk hp => ?_, fun k p hk hp => ?_⟩
  · unfold newFree
    by_cases e : k = N
    · subst e
      rw [upd_same]
      unfold sadd noSets
      rw [Bool.or_false, beq_iff_eq]
      constructor
      · rintro rfl
        refine ⟨Nat.zero_mod _, Nat.le_refl _, by rw [Nat.zero_div]; exact pow_pos2 _, hfr _ _, .inl rfl⟩
      · rintro ⟨h1, _, h2, _⟩
        rw [Nat.sub_self, Nat.pow_zero] at h2
        have := mul_div h1
        rw [Nat.lt_one_iff.1 h2, Nat.zero_mul] at this
        exact this.symm
    · rw [upd_ne _ _ _ _ e]
      unfold noSets
      constructor
      · intro h; cases h
      · rintro ⟨_, _, _, _, h | h⟩
        · exact absurd h e
        · exact absurd (hfr _ _) h
  · unfold noSets LG
    constructor
    · intro h; cases h
    · rintro ⟨_, h⟩; cases h

/-- Room counts what the list says. -/
theorem roomJ_sum (Fr : Nat → Nat → Bool) (n : Nat) : ∀ j, roomJ Fr n j = ((List.range j).map fun i => cnt (Fr (n + i)) * 2 ^ i).sum := by
  intro j
  induction j with
  | zero => rfl
  | succ j ih => rw [roomJ, ih, List.range_succ, List.map_append, List.sum_append]; simp

theorem sum_perm {α : Type} {f : α → Nat} {A B : List α} (h : A.Perm B) : (A.map f).sum = (B.map f).sum := (h.map f).sum_nat

theorem coll_sum (F : Nat → Nat → Bool) (f : PB → Nat) (g : Nat → Nat) (hfg : ∀ p k, p < 1024 → k < 11 → f (mkB p k) = g k) : ∀ j, j ≤ 11 → ((collB F j).map f).sum = ((List.range j).map fun k => cnt (F k) * g k).sum := by
  intro j
  induction j with
  | zero => intro _; rfl
  | succ j ih =>
    intro hj
    rw [collB, List.map_append, List.sum_append, ih (by omega), List.range_succ, List.map_append, List.sum_append]
    refine Nat.add_left_cancel_iff.2 ?_
    have : ∀ l : List Nat, (∀ p ∈ l, p < 1024) → ((l.map (mkB · j)).map f).sum = l.length * g j := by
      intro l
      induction l with
      | nil => intro _; simp
      | cons p l ih2 =>
        intro hl
        rw [List.map_cons, List.map_cons, List.sum_cons, ih2 fun q hq => hl q (List.mem_cons_of_mem _ hq), hfg p j (hl p (List.mem_cons_self ..)) (by omega), List.length_cons, Nat.add_mul]
        omega
    obtain ⟨l, hl⟩ : ∃ l, l = members (F j) 1024 := ⟨_, rfl⟩
    have h1 : ∀ p ∈ l, p < 1024 := fun p hp => by rw [hl] at hp; exact (mem_members.1 hp).1
    have h2 := cnt_of hl
    rw [← hl, this l h1, h2, List.map_singleton, List.sum_singleton]

theorem sum_range_shift (h : Nat → Nat) (n : Nat) : ∀ m, (∀ k, k < n → h k = 0) → ((List.range (n + m)).map h).sum = ((List.range m).map fun i => h (n + i)).sum := by
  intro m
  induction m with
  | zero =>
    intro h0
    have : ∀ j, j ≤ n → ((List.range j).map h).sum = 0 := by
      intro j
      induction j with
      | zero => intro _; rfl
      | succ j ih => intro hj; rw [List.range_succ, List.map_append, List.sum_append, ih (by omega)]; simp [h0 j (by omega)]
    simpa using this n (Nat.le_refl _)
  | succ m ih =>
    intro h0
    rw [← Nat.add_assoc, List.range_succ, List.range_succ, List.map_append, List.map_append, List.sum_append, List.sum_append, ih h0]
    simp

theorem room_is {N : Nat} {Fr Gv : Nat → Nat → Bool} {L : List Blk} (h : Sem N Fr Gv (LG L)) (hS : St N L) (n : Nat) (hn : n ≤ 10) (hex : ∃ M : List PB, M.Perm (collB Fr 11) ∧ M.map toBlk = blocksB N L) : roomJ Fr n (N + 1 - n) = roomB n (blocksB N L) := by
  have hN := h.n10
  obtain ⟨M, hp, hm⟩ := hex
  unfold roomB
  rw [← hm, List.map_map, sum_perm hp]
  rw [coll_sum Fr _ (fun k => if n ≤ k then 2 ^ (k - n) else 0) (fun p k h1 h2 => by simp only [Function.comp, toBlk, mkB, Nat.mod_eq_of_lt h2]) 11 (Nat.le_refl _)]
  rw [show 11 = n + (11 - n) by omega, sum_range_shift _ n _ (fun k hk => by rw [if_neg (by omega), Nat.mul_zero]), roomJ_sum]
  have hz : ∀ k, N < k → k < 11 → cnt (Fr k) = 0 := by
    intro k h1 h2
    rw [← cnt_of (xs := members (Fr k) 1024) rfl, List.length_eq_zero_iff, List.eq_nil_iff_forall_not_mem]
    intro p hp
    obtain ⟨g1, g2⟩ := mem_members.1 hp
    have := ((mem_blocks hS _).1 ((sem_free h hS g1 h2).1 g2)).lt.2
    have : k ≤ N := this
    omega
  have key : ∀ m, N + 1 - n + m ≤ 11 - n → ((List.range (N + 1 - n + m)).map fun i => cnt (Fr (n + i)) * (if n ≤ n + i then 2 ^ (n + i - n) else 0)).sum = ((List.range (N + 1 - n)).map fun i => cnt (Fr (n + i)) * 2 ^ i).sum := by
    intro m
    induction m with
    | zero =>
      intro _
      congr 1
      refine List.map_congr_left fun i _ => ?_
      rw [if_pos (by omega), Nat.add_sub_cancel_left]
    | succ m ih =>
      intro hm2
      rw [← Nat.add_assoc, List.range_succ, List.map_append, List.sum_append, ih (by omega)]
      have : cnt (Fr (n + (N + 1 - n + m))) = 0 := hz _ (by omega) (by omega)
      simp [this]
  have := key (11 - n - (N + 1 - n)) (by omega)
  rw [show N + 1 - n + (11 - n - (N + 1 - n)) = 11 - n by omega] at this
  exact this.symm
end Bu
end Go.Proofs.Ytlknhbcambdccaa
