/- Drop of the specification. -/
import Derived.Test.YtdanhbbdkcbapaaRF
import Derived.Test.YtdanhbbdkcbapaaRI
namespace Go.Proofs.Ytdanhbbdkcbapaa
open Go.RowKit
namespace Bu

/-- What Drop returns. -/
def DropR (N : Nat) (A : Option Addr) (c : Nat) (L : List Blk) (x : Blk) (B : Nat) (e : Ending) (w' : World) : Prop :=
  (x ∈ L ∧ ∃ A' c', e = .returned (.tuple #[sv N A' (delB L x).length c', .int .i64 0]) ∧ Own w' B A' c' (delB L x)) ∨ (x ∉ L ∧ e = .returned (.tuple #[sv N A L.length c, .int .i64 9]))

set_option maxRecDepth 100000 in
set_option maxHeartbeats 2000000 in
theorem dropR_bad (w : World) (N : Nat) (A : Option Addr) (c n : Nat) (p k : Int) (hN : N ≤ 10) (hbad : inZ N p k = false) :
    Calls Try.prog 41 #[sv N A n c, .int .i64 p, .int .i64 k] w fun e w' => e = .returned (.tuple #[sv N A n c, .int .i64 7]) ∧ Below w.heap.size w w' := by
  have hIn := fun W => inR_ok N p k hN W
  rw [hbad] at hIn
  have HI := Lib.hid hIn
  clear hIn hbad
  go_enter Try.func41, Try.ntmps41
  go_wp2_with (go_at_call 17; refine (HI.out _).mono ?_; rintro e w' ⟨rfl, rfl⟩)
  refine bodyPost_ret (v := .tuple #[sv N A n c, .int .i64 7]) (by simp [results, Try.results41, go_sem]) rfl ⟨rfl, ?_⟩
  exact ((below_box w _).alloc (by simp) _)

set_option maxRecDepth 100000 in
set_option maxHeartbeats 8000000 in
theorem dropR_ok (w : World) (N : Nat) (A : Option Addr) (c : Nat) (L : List Blk) (x : Blk) (hN : N ≤ 10) (h : BlkAt w A c L) (hL : L.length ≤ 2048) (hin : InB N x) :
    Calls Try.prog 41 #[sv N A L.length c, .int .i64 (x.1 : Int), .int .i64 (x.2 : Int)] w fun e w' => DropR N A c L x w.heap.size e w' ∧ Below w.heap.size w w' := by
  obtain ⟨q, m⟩ := x
  obtain ⟨hlc, hcap⟩ := h.len
  unfold maxLen at hcap
  have hIn := fun W => inR_ok N (q : Int) (m : Int) hN W
  simp only [inZ_nat hN, decide_eq_true hin] at hIn
  have HI := Lib.hid hIn
  obtain ⟨R, hR⟩ : ∃ R, R = delB L (q, m) := ⟨_, rfl⟩
  have hst : R = [] ++ delB (L.drop 0) (q, m) := by rw [hR, List.drop_zero, List.nil_append]
  have HR := Lib.hid (And.intro hst hR)
  have hinfo := info_open block_info
  obtain ⟨i0, z0, hi0, hz0, hz1, hz2, hz3⟩ := hinfo
  have HL := Lib.hid h
  have heq := fun W x y z t => run_blk_eq W x y z t
  clear h hR hst hIn hin
  dsimp only
  go_enter Try.func41, Try.ntmps41
  go_wp2_with (go_at_call 17; refine (HI.out _).mono ?_; rintro e w' ⟨rfl, rfl⟩)
  generalize hS : w.heap.size + 1 + 1 = S
  generalize hW0 : ((w.alloc (.cells #[.int .i64 (N : Int), .slice A L.length c] 24)).alloc (.cells #[.int .i64 0, .slice none 0 0] 24)).alloc (.cells #[.int .i64 (N : Int), .slice none 0 0] 24) = W0
  have hs0 : W0.heap.size = w.heap.size + 3 := by rw [← hW0]; simp
  have g0 : W0.heap[w.heap.size]? = some (.cells #[.int .i64 (N : Int), .slice A L.length c] 24 (0, 0)) := by
    rw [← hW0, alloc_old _ _ _ (by simp <;> omega), alloc_old _ _ _ (by simp <;> omega), heapAlloc, if_pos rfl]
  have g2 : W0.heap[w.heap.size + 1]? = some (.cells #[.int .i64 0, .slice none 0 0] 24 (0, 0)) := by
    rw [← hW0, alloc_old _ _ _ (by simp <;> omega), heapAlloc, if_pos (by simp <;> omega)]
  have g3 : OutAt W0 S N none 0 [] := ⟨by rw [← hW0, ← hS, heapAlloc, if_pos (by simp)]; rfl, World.ownsRow_nil _ _ _ _⟩
  have hbw0 : Below w.heap.size w W0 := by
    rw [← hW0]; exact ((below_box w _).alloc (by simp) _).alloc (by simp; omega) _
  have HG := Lib.hid (And.intro g2 (And.intro hbw0 (And.intro hS hs0)))
  obtain ⟨s0, s1, _, _⟩ := two_cells g0
  have hSw : w.heap.size + 2 = S := by omega
  clear hW0 g0 g2 hbw0 hS hs0
  go_loopw [9, 10] (fun d i W => ∃ (k : Nat) (fd : Bool) (pre : List Blk) (A' : Option Addr) (c' : Nat), k ≤ L.length ∧ i = .int .i64 (k : Int) ∧ d = .bool fd ∧ OutAt W S N A' c' pre ∧ Below S W0 W ∧ R = pre ++ delB (L.drop k) (q, m) ∧ decide ((q, m) ∈ L) = (fd || decide ((q, m) ∈ L.drop k)) ∧ pre.length ≤ k) (fun _ i _ => L.length - (intOf i).toNat)
  case atStart => exact ⟨0, false, [], none, 0, Nat.zero_le _, rfl, rfl, g3, Below.refl _ _, HR.out.1, by simp, Nat.zero_le _⟩
  case round =>
    obtain ⟨W, rfl⟩ : ∃ W : World, W = wr := ⟨_, rfl⟩
    obtain ⟨k, fd, pre, A', c', hk, rfl, rfl, hout, hbw, hRR, hfd, hpl⟩ := hrel
    have hs1 := s1
    replace s0 := (hbw.cell (p := ⟨w.heap.size, 0, none⟩) (by show w.heap.size < S; omega)).trans s0
    replace s1 := (hbw.cell (p := ⟨w.heap.size, 1, none⟩) (by show w.heap.size < S; omega)).trans s1
    obtain ⟨_, o1, _, of1, hSW⟩ := hout.cells
    have hne := hout.ne
    by_cases hlt : k < L.length
    · obtain ⟨y, hy⟩ : ∃ y, L[k]? = some y := ⟨_, List.getElem?_eq_getElem hlt⟩
      obtain ⟨g, o, hA, hgw, d1, d2⟩ := HL.out.at hy
      have hd : L.drop k = y :: L.drop (k + 1) := by
        rw [List.drop_eq_getElem_cons hlt]
        congr 1
        rw [List.getElem?_eq_getElem hlt] at hy
        injection hy
      obtain ⟨p, n⟩ := y
      subst hA
      have hgS : g < S := by omega
      have hgW : g < W.heap.size := by omega
      have hsW : w.heap.size < W.heap.size := by omega
      have hblk : W.heap[g]? = w.heap[g]? := (hbw.block g hgS).trans (HG.out.2.1.block g hgw)
      replace d1 := (World.cell?_of_block (a := ⟨g, _, none⟩) hblk).trans d1
      replace d2 := (World.cell?_of_block (a := ⟨g, _, none⟩) hblk).trans d2
      have hkk : IntKind.i64.wrap ((k : Int) + 1) = ((k + 1 : Nat) : Int) := by rw [IntWalk.i64_in _ (by omega)]; rfl
      have e1 : (0 : Int) ≤ (k : Int) := by omega
      have e2 : (k : Int) < (L.length : Int) := by omega
      dsimp only at d1 d2
      by_cases hpq : p = q
      · by_cases hnm : n = m
        · have t1 : ((p : Int) == (q : Int)) = true := by simp [hpq]
          have t2 : ((n : Int) == (m : Int)) = true := by simp [hnm]
          have hres : delB (L.drop k) (q, m) = delB (L.drop (k + 1)) (q, m) := by rw [hd]; unfold delB; rw [List.filter_cons_of_neg (by simp [hpq, hnm])]
          rw [hres] at hRR
          have hfd2 : decide ((q, m) ∈ L) = true := by rw [hfd, hd]; simp [hpq, hnm]
          have HB := Lib.hid (And.intro hout (And.intro hbw (And.intro hRR hfd2)))
          clear hout hbw hRR hres hd hy hne hblk hfd hfd2 hs1 hpq hnm
          go_wp2_with (fail)
          go_roundw
          case rel => exact ⟨k + 1, true, pre, A', c', by omega, by go_num, rfl, HB.out.1, HB.out.2.1, HB.out.2.2.1, by rw [HB.out.2.2.2]; rfl, by omega⟩
          case measure => simp [intOf]; omega
        · have t1 : ((p : Int) == (q : Int)) = true := by simp [hpq]
          have t2 : ((n : Int) == (m : Int)) = false := by rw [beq_eq_false_iff_ne]; omega
          have hne2 : ((p, n) : Blk) ≠ (q, m) := fun e => by injection e with e1 e2; omega
          have hres : delB (L.drop k) (q, m) = (p, n) :: delB (L.drop (k + 1)) (q, m) := by rw [hd]; unfold delB; rw [List.filter_cons_of_pos (by simpa using hne2)]
          rw [hres] at hRR
          have hfd2 : (decide ((q, m) ∈ L)) = (fd || decide ((q, m) ∈ L.drop (k + 1))) := by rw [hfd, hd]; simp [Ne.symm hne2]
          have hpq2 := hnm
          have HB := Lib.hid (And.intro hbw (And.intro hRR (And.intro (Ne.symm hne2) hfd2)))
          have HOUT := Lib.hid hout
          have HNE := Lib.hid hne
          clear hout hbw hRR hres hd hy hne hblk hfd hfd2 hne2 hpq hpq2 hnm hs1
          go_wp2_with (fail)
          have s5 : (W.alloc (.cells #[.int .i64 (p : Int), .int .i64 (n : Int)] 39)).drew.cell? ⟨S, 1, none⟩ = some (.slice A' pre.length c') ∧ (W.alloc (.cells #[.int .i64 (p : Int), .int .i64 (n : Int)] 39)).drew.frozen? ⟨S, 1, none⟩ = false ∧ (W.alloc (.cells #[.int .i64 (p : Int), .int .i64 (n : Int)] 39)).drew.cell? ⟨w.heap.size, 1, none⟩ = some (.slice (some ⟨g, o, none⟩) L.length c) ∧ (W.alloc (.cells #[.int .i64 (p : Int), .int .i64 (n : Int)] 39)).drew.cell? ⟨g, o + k * 2, none⟩ = some (.int .i64 (p : Int)) ∧ (W.alloc (.cells #[.int .i64 (p : Int), .int .i64 (n : Int)] 39)).drew.cell? ⟨g, o + k * 2 + 1, none⟩ = some (.int .i64 (n : Int)) :=
            ⟨(World.cell?_alloc_lt W _ _ hSW).trans o1, (World.frozen?_alloc_old W _ _ (Nat.ne_of_lt hSW)).trans of1, (World.cell?_alloc_lt W _ _ hsW).trans s1, (World.cell?_alloc_lt W _ _ hgW).trans d1, (World.cell?_alloc_lt W _ _ hgW).trans d2⟩
          have hsd : (W.alloc (.cells #[.int .i64 (p : Int), .int .i64 (n : Int)] 39)).drew.heap.size = W.heap.size + 1 := by show (W.alloc _).heap.size = _; simp
          obtain ⟨r0, r1, r2, r3, r4⟩ := s5
          have HNW := Lib.hid (show ∀ j u, [Value.int .i64 (p : Int), .int .i64 (n : Int)][j]? = some u → (W.alloc (.cells #[.int .i64 (p : Int), .int .i64 (n : Int)] 39)).drew.cell? ((⟨W.heap.size, 0, none⟩ : Addr).add j) = some u from fun j u hu => two_new W _ _ _ j u hu)
          have HSD := Lib.hid hsd
          clear hsd
          go_region_law ((refine step_append_lies _ (by rfl) (.tmp 38) (.tmp 44) _ (by rfl) (S + 1) 39 i0 z0 2 16 Try.underlying22 hi0 hz0 hz1 hz2 hz3 (by omega) (.slice A' pre.length c') pre.length (cellsL pre) (by rfl) (HOUT.out.row1 _) ⟨W.heap.size, 0, none⟩ 1 1 [.int .i64 (p : Int), .int .i64 (n : Int)] (by rfl) (by rfl) HNW.out (by simp [Value.oneCell']) (by omega) (by unfold maxLen; omega) (by omega) (by rw [HSD.out]; omega) (W.heap.size + 1) HSD.out ?_; intro g6 cap6 w6 hown6 hgrow6 hat6 hlt6; have u0 : w6.cell? ⟨S, 1, none⟩ = some (.slice A' pre.length c') := (hgrow6.cell_far ⟨_, _, none⟩ (by rw [HSD.out]; exact Nat.lt_succ_of_lt hSW) HNE.out).trans r0; have u1 : w6.frozen? ⟨S, 1, none⟩ = false := (hgrow6.frozen_far ⟨_, _, none⟩ (by rw [HSD.out]; exact Nat.lt_succ_of_lt hSW) HNE.out).trans r1; have H6 := Lib.hid (And.intro hown6 hgrow6); clear hown6 hgrow6 hat6 hlt6))
          all_goals
            obtain ⟨A2, c2, hv2, ho2, hb2⟩ := out_push (w := W) (x := (p, n)) (ob := .cells #[.int .i64 (p : Int), .int .i64 (n : Int)] 39) HOUT.out H6.out.1 ⟨H6.out.2.os, H6.out.2.tape, H6.out.2.output, H6.out.2.size, H6.out.2.block⟩
            have H7 := Lib.hid (And.intro ho2 hb2)
            clear ho2 hb2
            injection hv2 with hv3 hv4 hv5
            subst hv3; subst hv5
            go_wp2_with (fail)
            go_roundw
            case rel =>
              refine ⟨k + 1, fd, pre ++ [(p, n)], _, _, by omega, by go_num, rfl, H7.out.1.keep fun _ _ _ => rfl, ?_, by rw [HB.out.2.1]; simp, by rw [HB.out.2.2.2], by rw [List.length_append, List.length_singleton]; omega⟩
              have := H7.out.2 S W0 (Nat.le_refl _) HB.out.1
              first | exact this | exact this.drew
            case measure => simp [intOf]; omega

      · have t1 : ((p : Int) == (q : Int)) = false := by rw [beq_eq_false_iff_ne]; omega
        have hne2 : ((p, n) : Blk) ≠ (q, m) := fun e => by injection e with e1 e2; omega
        have hres : delB (L.drop k) (q, m) = (p, n) :: delB (L.drop (k + 1)) (q, m) := by rw [hd]; unfold delB; rw [List.filter_cons_of_pos (by simpa using hne2)]
        rw [hres] at hRR
        have hfd2 : (decide ((q, m) ∈ L)) = (fd || decide ((q, m) ∈ L.drop (k + 1))) := by rw [hfd, hd]; simp [Ne.symm hne2]
        have HB := Lib.hid (And.intro hbw (And.intro hRR (And.intro (Ne.symm hne2) hfd2)))
        have HOUT := Lib.hid hout
        have HNE := Lib.hid hne
        clear hout hbw hRR hres hd hy hne hblk hfd hfd2 hne2 hpq hs1
        go_wp2_with (fail)
        have s5 : (W.alloc (.cells #[.int .i64 (p : Int), .int .i64 (n : Int)] 39)).drew.cell? ⟨S, 1, none⟩ = some (.slice A' pre.length c') ∧ (W.alloc (.cells #[.int .i64 (p : Int), .int .i64 (n : Int)] 39)).drew.frozen? ⟨S, 1, none⟩ = false ∧ (W.alloc (.cells #[.int .i64 (p : Int), .int .i64 (n : Int)] 39)).drew.cell? ⟨w.heap.size, 1, none⟩ = some (.slice (some ⟨g, o, none⟩) L.length c) ∧ (W.alloc (.cells #[.int .i64 (p : Int), .int .i64 (n : Int)] 39)).drew.cell? ⟨g, o + k * 2, none⟩ = some (.int .i64 (p : Int)) ∧ (W.alloc (.cells #[.int .i64 (p : Int), .int .i64 (n : Int)] 39)).drew.cell? ⟨g, o + k * 2 + 1, none⟩ = some (.int .i64 (n : Int)) :=
          ⟨(World.cell?_alloc_lt W _ _ hSW).trans o1, (World.frozen?_alloc_old W _ _ (Nat.ne_of_lt hSW)).trans of1, (World.cell?_alloc_lt W _ _ hsW).trans s1, (World.cell?_alloc_lt W _ _ hgW).trans d1, (World.cell?_alloc_lt W _ _ hgW).trans d2⟩
        have hsd : (W.alloc (.cells #[.int .i64 (p : Int), .int .i64 (n : Int)] 39)).drew.heap.size = W.heap.size + 1 := by show (W.alloc _).heap.size = _; simp
        obtain ⟨r0, r1, r2, r3, r4⟩ := s5
        have HNW := Lib.hid (show ∀ j u, [Value.int .i64 (p : Int), .int .i64 (n : Int)][j]? = some u → (W.alloc (.cells #[.int .i64 (p : Int), .int .i64 (n : Int)] 39)).drew.cell? ((⟨W.heap.size, 0, none⟩ : Addr).add j) = some u from fun j u hu => two_new W _ _ _ j u hu)
        have HSD := Lib.hid hsd
        clear hsd
        go_region_law ((refine step_append_lies _ (by rfl) (.tmp 38) (.tmp 44) _ (by rfl) (S + 1) 39 i0 z0 2 16 Try.underlying22 hi0 hz0 hz1 hz2 hz3 (by omega) (.slice A' pre.length c') pre.length (cellsL pre) (by rfl) (HOUT.out.row1 _) ⟨W.heap.size, 0, none⟩ 1 1 [.int .i64 (p : Int), .int .i64 (n : Int)] (by rfl) (by rfl) HNW.out (by simp [Value.oneCell']) (by omega) (by unfold maxLen; omega) (by omega) (by rw [HSD.out]; omega) (W.heap.size + 1) HSD.out ?_; intro g6 cap6 w6 hown6 hgrow6 hat6 hlt6; have u0 : w6.cell? ⟨S, 1, none⟩ = some (.slice A' pre.length c') := (hgrow6.cell_far ⟨_, _, none⟩ (by rw [HSD.out]; exact Nat.lt_succ_of_lt hSW) HNE.out).trans r0; have u1 : w6.frozen? ⟨S, 1, none⟩ = false := (hgrow6.frozen_far ⟨_, _, none⟩ (by rw [HSD.out]; exact Nat.lt_succ_of_lt hSW) HNE.out).trans r1; have H6 := Lib.hid (And.intro hown6 hgrow6); clear hown6 hgrow6 hat6 hlt6))
        all_goals
          obtain ⟨A2, c2, hv2, ho2, hb2⟩ := out_push (w := W) (x := (p, n)) (ob := .cells #[.int .i64 (p : Int), .int .i64 (n : Int)] 39) HOUT.out H6.out.1 ⟨H6.out.2.os, H6.out.2.tape, H6.out.2.output, H6.out.2.size, H6.out.2.block⟩
          have H7 := Lib.hid (And.intro ho2 hb2)
          clear ho2 hb2
          injection hv2 with hv3 hv4 hv5
          subst hv3; subst hv5
          go_wp2_with (fail)
          go_roundw
          case rel =>
            refine ⟨k + 1, fd, pre ++ [(p, n)], _, _, by omega, by go_num, rfl, H7.out.1.keep fun _ _ _ => rfl, ?_, by rw [HB.out.2.1]; simp, by rw [HB.out.2.2.2], by rw [List.length_append, List.length_singleton]; omega⟩
            have := H7.out.2 S W0 (Nat.le_refl _) HB.out.1
            first | exact this | exact this.drew
          case measure => simp [intOf]; omega

    · obtain rfl : k = L.length := by omega
      have hdl : L.drop L.length = [] := List.drop_length
      rw [hdl] at hRR hfd
      have hRR2 : R = pre := hRR.trans (by show pre ++ [] = pre; simp)
      cases fd with
      | true =>
        have hmem : (q, m) ∈ L := by simpa using hfd
        have HB := Lib.hid (And.intro hout (And.intro hbw (And.intro (HR.out.2.symm.trans hRR2) hmem)))
        clear hout hbw hRR hRR2 hpl hne hfd hdl hmem
        have hres0 := (HB.out.2.1.block (w.heap.size + 1) (by omega)).trans HG.out.1
        obtain ⟨q2, q3, q0, q1⟩ := two_cells hres0
        have o0 := HB.out.1.cells.1
        have H9 := Lib.hid (two_set hres0 (.int .i64 (N : Int)) (.slice A' pre.length c'))
        clear hres0
        go_wp2_with (fail)
        obtain ⟨q4, q5, _, _⟩ := two_cells H9.out
        refine bodyPost_ret (v := .tuple #[sv N A' pre.length c', .int .i64 0]) (by simp [results, Try.results41, go_sem, q4, q5]) rfl ⟨?_, ?_⟩
        · refine .inl ⟨HB.out.2.2.2, A', c', by rw [HB.out.2.2.1], ?_⟩
          rw [HB.out.2.2.1]
          exact row_low (row_keep HB.out.1.row fun b hb _ => (setCell_far _ _ _ _ (by show b ≠ w.heap.size + 1; omega)).trans (setCell_far _ _ _ _ (by show b ≠ w.heap.size + 1; omega))) (by omega)
        · exact (((HG.out.2.1.trans (HB.out.2.1.mono (by omega))).setCell (p := ⟨w.heap.size + 1, 0, none⟩) (by show w.heap.size ≤ w.heap.size + 1; omega) _).setCell (p := ⟨w.heap.size + 1, 1, none⟩) (by show w.heap.size ≤ w.heap.size + 1; omega) _)
      | false =>
        have hmem : (q, m) ∉ L := by simpa using hfd
        have HB := Lib.hid (And.intro hbw hmem)
        have hres0 := (HB.out.1.block (w.heap.size + 1) (by omega)).trans HG.out.1
        obtain ⟨q2, q3, q0, q1⟩ := two_cells hres0
        have H9 := Lib.hid (two_set hres0 (.int .i64 (N : Int)) (.slice A L.length c))
        clear hout hbw hRR hRR2 hpl hne hfd hdl hmem hres0
        go_wp2_with (fail)
        obtain ⟨q4, q5, _, _⟩ := two_cells H9.out
        refine bodyPost_ret (v := .tuple #[sv N A L.length c, .int .i64 9]) (by simp [results, Try.results41, go_sem, q4, q5]) rfl ⟨.inr ⟨HB.out.2, rfl⟩, ?_⟩
        exact (((HG.out.2.1.trans (HB.out.1.mono (by omega))).setCell (p := ⟨w.heap.size + 1, 0, none⟩) (by show w.heap.size ≤ w.heap.size + 1; omega) _).setCell (p := ⟨w.heap.size + 1, 1, none⟩) (by show w.heap.size ≤ w.heap.size + 1; omega) _)
end Bu
end Go.Proofs.Ytdanhbbdkcbapaa
