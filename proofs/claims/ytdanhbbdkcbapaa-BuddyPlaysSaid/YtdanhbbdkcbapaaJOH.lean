/- The walk of BuddyExactly. -/
import Derived.Test.YtdanhbbdkcbapaaJOG
import Derived.Test.YtdanhbbdkcbapaaK17
import Derived.Deep.QuietTactic
import Derived.BigQuiet
namespace Go.Proofs.Ytdanhbbdkcbapaa
open Go.RowKit
namespace Bu

theorem cell_grow {b : Nat} {w1 w2 : World} (hg : Grow1 b w1 w2) {g o : Nat} {v : Value} (hne : g ≠ b) (h : w1.cell? ⟨g, o, none⟩ = some v) : w2.cell? ⟨g, o, none⟩ = some v :=
  (World.cell?_of_block (a := ⟨g, o, none⟩) (hg.block g (World.block_lt_of_cell? w1 _ h) hne)).trans h
theorem BlkAt.grow {w w' : World} {b c : Nat} {A : Option Addr} {L : List Blk} (h : BlkAt w A c L) (hg : Grow1 b w w') (hne : A.map (·.block) ≠ some b) : BlkAt w' A c L :=
  h.keep hg.size fun g e hlt => hg.block g hlt fun e2 => hne (by rw [e, e2])

set_option maxRecDepth 100000 in
set_option maxHeartbeats 8000000 in
theorem exactly_none (w : World) (N : Nat) (A : Option Addr) (c : Nat) (L : List Blk) (n : Nat) (h : BlkAt w A c L) (hS : St N L) (hn : n ≤ 10) (ha : allocB N L n = none) :
    Calls Try.prog 3 #[sv N A L.length c, .int .i64 (n : Int)] w fun e w' => e = .returned (.bool true) ∧ Below w.heap.size w w' := by
  obtain ⟨T, hT, hT0⟩ : ∃ T : Nat, (n ≤ N → T = 2 ^ (N - n)) ∧ (N < n → T = 0) := by
    by_cases e : n ≤ N
    · exact ⟨_, fun _ => rfl, fun h => by omega⟩
    · exact ⟨0, fun h => absurd h e, fun _ => rfl⟩
  have hsT : someB L n T = false := by
    by_cases e : n ≤ N
    · rw [hT e]; exact some_no hS e ha
    · rw [hT0 (by omega)]; rfl
  have hg1 := blk_new w (.int .i64 (N : Int)) (.slice A L.length c) 24
  have hb0 := below_box w (.cells #[.int .i64 (N : Int), .slice A L.length c] 24)
  obtain ⟨W1, hW1⟩ : ∃ W1, W1 = w.alloc (.cells #[.int .i64 (N : Int), .slice A L.length c] 24) := ⟨_, rfl⟩
  rw [← hW1] at hg1 hb0
  have hs1 : W1.heap.size = w.heap.size + 1 := by rw [hW1]; simp
  obtain ⟨b1, b2, _, _⟩ := two_cells hg1
  have hC := check_ok W1 N A c (L.map zb) (h.below hb0)
  rw [check_of hS, List.length_map] at hC
  have HC := Lib.hid hC
  have HX := Lib.hid (And.intro h (And.intro hb0 (And.intro hs1 (And.intro hS ha))))
  have HW := Lib.hid hW1
  have hN := hS.n10
  have hsm := st_le hS
  have hbln := blocks_len hS
  clear h hb0 hs1 hg1 hW1 hC hS ha
  have t1 : ¬ (n : Int) < 0 := by omega
  have t2 : ¬ (n : Int) > 10 := by omega
  go_enter Try.func3, Try.ntmps3
  go_wp2_with (fail)
  rw [← HW.out]
  go_wp2_with (go_at_call 10; refine HC.out.mono ?_; rintro e w2 ⟨rfl, hb⟩; have c1 := cell_keep2 hb b1; have c2 := cell_keep2 hb b2; have H2 := Lib.hid (And.intro hb.size (below_step HX.out.2.1 hb (Nat.le_refl _))); clear hb)
  refine (load_st (HX.out.1.below H2.out.2) HX.out.2.2.2.1).mono ?_
  rintro e w3 ⟨b, rfl, hB, hbw, hb3⟩
  have hbne : w.heap.size ≠ b := by have := H2.out.1; have := HX.out.2.2.1; omega
  have d1 := cell_keep2 hb3 c1
  have d2 := cell_keep2 hb3 c2
  have H3 := Lib.hid (And.intro hB (And.intro (below_step H2.out.2 hb3 (Nat.le_refl _)) (show w.heap.size ≤ b by have := H2.out.1; have := HX.out.2.2.1; omega)))
  clear hB hbw hb3
  obtain ⟨B, hBl⟩ : ∃ B, B = blocksB N L := ⟨_, rfl⟩
  have hbk := blocks_ok w3 b N L H3.out.1
  rw [← hBl] at hbk hbln
  have HBk := Lib.hid (And.intro hBl hbk)
  clear hBl hbk
  go_wp2_with (go_at_call 13; refine HBk.out.2.mono ?_; rintro e w4 ⟨⟨A', c', rfl, ho⟩, hb4⟩; have e1 := cell_keep2 hb4 d1; have e2 := cell_keep2 hb4 d2; have H4 := Lib.hid (And.intro (H3.out.1.keep (hb4.block _ H3.out.1.lt)) (And.intro (below_step H3.out.2.1 hb4 (Nat.le_refl _)) ho.at)); clear ho hb4)
  have hne4 : A'.map (·.block) ≠ some b := fun he => by have := (H4.out.2.2.2 b he).1; have := H3.out.1.lt; omega
  go_wp2_with (go_at_call 14; refine (al_none H4.out.1 hn HX.out.2.2.2.2).mono ?_; rintro e w5 ⟨rfl, hB5, hg⟩; have f1 := cell_grow hg hbne e1; have f2 := cell_grow hg hbne e2; have H5 := Lib.hid (And.intro (grow_step H4.out.2.1 hg H3.out.2.2 H4.out.1.lt) (H4.out.2.2.1.grow hg hne4)); clear hB5 hg)
  obtain ⟨m, hm⟩ : ∃ m : Nat, m = 2 ^ n := ⟨_, rfl⟩
  obtain ⟨S, hSz⟩ : ∃ S : Nat, S = 2 ^ N := ⟨_, rfl⟩
  have hmS : n ≤ N → T * m = S := fun h => by rw [hm, hSz, hT h, ← Nat.pow_add, Nat.sub_add_cancel h]
  have hm0 : 0 < m := by rw [hm]; exact pow_pos2 n
  have hm1 : m ≤ 1024 := by rw [hm]; exact two_le hn
  have hS1 : S ≤ 1024 := by rw [hSz]; exact two_le hN
  have hZn : ∀ W, Calls Try.prog 15 #[.int .i64 (n : Int)] W fun e w' => e = .returned (.int .i64 (m : Int)) ∧ W = w' := fun W => by rw [hm]; exact size_ok n W (by omega)
  have hZN : ∀ W, Calls Try.prog 15 #[.int .i64 (N : Int)] W fun e w' => e = .returned (.int .i64 (S : Int)) ∧ W = w' := fun W => by rw [hSz]; exact size_ok N W (by omega)
  have HZn := Lib.hid hZn
  have HZN := Lib.hid hZN
  have HM := Lib.hid (And.intro hm hsm)
  have HmS := Lib.hid hmS
  have HT0 := Lib.hid hT0
  clear hZn hZN hSz hsm hm hmS hT hT0
  go_loopw [10, 11] (fun s q wr => ∃ (k qn : Nat), k ≤ T ∧ s = .bool (someB L n k) ∧ q = .int .i64 (qn : Int) ∧ qn = k * m ∧ Below w5.heap.size w5 wr) (fun _ q _ => T * m - (intOf q).toNat)
  case atStart => exact ⟨0, 0, Nat.zero_le _, by rw [someB_zero], rfl, by omega, Below.refl _ _⟩
  case round =>
    obtain ⟨k, qn, hk, rfl, rfl, hq, hbw⟩ := hrel
    have g1 := cell_keep2 hbw f1
    have g2 := cell_keep2 hbw f2
    by_cases hlt : k < T
    · have hnN : n ≤ N := Nat.le_of_not_lt fun h => by have := HT0.out h; omega
      have hTm := HmS.out hnN
      have hk1 : (k + 1) * m ≤ T * m := Nat.mul_le_mul_right _ hlt
      have hk2 : (k + 1) * m = qn + m := by rw [hq, Nat.add_mul, Nat.one_mul]
      have t3 : (n : Int) ≤ (N : Int) := by omega
      have t4 : (qn : Int) < (S : Int) := by omega
      have hkk : IntKind.i64.wrap ((qn : Int) + (m : Int)) = ((qn + m : Nat) : Int) := by rw [IntWalk.i64_in _ (by omega)]; rfl
      have hss := someB_succ L n k
      rw [← HM.out.1, ← hq] at hss
      have hbl2 : BlkAt wr A c L := HX.out.1.below (below_step H5.out.1 hbw (Nat.le_refl _))
      have hF := freeR_ok wr N A c L qn n hbl2 HM.out.2 hn (by rw [← HM.out.1]; omega)
      have HF := Lib.hid hF
      have HR := Lib.hid (And.intro hss (And.intro hbw (And.intro hk2 hk1)))
      obtain ⟨sb, hsb⟩ : ∃ sb, sb = someB L n k := ⟨_, rfl⟩
      rw [← hsb] at HR ⊢
      have hmes : T * m - (qn + m) < T * m - qn := by omega
      clear hss hbw hbl2 hF hk2 hk1 hq hsb hTm
      cases sb with
      | true =>
        go_wp2_with (first | (go_at_call 15; refine (HZN.out _).mono ?_; rintro e w' ⟨rfl, rfl⟩) | (go_at_call 15; refine (HZn.out _).mono ?_; rintro e w' ⟨rfl, rfl⟩))
        go_roundw
        case rel => exact ⟨k + 1, qn + m, by omega, by rw [HR.out.1]; rfl, by go_num, HR.out.2.2.1.symm, HR.out.2.1⟩
        case measure => simp [intOf]; omega
      | false =>
        go_wp2_with (first | (go_at_call 15; refine (HZN.out _).mono ?_; rintro e w' ⟨rfl, rfl⟩) | (go_at_call 15; refine (HZn.out _).mono ?_; rintro e w' ⟨rfl, rfl⟩) | (go_at_call 16; refine HF.out.mono ?_; rintro e wq ⟨rfl, hb⟩; have H6 := Lib.hid (below_step HR.out.2.1 hb (Nat.le_refl _)); clear hb))
        go_roundw
        case rel => exact ⟨k + 1, qn + m, by omega, by rw [HR.out.1]; rfl, by go_num, HR.out.2.2.1.symm, H6.out⟩
        case measure => simp [intOf]; omega
    · obtain rfl : k = T := by omega
      rw [hsT]
      have HB := Lib.hid (below_step H5.out.1 hbw (Nat.le_refl _))
      clear hbw
      by_cases hnN : n ≤ N
      · have t3 : (n : Int) ≤ (N : Int) := by omega
        have t4 : ¬ (qn : Int) < (S : Int) := by have := HmS.out hnN; omega
        clear hq
        go_wp2_with (first | (go_at_call 15; refine (HZN.out _).mono ?_; rintro e w' ⟨rfl, rfl⟩) | (go_at_call 11; refine (shown_ok _).mono ?_; rintro e w7 ⟨rfl, hb⟩; have H7 := Lib.hid (below_step HB.out hb (Nat.le_refl _)); clear hb))
        go_ret
        exact ⟨rfl, H7.out⟩
      · have t3 : ¬ (n : Int) ≤ (N : Int) := by omega
        clear hq
        go_wp2_with (go_at_call 11; refine (shown_ok _).mono ?_; rintro e w7 ⟨rfl, hb⟩; have H7 := Lib.hid (below_step HB.out hb (Nat.le_refl _)); clear hb)
        go_ret
        exact ⟨rfl, H7.out⟩

set_option maxRecDepth 100000 in
set_option maxHeartbeats 8000000 in
theorem exactly_some (w : World) (N : Nat) (A : Option Addr) (c : Nat) (L : List Blk) (n p : Nat) (L' : List Blk) (h : BlkAt w A c L) (hS : St N L) (hn : n ≤ 10) (ha : allocB N L n = some (p, L')) :
    Calls Try.prog 3 #[sv N A L.length c, .int .i64 (n : Int)] w fun e w' => e = .returned (.bool true) ∧ Below w.heap.size w w' := by
  obtain ⟨j, kx, hj, hnk, hinb, hfree, hnN, hsT, huniq, hmin⟩ := alloc_found hS ha
  obtain ⟨T, hTT⟩ : ∃ T : Nat, T = 2 ^ (N - n) := ⟨_, rfl⟩
  have hT : n ≤ N → T = 2 ^ (N - n) := fun _ => hTT
  have hT0 : N < n → T = 0 := fun h => by omega
  rw [← hTT] at hsT
  have HP0 := Lib.hid (And.intro hinb (And.intro hfree (And.intro hj (And.intro huniq hmin))))
  clear hTT hinb hfree hj huniq hmin
  have hg1 := blk_new w (.int .i64 (N : Int)) (.slice A L.length c) 24
  have hb0 := below_box w (.cells #[.int .i64 (N : Int), .slice A L.length c] 24)
  obtain ⟨W1, hW1⟩ : ∃ W1, W1 = w.alloc (.cells #[.int .i64 (N : Int), .slice A L.length c] 24) := ⟨_, rfl⟩
  rw [← hW1] at hg1 hb0
  have hs1 : W1.heap.size = w.heap.size + 1 := by rw [hW1]; simp
  obtain ⟨b1, b2, _, _⟩ := two_cells hg1
  have hC := check_ok W1 N A c (L.map zb) (h.below hb0)
  rw [check_of hS, List.length_map] at hC
  have HC := Lib.hid hC
  have HX := Lib.hid (And.intro h (And.intro hb0 (And.intro hs1 (And.intro hS ha))))
  have HW := Lib.hid hW1
  have hN := hS.n10
  have hsm := st_le hS
  have hbln := blocks_len hS
  clear h hb0 hs1 hg1 hW1 hC hS ha
  have t1 : ¬ (n : Int) < 0 := by omega
  have t2 : ¬ (n : Int) > 10 := by omega
  go_enter Try.func3, Try.ntmps3
  go_wp2_with (fail)
  rw [← HW.out]
  go_wp2_with (go_at_call 10; refine HC.out.mono ?_; rintro e w2 ⟨rfl, hb⟩; have c1 := cell_keep2 hb b1; have c2 := cell_keep2 hb b2; have H2 := Lib.hid (And.intro hb.size (below_step HX.out.2.1 hb (Nat.le_refl _))); clear hb)
  refine (load_st (HX.out.1.below H2.out.2) HX.out.2.2.2.1).mono ?_
  rintro e w3 ⟨b, rfl, hB, hbw, hb3⟩
  have hbne : w.heap.size ≠ b := by have := H2.out.1; have := HX.out.2.2.1; omega
  have d1 := cell_keep2 hb3 c1
  have d2 := cell_keep2 hb3 c2
  have H3 := Lib.hid (And.intro hB (And.intro (below_step H2.out.2 hb3 (Nat.le_refl _)) (show w.heap.size ≤ b by have := H2.out.1; have := HX.out.2.2.1; omega)))
  clear hB hbw hb3
  obtain ⟨B, hBl⟩ : ∃ B, B = blocksB N L := ⟨_, rfl⟩
  have hbk := blocks_ok w3 b N L H3.out.1
  rw [← hBl] at hbk hbln
  have HBk := Lib.hid (And.intro hBl hbk)
  clear hBl hbk
  go_wp2_with (go_at_call 13; refine HBk.out.2.mono ?_; rintro e w4 ⟨⟨A', c', rfl, ho⟩, hb4⟩; have e1 := cell_keep2 hb4 d1; have e2 := cell_keep2 hb4 d2; have H4 := Lib.hid (And.intro (H3.out.1.keep (hb4.block _ H3.out.1.lt)) (And.intro (below_step H3.out.2.1 hb4 (Nat.le_refl _)) ho.at)); clear ho hb4)
  have hne4 : A'.map (·.block) ≠ some b := fun he => by have := (H4.out.2.2.2 b he).1; have := H3.out.1.lt; omega
  go_wp2_with (go_at_call 14; refine (al_some H4.out.1 hn HX.out.2.2.2.2).mono ?_; rintro e w5 ⟨rfl, hB5, hg⟩; have f1 := cell_grow hg hbne e1; have f2 := cell_grow hg hbne e2; have H5 := Lib.hid (And.intro (grow_step H4.out.2.1 hg H3.out.2.2 H4.out.1.lt) (H4.out.2.2.1.grow hg hne4)); clear hB5 hg)
  obtain ⟨m, hm⟩ : ∃ m : Nat, m = 2 ^ n := ⟨_, rfl⟩
  obtain ⟨S, hSz⟩ : ∃ S : Nat, S = 2 ^ N := ⟨_, rfl⟩
  have hmS : n ≤ N → T * m = S := fun h => by rw [hm, hSz, hT h, ← Nat.pow_add, Nat.sub_add_cancel h]
  have hm0 : 0 < m := by rw [hm]; exact pow_pos2 n
  have hm1 : m ≤ 1024 := by rw [hm]; exact two_le hn
  have hS1 : S ≤ 1024 := by rw [hSz]; exact two_le hN
  have hZn : ∀ W, Calls Try.prog 15 #[.int .i64 (n : Int)] W fun e w' => e = .returned (.int .i64 (m : Int)) ∧ W = w' := fun W => by rw [hm]; exact size_ok n W (by omega)
  have hZN : ∀ W, Calls Try.prog 15 #[.int .i64 (N : Int)] W fun e w' => e = .returned (.int .i64 (S : Int)) ∧ W = w' := fun W => by rw [hSz]; exact size_ok N W (by omega)
  have HZn := Lib.hid hZn
  have HZN := Lib.hid hZN
  have HM := Lib.hid (And.intro hm hsm)
  have HmS := Lib.hid hmS
  have HT0 := Lib.hid hT0
  clear hZn hZN hSz hsm hm hmS hT hT0
  go_loopw [10, 11] (fun s q wr => ∃ (k qn : Nat), k ≤ T ∧ s = .bool (someB L n k) ∧ q = .int .i64 (qn : Int) ∧ qn = k * m ∧ Below w5.heap.size w5 wr) (fun _ q _ => T * m - (intOf q).toNat)
  case atStart => exact ⟨0, 0, Nat.zero_le _, by rw [someB_zero], rfl, by omega, Below.refl _ _⟩
  case round =>
    obtain ⟨k, qn, hk, rfl, rfl, hq, hbw⟩ := hrel
    have g1 := cell_keep2 hbw f1
    have g2 := cell_keep2 hbw f2
    by_cases hlt : k < T
    · have hnN : n ≤ N := Nat.le_of_not_lt fun h => by have := HT0.out h; omega
      have hTm := HmS.out hnN
      have hk1 : (k + 1) * m ≤ T * m := Nat.mul_le_mul_right _ hlt
      have hk2 : (k + 1) * m = qn + m := by rw [hq, Nat.add_mul, Nat.one_mul]
      have t3 : (n : Int) ≤ (N : Int) := by omega
      have t4 : (qn : Int) < (S : Int) := by omega
      have hkk : IntKind.i64.wrap ((qn : Int) + (m : Int)) = ((qn + m : Nat) : Int) := by rw [IntWalk.i64_in _ (by omega)]; rfl
      have hss := someB_succ L n k
      rw [← HM.out.1, ← hq] at hss
      have hbl2 : BlkAt wr A c L := HX.out.1.below (below_step H5.out.1 hbw (Nat.le_refl _))
      have hF := freeR_ok wr N A c L qn n hbl2 HM.out.2 hn (by rw [← HM.out.1]; omega)
      have HF := Lib.hid hF
      have HR := Lib.hid (And.intro hss (And.intro hbw (And.intro hk2 hk1)))
      obtain ⟨sb, hsb⟩ : ∃ sb, sb = someB L n k := ⟨_, rfl⟩
      rw [← hsb] at HR ⊢
      have hmes : T * m - (qn + m) < T * m - qn := by omega
      clear hss hbw hbl2 hF hk2 hk1 hq hsb hTm
      cases sb with
      | true =>
        go_wp2_with (first | (go_at_call 15; refine (HZN.out _).mono ?_; rintro e w' ⟨rfl, rfl⟩) | (go_at_call 15; refine (HZn.out _).mono ?_; rintro e w' ⟨rfl, rfl⟩))
        go_roundw
        case rel => exact ⟨k + 1, qn + m, by omega, by rw [HR.out.1]; rfl, by go_num, HR.out.2.2.1.symm, HR.out.2.1⟩
        case measure => simp [intOf]; omega
      | false =>
        go_wp2_with (first | (go_at_call 15; refine (HZN.out _).mono ?_; rintro e w' ⟨rfl, rfl⟩) | (go_at_call 15; refine (HZn.out _).mono ?_; rintro e w' ⟨rfl, rfl⟩) | (go_at_call 16; refine HF.out.mono ?_; rintro e wq ⟨rfl, hb⟩; have H6 := Lib.hid (below_step HR.out.2.1 hb (Nat.le_refl _)); clear hb))
        go_roundw
        case rel => exact ⟨k + 1, qn + m, by omega, by rw [HR.out.1]; rfl, by go_num, HR.out.2.2.1.symm, H6.out⟩
        case measure => simp [intOf]; omega
    · obtain rfl : k = T := by omega
      rw [hsT]
      have hP0 := HP0.out
      rw [← HBk.out.1] at hP0
      obtain ⟨hinb, hfree, hj, huniq, hmin⟩ := hP0
      have hBat : BlkAt wr A' c' B := H5.out.2.below hbw
      have hbl2 : BlkAt wr A c L := HX.out.1.below (below_step H5.out.1 hbw (Nat.le_refl _))
      have hIn : Calls Try.prog 17 #[.int .i64 (N : Int), .int .i64 (p : Int), .int .i64 (n : Int)] wr fun e w' => e = .returned (.bool true) ∧ wr = w' := by
        have := inR_nat N p n hN hnN wr
        rw [decide_eq_true hinb] at this
        exact this
      have hF : Calls Try.prog 16 #[sv N A L.length c, .int .i64 (p : Int), .int .i64 (n : Int)] wr fun e w' => e = .returned (.bool true) ∧ Below wr.heap.size wr w' := by
        have := freeR_ok wr N A c L p n hbl2 HM.out.2 hn (by have := hinb.2.2; have := two_le hN; show p + 2 ^ n ≤ 2048; have h2 : p + 2 ^ n ≤ 2 ^ N := hinb.2.2; omega)
        rw [hfree] at this
        exact this
      have HIn := Lib.hid hIn
      have HF := Lib.hid hF
      have HB := Lib.hid (And.intro (below_step H5.out.1 hbw (Nat.le_refl _)) hBat)
      have HP := Lib.hid (And.intro hinb (And.intro hfree (And.intro hj (And.intro huniq hmin))))
      have HJ := Lib.hid hj
      have t3 : (n : Int) ≤ (N : Int) := by omega
      have t4 : ¬ (qn : Int) < (S : Int) := by have := HmS.out hnN; omega
      clear hbw hBat hbl2 hIn hF hq hinb hfree huniq hmin hj
      go_wp2_with (first | (go_at_call 15; refine (HZN.out _).mono ?_; rintro e w' ⟨rfl, rfl⟩) | (go_at_call 17; refine HIn.out.mono ?_; rintro e w' ⟨rfl, rfl⟩) | (go_at_call 16; refine HF.out.mono ?_; rintro e w6 ⟨rfl, hb⟩; have H6 := Lib.hid (And.intro (below_step HB.out.1 hb (Nat.le_refl _)) (HB.out.2.below hb)); clear hb))
      have hA6 := H6.out.2
      have hj := HJ.out
      have hcap := hA6.len
      unfold maxLen at hcap
      have hjl : j < B.length := (List.getElem?_eq_some_iff.1 hj).1
      go_loop [12, 13] (fun a i => ∃ (k : Nat) (av : Int), k ≤ B.length ∧ i = .int .i64 (k : Int) ∧ a = .int .i64 av ∧ av = (if j < k then (j : Int) else -1)) (fun _ i => B.length - (intOf i).toNat)
      case atStart => exact ⟨0, -1, Nat.zero_le _, rfl, rfl, by rw [if_neg (by omega)]⟩
      case round =>
        obtain ⟨k, av, hk, rfl, rfl, hav⟩ := hrel
        have e0 : (0 : Int) ≤ (k : Int) := by omega
        by_cases hlt : k < B.length
        · obtain ⟨x, hx⟩ : ∃ x, B[k]? = some x := ⟨_, List.getElem?_eq_getElem hlt⟩
          obtain ⟨g, o, hA, hg, x1, x2⟩ := hA6.at hx
          have hkk : IntKind.i64.wrap ((k : Int) + 1) = ((k + 1 : Nat) : Int) := by rw [IntWalk.i64_in _ (by omega)]; rfl
          have e1' : (k : Int) < (B.length : Int) := by omega
          obtain ⟨y, m2⟩ := x
          subst hA
          dsimp only at x1 x2
          by_cases hyp : y = p
          · have hkj : k = j := HP.out.2.2.2.1 k _ hx hyp
            have t5 : ((y : Int) == (p : Int)) = true := by simp [hyp]
            have HQ := Lib.hid (And.intro hav hkj)
            clear hav hkj hx hyp hA6
            go_wp2
            exact ⟨⟨k + 1, (k : Int), by omega, by go_num, rfl, by rw [if_pos (by have := HQ.out.2; omega), HQ.out.2]⟩, by simp [intOf]; omega⟩
          · have hkj : k ≠ j := fun e => hyp (by rw [e] at hx; rw [hj] at hx; injection hx with hx; injection hx with h1 h2; exact h1.symm)
            have t5 : ((y : Int) == (p : Int)) = false := by rw [beq_eq_false_iff_ne]; omega
            have hav2 : av = (if j < k + 1 then (j : Int) else -1) := by rw [hav]; split <;> split <;> omega
            have HQ := Lib.hid hav2
            clear hav hav2 hkj hx hyp hA6
            go_wp2
            exact ⟨⟨k + 1, av, by omega, by go_num, rfl, HQ.out⟩, by simp [intOf]; omega⟩
        · obtain rfl : k = B.length := by omega
          rw [if_pos hjl] at hav
          obtain ⟨g, o, hA, hg, x1, x2⟩ := hA6.at hj
          dsimp only at x1 x2
          subst hA
          subst hav
          have u0 : (0 : Int) ≤ (j : Int) := by omega
          have u1 : (j : Int) < (B.length : Int) := by omega
          have u2 : ¬ (j : Int) < 0 := by omega
          have u3 : ¬ (kx : Int) < (n : Int) := by omega
          clear hA6
          go_wp2
          go_loopw [14] (fun i wr2 => ∃ (k : Nat), k ≤ B.length ∧ i = .int .i64 (k : Int) ∧ ∃ q, wr2 = w6.drewN q) (fun i _ => B.length - (intOf i).toNat)
          case atStart => exact ⟨0, Nat.zero_le _, rfl, 0, rfl⟩
          case round =>
            obtain ⟨k, hk, rfl, hdr⟩ := hrel
            have HD := Lib.hid hdr
            have hbq : BlkAt wr (some ⟨g, o, none⟩) c' B := by obtain ⟨q, rfl⟩ := hdr; exact H6.out.2
            clear hdr
            have e0 : (0 : Int) ≤ (k : Int) := by omega
            by_cases hlt : k < B.length
            · obtain ⟨x, hx⟩ : ∃ x, B[k]? = some x := ⟨_, List.getElem?_eq_getElem hlt⟩
              obtain ⟨g', o', hA, _, y1, y2⟩ := hbq.at hx
              obtain ⟨rfl, rfl⟩ : g = g' ∧ o = o' := by injection hA with h1; injection h1 with h2 h3; exact ⟨h2, h3⟩
              obtain ⟨g', o', hA', _, z1, z2⟩ := hbq.at hj
              obtain ⟨rfl, rfl⟩ : g = g' ∧ o = o' := by injection hA' with h1; injection h1 with h2 h3; exact ⟨h2, h3⟩
              have hkk : IntKind.i64.wrap ((k : Int) + 1) = ((k + 1 : Nat) : Int) := by rw [IntWalk.i64_in _ (by omega)]; rfl
              have e1' : (k : Int) < (B.length : Int) := by omega
              have hmn := HP.out.2.2.2.2 x (List.mem_of_getElem? hx)
              obtain ⟨y, m2⟩ := x
              dsimp only at y1 y2 z1 z2 hmn
              clear hA hA' hbq hx
              by_cases hc1 : n ≤ m2
              · obtain ⟨h1, h2⟩ := hmn hc1
                have t5 : (n : Int) ≤ (m2 : Int) := by omega
                have t6 : decide (m2 < kx) = false := by simp; omega
                by_cases hc2 : m2 = kx
                · have t7 : ((m2 : Int) == (kx : Int)) = true := by simp [hc2]
                  have t8 : decide (y < p) = false := by have := h2 hc2; simp; omega
                  have HE := Lib.hid hc2
                  clear hmn h1 h2 hc1 hc2
                  go_wp2_with (fail)
                  go_quiet (fail)
                  go_wp2
                  go_roundw
                  case rel => exact ⟨k + 1, by omega, by go_num, by obtain ⟨q, hq⟩ := HD.out; exact ⟨_, by rw [hq]; exact World.drewN_drewN _ _ _⟩⟩
                  case measure => simp [intOf]; omega
                · have t7 : ((m2 : Int) == (kx : Int)) = false := by rw [beq_eq_false_iff_ne]; omega
                  clear hmn h1 h2 hc1 hc2
                  go_wp2_with (fail)
                  go_quiet (fail)
                  go_wp2
                  go_roundw
                  case rel => exact ⟨k + 1, by omega, by go_num, by obtain ⟨q, hq⟩ := HD.out; exact ⟨_, by rw [hq]; exact World.drewN_drewN _ _ _⟩⟩
                  case measure => simp [intOf]; omega
              · have t5 : decide (n ≤ m2) = false := by simp; omega
                clear hmn hc1
                go_wp2_with (fail)
                go_quiet (fail)
                go_wp2
                go_roundw
                case rel => exact ⟨k + 1, by omega, by go_num, by obtain ⟨q, hq⟩ := HD.out; exact ⟨_, by rw [hq]; exact World.drewN_drewN _ _ _⟩⟩
                case measure => simp [intOf]; omega
            · obtain rfl : k = B.length := by omega
              have t5 : ¬ ((B.length : Nat) : Int) < (B.length : Int) := by omega
              have HBd := Lib.hid (show Below w.heap.size w wr by obtain ⟨q, hq⟩ := HD.out; rw [hq]; exact below_drewN H6.out.1 q)
              clear hbq
              go_wp2_with (go_at_call 11; refine (shown_ok _).mono ?_; rintro e w7 ⟨rfl, hb⟩; have H7 := Lib.hid (below_step HBd.out hb (Nat.le_refl _)); clear hb)
              go_ret
              exact ⟨rfl, H7.out⟩

end Bu
end Go.Proofs.Ytdanhbbdkcbapaa
