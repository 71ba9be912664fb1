/- The walk of BuddyParts. -/
import Derived.Test.YtdanhbbdkcbapaaJOJ
import Derived.Deep.QuietTactic
import Derived.BigQuiet
import Derived.Outline
namespace Go.Proofs.Ytdanhbbdkcbapaa
open Go.RowKit
namespace Bu

theorem all_in {N : Nat} {L : List Blk} (hS : St N L) : ∀ x ∈ L ++ blocksB N L, InB N x := fun x hx => by
  rcases List.mem_append.1 hx with h | h
  · exact hS.inb x h
  · have h2 := (mem_blocks hS x).1 h
    exact ⟨h2.lt.2, h2.1, h2.lt.1⟩

theorem blk_step {N : Nat} {L B : List Blk} (hS : St N L) (hB : B = blocksB N L) {j k : Nat} {x y : Blk} (hx : B[j]? = some x) (hy : B[k]? = some y) (h : j < k) : x.1 + 2 ^ x.2 ≤ y.1 := by
  subst hB
  obtain ⟨h1, e1⟩ := List.getElem?_eq_some_iff.1 hx
  obtain ⟨h2, e2⟩ := List.getElem?_eq_some_iff.1 hy
  have := List.pairwise_iff_getElem.1 (blocks_asc hS) j k h1 h2 h
  rw [e1, e2] at this
  exact this

/-- What Owner returns: an error, or a block that has the page. -/
theorem owner_cases (w : World) (b N : Nat) (L : List Blk) (page : Int) (h : BuL w b N L) :
    (∃ r : Int, (r == 0) = false ∧ Calls Try.prog 23 #[.pointer (some ⟨b, 0, none⟩), .int .i64 page] w fun e w' => e = .returned (.tuple #[.agg #[.int .i64 0, .int .i64 0], .int .i64 r]) ∧ Below w.heap.size w w') ∨
    (∃ (x : Blk) (pn m : Nat), page = (pn : Int) ∧ (x.1 ≤ pn ∧ pn < x.1 + m ∧ x.1 ≤ 1024) ∧ x.2 ≤ 10 ∧ m = 2 ^ x.2 ∧ Calls Try.prog 23 #[.pointer (some ⟨b, 0, none⟩), .int .i64 page] w fun e w' => e = .returned (.tuple #[.agg #[.int .i64 (x.1 : Int), .int .i64 (x.2 : Int)], .int .i64 0]) ∧ Below w.heap.size w w') := by
  by_cases hp : page < 0 ∨ ((2 ^ N : Nat) : Int) ≤ page
  · exact .inl ⟨7, by decide, ownerL_bad w b N L page h hp⟩
  · obtain ⟨pn, rfl⟩ := Int.eq_ofNat_of_zero_le (show 0 ≤ page by omega)
    have hO := ownerL_ok w b N L pn h (by omega)
    cases e : ownerB L pn with
    | none => rw [e] at hO; exact .inl ⟨4, by decide, hO⟩
    | some x =>
      rw [e] at hO
      obtain ⟨h1, h2, h3⟩ := ownerB_some e
      have := st_le h.2 x h1
      exact .inr ⟨x, pn, _, rfl, ⟨h2, h3, by omega⟩, this.1, rfl, hO⟩

set_option maxRecDepth 100000 in
set_option maxHeartbeats 8000000 in
theorem parts_in (w : World) (N : Nat) (A : Option Addr) (c : Nat) (L : List Blk) (page : Int) (h : BlkAt w A c L) (hnc : A = none → c = 0) (hS : St N L) :
    Calls Try.prog 7 #[sv N A L.length c, .int .i64 page] w fun e w' => e = .returned (.bool true) ∧ Below w.heap.size w w' := by
  have hln := st_len hS
  have hg1 := blk_new w (.int .i64 (N : Int)) (.slice A L.length c) 24
  have hb0 := below_box w (.cells #[.int .i64 (N : Int), .slice A L.length c] 24)
  obtain ⟨W1, hW1⟩ : ∃ W1, W1 = w.alloc (.cells #[.int .i64 (N : Int), .slice A L.length c] 24) := ⟨_, rfl⟩
  rw [← hW1] at hg1 hb0
  have hs1 : W1.heap.size = w.heap.size + 1 := by rw [hW1]; simp
  obtain ⟨b1, b2, _, _⟩ := two_cells hg1
  have hC := check_ok W1 N A c (L.map zb) (h.below hb0)
  rw [check_of hS, List.length_map] at hC
  have HC := Lib.hid hC
  have HX := Lib.hid (And.intro h (And.intro hb0 (And.intro hs1 hS)))
  have HW := Lib.hid hW1
  have hN := hS.n10
  have hsm := st_le hS
  have hbln := blocks_len hS
  clear h hb0 hs1 hg1 hW1 hC hS
  go_enter Try.func7, Try.ntmps7
  go_wp2_with (fail)
  rw [← HW.out]
  go_wp2_with (go_at_call 10; refine HC.out.mono ?_; rintro e w2 ⟨rfl, hb⟩; have c1 := cell_keep2 hb b1; have c2 := cell_keep2 hb b2; have H2 := Lib.hid (And.intro hb.size (below_step HX.out.2.1 hb (Nat.le_refl _))); clear hb)
  refine (load_st (HX.out.1.below H2.out.2) HX.out.2.2.2).mono ?_
  rintro e w3 ⟨b, rfl, hB, hbw, hb3⟩
  have hbne : w.heap.size ≠ b := by have := H2.out.1; have := HX.out.2.2.1; omega
  have d1 := cell_keep2 hb3 c1
  have d2 := cell_keep2 hb3 c2
  have H3 := Lib.hid (And.intro hB (And.intro (below_step H2.out.2 hb3 (Nat.le_refl _)) (show w.heap.size ≤ b by have := H2.out.1; have := HX.out.2.2.1; omega)))
  clear hB hbw hb3
  obtain ⟨B, hBl⟩ : ∃ B, B = blocksB N L := ⟨_, rfl⟩
  have hbk := blocks_ok w3 b N L H3.out.1
  rw [← hBl] at hbk hbln
  have HBk := Lib.hid (And.intro hBl hbk)
  clear hBl hbk
  go_wp2_with (go_at_call 13; refine HBk.out.2.mono ?_; rintro e w4 ⟨⟨A', c', rfl, ho⟩, hb4⟩; have e1 := cell_keep2 hb4 d1; have e2 := cell_keep2 hb4 d2; have H4 := Lib.hid (And.intro (H3.out.1.keep (hb4.block _ H3.out.1.lt)) (And.intro (below_step H3.out.2.1 hb4 (Nat.le_refl _)) (And.intro ho.at (own_nc ho)))); clear ho hb4)
  have hne4 : A'.map (·.block) ≠ some b := fun he => by have := (H4.out.2.2.1.2 b he).1; have := H3.out.1.lt; omega
  obtain ⟨S, hSz⟩ : ∃ S : Nat, S = 2 ^ N := ⟨_, rfl⟩
  have hS1 : S ≤ 1024 := by rw [hSz]; exact two_le hN
  have hZN : ∀ W, Calls Try.prog 15 #[.int .i64 (N : Int)] W fun e w' => e = .returned (.int .i64 (S : Int)) ∧ W = w' := fun W => by rw [hSz]; exact size_ok N W (by omega)
  have HZN := Lib.hid hZN
  have HM := Lib.hid (And.intro hSz (And.intro hsm hnc))
  have hmk := fun w => make_ints w S (by omega)
  have hb6 : Below w4.heap.size w4 ((w4.alloc (.cells (Array.replicate S (.int .i64 0)) 3)).alloc (.cells #[] 39)) := (below_box w4 _).alloc (by simp) _
  have r0 := cell_keep2 hb6 e1
  have r1 := cell_keep2 hb6 e2
  have hi6 : IntsAt ((w4.alloc (.cells (Array.replicate S (.int .i64 0)) 3)).alloc (.cells #[] 39)) w4.heap.size S (fun _ => 0) := (ints_new w4 S).keep (alloc_old _ _ _ (by simp))
  have hr6 := row_empty (w4.alloc (.cells (Array.replicate S (.int .i64 0)) 3)) (w4.heap.size + 1) (by simp)
  have hs6 : ((w4.alloc (.cells (Array.replicate S (.int .i64 0)) 3)).alloc (.cells #[] 39)).heap.size = w4.heap.size + 2 := by simp
  have hs5 : (w4.alloc (.cells (Array.replicate S (.int .i64 0)) 3)).heap.size = w4.heap.size + 1 := by simp
  rw [hs5] at hr6
  have H6 := Lib.hid (And.intro hb6 (And.intro hi6 (And.intro hr6 hs6)))
  clear hZN hSz hsm hnc hb6 hi6 hr6 hs6 hs5
  obtain ⟨all, hall⟩ : ∃ all, all = L ++ B := ⟨_, rfl⟩
  have HAll := Lib.hid hall
  clear hall
  go_wp2_with (first
    | (go_at_call 15; refine (HZN.out _).mono ?_; rintro e w' ⟨rfl, rfl⟩)
    | (at_builtin; refine wpList_append_blk rfl (.tmp 38) (.tmp 40) rfl (w4.heap.size + 1) _ [] rfl H6.out.2.2.1 A c L rfl (HX.out.1.below (below_step H4.out.2.1 H6.out.1 (Nat.le_refl _))) HM.out.2.2 (by simp; omega) (by have := H6.out.2.2.2; omega) ?_
       intro A7 c7 w7 hrow7 hgr7
       rw [List.nil_append] at hrow7 ⊢
       have hb7 : Below w4.heap.size w4 w7 := H6.out.1.grown hgr7 H6.out.1.size (fun k hk => by have := (H6.out.2.2.1.lt k hk).1; omega)
       have hi7 : IntsAt w7 w4.heap.size S (fun _ => 0) := H6.out.2.1.keep (hgr7.block _ H6.out.2.1.lt (fun e => by have := (H6.out.2.2.1.lt _ e.symm).1; omega))
       have H7 := Lib.hid (And.intro hrow7 (And.intro hb7 hi7))
       clear hrow7 hgr7 hb7 hi7)
    | (at_builtin; refine wpList_append_blk rfl (.tmp 41) (.tmp 42) rfl (w4.heap.size + 1) _ L rfl H7.out.1 A' c' B rfl (H4.out.2.2.1.1.below H7.out.2.1) H4.out.2.2.2 (by omega) (by have := H7.out.2.2.lt; omega) ?_
       intro A8 c8 w8 hrow8 hgr8
       rw [← HAll.out] at hrow8 ⊢
       have hb8 : Below w4.heap.size w4 w8 := H7.out.2.1.grown hgr8 H7.out.2.1.size (fun k hk => by have := (H7.out.1.lt k hk).1; omega)
       have hi8 : IntsAt w8 w4.heap.size S (fun _ => 0) := H7.out.2.2.keep (hgr8.block _ H7.out.2.2.lt (fun e => by have := (H7.out.1.lt _ e.symm).1; omega))
       have HQ := Lib.hid (And.intro hrow8 (And.intro hb8 hi8))
       clear hrow8 hgr8 hb8 hi8))
  clear hmk r0 r1
  obtain ⟨hrow8, hb8, hi8⟩ := HQ.out
  clear HQ
  obtain ⟨gm, hgm⟩ : ∃ gm, gm = w4.heap.size := ⟨_, rfl⟩
  rw [← hgm] at hi8 ⊢
  have hown8 : Own w8 (gm + 1) A8 c8 all := by rw [hgm]; exact hrow8
  have hne8 : A8.map (·.block) ≠ some gm := row_ne hown8 (by omega)
  have hall := HAll.out
  have hal : all.length ≤ 2048 := by rw [hall, List.length_append]; omega
  have hin : ∀ (j : Nat) (x : Blk), all[j]? = some x → InB N x := fun j x hx => all_in HX.out.2.2.2 x (by rw [hall, HBk.out.1] at hx; exact List.mem_of_getElem? hx)
  have honce : ∀ p, p < S → cntP all p = 1 := fun p hp => by rw [hall, HBk.out.1]; exact pages_once HX.out.2.2.2 (by rw [← HM.out.1]; exact hp)
  have hbgm : b < gm := by rw [hgm]; exact H4.out.1.lt
  have hwgm : w.heap.size < gm := by rw [hgm]; have := World.block_lt_of_cell? w4 _ e1; exact this
  have k1 := cell_keep2 hb8 e1
  have hBB : BlkAt w8 A' c' B := H4.out.2.2.1.1.below hb8
  have hnB : A'.map (·.block) ≠ some gm := fun e => by have := (H4.out.2.2.1.2 _ e).2; omega
  have H8 := Lib.hid (And.intro hi8 (And.intro hown8.at.1 (And.intro hne8 (And.intro hin (And.intro honce (And.intro hBB (And.intro hnB (And.intro (H4.out.1.keep (hb8.block _ H4.out.1.lt)) (below_step H4.out.2.1 hb8 (Nat.le_refl _))))))))))
  have hgmw : gm < w8.heap.size := hi8.lt
  clear hrow8 hb8 hi8 hown8 hne8 hin honce hBB hall hgm e1 e2
  go_loopw [10, 11] (fun i p wr => ∃ (k : Nat) (f : Nat → Int), k ≤ all.length ∧ i = .int .i64 (k : Int) ∧ IntsAt wr gm S f ∧ (∀ q, q < S → f q = (cntP (all.take k) q : Int)) ∧ Grow1 gm w8 wr) (fun i _ _ => all.length - (intOf i).toNat)
  case atStart => exact ⟨0, _, Nat.zero_le _, rfl, H8.out.1, fun q _ => rfl, Grow1.refl _ _⟩
  case round =>
    obtain ⟨k, f, hk, rfl, hf, hfc, hg⟩ := hrel
    have e0 : (0 : Int) ≤ (k : Int) := by omega
    have k2 := cell_grow hg (Nat.ne_of_lt hwgm) k1
    by_cases hlt : k < all.length
    · obtain ⟨x, hx⟩ : ∃ x, all[k]? = some x := ⟨_, List.getElem?_eq_getElem hlt⟩
      obtain ⟨g, o, hA, hgl, v1, v2⟩ := H8.out.2.1.at hx
      have hgne : g ≠ gm := fun e => H8.out.2.2.1 (by rw [hA]; exact congrArg some e)
      have x1 := cell_grow hg hgne v1
      have x2 := cell_grow hg hgne v2
      have hxin := H8.out.2.2.2.1 k x hx
      have hct := fun q => cntP_take hx q
      have hkk : IntKind.i64.wrap ((k : Int) + 1) = ((k + 1 : Nat) : Int) := by rw [IntWalk.i64_in _ (by omega)]; rfl
      have e1' : (k : Int) < (all.length : Int) := by omega
      obtain ⟨y, m2⟩ := x
      obtain ⟨hx1, hx2, hx3⟩ := hxin.parts
      have hx4 : y + 2 ^ m2 ≤ 2 ^ N := hxin.2.2
      obtain ⟨m, hm⟩ : ∃ m : Nat, m = 2 ^ m2 := ⟨_, rfl⟩
      dsimp only at hx1 hx2 hx3 x1 x2 v1 v2 hct
      have hZm : ∀ W, Calls Try.prog 15 #[.int .i64 (m2 : Int)] W fun e w' => e = .returned (.int .i64 (m : Int)) ∧ W = w' := fun W => by rw [hm]; exact size_ok m2 W (by omega)
      have hIn : ∀ W, Calls Try.prog 17 #[.int .i64 (N : Int), .int .i64 (y : Int), .int .i64 (m2 : Int)] W fun e w' => e = .returned (.bool true) ∧ W = w' := fun W => by
        have := inR_nat N y m2 hN hx1 W
        rw [decide_eq_true hxin] at this
        exact this
      rw [← HM.out.1, ← hm] at hx4
      rw [← hm] at hct
      have hm0 : 0 < m := by rw [hm]; exact pow_pos2 m2
      have hsum : IntKind.i64.wrap ((y : Int) + (m : Int)) = ((y + m : Nat) : Int) := by rw [IntWalk.i64_in _ (by omega)]; rfl
      subst hA
      have HZm := Lib.hid hZm
      have HIn := Lib.hid hIn
      have HF := Lib.hid (And.intro hf (And.intro hfc (And.intro hg hct)))
      have hwl := hg.size
      clear hZm hIn hf hfc hct hxin hx1 hx2 hx3 hm hx
      go_wp2_with (fail)
      go_quiet ((go_at_call 17; exact Calls.quiet_of_same ((HIn.out _).mono fun _ _ h => ⟨h.1, h.2.symm⟩)))
      go_wp2
      go_loopw [11] (fun p wr2 => ∃ (q : Nat) (f' : Nat → Int), y ≤ q ∧ q ≤ y + m ∧ p = .int .i64 (q : Int) ∧ IntsAt wr2 gm S f' ∧ (∀ z, z < S → f' z = f z + if y ≤ z ∧ z < q then 1 else 0) ∧ Grow1 gm w8 wr2) (fun p _ => y + m - (intOf p).toNat)
      case atStart => exact ⟨y, f, Nat.le_refl _, by omega, rfl, HF.out.1.keep rfl, fun z _ => by rw [if_neg (by omega)]; simp, HF.out.2.2.1.drewN _⟩
      case round =>
        obtain ⟨q, f', hq1, hq2, rfl, hf', hfs, hg'⟩ := hrel
        have x1 := cell_grow hg' hgne v1
        have x2 := cell_grow hg' hgne v2
        by_cases hql : q < y + m
        · have hqS : q < S := by omega
          have hv0 : f' q = (cntP (all.take k) q : Int) := by rw [hfs q hqS, if_neg (by omega), HF.out.2.1 q hqS]; simp
          have hcl := cntP_le (all.take k) q
          have htl : (all.take k).length ≤ k := by rw [List.length_take]; omega
          have hcell := hf'.cell hqS
          have hfz := hf'.frozen q
          obtain ⟨v, hv⟩ : ∃ v, v = f' q := ⟨_, rfl⟩
          have hvb : 0 ≤ v ∧ v ≤ 3000 := by omega
          rw [← hv] at hcell
          have hw1 : IntKind.i64.wrap (v + 1) = v + 1 := IntWalk.i64_in _ (by omega)
          have hw2 : IntKind.i64.wrap ((q : Int) + 1) = ((q + 1 : Nat) : Int) := by rw [IntWalk.i64_in _ (by omega)]; rfl
          have u0 : (0 : Int) ≤ (q : Int) := by omega
          have u1 : (q : Int) < (S : Int) := by omega
          have u2 : (q : Int) < ((y + m : Nat) : Int) := by omega
          have HE := Lib.hid (And.intro hf' (And.intro hfs (And.intro hg' hv)))
          clear hf' hfs hg' hv hv0 hcl htl hvb
          go_wp2_with (fail)
          go_quiet ((go_at_call 15; exact Calls.quiet_of_same ((HZm.out _).mono fun _ _ h => ⟨h.1, h.2.symm⟩)))
          go_wp2
          go_roundw
          case rel =>
            obtain ⟨hf', hfs, hg', hv⟩ := HE.out
            refine ⟨q + 1, fun z => if z = q then v + 1 else f' z, by omega, by omega, by go_num, (IntsAt.keep hf' rfl).set hqS (by simp) (fun z hz => by simp [hz]), fun z hz => ?_, (hg'.drewN _).setCell _ _⟩
            by_cases e : z = q
            · subst e
              simp only [if_true]
              rw [hv, hfs z hz, if_neg (by omega), if_pos (by omega)]
              omega
            · simp only [e, if_false]
              rw [hfs z hz]
              congr 1
              split <;> split <;> first | rfl | omega
          case measure => simp [intOf]; omega
        · obtain rfl : q = y + m := by omega
          have u2 : ¬ ((y + m : Nat) : Int) < ((y + m : Nat) : Int) := by omega
          have HE := Lib.hid (And.intro hf' (And.intro hfs hg'))
          clear hf' hfs hg'
          go_wp2_with (fail)
          go_quiet ((go_at_call 15; exact Calls.quiet_of_same ((HZm.out _).mono fun _ _ h => ⟨h.1, h.2.symm⟩)))
          go_wp2
          go_roundw
          case rel =>
            obtain ⟨hf', hfs, hg'⟩ := HE.out
            refine ⟨k + 1, f', by omega, by go_num, IntsAt.keep hf' rfl, fun z hz => ?_, hg'.drewN _⟩
            rw [hfs z hz, HF.out.2.1 z hz, HF.out.2.2.2 z]
            split <;> simp
          case measure => simp [intOf]; omega
    · obtain rfl : k = all.length := by omega
      rw [List.take_length] at hfc
      have t0 : ¬ ((all.length : Nat) : Int) < (all.length : Int) := by omega
      have HF := Lib.hid (And.intro hf (And.intro (show ∀ q, q < S → f q = 1 from fun q hq => by rw [hfc q hq, H8.out.2.2.2.2.1 q hq]; rfl) hg))
      clear hf hfc hg
      go_wp2
      go_loop [12] (fun p => ∃ q : Nat, q ≤ S ∧ p = .int .i64 (q : Int)) (fun p => S - (intOf p).toNat)
      case atStart => exact ⟨0, Nat.zero_le _, rfl⟩
      case round =>
        obtain ⟨q, hq, rfl⟩ := hrel
        have u0 : (0 : Int) ≤ (q : Int) := by omega
        by_cases hqS : q < S
        · have hcell := HF.out.1.cell hqS
          rw [HF.out.2.1 q hqS] at hcell
          have u1 : (q : Int) < (S : Int) := by omega
          have hw2 : IntKind.i64.wrap ((q : Int) + 1) = ((q + 1 : Nat) : Int) := by rw [IntWalk.i64_in _ (by omega)]; rfl
          go_wp2
          exact ⟨⟨q + 1, by omega, by go_num⟩, by simp [intOf]; omega⟩
        · obtain rfl : q = S := by omega
          have u1 : ¬ ((q : Nat) : Int) < (q : Int) := by omega
          have hBr : BlkAt wr A' c' B := H8.out.2.2.2.2.2.1.grow HF.out.2.2 H8.out.2.2.2.2.2.2.1
          have hbu : BuL wr b N L := H8.out.2.2.2.2.2.2.2.1.keep (HF.out.2.2.block b (by omega) (Nat.ne_of_lt hbgm))
          have hbw : Below w.heap.size w wr := grow_step H8.out.2.2.2.2.2.2.2.2 HF.out.2.2 (Nat.le_of_lt hwgm) hgmw
          have H9 := Lib.hid (And.intro hBr (And.intro hbu hbw))
          clear hBr hbu hbw
          go_wp2
          go_loopw [13, 14] (fun i _ wr2 => ∃ k : Nat, 1 ≤ k ∧ (k ≤ B.length ∨ k = 1) ∧ i = .int .i64 (k : Int) ∧ ∃ d, wr2 = wr.drewN d) (fun i _ _ => B.length + 1 - (intOf i).toNat)
          case atStart => exact ⟨1, Nat.le_refl _, .inr rfl, rfl, 0, rfl⟩
          case round =>
            obtain ⟨k, hk1, hk2, rfl, hdr⟩ := hrel
            have HD := Lib.hid hdr
            have hbq : BlkAt wr A' c' B := by obtain ⟨d, rfl⟩ := hdr; exact H9.out.1
            clear hdr
            by_cases hlt : k < B.length
            · obtain ⟨j, hkj⟩ : ∃ j, k = j + 1 := ⟨k - 1, by omega⟩
              obtain ⟨x, hx⟩ : ∃ x, B[j]? = some x := ⟨_, List.getElem?_eq_getElem (by omega)⟩
              obtain ⟨y, hy⟩ : ∃ y, B[k]? = some y := ⟨_, List.getElem?_eq_getElem hlt⟩
              obtain ⟨g, o, hA, _, x1, x2⟩ := hbq.at hx
              obtain ⟨g', o', hA', _, y1, y2⟩ := hbq.at hy
              obtain ⟨rfl, rfl⟩ : g = g' ∧ o = o' := by rw [hA] at hA'; injection hA' with h1; injection h1 with h2 h3; exact ⟨h2, h3⟩
              have hS9 := HX.out.2.2.2
              have hxF := (mem_blocks hS9 x).1 (by rw [← HBk.out.1]; exact List.mem_of_getElem? hx)
              have hyF := (mem_blocks hS9 y).1 (by rw [← HBk.out.1]; exact List.mem_of_getElem? hy)
              have hxy := blk_step hS9 HBk.out.1 hx hy (by omega)
              have hnh := fun h1 h2 => no_halves hxF hyF h1 h2
              have hx4 := hxF.lt
              have hy4 := hyF.lt
              have h1024 := two_le hN
              have hpx := pow_pos2 x.2
              have hpy := pow_pos2 y.2
              obtain ⟨p1, n1⟩ := x
              obtain ⟨p2, n2⟩ := y
              dsimp only at x1 x2 y1 y2 hxy hnh hx4 hy4 hpx hpy
              have hkk : IntKind.i64.wrap ((k : Int) + 1) = ((k + 1 : Nat) : Int) := by rw [IntWalk.i64_in _ (by omega)]; rfl
              have hsub : IntKind.i64.wrap ((k : Int) - 1) = (j : Int) := by rw [IntWalk.i64_in _ (by omega)]; omega
              have hsub2 : (k : Int) - 1 = (j : Int) := by omega
              have hsub3 : IntKind.i64.wrap (j : Int) = (j : Int) := IntWalk.i64_in _ (by omega)
              have hsub4 : wrap64 ((k : Int) - 1) = (j : Int) := by rw [← w64]; exact hsub
              have e0 : (0 : Int) ≤ (k : Int) := by omega
              have e1' : (k : Int) < (B.length : Int) := by omega
              have e2' : (0 : Int) ≤ (j : Int) := by omega
              have e3' : (j : Int) < (B.length : Int) := by omega
              have t1 : decide (p2 ≤ p1) = false := by simp; omega
              obtain ⟨m, hm⟩ : ∃ m : Nat, m = 2 ^ n2 := ⟨_, rfl⟩
              have hZ : ∀ W, Calls Try.prog 15 #[.int .i64 (n2 : Int)] W fun e w' => e = .returned (.int .i64 (m : Int)) ∧ W = w' := fun W => by rw [hm]; exact size_ok n2 W (by omega)
              have HZ := Lib.hid hZ
              obtain ⟨s, hs⟩ : ∃ s : Nat, s = p1 + m := ⟨_, rfl⟩
              obtain ⟨mm, hmm⟩ : ∃ mm : Nat, mm = 2 * m := ⟨_, rfl⟩
              have hmle : m ≤ 1024 := by rw [hm]; omega
              have hm0 : 0 < m := by rw [hm]; exact hpy
              have hsum : IntKind.i64.wrap ((p1 : Int) + (m : Int)) = (s : Int) := by rw [IntWalk.i64_in _ (by omega)]; omega
              have hmul : IntKind.i64.wrap (2 * (m : Int)) = (mm : Int) := by rw [IntWalk.i64_in _ (by omega)]; omega
              have hmz : (mm : Int) ≠ 0 := by omega
              subst hA
              by_cases hn : n1 = n2
              · have t2 : ((n1 : Int) == (n2 : Int)) = true := by simp [hn]
                by_cases hsp : s = p2
                · have t3 : ((s : Int) == (p2 : Int)) = true := by simp [hsp]
                  have t4 : (((p1 : Int) % (mm : Int)) == 0) = false := by
                    rw [beq_eq_false_iff_ne]
                    intro e
                    have e2 : p1 % mm = 0 := by omega
                    exact hnh hn (by rw [hn, ← hm, ← hs, hsp]) (by rw [hn, ← hm, ← hmm]; exact e2)
                  clear hZ hm hs hmm hn hsp hnh hxy hx4 hy4 hpx hpy hxF hyF hx hy hS9 hbq hkj hA'
                  go_wp2_with (go_at_call 15; refine (HZ.out _).mono ?_; rintro e w' ⟨rfl, rfl⟩)
                  go_quiet (fail)
                  go_wp2
                  go_roundw
                  case rel => exact ⟨k + 1, by omega, .inl (by omega), by go_num, by obtain ⟨d, hd⟩ := HD.out; exact ⟨_, by rw [hd]; exact World.drewN_drewN _ _ _⟩⟩
                  case measure => simp [intOf]; omega
                · have t3 : ((s : Int) == (p2 : Int)) = false := by rw [beq_eq_false_iff_ne]; omega
                  clear hZ hm hs hmm hn hsp hnh hxy hx4 hy4 hpx hpy hxF hyF hx hy hS9 hbq hkj hA'
                  go_wp2_with (go_at_call 15; refine (HZ.out _).mono ?_; rintro e w' ⟨rfl, rfl⟩)
                  go_quiet (fail)
                  go_wp2
                  go_roundw
                  case rel => exact ⟨k + 1, by omega, .inl (by omega), by go_num, by obtain ⟨d, hd⟩ := HD.out; exact ⟨_, by rw [hd]; exact World.drewN_drewN _ _ _⟩⟩
                  case measure => simp [intOf]; omega
              · have t2 : ((n1 : Int) == (n2 : Int)) = false := by rw [beq_eq_false_iff_ne]; omega
                clear hZ hm hs hmm hn hnh hxy hx4 hy4 hpx hpy hxF hyF hx hy hS9 hbq hkj hA'
                go_wp2_with (go_at_call 15; refine (HZ.out _).mono ?_; rintro e w' ⟨rfl, rfl⟩)
                go_quiet (fail)
                go_wp2
                go_roundw
                case rel => exact ⟨k + 1, by omega, .inl (by omega), by go_num, by obtain ⟨d, hd⟩ := HD.out; exact ⟨_, by rw [hd]; exact World.drewN_drewN _ _ _⟩⟩
                case measure => simp [intOf]; omega
            · have t5 : ¬ (k : Int) < (B.length : Int) := by omega
              have hbu : BuL wr b N L := by obtain ⟨d, hd⟩ := HD.out; rw [hd]; exact H9.out.2.1.keep rfl
              have hbw : Below w.heap.size w wr := by obtain ⟨d, hd⟩ := HD.out; rw [hd]; exact below_drewN H9.out.2.2 d
              have H10 := Lib.hid (And.intro hbu hbw)
              clear hbu hbw hbq hk2
              have hO := owner_cases wr b N L page H10.out.1
              rcases hO with ⟨r, hr, hO⟩ | ⟨x, pn, M2, rfl, hxp, hx10, hM2, hO⟩
              · have HO := Lib.hid hO
                clear hO
                go_wp2_with (go_at_call 23; refine HO.out.mono ?_; rintro e w11 ⟨rfl, hb⟩; have H11 := Lib.hid (below_step H10.out.2 hb (Nat.le_refl _)); clear hb)
                go_quiet (fail)
                have HB2 := Lib.hid (H11.out.alloc H11.out.size (.cells #[.int .i64 0, .int .i64 0] 39))
                go_wp2_with (go_at_call 11; refine (shown_ok _).mono ?_; rintro e w12 ⟨rfl, hb⟩; have H12 := Lib.hid (below_step (below_drewN HB2.out _) hb (Nat.le_refl _)); clear hb)
                go_ret
                exact ⟨rfl, H12.out⟩
              · obtain ⟨x1, x2⟩ := x
                dsimp only at hxp hx10 hM2 hO
                have HO := Lib.hid hO
                have hZ : ∀ W, Calls Try.prog 15 #[.int .i64 (x2 : Int)] W fun e w' => e = .returned (.int .i64 (M2 : Int)) ∧ W = w' := fun W => by rw [hM2]; exact size_ok x2 W (by omega)
                have HZ := Lib.hid hZ
                have hM3 : M2 ≤ 1024 := by rw [hM2]; exact two_le hx10
                obtain ⟨s, hs⟩ : ∃ s : Nat, s = x1 + M2 := ⟨_, rfl⟩
                have hsum : IntKind.i64.wrap ((x1 : Int) + (M2 : Int)) = (s : Int) := by rw [IntWalk.i64_in _ (by omega)]; omega
                have t6 : decide (pn < x1) = false := by simp; omega
                have t7 : decide (s ≤ pn) = false := by simp; omega
                clear hZ hM2 hs hxp hO
                go_wp2_with (go_at_call 23; refine HO.out.mono ?_; rintro e w11 ⟨rfl, hb⟩; have H11 := Lib.hid (below_step H10.out.2 hb (Nat.le_refl _)); obtain ⟨z1, z2⟩ := state_cells w11 (.int .i64 (x1 : Int)) (.int .i64 (x2 : Int)) 39; clear hb)
                go_quiet ((go_at_call 15; exact Calls.quiet_of_same ((HZ.out _).mono fun _ _ h => ⟨h.1, h.2.symm⟩)))
                have HB2 := Lib.hid (H11.out.alloc H11.out.size (.cells #[.int .i64 (x1 : Int), .int .i64 (x2 : Int)] 39))
                go_wp2_with (go_at_call 11; refine (shown_ok _).mono ?_; rintro e w12 ⟨rfl, hb⟩; have H12 := Lib.hid (below_step (below_drewN HB2.out _) hb (Nat.le_refl _)); clear hb)
                go_ret
                exact ⟨rfl, H12.out⟩
end Bu
end Go.Proofs.Ytdanhbbdkcbapaa
