/- The walk of BuddyBack. -/
import Derived.Test.YtdanhbbdkcbapaaJOP
import Derived.Deep.QuietTactic
import Derived.BigQuiet
import Derived.Deep.RegionWith
import Derived.StillTailTactics
import Derived.Deep.CutRange
import Derived.Outline
namespace Go.Proofs.Ytdanhbbdkcbapaa
open Go.RowKit
namespace Bu

/-- Alloc of any order. -/
theorem alloc_any (w : World) (b N : Nat) (L : List Blk) (order : Int) (h : BuL w b N L) :
    Calls Try.prog 14 #[.pointer (some ⟨b, 0, none⟩), .int .i64 order] w fun e w' => ∃ (p r : Int) (L' : List Blk), e = .returned (.tuple #[.int .i64 p, .int .i64 r]) ∧ BuL w' b N L' ∧ Grow1 b w w' ∧
      (r ≠ 0 ∧ L' = L ∨ r = 0 ∧ ∃ n q : Nat, order = (n : Int) ∧ p = (q : Int) ∧ InB N (q, n) ∧ (q, n) ∈ L' ∧ delB L' (q, n) = L) := by
  by_cases hk : 0 ≤ order ∧ order ≤ 10
  · obtain ⟨n, rfl⟩ := Int.eq_ofNat_of_zero_le hk.1
    have hn : n ≤ 10 := by omega
    cases ha : allocB N L n with
    | none => exact (al_none h hn ha).mono fun e w' ⟨he, hB, hg⟩ => ⟨0, 5, L, he, hB, hg, .inl ⟨by decide, rfl⟩⟩
    | some pl =>
      obtain ⟨p, L'⟩ := pl
      obtain ⟨h1, h2, h3⟩ := put_del h.2 ha
      exact (al_some h hn ha).mono fun e w' ⟨he, hB, hg⟩ => ⟨p, 0, L', he, hB, hg, .inr ⟨rfl, n, p, rfl, rfl, h2, h1, h3⟩⟩
  · exact (allocL_bad w b N L order h hk).mono fun e w' ⟨he, hb⟩ => ⟨0, 7, L, he, h.keep (hb.block b h.lt), ⟨hb.os, hb.tape, hb.output, hb.size, fun k hk _ => hb.block k hk⟩, .inl ⟨by decide, rfl⟩⟩

theorem turn_at {w w' : World} {A : Option Addr} {c n : Nat} {T : List Nat} (h : U16At w A c T) (hb : Below n w w') (hn : w.heap.size ≤ n) {j x : Nat} (hj : T[j]? = some x) :
    ∃ g o, A = some ⟨g, o, none⟩ ∧ w'.cell? ⟨g, o + j, none⟩ = some (.int .u16 (x : Int)) ∧ x < 65536 := by
  obtain ⟨g, o, hA, hg, hc, hx⟩ := h.2.2 j x hj
  exact ⟨g, o, hA, (hb.cell (p := ⟨g, o + j, none⟩) (by show g < n; omega)).trans hc, hx⟩

theorem run_given (N : Int) (A : Option Addr) (n c : Nat) (w : World) : (Instr.field 24 (sv N A n c) 1).run Try.prog w = .ok (.slice A n c) w := by kernel_rfl

/-- What is kept while the block of the allocator is written: all that was there at first. -/
theorem Below.grow1 {n b : Nat} {a x y : World} (h : Below n a x) (hg : Grow1 b x y) (hn : n ≤ b) (hx : n ≤ x.heap.size) : Below n a y :=
  h.trans ⟨hg.os, hg.tape, hg.output, hg.size, fun k hk => hg.block k (by omega) (by omega)⟩

attribute [local irreducible] wpStill
set_option maxRecDepth 100000 in
set_option maxHeartbeats 8000000 in
theorem back_in (w : World) (N : Nat) (A : Option Addr) (c : Nat) (L : List Blk) (order : Int) (At : Option Addr) (ct : Nat) (T : List Nat) (h : BlkAt w A c L) (hnc : A = none → c = 0) (hT : U16At w At ct T) (hS : St N L) (h200 : L.length ≤ 200) :
    Calls Try.prog 6 #[sv N A L.length c, .int .i64 order, .slice At T.length ct] w fun e w' => e = .returned (.bool true) ∧ Below w.heap.size w w' := by
  have hg1 := blk_new w (.int .i64 (N : Int)) (.slice A L.length c) 24
  have hb0 := below_box w (.cells #[.int .i64 (N : Int), .slice A L.length c] 24)
  obtain ⟨W1, hW1⟩ : ∃ W1, W1 = w.alloc (.cells #[.int .i64 (N : Int), .slice A L.length c] 24) := ⟨_, rfl⟩
  rw [← hW1] at hg1 hb0
  have hs1 : W1.heap.size = w.heap.size + 1 := by rw [hW1]; simp
  obtain ⟨b1, b2, _, _⟩ := two_cells hg1
  have hC := check_ok W1 N A c (L.map zb) (h.below hb0)
  rw [check_of hS, List.length_map] at hC
  have HC := Lib.hid hC
  have HX := Lib.hid (And.intro h (And.intro hb0 (And.intro hs1 (And.intro hS (And.intro hT hnc)))))
  have HW := Lib.hid hW1
  have hN := hS.n10
  have htl := hT.1
  have htc := hT.2.1
  unfold maxLen at htc
  clear h hb0 hg1 hW1 hC hS hT hnc
  have t1 : ¬ (L.length : Int) > 200 := by omega
  go_enter Try.func6, Try.ntmps6
  go_wp2_with (fail)
  rw [← HW.out]
  go_wp2_with (go_at_call 10; refine HC.out.mono ?_; rintro e w2 ⟨rfl, hb⟩; have c1 := cell_keep2 hb b1; have c2 := cell_keep2 hb b2; have H2 := Lib.hid hb; clear hb)
  have hbx2 : Below (w.heap.size + 1) W1 w2 := by rw [← hs1]; exact H2.out
  refine (load_st (HX.out.1.below (HX.out.2.1.trans (hbx2.mono (Nat.le_succ _)))) HX.out.2.2.2.1).mono ?_
  rintro e w3 ⟨b, rfl, hB, hbw, hb3⟩
  have hws2 := H2.out.size
  have hb1 : w.heap.size + 1 ≤ b := by omega
  have H3 := Lib.hid (And.intro hB (show Below (w.heap.size + 1) W1 w3 from hbx2.trans (hb3.mono (by omega))))
  clear hB hbw hb3 hbx2
  go_wp2_with (go_at_call 14; fail)
  refine (alloc_any w3 b N L order H3.out.1).mono ?_
  rintro e w5 ⟨p, r, L', rfl, hB5, hg5, hr⟩
  have hw3s := H3.out.2.size
  have H5 := Lib.hid (And.intro hB5 (And.intro (Below.grow1 H3.out.2 hg5 hb1 (by omega)) hr))
  clear hB5 hg5 hr
  have hbne : w.heap.size ≠ b := by omega
  have f1 := (H5.out.2.1.cell (p := ⟨w.heap.size, 0, none⟩) (Nat.lt_succ_self _)).trans b1
  have f2 := (H5.out.2.1.cell (p := ⟨w.heap.size, 1, none⟩) (Nat.lt_succ_self _)).trans b2
  go_upto_region 7 with (fail)
  go_cut [52] from 37 to 52 (fun cv wx => cv = .bool false ∧ BuL wx b N L ∧ Below (w.heap.size + 1) W1 wx)
  case first =>
    rcases H5.out.2.2 with ⟨hr, hL⟩ | ⟨hr, n, q, rfl, rfl, hin, hm, hd⟩
    · have t2 : (r == 0) = false := by rw [beq_eq_false_iff_ne]; exact hr
      have HL := Lib.hid hL
      clear hL hr
      go_quiet (fail)
      go_wp2_with (fail)
      go_meet
      exact ⟨rfl, by have := H5.out.1; rw [HL.out] at this; exact this.keep rfl, below_drewN H5.out.2.1 _⟩
    · subst hr
      have HD := Lib.hid (And.intro hin (And.intro hm hd))
      clear hin hm hd
      go_region_with (first | (go_at_call 21; refine (fr_some (w := World.drew w5) (x := (q, n)) (H5.out.1.keep rfl) HD.out.1 HD.out.2.1 HD.out.2.2).mono ?_; rintro e w6 ⟨rfl, hB6, hg6⟩; have e1 : w6.cell? ⟨w.heap.size, 0, none⟩ = some (.int .i64 (N : Int)) := cell_grow (w1 := World.drew w5) hg6 hbne f1; have e2 : w6.cell? ⟨w.heap.size, 1, none⟩ = some (.slice A L.length c) := cell_grow (w1 := World.drew w5) hg6 hbne f2; have H6 := Lib.hid (And.intro hB6 (Below.grow1 (x := World.drew w5) (below_drewN H5.out.2.1 1) hg6 hb1 (by have := H5.out.2.1.size; show w.heap.size + 1 ≤ w5.heap.size; omega))); clear hB6 hg6) | (go_at_call 20; refine (save_ok w6 b N L H6.out.1).mono ?_; rintro e w7 ⟨⟨A7, c7, rfl, ho⟩, hb7⟩; have e3 := cell_keep2 hb7 e1; have e4 := cell_keep2 hb7 e2; have H7 := Lib.hid (And.intro ho (And.intro (H6.out.1.keep (hb7.block _ H6.out.1.lt)) (H6.out.2.trans (hb7.mono (by have := H6.out.2.size; omega))))); clear ho hb7) | (go_at_call 19; refine (same_self w7 N A7 A c7 c L H7.out.1.at.1 (HX.out.1.below (HX.out.2.1.trans (H7.out.2.2.mono (Nat.le_succ _))))).mono ?_; rintro e w8 ⟨rfl, hb8⟩; have H8 := Lib.hid hb8; clear hb8))
      all_goals
        go_wp2_with (fail)
        go_meet
        exact ⟨rfl, H7.out.2.1.keep (H8.out.block _ H7.out.2.1.lt), H7.out.2.2.trans (H8.out.mono (by have := H7.out.2.2.size; omega))⟩
  case rest =>
    obtain ⟨rfl, hBc, hbc⟩ := hcut
    have hwcs := hbc.size
    have k1 := (hbc.cell (p := ⟨w.heap.size, 0, none⟩) (Nat.lt_succ_self _)).trans b1
    have k2 := (hbc.cell (p := ⟨w.heap.size, 1, none⟩) (Nat.lt_succ_self _)).trans b2
    have k3 := cell_keep2 (below_box wc (.cells #[] 39)) k2
    have hrow := row_empty wc wc.heap.size (Nat.le_refl _)
    have HR := Lib.hid (And.intro hrow (And.intro hBc hbc))
    clear hrow hBc hbc k1 k2 f1 f2
    go_wp2_with (at_builtin; refine wpList_append_blk rfl (.tmp 53) (.tmp 55) rfl wc.heap.size _ [] rfl HR.out.1 A c L rfl (HX.out.1.below ((HX.out.2.1.trans (HR.out.2.2.mono (Nat.le_succ _))).alloc (by omega) _)) HX.out.2.2.2.2.2 (by simp; omega) (by simp) ?_
                 intro A9 c9 w9 hrow9 hgr9
                 rw [List.nil_append] at hrow9 ⊢
                 have hb9 : Below wc.heap.size wc w9 := (below_box wc _).grown hgr9 (by simp) (fun k hk => (HR.out.1.lt k hk).1)
                 have H9 := Lib.hid (And.intro hrow9 hb9)
                 clear hrow9 hgr9 hb9)
    have hBw := HR.out.2.1.lt
    go_loopw [10, 11, 12] (fun l i _ wr => ∃ (M : List Blk) (A' : Option Addr) (c' ii : Nat), l = .slice A' M.length c' ∧ i = .int .i64 (ii : Int) ∧ ii + M.length = L.length ∧ Own wr wc.heap.size A' c' M ∧ BuL wr b N M ∧ Below (w.heap.size + 1) W1 wr ∧ wc.heap.size ≤ wr.heap.size) (fun l _ _ _ => lenOf l)
    case atStart => exact ⟨L, A9, c9, 0, rfl, rfl, by omega, H9.out.1, HR.out.2.1.keep (H9.out.2.block _ hBw), HR.out.2.2.trans (H9.out.2.mono (by omega)), H9.out.2.size⟩
    case round =>
      obtain ⟨M, A', c', ii, rfl, rfl, hil, hown, hBr, hbr, hsr⟩ := hrel
      by_cases hM : 0 < M.length
      · obtain ⟨g, hAg, hg1, hg2⟩ := own_some hown hM
        have hcap := hown.at.1.len
        unfold maxLen at hcap
        have HO := Lib.hid (And.intro hown (And.intro hBr (And.intro hbr hsr)))
        have e0 : (0 : Int) < (M.length : Int) := by omega
        have e1 : (0 : Int) ≤ (ii : Int) := by omega
        have hT0 := HX.out.2.2.2.2.1
        have hkk : IntKind.i64.wrap ((ii : Int) + 1) = ((ii + 1 : Nat) : Int) := by rw [IntWalk.i64_in _ (by omega)]; rfl
        clear hown hBr hbr hsr
        subst hAg
        go_upto_if 65 with (fail)
        go_cut [12] from 57 to 96 (fun kv wx => wx = wr ∧ ∃ k : Nat, k < M.length ∧ kv = .int .i64 (k : Int))
        case first =>
          by_cases hlt : ii < T.length
          · obtain ⟨x, hx⟩ : ∃ x, T[ii]? = some x := ⟨_, List.getElem?_eq_getElem hlt⟩
            obtain ⟨gt, ot, hAt, hd, hx16⟩ := turn_at hT0 (HX.out.2.1.trans (HO.out.2.2.1.mono (Nat.le_succ _))) (Nat.le_refl _) hx
            have e2 : (ii : Int) < (T.length : Int) := by omega
            have hcv : IntKind.i64.wrap (x : Int) = (x : Int) := IntWalk.i64_in _ (by omega)
            have e3 : (0 : Int) ≤ (x : Int) := by omega
            have e4 : (M.length : Int) ≠ 0 := by omega
            subst hAt
            have HK := Lib.hid (show ∃ k : Nat, k < M.length ∧ Value.int .i64 ((x : Int) % (M.length : Int)) = .int .i64 (k : Int) from ⟨x % M.length, Nat.mod_lt _ hM, by rw [Int.natCast_emod]⟩)
            clear hT0 hx
            go_wp2_with (fail)
            go_meet
            exact ⟨rfl, HK.out⟩
          · have e2 : ¬ (ii : Int) < (T.length : Int) := by omega
            clear hT0
            go_wp2_with (fail)
            go_meet
            exact ⟨rfl, 0, hM, rfl⟩
        case rest =>
          obtain ⟨rfl, k, hk, rfl⟩ := hcut
          obtain ⟨x, hx⟩ : ∃ x, M[k]? = some x := ⟨_, List.getElem?_eq_getElem hk⟩
          obtain ⟨g', o', hA', _, x1, x2⟩ := HO.out.1.at.1.at hx
          obtain ⟨rfl, rfl⟩ : g = g' ∧ 0 = o' := by injection hA' with h1; injection h1 with h2 h3; exact ⟨h2, h3⟩
          simp only [Nat.zero_add] at x1 x2
          obtain ⟨p2, n2⟩ := x
          dsimp only at x1 x2
          have hxm : (p2, n2) ∈ M := List.mem_of_getElem? hx
          have hxin := HO.out.2.1.2.inb _ hxm
          have hdel := delB_at HO.out.2.1.2 hx
          have HM := Lib.hid (And.intro hxm (And.intro hxin hdel))
          have e2 : (0 : Int) ≤ (k : Int) := by omega
          have e3 : (k : Int) < (M.length : Int) := by omega
          clear hA' hx hxm hxin hdel hT0
          go_wp2_with (fail)
          refine wp_region_still_tail 11 (by kernel_rfl) (by kernel_rfl) ?_
          simp only [List.take_succ_cons, List.take_zero, List.drop_succ_cons, List.drop_zero]
          change wpStill _ _ (World.drew _) (fun a' => wpList _ _ _ _ a' (World.drew _)) _ _
          iterate 11 still_step
          refine wpStill_nil ?_
          go_wp2_with (go_at_call 21; refine (fr_some (w := World.drew wc) (x := (p2, n2)) (HO.out.2.1.keep rfl) HM.out.2.1 HM.out.1 HM.out.2.2).mono ?_; rintro e w6 ⟨rfl, hB6, hg6⟩; have H6 := Lib.hid (And.intro hB6 (And.intro hg6 (show Own w6 _ _ _ _ from row_keep HO.out.1 (fun g hg hl => hg6.block g hl (by omega))))); clear hB6 hg6)
          obtain ⟨k1, hk1e⟩ : ∃ k1 : Nat, k1 = k + 1 := ⟨_, rfl⟩
          obtain ⟨M1, hM1⟩ : ∃ M1, M1 = M.take k := ⟨_, rfl⟩
          obtain ⟨M2, hM2⟩ : ∃ M2, M2 = M.drop k1 := ⟨_, rfl⟩
          obtain ⟨M3, hM3⟩ : ∃ M3, M3 = M1 ++ M2 := ⟨_, rfl⟩
          have hl1 : M1.length = k := by rw [hM1, List.length_take]; omega
          have hl2 : M2.length = M.length - k1 := by rw [hM2, List.length_drop]
          have hl3 : M3.length + 1 = M.length := by rw [hM3, List.length_append, hl1, hl2]; omega
          have hk1 : IntKind.i64.wrap ((k : Int) + 1) = (k1 : Int) := by rw [IntWalk.i64_in _ (by omega)]; omega
          have u0 : (k : Int) ≤ (c' : Int) := by omega
          have u1 : (0 : Int) ≤ (k1 : Int) := by omega
          have u2 : (k1 : Int) ≤ (M.length : Int) := by omega
          have u3 : (M.length : Int) ≤ (c' : Int) := by omega
          have hat := H6.out.2.2.at.1
          have hsrc1 : BlkAt w6 (some ⟨g, 0, none⟩) c' M1 := by rw [hM1]; exact blk_take hat
          have hsrc2 : BlkAt w6 (if c' = k1 then some ⟨g, 0, none⟩ else some ⟨g, k1 * 2, none⟩) (c' - k1) M2 := by
            by_cases e : c' = k1
            · have h0 : M2 = [] := List.length_eq_zero_iff.1 (by omega)
              rw [h0]
              exact ⟨Nat.zero_le _, by unfold maxLen; omega, fun j x hx => by simp at hx⟩
            · rw [if_neg e, hM2]
              have := blk_drop hat (k := k1) (by omega)
              rw [Nat.zero_add] at this
              exact this
          have hrow6 : ((w6.alloc (.cells #[] 39)).drew).ownsRow w6.heap.size 39 2 (.slice (some ⟨w6.heap.size, 0, none⟩) 0 0) 0 (cellsL []) := row_empty w6 w6.heap.size (Nat.le_refl _)
          have hdm : M.take k ++ M.drop (k + 1) = M3 := by rw [hM3, hM1, hM2, hk1e]
          have HK1 := Lib.hid (And.intro hl1 (And.intro hl2 (And.intro hM3 (And.intro hdm (And.intro hsrc1 (And.intro hsrc2 hrow6))))))
          clear hk1e hM1 hM2 hM3 hl1 hl2 hat hsrc1 hsrc2 hrow6 hdm
          go_region_law (first
            | (refine step_append_blk (by rfl) (.tmp 87) (.tmp 90) (by rfl) w6.heap.size _ [] (by rfl) HK1.out.2.2.2.2.2.2 (some ⟨g, 0, none⟩) c' M1 (by rw [HK1.out.1]; rfl) (HK1.out.2.2.2.2.1.below (w' := (w6.alloc (.cells #[] 39)).drew) (below_box w6 _).drew) (fun h => by cases h) (by have := HK1.out.1; simp; omega) (by show w6.heap.size ≤ (w6.alloc _).heap.size; simp) ?_
               intro A7 c7 w7 hrow7 hgr7
               rw [List.nil_append] at hrow7 ⊢
               have hb7 : Below w6.heap.size w6 w7 := ((below_box w6 _).drew).grown hgr7 (by show w6.heap.size ≤ (w6.alloc _).heap.size; simp) (fun k hk => (HK1.out.2.2.2.2.2.2.lt k hk).1)
               have H7 := Lib.hid (And.intro hrow7 hb7)
               clear hrow7 hgr7 hb7)
            | (refine step_append_blk (by rfl) (.tmp 91) (.tmp 95) (by rfl) w6.heap.size _ M1 (by rfl) H7.out.1 (if c' = k1 then some ⟨g, 0, none⟩ else some ⟨g, k1 * 2, none⟩) (c' - k1) M2 (by rw [HK1.out.2.1]; rfl) (HK1.out.2.2.2.2.2.1.below H7.out.2) (fun h => by split at h <;> cases h) (by have := HK1.out.1; have := HK1.out.2.1; omega) H7.out.2.size ?_
               intro A8 c8 w8 hrow8 hgr8
               rw [← HK1.out.2.2.1] at hrow8 ⊢
               have hb8 : Below w6.heap.size w6 w8 := H7.out.2.grown hgr8 H7.out.2.size (fun k hk => (H7.out.1.lt k hk).1)
               have H8 := Lib.hid (And.intro hrow8 hb8)
               clear hrow8 hgr8 hb8))
          go_wp2_with (fail)
          go_roundw
          case rel =>
            have hB6 := H6.out.1
            rw [HK1.out.2.2.2.1] at hB6
            have hg6 : Grow1 b wc w6 := ⟨H6.out.2.1.os, H6.out.2.1.tape, H6.out.2.1.output, H6.out.2.1.size, H6.out.2.1.block⟩
            have h0 := hg6.size
            exact ⟨M3, A8, c8, ii + 1, rfl, by go_num, by omega, own_low H8.out.1 (by have := HO.out.2.2.2; omega), hB6.keep (H8.out.2.block _ hB6.lt), (Below.grow1 HO.out.2.2.1 hg6 hb1 (by have := HO.out.2.2.1.size; omega)).trans (H8.out.2.mono (by have := HO.out.2.2.1.size; omega)), by have := H8.out.2.size; have := HO.out.2.2.2; omega⟩
          case measure => simp [lenOf]; omega
      · have hM0 : M = [] := List.length_eq_zero_iff.1 (by omega)
        subst hM0
        have k1 := (hbr.cell (p := ⟨w.heap.size, 0, none⟩) (Nat.lt_succ_self _)).trans b1
        have hbk := blocks_ok wr b N [] hBr
        rw [blocks_none N hN] at hbk
        have HB := Lib.hid (And.intro hBr (And.intro hbr hbk))
        clear hown hBr hbr hsr hbk
        have hfd := run_given
        have z0 : ¬ ((([] : List Blk).length : Nat) : Int) > 0 := by simp
        go_wp2_with (first
          | (go_at_call 13; refine HB.out.2.2.mono ?_; rintro e w6 ⟨⟨A6, c6, rfl, ho⟩, hb6⟩; have k2 := cell_keep2 hb6 k1; have H6 := Lib.hid (And.intro ho.at.1 (And.intro (HB.out.1.keep (hb6.block _ HB.out.1.lt)) (HB.out.2.1.trans (hb6.mono (by have := HB.out.2.1.size; omega))))); clear ho hb6)
          | (go_at_call 22; refine (sameB_ok _ A6 _ c6 _ [(0, N)] [(0, N)] (H6.out.1.below (below_box _ _)) (blk_lit1 w6 0 N)).mono ?_; rintro e w7 ⟨rfl, n7, hw7⟩; have H7 := Lib.hid (show BuL w7 b N [] ∧ Below (w.heap.size + 1) W1 w7 from by subst hw7; exact ⟨H6.out.2.1.keep (alloc_old _ _ _ H6.out.2.1.lt), below_drewN (H6.out.2.2.alloc (by have := H6.out.2.2.size; omega) _) _⟩); clear hw7)
          | (go_at_call 20; refine (save_ok w7 b N [] H7.out.1).mono ?_; rintro e w8 ⟨⟨A8, c8, rfl, ho⟩, hb8⟩; have H8 := Lib.hid (H7.out.2.trans (hb8.mono (by have := H7.out.2.size; omega))); clear ho hb8)
          | (go_at_call 11; refine (shown_ok _).mono ?_; rintro e w10 ⟨rfl, hb⟩; have H10 := Lib.hid (H8.out.trans (hb.mono (by have := H8.out.size; omega))); clear hb))
        go_ret
        exact ⟨rfl, HX.out.2.1.trans (H10.out.mono (Nat.le_succ _))⟩
end Bu
end Go.Proofs.Ytdanhbbdkcbapaa
