/- Alloc of the specification. -/
import Derived.Test.YtdanhbbdkcbapaaRK
import Derived.Deep.RegionWith
import Derived.Outline
namespace Go.Proofs.Ytdanhbbdkcbapaa
open Go.RowKit
namespace Bu

set_option maxRecDepth 100000 in
set_option maxHeartbeats 2000000 in
theorem allocR_bad (w : World) (N : Int) (A : Option Addr) (c n : Nat) (k : Int) (hbad : ¬ (0 ≤ k ∧ k ≤ 10)) :
    Calls Try.prog 39 #[sv N A n c, .int .i64 k] w fun e w' => e = .returned (.tuple #[sv N A n c, .int .i64 0, .int .i64 7]) ∧ Below w.heap.size w w' := by
  have hO := fun W => order_ok k W
  rw [decide_eq_false hbad] at hO
  have HO := Lib.hid hO
  clear hO hbad
  go_enter Try.func39, Try.ntmps39
  go_wp2_with (go_at_call 28; refine (HO.out _).mono ?_; rintro e w' ⟨rfl, rfl⟩)
  refine bodyPost_ret (v := .tuple #[sv N A n c, .int .i64 0, .int .i64 7]) (by simp [results, Try.results39, go_sem]) rfl ⟨rfl, ?_⟩
  exact ((below_box w _).alloc (by simp) _)

/-- What Alloc returns. -/
def GiveR (N : Nat) (A : Option Addr) (c : Nat) (L : List Blk) (n B : Nat) (e : Ending) (w' : World) : Prop :=
  match allocB N L n with
  | none => e = .returned (.tuple #[sv N A L.length c, .int .i64 0, .int .i64 5])
  | some (p, L') => ∃ A' c', e = .returned (.tuple #[sv N A' L'.length c', .int .i64 (p : Int), .int .i64 0]) ∧ Own w' B A' c' L'

/-- The best index so far. -/
def BestAt (B : List Blk) (a : Option Blk) (b : Int) : Prop := (a = none ∧ b = -1) ∨ ∃ j x, a = some x ∧ b = ((j : Nat) : Int) ∧ B[j]? = some x

set_option maxRecDepth 100000 in
set_option maxHeartbeats 4000000 in
theorem allocR_ok (w : World) (N : Nat) (A : Option Addr) (c : Nat) (L : List Blk) (n : Nat) (hn : n ≤ 10) (h : BlkAt w A c L) (hS : St N L) :
    Calls Try.prog 39 #[sv N A L.length c, .int .i64 (n : Int)] w fun e w' => GiveR N A c L n w.heap.size e w' ∧ Below w.heap.size w w' := by
  have hN := hS.n10
  have hO := fun W => order_ok (n : Int) W
  rw [decide_eq_true (show (0 : Int) ≤ (n : Int) ∧ (n : Int) ≤ 10 by omega)] at hO
  have HO := Lib.hid hO
  have hb0 := below_box w (.cells #[.int .i64 (N : Int), .slice A L.length c] 24)
  have hg1 := blk_new w (.int .i64 (N : Int)) (.slice A L.length c) 24
  obtain ⟨W1, hW1⟩ : ∃ W1, W1 = w.alloc (.cells #[.int .i64 (N : Int), .slice A L.length c] 24) := ⟨_, rfl⟩
  rw [← hW1] at hb0 hg1
  have hs1 : W1.heap.size = w.heap.size + 1 := by rw [hW1]; simp
  have hg2 := blk_new W1 (.int .i64 0) (.slice none 0 0) 24
  obtain ⟨W2, hW2⟩ : ∃ W2, W2 = W1.alloc (.cells #[.int .i64 0, .slice none 0 0] 24) := ⟨_, rfl⟩
  rw [← hW2, hs1] at hg2
  have hs2 : W2.heap.size = w.heap.size + 2 := by rw [hW2]; simp [hs1]
  have hbx : Below W1.heap.size W1 W2 := by rw [hW2]; exact below_box _ _
  have hb2 : Below w.heap.size w W2 := hb0.trans (hbx.mono (by omega))
  have hg1' := (hbx.block w.heap.size (by omega)).trans hg1
  obtain ⟨b1, b2, _, _⟩ := two_cells hg1'
  have hsm := small_blocks hS
  have hln := blocks_len hS
  have hBl := blocksR_ok W2 N A c L (h.below hb2) (st_le hS) hN
  obtain ⟨B, hB⟩ : ∃ B, B = blocksB N L := ⟨_, rfl⟩
  have hal : allocB N L n = (bestOf n none B).map fun x => (x.1, putB L (x.1, n)) := by unfold allocB; rw [hB]
  rw [← hB] at hBl hsm hln
  have HBl := Lib.hid hBl
  have hP := fun (p : Nat) W (hb : Below W2.heap.size W2 W) => putR_ok W N A c L (p, n) ((h.below hb2).below hb) (by have := st_len hS; omega)
  have HP := Lib.hid hP
  have HG := Lib.hid (And.intro hb2 (And.intro hs2 (And.intro hg2 (And.intro hg1' (And.intro hW1 (And.intro hal hsm))))))
  have HW2 := Lib.hid hW2
  clear hb0 hg1 hW1 hs1 hg2 hW2 hs2 hbx hb2 hg1' hP h hS hO hBl hB hal hsm
  go_enter Try.func39, Try.ntmps39
  go_wp2_with (fail)
  rw [← HG.out.2.2.2.2.1, ← HW2.out]
  go_wp2_with (first | (go_at_call 28; refine (HO.out _).mono ?_; rintro e w' ⟨rfl, rfl⟩) | (go_at_call 45; refine HBl.out.mono ?_; rintro e w5 ⟨⟨A', c', rfl, hown⟩, hbw⟩; have H5 := Lib.hid (And.intro hown hbw); clear hown hbw))
  have hat := H5.out.1.at.1
  have hcap := hat.len
  unfold maxLen at hcap
  have HA := Lib.hid hat
  clear hat
  go_loopw [8, 9] (fun b i wr => ∃ (k : Nat) (a : Option Blk) (bi : Int), k ≤ B.length ∧ i = .int .i64 k ∧ b = .int .i64 bi ∧ BestAt B a bi ∧ bestOf n none B = bestOf n a (B.drop k) ∧ ∃ q, wr = w5.drewN q) (fun _ i _ => B.length - (intOf i).toNat)
  case atStart => exact ⟨0, none, -1, Nat.zero_le _, rfl, rfl, .inl ⟨rfl, rfl⟩, rfl, 0, rfl⟩
  case round =>
    obtain ⟨k, a, bi, hk, rfl, rfl, hba, hbo, hq⟩ := hrel
    have hAt : BlkAt wr A' c' B := by obtain ⟨q, rfl⟩ := hq; exact HA.out
    have e0 : (0 : Int) ≤ (k : Int) := by omega
    by_cases hlt : k < B.length
    · obtain ⟨x, hx⟩ : ∃ x, B[k]? = some x := ⟨_, List.getElem?_eq_getElem hlt⟩
      have hd : B.drop k = x :: B.drop (k + 1) := by
        rw [List.drop_eq_getElem_cons hlt]
        congr 1
        rw [List.getElem?_eq_getElem hlt] at hx
        injection hx
      obtain ⟨g, o, hA, hg, d1, d2⟩ := hAt.at hx
      rw [hd, bestOf] at hbo
      subst hA
      have hkk : IntKind.i64.wrap ((k : Int) + 1) = ((k + 1 : Nat) : Int) := by rw [IntWalk.i64_in _ (by omega)]; rfl
      have e1 : (k : Int) < (B.length : Int) := by omega
      by_cases hmn : n ≤ x.2
      · have t1 : (n : Int) ≤ (x.2 : Int) := by omega
        rcases hba with ⟨rfl, rfl⟩ | ⟨j, y, rfl, rfl, hy⟩
        · rw [if_pos ⟨hmn, fun y e => by cases e⟩] at hbo
          have HB := Lib.hid (And.intro hbo (And.intro hq (show BestAt B (some x) (k : Int) from .inr ⟨k, x, rfl, rfl, hx⟩)))
          clear hbo hq hx hd hAt
          go_wp2_with (fail)
          go_quiet (fail)
          go_wp2_with (fail)
          go_roundw
          case rel =>
            refine ⟨k + 1, some x, (k : Int), by omega, by go_num, rfl, HB.out.2.2, HB.out.1, ?_⟩
            obtain ⟨q, hq⟩ := HB.out.2.1
            exact ⟨_, by rw [hq]; exact World.drewN_drewN _ _ _⟩
          case measure => simp [intOf]; omega
        · obtain ⟨g', o', hA', hg', d3, d4⟩ := hAt.at hy
          obtain ⟨rfl, rfl⟩ : g = g' ∧ o = o' := by injection hA' with h1; injection h1 with h2 h3; exact ⟨h2, h3⟩
          have hjl : j < B.length := (List.getElem?_eq_some_iff.1 hy).1
          have e3 : (0 : Int) ≤ (j : Int) := by omega
          have e4 : (j : Int) < (B.length : Int) := by omega
          have e5 : ¬ (j : Int) < 0 := by omega
          by_cases hxy : x.2 < y.2
          · have t2 : (x.2 : Int) < (y.2 : Int) := by omega
            rw [if_pos ⟨hmn, fun z e => by injection e with e; subst e; exact hxy⟩] at hbo
            have HB := Lib.hid (And.intro hbo (And.intro hq (show BestAt B (some x) (k : Int) from .inr ⟨k, x, rfl, rfl, hx⟩)))
            clear hbo hq hx hd hAt hy hA'
            go_wp2_with (fail)
            go_quiet (fail)
            go_wp2_with (fail)
            go_roundw
            case rel =>
              refine ⟨k + 1, some x, (k : Int), by omega, by go_num, rfl, HB.out.2.2, HB.out.1, ?_⟩
              obtain ⟨q, hq⟩ := HB.out.2.1
              exact ⟨_, by rw [hq]; exact World.drewN_drewN _ _ _⟩
            case measure => simp [intOf]; omega
          · have t2 : ¬ (x.2 : Int) < (y.2 : Int) := by omega
            rw [if_neg (fun h => hxy (h.2 y rfl))] at hbo
            have HB := Lib.hid (And.intro hbo (And.intro hq (show BestAt B (some y) (j : Int) from .inr ⟨j, y, rfl, rfl, hy⟩)))
            clear hbo hq hx hd hAt hy hA'
            go_wp2_with (fail)
            go_quiet (fail)
            go_wp2_with (fail)
            go_roundw
            case rel =>
              refine ⟨k + 1, some y, (j : Int), by omega, by go_num, rfl, HB.out.2.2, HB.out.1, ?_⟩
              obtain ⟨q, hq⟩ := HB.out.2.1
              exact ⟨_, by rw [hq]; exact World.drewN_drewN _ _ _⟩
            case measure => simp [intOf]; omega
      · have t1 : ¬ (n : Int) ≤ (x.2 : Int) := by omega
        rw [if_neg (fun h => hmn h.1)] at hbo
        have HB := Lib.hid (And.intro hbo (And.intro hq hba))
        clear hbo hq hx hd hAt hba
        go_wp2_with (fail)
        go_quiet (fail)
        go_wp2_with (fail)
        go_roundw
        case rel =>
          refine ⟨k + 1, a, bi, by omega, by go_num, rfl, HB.out.2.2, HB.out.1, ?_⟩
          obtain ⟨q, hq⟩ := HB.out.2.1
          exact ⟨_, by rw [hq]; exact World.drewN_drewN _ _ _⟩
        case measure => simp [intOf]; omega
    · obtain rfl : k = B.length := by omega
      rw [List.drop_length, bestOf] at hbo
      have hwb : ∀ b : Nat, wr.heap[b]? = w5.heap[b]? := by obtain ⟨q, rfl⟩ := hq; exact fun _ => rfl
      have hbb : Below W2.heap.size W2 wr := by obtain ⟨q, rfl⟩ := hq; exact below_drewN H5.out.2 _
      have hR := (hwb (w.heap.size + 1)).trans ((H5.out.2.block (w.heap.size + 1) (by have := HG.out.2.1; omega)).trans HG.out.2.2.1)
      have hSt := (hwb w.heap.size).trans ((H5.out.2.block w.heap.size (by have := HG.out.2.1; omega)).trans HG.out.2.2.2.1)
      have hr2 := two_cells hR
      have hs2 := two_cells hSt
      obtain ⟨c1, c2, f1, f2⟩ := hr2
      obtain ⟨s1, s2, _, _⟩ := hs2
      rcases hba with ⟨rfl, rfl⟩ | ⟨j, y, rfl, rfl, hy⟩
      · have HB := Lib.hid (And.intro hbo (And.intro hbb (two_set hR (.int .i64 (N : Int)) (.slice A L.length c))))
        clear hbo hbb hR hSt hAt hwb hq
        go_wp2_with (fail)
        obtain ⟨q4, q5, _, _⟩ := two_cells HB.out.2.2
        refine bodyPost_ret (v := .tuple #[sv N A L.length c, .int .i64 0, .int .i64 5]) (by simp [results, Try.results39, go_sem, q4, q5]) rfl ⟨?_, ?_⟩
        · unfold GiveR
          rw [HG.out.2.2.2.2.2.1, HB.out.1]; rfl
        · exact (((HG.out.1.trans (HB.out.2.1.mono (by have := HG.out.2.1; omega))).setCell (p := ⟨w.heap.size + 1, 0, none⟩) (by show w.heap.size ≤ w.heap.size + 1; omega) _).setCell (p := ⟨w.heap.size + 1, 1, none⟩) (by show w.heap.size ≤ w.heap.size + 1; omega) _)
      · obtain ⟨g, o, hA, hg, d1, d2⟩ := hAt.at hy
        have hjl : j < B.length := (List.getElem?_eq_some_iff.1 hy).1
        have e3 : (0 : Int) ≤ (j : Int) := by omega
        have e4 : (j : Int) < (B.length : Int) := by omega
        have e5 : ¬ (j : Int) < 0 := by omega
        obtain ⟨p, m⟩ := y
        subst hA
        dsimp only at d1 d2
        have hgR : g ≠ w.heap.size + 1 := by
          have := (H5.out.1.at.2 g rfl).1
          have := HG.out.2.1
          omega
        have HB := Lib.hid (And.intro hbo (And.intro hbb (And.intro hR hSt)))
        clear hbo hbb hR hSt hAt hwb hq hy
        go_wp2_with (fail)
        go_region_with (go_at_call 50; refine (HP.out _ _ (by first | exact HB.out.2.1.drew | exact HB.out.2.1)).mono ?_; rintro e w6 ⟨⟨A6, c6, rfl, hown⟩, hb6⟩; have hn3 : w6.heap[w.heap.size + 1]? = some (.cells #[.int .i64 0, .slice none 0 0] 24 (0, 0)) := (hb6.block (w.heap.size + 1) (lt_of_heap HB.out.2.2.1)).trans HB.out.2.2.1; obtain ⟨c3, c4, f3, f4⟩ := two_cells hn3; have d3 : w6.cell? ⟨g, o + j * 2, none⟩ = some (.int .i64 (p : Int)) := (World.cell?_of_block (a := ⟨g, _, none⟩) (hb6.block g hg)).trans d1; have H6 := Lib.hid (And.intro hown (And.intro hb6 (two_set hn3 (.int .i64 (N : Int)) (.slice A6 (putB L (p, n)).length c6)))); clear hown hb6 hn3)
        all_goals
          go_wp2_with (fail)
          obtain ⟨q4, q5, _, _⟩ := two_cells H6.out.2.2
          have hsz := HB.out.2.1.size
          have hsz2 := HG.out.2.1
          refine bodyPost_ret (v := .tuple #[sv N A6 (putB L (p, n)).length c6, .int .i64 (p : Int), .int .i64 0]) (by simp [results, Try.results39, go_sem, q4, q5]) rfl ⟨?_, ?_⟩
          · unfold GiveR
            rw [HG.out.2.2.2.2.2.1, HB.out.1]
            refine ⟨A6, c6, rfl, row_low (row_keep H6.out.1 fun b hb _ => ?_) (show w.heap.size ≤ wr.heap.size by omega)⟩
            have hb : wr.heap.size ≤ b := hb
            exact (setCell_far _ _ _ _ (by show b ≠ w.heap.size + 1; omega)).trans (setCell_far _ _ _ _ (by show b ≠ w.heap.size + 1; omega))
          · have h6 : Below wr.heap.size wr w6 := ⟨H6.out.2.1.os, H6.out.2.1.tape, H6.out.2.1.output, H6.out.2.1.size, H6.out.2.1.block⟩
            exact (((HG.out.1.trans ((HB.out.2.1.trans (h6.mono (by omega))).mono (by omega))).setCell (p := ⟨w.heap.size + 1, 0, none⟩) (by show w.heap.size ≤ w.heap.size + 1; omega) _).setCell (p := ⟨w.heap.size + 1, 1, none⟩) (by show w.heap.size ≤ w.heap.size + 1; omega) _)
end Bu
end Go.Proofs.Ytdanhbbdkcbapaa
