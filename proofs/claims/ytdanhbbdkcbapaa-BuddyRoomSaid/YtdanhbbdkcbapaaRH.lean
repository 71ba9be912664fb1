/- Owner, Largest and Room of the specification. -/
import Derived.Test.YtdanhbbdkcbapaaRG
namespace Go.Proofs.Ytdanhbbdkcbapaa
open Go.RowKit
namespace Bu

theorem find_idx {α : Type} (f : α → Bool) : ∀ L : List α, L.find? f = (L.findIdx? f).bind fun i => L[i]? := by
  intro L
  induction L with
  | nil => rfl
  | cons x L ih =>
    rw [List.find?_cons, List.findIdx?_cons]
    cases h : f x with
    | true => simp
    | false =>
      simp only [Bool.false_eq_true, if_false]
      rw [ih]
      cases L.findIdx? f <;> rfl

def OwnV : Option Blk → Value
  | some x => .tuple #[.agg #[.int .i64 (x.1 : Int), .int .i64 (x.2 : Int)], .int .i64 0]
  | none => .tuple #[.agg #[.int .i64 0, .int .i64 0], .int .i64 4]

theorem givenI_owner {L : List Blk} {p : Nat} : (givenI L p = -1 ∧ ownerB L p = none) ∨ ∃ i x, givenI L p = ((i : Nat) : Int) ∧ L[i]? = some x ∧ ownerB L p = some x := by
  unfold givenI ownerB
  rw [find_idx]
  cases e : L.findIdx? (hasP · p) with
  | none => exact .inl ⟨rfl, rfl⟩
  | some i =>
    obtain ⟨h1, _⟩ := List.findIdx?_eq_some_iff_getElem.1 e
    exact .inr ⟨i, L[i], rfl, List.getElem?_eq_getElem h1, List.getElem?_eq_getElem h1⟩

theorem blk_new (V : World) (x y : Value) (T : TypeId) : (V.alloc (.cells #[x, y] T)).heap[V.heap.size]? = some (.cells #[x, y] T (0, 0)) := by rw [heapAlloc, if_pos rfl]

set_option maxRecDepth 100000 in
set_option maxHeartbeats 2000000 in
theorem ownerR_bad (w : World) (N : Nat) (A : Option Addr) (c : Nat) (L : List Blk) (page : Int) (hN : N ≤ 10) (hp : page < 0 ∨ ((2 ^ N : Nat) : Int) ≤ page) :
    Calls Try.prog 42 #[sv N A L.length c, .int .i64 page] w fun e w' => e = .returned (.tuple #[.agg #[.int .i64 0, .int .i64 0], .int .i64 7]) ∧ Below w.heap.size w w' := by
  obtain ⟨b1, b2⟩ := state_cells w (.int .i64 (N : Int)) (.slice A L.length c) 24
  have hb0 := below_box w (.cells #[.int .i64 (N : Int), .slice A L.length c] 24)
  obtain ⟨W1, hW1⟩ : ∃ W1, W1 = w.alloc (.cells #[.int .i64 (N : Int), .slice A L.length c] 24) := ⟨_, rfl⟩
  rw [← hW1] at b1 b2 hb0
  have hs1 : W1.heap.size = w.heap.size + 1 := by rw [hW1]; simp
  have hn := blk_new W1 (.int .i64 0) (.int .i64 0) 39
  obtain ⟨W2, hW2⟩ : ∃ W2, W2 = W1.alloc (.cells #[.int .i64 0, .int .i64 0] 39) := ⟨_, rfl⟩
  rw [← hW2, hs1] at hn
  have hb1 : Below w.heap.size w W2 := by rw [hW2]; exact hb0.alloc (by omega) _
  have hbx : Below W1.heap.size W1 W2 := by rw [hW2]; exact below_box _ _
  replace b1 := cell_keep2 hbx b1
  replace b2 := cell_keep2 hbx b2
  have h4 := two_cells hn
  obtain ⟨c1, c2, f1, f2⟩ := h4
  have h5 := two_cells (setCell_at _ _ 1 _ _ (.int .i64 0) (setCell_at _ _ 0 _ _ (.int .i64 0) hn))
  have HW := Lib.hid (And.intro hW1 hW2)
  have HB := Lib.hid hb1
  have H5 := Lib.hid h5
  have HZ := Lib.hid (size_ok N W2 (by omega))
  obtain ⟨M, hM⟩ : ∃ M : Nat, M = 2 ^ N := ⟨_, rfl⟩
  rw [← hM] at HZ hp
  clear hW1 hW2 hb0 hb1 hbx hs1 hn h5 hM
  rcases hp with hp | hp
  · go_enter Try.func42, Try.ntmps42
    go_wp2_with (fail)
    rw [← HW.out.1, ← HW.out.2]
    go_wp2
    obtain ⟨q1, q2, _, _⟩ := H5.out
    refine bodyPost_ret (v := .tuple #[.agg #[.int .i64 0, .int .i64 0], .int .i64 7]) (by simp [results, Try.results42, go_sem, q1, q2, c1, c2]) rfl ⟨rfl, ?_⟩
    first | exact HB.out | exact ((HB.out.setCell (p := ⟨w.heap.size + 1, 0, none⟩) (by show w.heap.size ≤ w.heap.size + 1; omega) _).setCell (p := ⟨w.heap.size + 1, 1, none⟩) (by show w.heap.size ≤ w.heap.size + 1; omega) _)
  · have hp0 : ¬ page < 0 := by omega
    go_enter Try.func42, Try.ntmps42
    go_wp2_with (fail)
    rw [← HW.out.1, ← HW.out.2]
    go_wp2_with (go_at_call 15; refine HZ.out.mono ?_; rintro e w' ⟨rfl, rfl⟩)
    obtain ⟨q1, q2, _, _⟩ := H5.out
    refine bodyPost_ret (v := .tuple #[.agg #[.int .i64 0, .int .i64 0], .int .i64 7]) (by simp [results, Try.results42, go_sem, q1, q2, c1, c2]) rfl ⟨rfl, ?_⟩
    first | exact HB.out | exact ((HB.out.setCell (p := ⟨w.heap.size + 1, 0, none⟩) (by show w.heap.size ≤ w.heap.size + 1; omega) _).setCell (p := ⟨w.heap.size + 1, 1, none⟩) (by show w.heap.size ≤ w.heap.size + 1; omega) _)

set_option maxRecDepth 100000 in
set_option maxHeartbeats 2000000 in
theorem ownerR_ok (w : World) (N : Nat) (A : Option Addr) (c : Nat) (L : List Blk) (page : Nat) (hN : N ≤ 10) (h : BlkAt w A c L) (hS : Small L) (hp : page < 2 ^ N) :
    Calls Try.prog 42 #[sv N A L.length c, .int .i64 (page : Int)] w fun e w' => e = .returned (OwnV (ownerB L page)) ∧ Below w.heap.size w w' := by
  have hlt : 2 ^ N ≤ 1024 := by
    have : 2 ^ N ≤ 2 ^ 10 := Nat.pow_le_pow_right (by omega) hN
    omega
  obtain ⟨b1, b2⟩ := state_cells w (.int .i64 (N : Int)) (.slice A L.length c) 24
  have hb0 := below_box w (.cells #[.int .i64 (N : Int), .slice A L.length c] 24)
  obtain ⟨W1, hW1⟩ : ∃ W1, W1 = w.alloc (.cells #[.int .i64 (N : Int), .slice A L.length c] 24) := ⟨_, rfl⟩
  rw [← hW1] at b1 b2 hb0
  have hs1 : W1.heap.size = w.heap.size + 1 := by rw [hW1]; simp
  have hn := blk_new W1 (.int .i64 0) (.int .i64 0) 39
  obtain ⟨W2, hW2⟩ : ∃ W2, W2 = W1.alloc (.cells #[.int .i64 0, .int .i64 0] 39) := ⟨_, rfl⟩
  rw [← hW2, hs1] at hn
  have hs2 : W2.heap.size = w.heap.size + 2 := by rw [hW2]; simp [hs1]
  have hb1 : Below w.heap.size w W2 := by rw [hW2]; exact hb0.alloc (by omega) _
  have hbx : Below W1.heap.size W1 W2 := by rw [hW2]; exact below_box _ _
  replace b1 := cell_keep2 hbx b1
  replace b2 := cell_keep2 hbx b2
  have h4 := two_cells hn
  obtain ⟨c1, c2, f1, f2⟩ := h4
  have HW := Lib.hid (And.intro hW1 hW2)
  have hZ := size_ok N W2 (by omega)
  obtain ⟨M, hM⟩ : ∃ M : Nat, M = 2 ^ N := ⟨_, rfl⟩
  rw [← hM] at hZ hp hlt
  have HZ := Lib.hid hZ
  have hG := given_ok W2 N A c L page (h.below hb1) hS (by omega)
  have e1 : (page : Int) < (M : Int) := by omega
  have e0 : (0 : Int) ≤ (page : Int) := by omega
  have HB := Lib.hid (And.intro hb1 (And.intro hs2 (And.intro (h.below hb1) hn)))
  rcases @givenI_owner L page with ⟨g1, g2⟩ | ⟨i, x, g1, g2, g3⟩
  · rw [g1] at hG
    rw [g2]
    have HG := Lib.hid hG
    clear hW1 hW2 hb0 hb1 hbx hs1 hs2 hM g1 g2 hG hZ h hS hn
    go_enter Try.func42, Try.ntmps42
    go_wp2_with (fail)
    rw [← HW.out.1, ← HW.out.2]
    go_wp2_with (first | (go_at_call 15; refine HZ.out.mono ?_; rintro e w' ⟨rfl, rfl⟩) | (go_at_call 33; refine HG.out.mono ?_; rintro e w' ⟨rfl, hbG⟩; have hn3 := (hbG.block (w.heap.size + 1) (by have := HB.out.2.1; omega)).trans HB.out.2.2.2; obtain ⟨c3, c4, f3, f4⟩ := two_cells hn3; have H5 := Lib.hid (And.intro hbG hn3); clear hbG hn3))
    obtain ⟨q1, q2, _, _⟩ := two_cells (setCell_at _ _ 1 _ _ (.int .i64 0) (setCell_at _ _ 0 _ _ (.int .i64 0) H5.out.2))
    refine bodyPost_ret (v := .tuple #[.agg #[.int .i64 0, .int .i64 0], .int .i64 4]) (by simp [results, Try.results42, go_sem, q1, q2]) rfl ⟨rfl, ?_⟩
    exact (((HB.out.1.trans (H5.out.1.mono (by have := HB.out.2.1; omega))).setCell (p := ⟨w.heap.size + 1, 0, none⟩) (by show w.heap.size ≤ w.heap.size + 1; omega) _).setCell (p := ⟨w.heap.size + 1, 1, none⟩) (by show w.heap.size ≤ w.heap.size + 1; omega) _)
  · rw [g1] at hG
    rw [g3]
    obtain ⟨hlc, hcap⟩ := h.len
    unfold maxLen at hcap
    have hil : i < L.length := (List.getElem?_eq_some_iff.1 g2).1
    have e2 : (0 : Int) ≤ (i : Int) := by omega
    have e3 : (i : Int) < (L.length : Int) := by omega
    obtain ⟨g, o, hA, hg, d1, d2⟩ := (h.below hb1).at g2
    obtain ⟨p, n⟩ := x
    subst hA
    dsimp only at d1 d2
    have HG := Lib.hid (And.intro hG (And.intro d1 d2))
    clear hW1 hW2 hb0 hb1 hbx hs1 hs2 hM g1 g2 g3 hG hZ h hS hn d1 d2
    go_enter Try.func42, Try.ntmps42
    go_wp2_with (fail)
    rw [← HW.out.1, ← HW.out.2]
    go_wp2_with (first | (go_at_call 15; refine HZ.out.mono ?_; rintro e w' ⟨rfl, rfl⟩) | (go_at_call 33; refine HG.out.1.mono ?_; rintro e w' ⟨rfl, hbG⟩; have hn3 := (hbG.block (w.heap.size + 1) (by have := HB.out.2.1; omega)).trans HB.out.2.2.2; obtain ⟨c3, c4, f3, f4⟩ := two_cells hn3; have c5 := cell_keep2 hbG b2; have d1 := cell_keep2 hbG HG.out.2.1; have d2 := cell_keep2 hbG HG.out.2.2; have H5 := Lib.hid (And.intro hbG hn3); clear hbG hn3))
    obtain ⟨q1, q2, _, _⟩ := two_cells (setCell_at _ _ 1 _ _ (.int .i64 (n : Int)) (setCell_at _ _ 0 _ _ (.int .i64 (p : Int)) H5.out.2))
    refine bodyPost_ret (v := .tuple #[.agg #[.int .i64 (p : Int), .int .i64 (n : Int)], .int .i64 0]) (by simp [results, Try.results42, go_sem, q1, q2]) rfl ⟨rfl, ?_⟩
    exact (((HB.out.1.trans (H5.out.1.mono (by have := HB.out.2.1; omega))).setCell (p := ⟨w.heap.size + 1, 0, none⟩) (by show w.heap.size ≤ w.heap.size + 1; omega) _).setCell (p := ⟨w.heap.size + 1, 1, none⟩) (by show w.heap.size ≤ w.heap.size + 1; omega) _)
end Bu
end Go.Proofs.Ytdanhbbdkcbapaa
