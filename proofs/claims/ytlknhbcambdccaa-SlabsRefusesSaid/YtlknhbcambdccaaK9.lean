/- Check of the specification. given and Free of the specification. Free of the specification. Blocks of the specification. -/
import Derived.Test.YtlknhbcambdccaaK8
import Derived.Test.YtlknhbcambdccaaK5
import Derived.OwnWalk
namespace Go.Proofs.Ytlknhbcambdccaa
open Go.RowKit
namespace Bu

/-- Are blocks valid from a page on? -/
def chkZ (N : Nat) : Int → List (Int × Int) → Bool
  | _, [] => true
  | nx, x :: l => inZ N x.1 x.2 && decide (nx ≤ x.1) && chkZ N (x.1 + ((2 ^ x.2.toNat : Nat) : Int)) l
def checkV (N : Int) (L : List (Int × Int)) : Int := if 0 ≤ N ∧ N ≤ 10 then (if chkZ N.toNat 0 L = true then 0 else 6) else 7

theorem inZ_le {N : Nat} {p n : Int} (hN : N ≤ 10) (h : inZ N p n = true) : 0 ≤ p ∧ 0 ≤ n ∧ n ≤ 10 ∧ p + ((2 ^ n.toNat : Nat) : Int) ≤ 1024 := by
  obtain ⟨q, k, rfl, rfl, h1, h2, h3⟩ := inZ_true h
  have h1 : k ≤ N := h1
  have h3 : q + 2 ^ k ≤ 2 ^ N := h3
  have : 2 ^ N ≤ 2 ^ 10 := Nat.pow_le_pow_right (by omega) hN
  rw [Int.toNat_natCast]
  omega

theorem state_cells (w : World) (x y : Value) (T : TypeId) : (w.alloc (.cells #[x, y] T)).cell? ⟨w.heap.size, 0, none⟩ = some x ∧ (w.alloc (.cells #[x, y] T)).cell? ⟨w.heap.size, 1, none⟩ = some y := by
  have h : (w.alloc (.cells #[x, y] T)).heap[w.heap.size]? = some (.cells #[x, y] T (0, 0)) := by rw [heapAlloc, if_pos rfl]
  exact ⟨(two_cells h).1, (two_cells h).2.1⟩
theorem cell_keep2 {w1 w2 : World} (hb : Below w1.heap.size w1 w2) {b o : Nat} {v : Value} (h : w1.cell? ⟨b, o, none⟩ = some v) : w2.cell? ⟨b, o, none⟩ = some v :=
  (hb.cell (p := ⟨b, o, none⟩) (World.block_lt_of_cell? w1 _ h)).trans h

end Bu
end Go.Proofs.Ytlknhbcambdccaa
namespace Go.Proofs.Ytlknhbcambdccaa
open Go.RowKit
namespace Bu

def givenI (L : List Blk) (p : Nat) : Int := match L.findIdx? (hasP · p) with | some i => (i : Int) | none => -1
theorem givenI_at {L : List Blk} {p k : Nat} {x : Blk} (hx : L[k]? = some x) (h : hasP x p = true) (hno : ∀ j y, j < k → L[j]? = some y → hasP y p = false) : givenI L p = k := by
  unfold givenI
  have : L.findIdx? (hasP · p) = some k := by
    rw [List.findIdx?_eq_some_iff_getElem]
    obtain ⟨hk, he⟩ := List.getElem?_eq_some_iff.1 hx
    refine ⟨hk, by rw [he]; exact h, fun j hj => ?_⟩
    have := hno j (L[j]) hj (List.getElem?_eq_getElem (by omega))
    rw [this]; simp
  rw [this]
theorem givenI_no {L : List Blk} {p : Nat} (hno : ∀ j y, j < L.length → L[j]? = some y → hasP y p = false) : givenI L p = -1 := by
  unfold givenI
  have : L.findIdx? (hasP · p) = none := by
    rw [List.findIdx?_eq_none_iff]
    intro x hx
    obtain ⟨j, hj, he⟩ := List.mem_iff_getElem.1 hx
    have := hno j x hj (by rw [List.getElem?_eq_getElem hj, he])
    simpa using this
  rw [this]
theorem givenI_neg {L : List Blk} {p : Nat} : (0 ≤ givenI L p) ↔ anyP L p = true := by
  unfold givenI anyP
  cases e : L.findIdx? (hasP · p) with
  | some i =>
    obtain ⟨h1, h2, _⟩ := List.findIdx?_eq_some_iff_getElem.1 e
    refine ⟨fun _ => List.any_eq_true.2 ⟨L[i], List.getElem_mem h1, h2⟩, fun _ => ?_⟩
    show (0 : Int) ≤ (i : Int)
    omega
  | none =>
    refine ⟨fun h => ?_, fun h => ?_⟩
    · have h : (0 : Int) ≤ -1 := h
      omega
    · obtain ⟨x, hx, h2⟩ := List.any_eq_true.1 h
      have := List.findIdx?_eq_none_iff.1 e x hx
      rw [h2] at this; cases this
theorem givenI_lt {L : List Blk} {p : Nat} : -1 ≤ givenI L p ∧ givenI L p < L.length := by
  unfold givenI
  cases e : L.findIdx? (hasP · p) with
  | some i =>
    obtain ⟨h1, _⟩ := List.findIdx?_eq_some_iff_getElem.1 e
    show (-1 : Int) ≤ (i : Int) ∧ (i : Int) < _
    omega
  | none => show (-1 : Int) ≤ -1 ∧ (-1 : Int) < _; omega

theorem st_le {N : Nat} {L : List Blk} (h : St N L) : ∀ x ∈ L, x.2 ≤ 10 ∧ x.1 + 2 ^ x.2 ≤ 1024 := fun x hx => by
  obtain ⟨h1, _, h3⟩ := h.inb x hx
  have hn := h.n10
  have : 2 ^ N ≤ 2 ^ 10 := Nat.pow_le_pow_right (by omega) hn
  omega

/-- What is asked of a list alone. -/
def Small (L : List Blk) : Prop := ∀ x ∈ L, x.2 ≤ 10 ∧ x.1 + 2 ^ x.2 ≤ 1024

set_option maxRecDepth 100000 in
set_option maxHeartbeats 2000000 in
theorem given_ok (w : World) (N : Int) (A : Option Addr) (c : Nat) (L : List Blk) (p : Nat) (h : BlkAt w A c L) (hS : Small L) (hp : p ≤ 2048) :
    Calls Try.prog 102 #[sv N A L.length c, .int .i64 (p : Int)] w fun e w' => e = .returned (.int .i64 (givenI L p)) ∧ Below w.heap.size w w' := by
  obtain ⟨hlc, hcap⟩ := h.len
  unfold maxLen at hcap
  obtain ⟨b1, b2⟩ := state_cells w (.int .i64 N) (.slice A L.length c) 46
  have hb0 := below_box w (.cells #[.int .i64 N, .slice A L.length c] 46)
  obtain ⟨r, hr⟩ : ∃ r, r = givenI L p := ⟨_, rfl⟩
  rw [← hr]
  have HR := Lib.hid hr
  have HX := Lib.hid (And.intro (h.below hb0) (And.intro hb0 hS))
  have hs0 : (w.alloc (.cells #[.int .i64 N, .slice A L.length c] 46)).heap.size = w.heap.size + 1 := by simp
  have HS := Lib.hid hs0
  clear h hb0 hs0 hr hS
  go_enter Try.func102, Try.ntmps102
  go_wp2_with (fail)
  generalize hW0 : w.alloc (.cells #[.int .i64 N, .slice A L.length c] 46) = W0 at *
  clear hW0
  go_loopw [5] (fun i wr => ∃ (k : Nat), k ≤ L.length ∧ i = .int .i64 k ∧ (∀ j y, j < k → L[j]? = some y → hasP y p = false) ∧ Below W0.heap.size W0 wr) (fun i _ => L.length - (intOf i).toNat)
  case atStart => exact ⟨0, Nat.zero_le _, rfl, fun j y hj => by omega, Below.refl _ _⟩
  case round =>
    obtain ⟨k, hk, rfl, hno, hbw⟩ := hrel
    have c0 := cell_keep2 hbw b1
    have c1 := cell_keep2 hbw b2
    have hZ := HX.out.1.below hbw
    by_cases hlt : k < L.length
    · obtain ⟨y, hy⟩ : ∃ y, L[k]? = some y := ⟨_, List.getElem?_eq_getElem hlt⟩
      obtain ⟨g, o, hA, hg, d1, d2⟩ := hZ.at hy
      have hsm := HX.out.2.2 y (List.mem_of_getElem? hy)
      obtain ⟨q, n⟩ := y
      subst hA
      have hHP : hasP (q, n) p = decide (q ≤ p ∧ p < q + 2 ^ n) := rfl
      have HZ := Lib.hid (fun W => size_ok n W (by have := hsm.1; dsimp only at this; omega))
      have hm0 := hsm.2
      dsimp only at d1 d2 hm0
      obtain ⟨m, hm⟩ : ∃ m : Nat, m = 2 ^ n := ⟨_, rfl⟩
      rw [← hm] at HZ hm0 hHP
      have e1 : (0 : Int) ≤ (k : Int) := by omega
      have e2 : (k : Int) < (L.length : Int) := by omega
      have hsum : IntKind.i64.wrap ((q : Int) + (m : Int)) = ((q + m : Nat) : Int) := by rw [IntWalk.i64_in _ (by omega)]; rfl
      have hkk : IntKind.i64.wrap ((k : Int) + 1) = ((k + 1 : Nat) : Int) := by rw [IntWalk.i64_in _ (by omega)]; rfl
      by_cases h1 : q ≤ p
      · have t1 : (q : Int) ≤ (p : Int) := by omega
        by_cases h2 : p < q + m
        · have t2 : (p : Int) < ((q + m : Nat) : Int) := by omega
          have HB := Lib.hid (And.intro hno (And.intro hbw (And.intro hy (And.intro (hHP.trans (decide_eq_true ⟨h1, h2⟩)) hm))))
          clear hno hbw hZ hy hHP hm hsm
          go_wp2_with (fail)
          go_quiet ((go_at_call 87; exact Calls.quiet_of_same ((HZ.out _).mono fun _ _ h => ⟨h.1, h.2.symm⟩)))
          go_wp2
          go_ret
          refine ⟨?_, HX.out.2.1.trans (Below.mono (below_drewN HB.out.2.1 _) (by have := HX.out.2.1.size; omega))⟩
          rw [HR.out, givenI_at HB.out.2.2.1 HB.out.2.2.2.1 HB.out.1]
          rfl
        · have t2 : decide ((p : Int) < ((q + m : Nat) : Int)) = false := by simp; omega
          have HB := Lib.hid (And.intro hno (And.intro hbw (And.intro hy (And.intro (hHP.trans (decide_eq_false (fun h => h2 h.2))) hm))))
          clear hno hbw hZ hy hHP hm hsm
          go_wp2_with (fail)
          go_quiet ((go_at_call 87; exact Calls.quiet_of_same ((HZ.out _).mono fun _ _ h => ⟨h.1, h.2.symm⟩)))
          go_wp2
          go_roundw
          case rel =>
            refine ⟨k + 1, by omega, by go_num, fun j y hj hjy => ?_, below_drewN HB.out.2.1 _⟩
            by_cases e : j = k
            · subst e
              rw [HB.out.2.2.1] at hjy
              injection hjy with hjy
              rw [← hjy]; exact HB.out.2.2.2.1
            · exact HB.out.1 j y (by omega) hjy
          case measure => simp [intOf]; omega
      · have t1 : decide ((q : Int) ≤ (p : Int)) = false := by simp; omega
        have HB := Lib.hid (And.intro hno (And.intro hbw (And.intro hy (And.intro (hHP.trans (decide_eq_false (fun h => h1 h.1))) hm))))
        clear hno hbw hZ hy hHP hm hsm
        go_wp2_with (fail)
        go_quiet (fail)
        go_wp2
        go_roundw
        case rel =>
          refine ⟨k + 1, by omega, by go_num, fun j y hj hjy => ?_, below_drewN HB.out.2.1 _⟩
          by_cases e : j = k
          · subst e
            rw [HB.out.2.2.1] at hjy
            injection hjy with hjy
            rw [← hjy]; exact HB.out.2.2.2.1
          · exact HB.out.1 j y (by omega) hjy
        case measure => simp [intOf]; omega
    · obtain rfl : k = L.length := by omega
      have HB := Lib.hid (And.intro hno hbw)
      clear hno hbw hZ
      go_wp2
      go_ret
      refine ⟨?_, HX.out.2.1.trans (HB.out.2.mono (by have := HX.out.2.1.size; omega))⟩
      rw [HR.out, givenI_no HB.out.1]
      rfl
end Bu
end Go.Proofs.Ytlknhbcambdccaa
namespace Go.Proofs.Ytlknhbcambdccaa
open Go.RowKit
namespace Bu

theorem freeB_false {L : List Blk} {p n d : Nat} (hd : d < 2 ^ n) (h : anyP L (p + d) = true) : freeB L p n = false := by
  unfold freeB
  rw [List.all_eq_false]
  exact ⟨d, List.mem_range.2 hd, by rw [h]; simp⟩
theorem freeB_true {L : List Blk} {p n : Nat} (h : ∀ d, d < 2 ^ n → anyP L (p + d) = false) : freeB L p n = true := by
  unfold freeB
  rw [List.all_eq_true]
  intro d hd
  rw [h d (List.mem_range.1 hd)]; rfl

set_option maxRecDepth 100000 in
set_option maxHeartbeats 2000000 in
theorem freeR_ok (w : World) (N : Int) (A : Option Addr) (c : Nat) (L : List Blk) (p n : Nat) (h : BlkAt w A c L) (hS : Small L) (hn : n ≤ 10) (hp : p + 2 ^ n ≤ 2048) :
    Calls Try.prog 113 #[sv N A L.length c, .int .i64 (p : Int), .int .i64 (n : Int)] w fun e w' => e = .returned (.bool (freeB L p n)) ∧ Below w.heap.size w w' := by
  obtain ⟨b1, b2⟩ := state_cells w (.int .i64 N) (.slice A L.length c) 46
  have hb0 := below_box w (.cells #[.int .i64 N, .slice A L.length c] 46)
  obtain ⟨r, hr⟩ : ∃ r, r = freeB L p n := ⟨_, rfl⟩
  rw [← hr]
  have HR := Lib.hid hr
  have HX := Lib.hid (And.intro (h.below hb0) (And.intro hb0 hS))
  have HZ := Lib.hid (fun W => size_ok n W (by omega))
  have hpos := pow_pos2 n
  obtain ⟨m, hm⟩ : ∃ m : Nat, m = 2 ^ n := ⟨_, rfl⟩
  rw [← hm] at HZ hp hpos
  have HM := Lib.hid hm
  have hsum : IntKind.i64.wrap ((p : Int) + (m : Int)) = ((p + m : Nat) : Int) := by rw [IntWalk.i64_in _ (by omega)]; rfl
  clear h hb0 hr hS hm
  go_enter Try.func113, Try.ntmps113
  go_wp2_with (fail)
  generalize hW0 : w.alloc (.cells #[.int .i64 N, .slice A L.length c] 46) = W0 at *
  clear hW0
  go_loopw [7] (fun i wr => ∃ (d : Nat), d ≤ m ∧ i = .int .i64 ((p + d : Nat) : Int) ∧ (∀ j, j < d → anyP L (p + j) = false) ∧ Below W0.heap.size W0 wr) (fun i _ => p + m - (intOf i).toNat)
  case atStart => exact ⟨0, Nat.zero_le _, rfl, fun j hj => by omega, Below.refl _ _⟩
  case round =>
    obtain ⟨d, hd, rfl, hno, hbw⟩ := hrel
    have c0 := cell_keep2 hbw b1
    have c1 := cell_keep2 hbw b2
    have hZ := HX.out.1.below hbw
    obtain ⟨x, hx⟩ : ∃ x : Nat, x = p + d := ⟨_, rfl⟩
    rw [← hx]
    by_cases hlt : d < m
    · have t1 : (x : Int) < ((p + m : Nat) : Int) := by omega
      have hG := given_ok wr N A c L x hZ HX.out.2.2 (by omega)
      obtain ⟨gi, hgi⟩ : ∃ gi, gi = givenI L x := ⟨_, rfl⟩
      rw [← hgi] at hG
      have hneg := @givenI_neg L x
      rw [← hgi] at hneg
      have HG := Lib.hid hG
      have hkk : IntKind.i64.wrap ((x : Int) + 1) = ((x + 1 : Nat) : Int) := by rw [IntWalk.i64_in _ (by omega)]; rfl
      by_cases h0 : 0 ≤ gi
      · have HB := Lib.hid (And.intro hno (And.intro hbw (And.intro (hneg.1 h0) hx)))
        clear hno hbw hZ hx hgi hneg hG
        go_wp2_with (first | (go_at_call 87; refine (HZ.out _).mono ?_; rintro e w' ⟨rfl, rfl⟩) | (go_at_call 102; refine HG.out.mono ?_; rintro e w' ⟨rfl, hbG⟩; have H5 := Lib.hid hbG; clear hbG))
        go_ret
        refine ⟨?_, HX.out.2.1.trans (Below.mono (HB.out.2.1.trans (H5.out.mono HB.out.2.1.size)) (by have := HX.out.2.1.size; omega))⟩
        rw [HR.out, freeB_false (d := d) (by rw [← HM.out]; exact hlt) (by rw [← HB.out.2.2.2]; exact HB.out.2.2.1)]
        rfl
      · have hany : anyP L x = false := by
          cases e : anyP L x with
          | false => rfl
          | true => exact absurd (hneg.2 e) h0
        have h0' : gi < 0 := by omega
        have HB := Lib.hid (And.intro hno (And.intro hbw (And.intro hany hx)))
        clear hno hbw hZ hgi hneg hG hany h0 hx
        go_wp2_with (first | (go_at_call 87; refine (HZ.out _).mono ?_; rintro e w' ⟨rfl, rfl⟩) | (go_at_call 102; refine HG.out.mono ?_; rintro e w' ⟨rfl, hbG⟩; have H5 := Lib.hid hbG; clear hbG))
        go_roundw
        case rel =>
          have hx := HB.out.2.2.2
          refine ⟨d + 1, by omega, by rw [show p + (d + 1) = x + 1 by omega]; go_num, fun j hj => ?_, HB.out.2.1.trans (H5.out.mono HB.out.2.1.size)⟩
          by_cases e : j = d
          · subst e; rw [← HB.out.2.2.2]; exact HB.out.2.2.1
          · exact HB.out.1 j (by omega)
        case measure => have hx := HB.out.2.2.2; simp [intOf]; omega
    · have t1 : ¬ (x : Int) < ((p + m : Nat) : Int) := by omega
      have HB := Lib.hid (And.intro hno (And.intro hbw hx))
      clear hno hbw hZ hx
      go_wp2_with (go_at_call 87; refine (HZ.out _).mono ?_; rintro e w' ⟨rfl, rfl⟩)
      go_ret
      refine ⟨?_, HX.out.2.1.trans (HB.out.2.1.mono (by have := HX.out.2.1.size; omega))⟩
      rw [HR.out, freeB_true fun j hj => HB.out.1 j (by rw [← HM.out] at hj; omega)]
      rfl
end Bu
end Go.Proofs.Ytlknhbcambdccaa
namespace Go.Proofs.Ytlknhbcambdccaa
open Go.RowKit
namespace Bu

/-- The cells of a row of blocks. -/
def cellsL (L : List Blk) : List Value := L.flatMap fun x => [.int .i64 (x.1 : Int), .int .i64 (x.2 : Int)]
theorem cellsL_add (L : List Blk) (x : Blk) : cellsL (L ++ [x]) = cellsL L ++ [.int .i64 (x.1 : Int), .int .i64 (x.2 : Int)] := by simp [cellsL]
theorem cellsL_cons (x : Blk) (L : List Blk) : cellsL (x :: L) = .int .i64 (x.1 : Int) :: .int .i64 (x.2 : Int) :: cellsL L := by simp [cellsL]
theorem cellsL_len (L : List Blk) : (cellsL L).length = L.length * 2 := by
  induction L with
  | nil => rfl
  | cons x L ih => rw [cellsL_cons]; simp only [List.length_cons, ih]; omega
theorem cellsL_get : ∀ (L : List Blk) (j : Nat) (x : Blk), L[j]? = some x → (cellsL L)[j * 2]? = some (.int .i64 (x.1 : Int)) ∧ (cellsL L)[j * 2 + 1]? = some (.int .i64 (x.2 : Int)) := by
  intro L
  induction L with
  | nil => intro j x h; simp at h
  | cons y L ih =>
    intro j x h
    rw [cellsL_cons]
    cases j with
    | zero => simp at h; subst h; simp
    | succ j =>
      have e1 : (j + 1) * 2 = j * 2 + 1 + 1 := by omega
      rw [e1]
      simp only [List.getElem?_cons_succ]
      exact ih j x (by simpa using h)
theorem cellsL_one (L : List Blk) : ∀ u ∈ cellsL L, u.oneCell' = true := by
  intro u hu
  unfold cellsL at hu
  obtain ⟨x, _, hx⟩ := List.mem_flatMap.1 hu
  simp at hx
  rcases hx with rfl | rfl <;> rfl

theorem add0 (g j : Nat) : (⟨g, 0, none⟩ : Addr).add j = ⟨g, j, none⟩ := by unfold Addr.add; split <;> simp_all

/-- A slice of the call's own. -/
abbrev Own (w : World) (B : Nat) (A : Option Addr) (c : Nat) (L : List Blk) : Prop := w.ownsRow B 126 2 (.slice A L.length c) L.length (cellsL L)

theorem Own.at {w : World} {B c : Nat} {A : Option Addr} {L : List Blk} (h : Own w B A c L) : BlkAt w A c L ∧ ∀ g, A.map (·.block) = some g → B ≤ g ∧ g < w.heap.size := by
  rcases h.2 with ⟨hn, h0⟩ | ⟨g, cap, cur, hv, hB, hg, hnc, hcm, _⟩
  · injection hn with h1 h2 h3
    subst h1; subst h3
    obtain rfl : L = [] := List.length_eq_zero_iff.1 h0
    exact ⟨⟨Nat.le_refl _, Nat.zero_le _, fun j x hx => by simp at hx⟩, fun g hg => by cases hg⟩
  · injection hv with h1 h2 h3
    subst h1; subst h3
    refine ⟨⟨by rw [List.length_map]; exact hnc, hcm, fun j x hx => ?_⟩, fun g' hg' => ?_⟩
    · rw [List.getElem?_map] at hx
      cases hL : L[j]? with
      | none => rw [hL] at hx; cases hx
      | some y =>
        rw [hL] at hx
        injection hx with hx
        subst hx
        obtain ⟨k1, k2⟩ := cellsL_get L j y hL
        have c1 := h.cells (g := g) rfl _ _ k1
        have c2 := h.cells (g := g) rfl _ _ k2
        rw [add0] at c1 c2
        exact ⟨g, 0, rfl, lt_of_heap hg, by rw [Nat.zero_add]; exact c1, by rw [Nat.zero_add]; exact c2⟩
    · simp at hg'; subst hg'
      exact ⟨hB, lt_of_heap hg⟩

theorem own_value {w : World} {B n : Nat} {v : Value} {L : List Value} (h : w.ownsRow B 126 2 v n L) : ∃ A c, v = .slice A n c := by
  rcases h.2 with ⟨rfl, h0⟩ | ⟨g, cap, cur, rfl, _⟩
  · exact ⟨none, 0, by rw [h0]⟩
  · exact ⟨_, _, rfl⟩

/-- The best order so far. -/
def bestI (L : List Blk) (p : Nat) : Nat → Int
  | 0 => -1
  | k + 1 => if p % 2 ^ k = 0 ∧ freeB L p k = true then (k : Int) else bestI L p k
theorem bestI_of (L : List Blk) (p : Nat) : ∀ n, bestI L p (n + 1) = match bestB L p n with | some k => (k : Int) | none => -1 := by
  intro n
  induction n with
  | zero =>
    have e1 : bestI L p (0 + 1) = if p % 2 ^ 0 = 0 ∧ freeB L p 0 = true then ((0 : Nat) : Int) else -1 := by rw [bestI, bestI]
    have e3 : bestB L p 0 = if freeB L p 0 then some 0 else none := by rw [bestB]
    rw [e1, e3]
    by_cases h : freeB L p 0 = true
    · rw [if_pos ⟨by rw [Nat.pow_zero]; exact Nat.mod_one _, h⟩, if_pos h]
    · rw [if_neg (fun e => h e.2), if_neg h]
  | succ n ih =>
    rw [bestI, bestB]
    by_cases h : p % 2 ^ (n + 1) = 0 ∧ freeB L p (n + 1) = true
    · rw [if_pos h, if_pos h]
    · rw [if_neg h, if_neg h]; exact ih
theorem bestI_lo (L : List Blk) (p : Nat) : ∀ n, -1 ≤ bestI L p n ∧ bestI L p n < n := by
  intro n
  induction n with
  | zero => exact ⟨Int.le_refl _, by show (-1 : Int) < 0; omega⟩
  | succ n ih => rw [bestI]; split <;> omega
theorem best_le {L : List Blk} {p N n : Nat} (hp : p < 2 ^ N) (h : bestB L p N = some n) : n ≤ N ∧ p + 2 ^ n ≤ 2 ^ N := by
  obtain ⟨h1, h2, _, _⟩ := bestB_some h
  refine ⟨h1, ?_⟩
  have := (nested (k := n) (n := N) (q := 0) (x := p) h2 (by simp) h1 (Nat.le_refl _) (by have := pow_pos2 n; omega) (Nat.zero_le _) (by omega)).2
  omega

set_option maxRecDepth 100000 in
set_option maxHeartbeats 4000000 in
theorem blocksR_ok (w : World) (N : Nat) (A : Option Addr) (c : Nat) (L : List Blk) (h : BlkAt w A c L) (hS : Small L) (hN : N ≤ 10) :
    Calls Try.prog 99 #[sv N A L.length c] w fun e w' => (∃ A' c', e = .returned (.slice A' (blocksB N L).length c') ∧ Own w' w.heap.size A' c' (blocksB N L)) ∧ Below w.heap.size w w' := by
  obtain ⟨b1, b2⟩ := state_cells w (.int .i64 (N : Int)) (.slice A L.length c) 46
  have hb0 := below_box w (.cells #[.int .i64 (N : Int), .slice A L.length c] 46)
  have HX := Lib.hid (And.intro (h.below hb0) (And.intro hb0 hS))
  have HZ := Lib.hid (fun (n : Nat) (hn : n ≤ N) W => size_ok n W (by omega))
  have hlt : 2 ^ N ≤ 1024 := by
    have : 2 ^ N ≤ 2 ^ 10 := Nat.pow_le_pow_right (by omega) hN
    omega
  have hbl : blocksB N L = [] ++ blkFrom N L (2 ^ N - 0) 0 := rfl
  obtain ⟨R, hR⟩ : ∃ R, R = blocksB N L := ⟨_, rfl⟩
  rw [← hR] at hbl ⊢
  obtain ⟨M, hM⟩ : ∃ M : Nat, M = 2 ^ N := ⟨_, rfl⟩
  have HZN := HZ.out N (Nat.le_refl _)
  rw [← hM] at HZN hlt hbl
  have HZN := Lib.hid HZN
  have HM := Lib.hid (And.intro hM hbl)
  have hinfo := info_open block_info
  obtain ⟨i0, z0, hi0, hz0, hz1, hz2, hz3⟩ := hinfo
  have hs0 : (w.alloc (.cells #[.int .i64 (N : Int), .slice A L.length c] 46)).heap.size = w.heap.size + 1 := by simp
  have HS := Lib.hid hs0
  clear h hb0 hS hR hM hbl hs0
  go_enter Try.func99, Try.ntmps99
  go_wp2_with (fail)
  generalize hW0 : w.alloc (.cells #[.int .i64 (N : Int), .slice A L.length c] 46) = W0 at *
  clear hW0
  go_loopw [3, 4] (fun o i wr => ∃ (p : Nat) (pre : List Blk) (A' : Option Addr) (c' : Nat), p ≤ M ∧ i = .int .i64 (p : Int) ∧ o = .slice A' pre.length c' ∧ Own wr W0.heap.size A' c' pre ∧ Below W0.heap.size W0 wr ∧ R = pre ++ blkFrom N L (M - p) p ∧ pre.length ≤ p) (fun _ i _ => M - (intOf i).toNat)
  case atStart => exact ⟨0, [], none, 0, Nat.zero_le _, rfl, rfl, World.ownsRow_nil _ _ _ _, Below.refl _ _, HM.out.2, Nat.le_refl _⟩
  case round =>
    obtain ⟨p, pre, A', c', hp, rfl, rfl, hown, hbw, hRR, hpl⟩ := hrel
    have c0 := cell_keep2 hbw b1
    have c1 := cell_keep2 hbw b2
    have hZ := HX.out.1.below hbw
    have hwl : w.heap.size < wr.heap.size := by have := hbw.size; have := HS.out; omega
    by_cases hlt2 : p < M
    · have t1 : (p : Int) < (M : Int) := by omega
      have HB := Lib.hid (And.intro hown (And.intro hbw (And.intro hRR (And.intro hpl hZ))))
      clear hown hbw hRR hpl hZ
      go_wp2_with (go_at_call 87; refine (HZN.out _).mono ?_; rintro e w' ⟨rfl, rfl⟩)
      obtain ⟨wo, rfl⟩ : ∃ wo : World, wo = wr := ⟨_, rfl⟩
      go_loopw [5, 6] (fun b i wr => ∃ (k : Nat), k ≤ N + 1 ∧ i = .int .i64 (k : Int) ∧ b = .int .i64 (bestI L p k) ∧ Below wo.heap.size wo wr) (fun _ i _ => N + 1 - (intOf i).toNat)
      case atStart => exact ⟨0, Nat.zero_le _, rfl, rfl, Below.refl _ _⟩
      case round =>
        obtain ⟨k, hk, rfl, rfl, hbo⟩ := hrel
        have d0 := cell_keep2 hbo c0
        have d1 := cell_keep2 hbo c1
        have hZk := HB.out.2.2.2.2.below hbo
        have hwk : w.heap.size < wr.heap.size := by have := hbo.size; omega
        by_cases hlt3 : k ≤ N
        · have t2 : (k : Int) ≤ (N : Int) := by omega
          have t3 : (0 : Int) ≤ (k : Int) := by omega
          have hlek : 2 ^ k ≤ M := by rw [HM.out.1]; exact Nat.pow_le_pow_right (by decide) hlt3
          have hF := freeR_ok wr N A c L p k hZk HX.out.2.2 (by omega) (by omega)
          have hpos := pow_pos2 k
          have hst : bestI L p (k + 1) = if p % 2 ^ k = 0 ∧ freeB L p k = true then (k : Int) else bestI L p k := rfl
          have HK := HZ.out k hlt3
          obtain ⟨m, hm⟩ : ∃ m : Nat, m = 2 ^ k := ⟨_, rfl⟩
          rw [← hm] at HK hpos hst hlek
          have HK := Lib.hid HK
          obtain ⟨bi, hbi⟩ : ∃ bi, bi = bestI L p k := ⟨_, rfl⟩
          rw [← hbi] at hst ⊢
          have hkk : IntKind.i64.wrap ((k : Int) + 1) = ((k + 1 : Nat) : Int) := by rw [IntWalk.i64_in _ (by omega)]; rfl
          have hmi : (0 : Int) < (m : Int) := by omega
          have hm0 : ((m : Nat) : Int) ≠ 0 := by omega
          have HBO := Lib.hid (And.intro hbo hm)
          clear hbo hm hbi hZk
          by_cases hr : p % m = 0
          · have hrem : (((p : Nat) : Int) % (m : Int) == 0) = true := by rw [beq_iff_eq]; omega
            cases hf : freeB L p k with
            | true =>
              rw [hf] at hF hst
              rw [if_pos ⟨hr, rfl⟩] at hst
              have HF := Lib.hid hF
              have HT := Lib.hid hst
              clear hF hst hf hr
              go_wp2_with (first | (go_at_call 87; refine (HK.out _).mono ?_; rintro e w' ⟨rfl, rfl⟩) | (go_at_call 113; refine HF.out.mono ?_; rintro e w' ⟨rfl, hbF⟩; have H5 := Lib.hid hbF; clear hbF))
              go_roundw
              case rel => exact ⟨k + 1, by omega, by go_num, by rw [HT.out], HBO.out.1.trans (H5.out.mono HBO.out.1.size)⟩
              case measure => simp [intOf]; omega
            | false =>
              rw [hf] at hF hst
              rw [if_neg (fun h => by cases h.2)] at hst
              have HF := Lib.hid hF
              have HT := Lib.hid hst
              clear hF hst hf hr
              go_wp2_with (first | (go_at_call 87; refine (HK.out _).mono ?_; rintro e w' ⟨rfl, rfl⟩) | (go_at_call 113; refine HF.out.mono ?_; rintro e w' ⟨rfl, hbF⟩; have H5 := Lib.hid hbF; clear hbF))
              go_roundw
              case rel => exact ⟨k + 1, by omega, by go_num, by rw [HT.out], HBO.out.1.trans (H5.out.mono HBO.out.1.size)⟩
              case measure => simp [intOf]; omega
          · have hrem : (((p : Nat) : Int) % (m : Int) == 0) = false := by rw [beq_eq_false_iff_ne]; omega
            rw [if_neg (fun h => hr h.1)] at hst
            have HT := Lib.hid hst
            clear hF hst hr
            go_wp2_with (go_at_call 87; refine (HK.out _).mono ?_; rintro e w' ⟨rfl, rfl⟩)
            go_roundw
            case rel => exact ⟨k + 1, by omega, by go_num, by rw [HT.out], HBO.out.1⟩
            case measure => simp [intOf]; omega
        · obtain rfl : k = N + 1 := by omega
          have t2 : ¬ (((N + 1 : Nat) : Int)) ≤ (N : Int) := by omega
          have hbe := bestI_of L p N
          cases hbb : bestB L p N with
          | none =>
            rw [hbb] at hbe
            rw [hbe]
            have hpp : IntKind.i64.wrap ((p : Int) + 1) = ((p + 1 : Nat) : Int) := by rw [IntWalk.i64_in _ (by omega)]; rfl
            have hstep : blkFrom N L (M - p) p = blkFrom N L (M - (p + 1)) (p + 1) := by
              rw [show M - p = (M - (p + 1)) + 1 by omega, blkFrom, if_pos (by rw [← HM.out.1]; exact hlt2), hbb]
            have HT := Lib.hid (And.intro hstep hbo)
            clear hbe hbb hstep hbo hZk
            go_wp2_with (fail)
            go_roundw
            case rel => exact ⟨p + 1, pre, A', c', by omega, by go_num, rfl, row_keep HB.out.1 fun g _ hg => HT.out.2.block g hg, HB.out.2.1.trans (HT.out.2.mono HB.out.2.1.size), by rw [HB.out.2.2.1, HT.out.1], by have := HB.out.2.2.2.1; omega⟩
            case measure => simp [intOf]; omega
          | some n =>
            rw [hbb] at hbe
            rw [hbe]
            have hbl := best_le (by rw [← HM.out.1]; exact hlt2) hbb
            have hpos := pow_pos2 n
            have hstep : blkFrom N L (M - p) p = (p, n) :: blkFrom N L (M - (p + 2 ^ n)) (p + 2 ^ n) := by
              rw [show M - p = (M - (p + 1)) + 1 by omega, blkFrom, if_pos (by rw [← HM.out.1]; exact hlt2), hbb]
              show (p, n) :: blkFrom N L (M - (p + 1)) (p + 2 ^ n) = _
              rw [blkFrom_enough (M - (p + 2 ^ n)) (M - (p + 1)) (p + 2 ^ n) (by rw [← HM.out.1]; omega) (by omega)]
            have HK := HZ.out n hbl.1
            rw [← HM.out.1] at hbl
            obtain ⟨m, hm⟩ : ∃ m : Nat, m = 2 ^ n := ⟨_, rfl⟩
            rw [← hm] at HK hpos hstep hbl
            have HK := Lib.hid HK
            have hpp : IntKind.i64.wrap ((p : Int) + (m : Int)) = ((p + m : Nat) : Int) := by rw [IntWalk.i64_in _ (by omega)]; rfl
            have hn0 : ¬ ((n : Int)) < 0 := by omega
            have hown := row_keep HB.out.1 fun g _ hg => hbo.block g hg
            have hpl := HB.out.2.2.2.1
            have hwo := HB.out.2.1.size
            have hwz := hbo.size
            have hbl2 := hbl.2
            have HT := Lib.hid (And.intro hstep hbo)
            have HO := Lib.hid hown
            clear hbe hbb hstep hbo hZk hbl hm hown
            go_wp2_with (first | (go_at_call 87; refine (HK.out _).mono ?_; rintro e w' ⟨rfl, rfl⟩) | (at_builtin; refine wpList_append_own _ rfl _ _ 44 rfl W0.heap.size 126 i0 z0 2 16 Try.underlying44 hi0 hz0 hz1 hz2 hz3 (by omega) (.slice A' pre.length c') pre.length (cellsL pre) rfl (HO.out.alloc _) ⟨wr.heap.size, 0, none⟩ 1 1 [.int .i64 (p : Int), .int .i64 (n : Int)] rfl rfl (two_new _ _ _ _) (by simp [Value.oneCell']) (by unfold maxLen; omega) (by omega) (by simp; omega) ?_; intro v' w1 hown1 hgrow1 _; obtain ⟨A2, c2, rfl⟩ := own_value hown1; have H6 := Lib.hid (And.intro hown1 hgrow1); clear hown1 hgrow1))
            go_roundw
            case rel =>
              refine ⟨p + m, pre ++ [(p, n)], A2, c2, by omega, by go_num, by simp, ?_, ?_, by rw [HB.out.2.2.1, HT.out.1]; simp, by rw [List.length_append, List.length_singleton]; omega⟩
              · have := H6.out.1
                rw [← cellsL_add pre (p, n)] at this
                unfold Own
                rw [List.length_append, List.length_singleton]
                exact this
              · exact ((HB.out.2.1.trans (HT.out.2.mono HB.out.2.1.size)).alloc (by omega) _).grown H6.out.2 (by simp; omega) fun k hk => (HB.out.1.lt k hk).1
            case measure => simp [intOf]; omega
    · obtain rfl : p = M := by omega
      rw [Nat.sub_self, blkFrom, List.append_nil] at hRR
      subst hRR
      have HB := Lib.hid (And.intro hown hbw)
      clear hown hbw hZ
      have t1 : ¬ (p : Int) < (p : Int) := by omega
      go_wp2_with (go_at_call 87; refine (HZN.out _).mono ?_; rintro e w' ⟨rfl, rfl⟩)
      go_ret
      refine ⟨⟨A', c', rfl, HB.out.1.1, ?_⟩, HX.out.2.1.trans (HB.out.2.mono (by have := HX.out.2.1.size; omega))⟩
      rcases HB.out.1.2 with h | ⟨g, cap, cur, hv, hB2, r⟩
      · exact .inl h
      · exact .inr ⟨g, cap, cur, hv, by have := HS.out; omega, r⟩
end Bu
end Go.Proofs.Ytlknhbcambdccaa
