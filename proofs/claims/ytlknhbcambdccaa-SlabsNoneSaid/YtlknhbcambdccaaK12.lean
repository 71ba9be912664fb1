/- Check of the specification. given and Free of the specification. Free of the specification. -/
import Derived.Test.YtlknhbcambdccaaK11
import Derived.Test.YtlknhbcambdccaaK7
namespace Go.Proofs.Ytlknhbcambdccaa
open Go.RowKit
namespace Bu

/-- Are blocks valid from a page on? -/
def chkZ (N : Nat) : Int → List (Int × Int) → Bool
  | _, [] => true
  | nx, x :: l => inZ N x.1 x.2 && decide (nx ≤ x.1) && chkZ N (x.1 + ((2 ^ x.2.toNat : Nat) : Int)) l
def checkV (N : Int) (L : List (Int × Int)) : Int := if 0 ≤ N ∧ N ≤ 10 then (if chkZ N.toNat 0 L = true then 0 else 6) else 7

theorem inZ_le {N : Nat} {p n : Int} (hN : N ≤ 10) (h : inZ N p n = true) : 0 ≤ p ∧ 0 ≤ n ∧ n ≤ 10 ∧ p + ((2 ^ n.toNat : Nat) : Int) ≤ 1024 := by
  obtain ⟨q, k, rfl, rfl, h1, h2, h3⟩ := inZ_true h
  have h1 : k ≤ N := h1
  have h3 : q + 2 ^ k ≤ 2 ^ N := h3
  have : 2 ^ N ≤ 2 ^ 10 := Nat.pow_le_pow_right (by omega) hN
  rw [Int.toNat_natCast]
  omega

theorem state_cells (w : World) (x y : Value) (T : TypeId) : (w.alloc (.cells #[x, y] T)).cell? ⟨w.heap.size, 0, none⟩ = some x ∧ (w.alloc (.cells #[x, y] T)).cell? ⟨w.heap.size, 1, none⟩ = some y := by
  have h : (w.alloc (.cells #[x, y] T)).heap[w.heap.size]? = some (.cells #[x, y] T (0, 0)) := by rw [heapAlloc, if_pos rfl]
  exact ⟨(two_cells h).1, (two_cells h).2.1⟩
theorem cell_keep2 {w1 w2 : World} (hb : Below w1.heap.size w1 w2) {b o : Nat} {v : Value} (h : w1.cell? ⟨b, o, none⟩ = some v) : w2.cell? ⟨b, o, none⟩ = some v :=
  (hb.cell (p := ⟨b, o, none⟩) (World.block_lt_of_cell? w1 _ h)).trans h

end Bu
end Go.Proofs.Ytlknhbcambdccaa
namespace Go.Proofs.Ytlknhbcambdccaa
open Go.RowKit
namespace Bu

def givenI (L : List Blk) (p : Nat) : Int := match L.findIdx? (hasP · p) with | some i => (i : Int) | none => -1
theorem givenI_at {L : List Blk} {p k : Nat} {x : Blk} (hx : L[k]? = some x) (h : hasP x p = true) (hno : ∀ j y, j < k → L[j]? = some y → hasP y p = false) : givenI L p = k := by
  unfold givenI
  have : L.findIdx? (hasP · p) = some k := by
    rw [List.findIdx?_eq_some_iff_getElem]
    obtain ⟨hk, he⟩ := List.getElem?_eq_some_iff.1 hx
    refine ⟨hk, by rw [he]; exact h, fun j hj => ?_⟩
    have := hno j (L[j]) hj (List.getElem?_eq_getElem (by omega))
    rw [this]; simp
  rw [this]
theorem givenI_no {L : List Blk} {p : Nat} (hno : ∀ j y, j < L.length → L[j]? = some y → hasP y p = false) : givenI L p = -1 := by
  unfold givenI
  have : L.findIdx? (hasP · p) = none := by
    rw [List.findIdx?_eq_none_iff]
    intro x hx
    obtain ⟨j, hj, he⟩ := List.mem_iff_getElem.1 hx
    have := hno j x hj (by rw [List.getElem?_eq_getElem hj, he])
    simpa using this
  rw [this]
theorem givenI_neg {L : List Blk} {p : Nat} : (0 ≤ givenI L p) ↔ anyP L p = true := by
  unfold givenI anyP
  cases e : L.findIdx? (hasP · p) with
  | some i =>
    obtain ⟨h1, h2, _⟩ := List.findIdx?_eq_some_iff_getElem.1 e
    refine ⟨fun _ => List.any_eq_true.2 ⟨L[i], List.getElem_mem h1, h2⟩, fun _ => ?_⟩
    show (0 : Int) ≤ (i : Int)
    omega
  | none =>
    refine ⟨fun h => ?_, fun h => ?_⟩
    · have h : (0 : Int) ≤ -1 := h
      omega
    · obtain ⟨x, hx, h2⟩ := List.any_eq_true.1 h
      have := List.findIdx?_eq_none_iff.1 e x hx
      rw [h2] at this; cases this
theorem givenI_lt {L : List Blk} {p : Nat} : -1 ≤ givenI L p ∧ givenI L p < L.length := by
  unfold givenI
  cases e : L.findIdx? (hasP · p) with
  | some i =>
    obtain ⟨h1, _⟩ := List.findIdx?_eq_some_iff_getElem.1 e
    show (-1 : Int) ≤ (i : Int) ∧ (i : Int) < _
    omega
  | none => show (-1 : Int) ≤ -1 ∧ (-1 : Int) < _; omega

theorem st_le {N : Nat} {L : List Blk} (h : St N L) : ∀ x ∈ L, x.2 ≤ 10 ∧ x.1 + 2 ^ x.2 ≤ 1024 := fun x hx => by
  obtain ⟨h1, _, h3⟩ := h.inb x hx
  have hn := h.n10
  have : 2 ^ N ≤ 2 ^ 10 := Nat.pow_le_pow_right (by omega) hn
  omega

/-- What is asked of a list alone. -/
def Small (L : List Blk) : Prop := ∀ x ∈ L, x.2 ≤ 10 ∧ x.1 + 2 ^ x.2 ≤ 1024

set_option maxRecDepth 100000 in
set_option maxHeartbeats 2000000 in
theorem given_ok (w : World) (N : Int) (A : Option Addr) (c : Nat) (L : List Blk) (p : Nat) (h : BlkAt w A c L) (hS : Small L) (hp : p ≤ 2048) :
    Calls Try.prog 102 #[sv N A L.length c, .int .i64 (p : Int)] w fun e w' => e = .returned (.int .i64 (givenI L p)) ∧ Below w.heap.size w w' := by
  obtain ⟨hlc, hcap⟩ := h.len
  unfold maxLen at hcap
  obtain ⟨b1, b2⟩ := state_cells w (.int .i64 N) (.slice A L.length c) 46
  have hb0 := below_box w (.cells #[.int .i64 N, .slice A L.length c] 46)
  obtain ⟨r, hr⟩ : ∃ r, r = givenI L p := ⟨_, rfl⟩
  rw [← hr]
  have HR := Lib.hid hr
  have HX := Lib.hid (And.intro (h.below hb0) (And.intro hb0 hS))
  have hs0 : (w.alloc (.cells #[.int .i64 N, .slice A L.length c] 46)).heap.size = w.heap.size + 1 := by simp
  have HS := Lib.hid hs0
  clear h hb0 hs0 hr hS
  go_enter Try.func102, Try.ntmps102
  go_wp2_with (fail)
  generalize hW0 : w.alloc (.cells #[.int .i64 N, .slice A L.length c] 46) = W0 at *
  clear hW0
  go_loopw [5] (fun i wr => ∃ (k : Nat), k ≤ L.length ∧ i = .int .i64 k ∧ (∀ j y, j < k → L[j]? = some y → hasP y p = false) ∧ Below W0.heap.size W0 wr) (fun i _ => L.length - (intOf i).toNat)
  case atStart => exact ⟨0, Nat.zero_le _, rfl, fun j y hj => by omega, Below.refl _ _⟩
  case round =>
    obtain ⟨k, hk, rfl, hno, hbw⟩ := hrel
    have c0 := cell_keep2 hbw b1
    have c1 := cell_keep2 hbw b2
    have hZ := HX.out.1.below hbw
    by_cases hlt : k < L.length
    · obtain ⟨y, hy⟩ : ∃ y, L[k]? = some y := ⟨_, List.getElem?_eq_getElem hlt⟩
      obtain ⟨g, o, hA, hg, d1, d2⟩ := hZ.at hy
      have hsm := HX.out.2.2 y (List.mem_of_getElem? hy)
      obtain ⟨q, n⟩ := y
      subst hA
      have hHP : hasP (q, n) p = decide (q ≤ p ∧ p < q + 2 ^ n) := rfl
      have HZ := Lib.hid (fun W => size_ok n W (by have := hsm.1; dsimp only at this; omega))
      have hm0 := hsm.2
      dsimp only at d1 d2 hm0
      obtain ⟨m, hm⟩ : ∃ m : Nat, m = 2 ^ n := ⟨_, rfl⟩
      rw [← hm] at HZ hm0 hHP
      have e1 : (0 : Int) ≤ (k : Int) := by omega
      have e2 : (k : Int) < (L.length : Int) := by omega
      have hsum : IntKind.i64.wrap ((q : Int) + (m : Int)) = ((q + m : Nat) : Int) := by rw [IntWalk.i64_in _ (by omega)]; rfl
      have hkk : IntKind.i64.wrap ((k : Int) + 1) = ((k + 1 : Nat) : Int) := by rw [IntWalk.i64_in _ (by omega)]; rfl
      by_cases h1 : q ≤ p
      · have t1 : (q : Int) ≤ (p : Int) := by omega
        by_cases h2 : p < q + m
        · have t2 : (p : Int) < ((q + m : Nat) : Int) := by omega
          have HB := Lib.hid (And.intro hno (And.intro hbw (And.intro hy (And.intro (hHP.trans (decide_eq_true ⟨h1, h2⟩)) hm))))
          clear hno hbw hZ hy hHP hm hsm
          go_wp2_with (fail)
          go_quiet ((go_at_call 87; exact Calls.quiet_of_same ((HZ.out _).mono fun _ _ h => ⟨h.1, h.2.symm⟩)))
          go_wp2
          go_ret
          refine ⟨?_, HX.out.2.1.trans (Below.mono (below_drewN HB.out.2.1 _) (by have := HX.out.2.1.size; omega))⟩
          rw [HR.out, givenI_at HB.out.2.2.1 HB.out.2.2.2.1 HB.out.1]
          rfl
        · have t2 : decide ((p : Int) < ((q + m : Nat) : Int)) = false := by simp; omega
          have HB := Lib.hid (And.intro hno (And.intro hbw (And.intro hy (And.intro (hHP.trans (decide_eq_false (fun h => h2 h.2))) hm))))
          clear hno hbw hZ hy hHP hm hsm
          go_wp2_with (fail)
          go_quiet ((go_at_call 87; exact Calls.quiet_of_same ((HZ.out _).mono fun _ _ h => ⟨h.1, h.2.symm⟩)))
          go_wp2
          go_roundw
          case rel =>
            refine ⟨k + 1, by omega, by go_num, fun j y hj hjy => ?_, below_drewN HB.out.2.1 _⟩
            by_cases e : j = k
            · subst e
              rw [HB.out.2.2.1] at hjy
              injection hjy with hjy
              rw [← hjy]; exact HB.out.2.2.2.1
            · exact HB.out.1 j y (by omega) hjy
          case measure => simp [intOf]; omega
      · have t1 : decide ((q : Int) ≤ (p : Int)) = false := by simp; omega
        have HB := Lib.hid (And.intro hno (And.intro hbw (And.intro hy (And.intro (hHP.trans (decide_eq_false (fun h => h1 h.1))) hm))))
        clear hno hbw hZ hy hHP hm hsm
        go_wp2_with (fail)
        go_quiet (fail)
        go_wp2
        go_roundw
        case rel =>
          refine ⟨k + 1, by omega, by go_num, fun j y hj hjy => ?_, below_drewN HB.out.2.1 _⟩
          by_cases e : j = k
          · subst e
            rw [HB.out.2.2.1] at hjy
            injection hjy with hjy
            rw [← hjy]; exact HB.out.2.2.2.1
          · exact HB.out.1 j y (by omega) hjy
        case measure => simp [intOf]; omega
    · obtain rfl : k = L.length := by omega
      have HB := Lib.hid (And.intro hno hbw)
      clear hno hbw hZ
      go_wp2
      go_ret
      refine ⟨?_, HX.out.2.1.trans (HB.out.2.mono (by have := HX.out.2.1.size; omega))⟩
      rw [HR.out, givenI_no HB.out.1]
      rfl
end Bu
end Go.Proofs.Ytlknhbcambdccaa
namespace Go.Proofs.Ytlknhbcambdccaa
open Go.RowKit
namespace Bu

theorem freeB_false {L : List Blk} {p n d : Nat} (hd : d < 2 ^ n) (h : anyP L (p + d) = true) : freeB L p n = false := by
  unfold freeB
  rw [List.all_eq_false]
  exact ⟨d, List.mem_range.2 hd, by rw [h]; simp⟩
theorem freeB_true {L : List Blk} {p n : Nat} (h : ∀ d, d < 2 ^ n → anyP L (p + d) = false) : freeB L p n = true := by
  unfold freeB
  rw [List.all_eq_true]
  intro d hd
  rw [h d (List.mem_range.1 hd)]; rfl

set_option maxRecDepth 100000 in
set_option maxHeartbeats 2000000 in
theorem freeR_ok (w : World) (N : Int) (A : Option Addr) (c : Nat) (L : List Blk) (p n : Nat) (h : BlkAt w A c L) (hS : Small L) (hn : n ≤ 10) (hp : p + 2 ^ n ≤ 2048) :
    Calls Try.prog 113 #[sv N A L.length c, .int .i64 (p : Int), .int .i64 (n : Int)] w fun e w' => e = .returned (.bool (freeB L p n)) ∧ Below w.heap.size w w' := by
  obtain ⟨b1, b2⟩ := state_cells w (.int .i64 N) (.slice A L.length c) 46
  have hb0 := below_box w (.cells #[.int .i64 N, .slice A L.length c] 46)
  obtain ⟨r, hr⟩ : ∃ r, r = freeB L p n := ⟨_, rfl⟩
  rw [← hr]
  have HR := Lib.hid hr
  have HX := Lib.hid (And.intro (h.below hb0) (And.intro hb0 hS))
  have HZ := Lib.hid (fun W => size_ok n W (by omega))
  have hpos := pow_pos2 n
  obtain ⟨m, hm⟩ : ∃ m : Nat, m = 2 ^ n := ⟨_, rfl⟩
  rw [← hm] at HZ hp hpos
  have HM := Lib.hid hm
  have hsum : IntKind.i64.wrap ((p : Int) + (m : Int)) = ((p + m : Nat) : Int) := by rw [IntWalk.i64_in _ (by omega)]; rfl
  clear h hb0 hr hS hm
  go_enter Try.func113, Try.ntmps113
  go_wp2_with (fail)
  generalize hW0 : w.alloc (.cells #[.int .i64 N, .slice A L.length c] 46) = W0 at *
  clear hW0
  go_loopw [7] (fun i wr => ∃ (d : Nat), d ≤ m ∧ i = .int .i64 ((p + d : Nat) : Int) ∧ (∀ j, j < d → anyP L (p + j) = false) ∧ Below W0.heap.size W0 wr) (fun i _ => p + m - (intOf i).toNat)
  case atStart => exact ⟨0, Nat.zero_le _, rfl, fun j hj => by omega, Below.refl _ _⟩
  case round =>
    obtain ⟨d, hd, rfl, hno, hbw⟩ := hrel
    have c0 := cell_keep2 hbw b1
    have c1 := cell_keep2 hbw b2
    have hZ := HX.out.1.below hbw
    obtain ⟨x, hx⟩ : ∃ x : Nat, x = p + d := ⟨_, rfl⟩
    rw [← hx]
    by_cases hlt : d < m
    · have t1 : (x : Int) < ((p + m : Nat) : Int) := by omega
      have hG := given_ok wr N A c L x hZ HX.out.2.2 (by omega)
      obtain ⟨gi, hgi⟩ : ∃ gi, gi = givenI L x := ⟨_, rfl⟩
      rw [← hgi] at hG
      have hneg := @givenI_neg L x
      rw [← hgi] at hneg
      have HG := Lib.hid hG
      have hkk : IntKind.i64.wrap ((x : Int) + 1) = ((x + 1 : Nat) : Int) := by rw [IntWalk.i64_in _ (by omega)]; rfl
      by_cases h0 : 0 ≤ gi
      · have HB := Lib.hid (And.intro hno (And.intro hbw (And.intro (hneg.1 h0) hx)))
        clear hno hbw hZ hx hgi hneg hG
        go_wp2_with (first | (go_at_call 87; refine (HZ.out _).mono ?_; rintro e w' ⟨rfl, rfl⟩) | (go_at_call 102; refine HG.out.mono ?_; rintro e w' ⟨rfl, hbG⟩; have H5 := Lib.hid hbG; clear hbG))
        go_ret
        refine ⟨?_, HX.out.2.1.trans (Below.mono (HB.out.2.1.trans (H5.out.mono HB.out.2.1.size)) (by have := HX.out.2.1.size; omega))⟩
        rw [HR.out, freeB_false (d := d) (by rw [← HM.out]; exact hlt) (by rw [← HB.out.2.2.2]; exact HB.out.2.2.1)]
        rfl
      · have hany : anyP L x = false := by
          cases e : anyP L x with
          | false => rfl
          | true => exact absurd (hneg.2 e) h0
        have h0' : gi < 0 := by omega
        have HB := Lib.hid (And.intro hno (And.intro hbw (And.intro hany hx)))
        clear hno hbw hZ hgi hneg hG hany h0 hx
        go_wp2_with (first | (go_at_call 87; refine (HZ.out _).mono ?_; rintro e w' ⟨rfl, rfl⟩) | (go_at_call 102; refine HG.out.mono ?_; rintro e w' ⟨rfl, hbG⟩; have H5 := Lib.hid hbG; clear hbG))
        go_roundw
        case rel =>
          have hx := HB.out.2.2.2
          refine ⟨d + 1, by omega, by rw [show p + (d + 1) = x + 1 by omega]; go_num, fun j hj => ?_, HB.out.2.1.trans (H5.out.mono HB.out.2.1.size)⟩
          by_cases e : j = d
          · subst e; rw [← HB.out.2.2.2]; exact HB.out.2.2.1
          · exact HB.out.1 j (by omega)
        case measure => have hx := HB.out.2.2.2; simp [intOf]; omega
    · have t1 : ¬ (x : Int) < ((p + m : Nat) : Int) := by omega
      have HB := Lib.hid (And.intro hno (And.intro hbw hx))
      clear hno hbw hZ hx
      go_wp2_with (go_at_call 87; refine (HZ.out _).mono ?_; rintro e w' ⟨rfl, rfl⟩)
      go_ret
      refine ⟨?_, HX.out.2.1.trans (HB.out.2.1.mono (by have := HX.out.2.1.size; omega))⟩
      rw [HR.out, freeB_true fun j hj => HB.out.1 j (by rw [← HM.out] at hj; omega)]
      rfl
end Bu
end Go.Proofs.Ytlknhbcambdccaa
