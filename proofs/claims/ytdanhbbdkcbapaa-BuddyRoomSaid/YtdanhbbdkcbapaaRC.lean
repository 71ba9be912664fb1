/- given and Free of the specification. -/
import Derived.Test.YtdanhbbdkcbapaaRB
namespace Go.Proofs.Ytdanhbbdkcbapaa
open Go.RowKit
namespace Bu

def givenI (L : List Blk) (p : Nat) : Int := match L.findIdx? (hasP · p) with | some i => (i : Int) | none => -1
theorem givenI_at {L : List Blk} {p k : Nat} {x : Blk} (hx : L[k]? = some x) (h : hasP x p = true) (hno : ∀ j y, j < k → L[j]? = some y → hasP y p = false) : givenI L p = k := by
  unfold givenI
  have : L.findIdx? (hasP · p) = some k := by
    rw [List.findIdx?_eq_some_iff_getElem]
    obtain ⟨hk, he⟩ := List.getElem?_eq_some_iff.1 hx
    refine ⟨hk, by rw [he]; exact h, fun j hj => ?_⟩
    have := hno j (L[j]) hj (List.getElem?_eq_getElem (by omega))
    rw [this]; simp
  rw [this]
theorem givenI_no {L : List Blk} {p : Nat} (hno : ∀ j y, j < L.length → L[j]? = some y → hasP y p = false) : givenI L p = -1 := by
  unfold givenI
  have : L.findIdx? (hasP · p) = none := by
    rw [List.findIdx?_eq_none_iff]
    intro x hx
    obtain ⟨j, hj, he⟩ := List.mem_iff_getElem.1 hx
    have := hno j x hj (by rw [List.getElem?_eq_getElem hj, he])
    simpa using this
  rw [this]
theorem givenI_neg {L : List Blk} {p : Nat} : (0 ≤ givenI L p) ↔ anyP L p = true := by
  unfold givenI anyP
  cases e : L.findIdx? (hasP · p) with
  | some i =>
    obtain ⟨h1, h2, _⟩ := List.findIdx?_eq_some_iff_getElem.1 e
    refine ⟨fun _ => List.any_eq_true.2 ⟨L[i], List.getElem_mem h1, h2⟩, fun _ => ?_⟩
    show (0 : Int) ≤ (i : Int)
    omega
  | none =>
    refine ⟨fun h => ?_, fun h => ?_⟩
    · have h : (0 : Int) ≤ -1 := h
      omega
    · obtain ⟨x, hx, h2⟩ := List.any_eq_true.1 h
      have := List.findIdx?_eq_none_iff.1 e x hx
      rw [h2] at this; cases this
theorem givenI_lt {L : List Blk} {p : Nat} : -1 ≤ givenI L p ∧ givenI L p < L.length := by
  unfold givenI
  cases e : L.findIdx? (hasP · p) with
  | some i =>
    obtain ⟨h1, _⟩ := List.findIdx?_eq_some_iff_getElem.1 e
    show (-1 : Int) ≤ (i : Int) ∧ (i : Int) < _
    omega
  | none => show (-1 : Int) ≤ -1 ∧ (-1 : Int) < _; omega

theorem st_le {N : Nat} {L : List Blk} (h : St N L) : ∀ x ∈ L, x.2 ≤ 10 ∧ x.1 + 2 ^ x.2 ≤ 1024 := fun x hx => by
  obtain ⟨h1, _, h3⟩ := h.inb x hx
  have hn := h.n10
  have : 2 ^ N ≤ 2 ^ 10 := Nat.pow_le_pow_right (by omega) hn
  omega

/-- What is asked of a list alone. -/
def Small (L : List Blk) : Prop := ∀ x ∈ L, x.2 ≤ 10 ∧ x.1 + 2 ^ x.2 ≤ 1024

set_option maxRecDepth 100000 in
set_option maxHeartbeats 2000000 in
theorem given_ok (w : World) (N : Int) (A : Option Addr) (c : Nat) (L : List Blk) (p : Nat) (h : BlkAt w A c L) (hS : Small L) (hp : p ≤ 2048) :
    Calls Try.prog 33 #[sv N A L.length c, .int .i64 (p : Int)] w fun e w' => e = .returned (.int .i64 (givenI L p)) ∧ Below w.heap.size w w' := by
  obtain ⟨hlc, hcap⟩ := h.len
  unfold maxLen at hcap
  obtain ⟨b1, b2⟩ := state_cells w (.int .i64 N) (.slice A L.length c) 24
  have hb0 := below_box w (.cells #[.int .i64 N, .slice A L.length c] 24)
  obtain ⟨r, hr⟩ : ∃ r, r = givenI L p := ⟨_, rfl⟩
  rw [← hr]
  have HR := Lib.hid hr
  have HX := Lib.hid (And.intro (h.below hb0) (And.intro hb0 hS))
  have hs0 : (w.alloc (.cells #[.int .i64 N, .slice A L.length c] 24)).heap.size = w.heap.size + 1 := by simp
  have HS := Lib.hid hs0
  clear h hb0 hs0 hr hS
  go_enter Try.func33, Try.ntmps33
  go_wp2_with (fail)
  generalize hW0 : w.alloc (.cells #[.int .i64 N, .slice A L.length c] 24) = W0 at *
  clear hW0
  go_loopw [5] (fun i wr => ∃ (k : Nat), k ≤ L.length ∧ i = .int .i64 k ∧ (∀ j y, j < k → L[j]? = some y → hasP y p = false) ∧ Below W0.heap.size W0 wr) (fun i _ => L.length - (intOf i).toNat)
  case atStart => exact ⟨0, Nat.zero_le _, rfl, fun j y hj => by omega, Below.refl _ _⟩
  case round =>
    obtain ⟨k, hk, rfl, hno, hbw⟩ := hrel
    have c0 := cell_keep2 hbw b1
    have c1 := cell_keep2 hbw b2
    have hZ := HX.out.1.below hbw
    by_cases hlt : k < L.length
    · obtain ⟨y, hy⟩ : ∃ y, L[k]? = some y := ⟨_, List.getElem?_eq_getElem hlt⟩
      obtain ⟨g, o, hA, hg, d1, d2⟩ := hZ.at hy
      have hsm := HX.out.2.2 y (List.mem_of_getElem? hy)
      obtain ⟨q, n⟩ := y
      subst hA
      have hHP : hasP (q, n) p = decide (q ≤ p ∧ p < q + 2 ^ n) := rfl
      have HZ := Lib.hid (fun W => size_ok n W (by have := hsm.1; dsimp only at this; omega))
      have hm0 := hsm.2
      dsimp only at d1 d2 hm0
      obtain ⟨m, hm⟩ : ∃ m : Nat, m = 2 ^ n := ⟨_, rfl⟩
      rw [← hm] at HZ hm0 hHP
      have e1 : (0 : Int) ≤ (k : Int) := by omega
      have e2 : (k : Int) < (L.length : Int) := by omega
      have hsum : IntKind.i64.wrap ((q : Int) + (m : Int)) = ((q + m : Nat) : Int) := by rw [IntWalk.i64_in _ (by omega)]; rfl
      have hkk : IntKind.i64.wrap ((k : Int) + 1) = ((k + 1 : Nat) : Int) := by rw [IntWalk.i64_in _ (by omega)]; rfl
      by_cases h1 : q ≤ p
      · have t1 : (q : Int) ≤ (p : Int) := by omega
        by_cases h2 : p < q + m
        · have t2 : (p : Int) < ((q + m : Nat) : Int) := by omega
          have HB := Lib.hid (And.intro hno (And.intro hbw (And.intro hy (And.intro (hHP.trans (decide_eq_true ⟨h1, h2⟩)) hm))))
          clear hno hbw hZ hy hHP hm hsm
          go_wp2_with (fail)
          go_quiet ((go_at_call 15; exact Calls.quiet_of_same ((HZ.out _).mono fun _ _ h => ⟨h.1, h.2.symm⟩)))
          go_wp2
          go_ret
          refine ⟨?_, HX.out.2.1.trans (Below.mono (below_drewN HB.out.2.1 _) (by have := HX.out.2.1.size; omega))⟩
          rw [HR.out, givenI_at HB.out.2.2.1 HB.out.2.2.2.1 HB.out.1]
          rfl
        · have t2 : decide ((p : Int) < ((q + m : Nat) : Int)) = false := by simp; omega
          have HB := Lib.hid (And.intro hno (And.intro hbw (And.intro hy (And.intro (hHP.trans (decide_eq_false (fun h => h2 h.2))) hm))))
          clear hno hbw hZ hy hHP hm hsm
          go_wp2_with (fail)
          go_quiet ((go_at_call 15; exact Calls.quiet_of_same ((HZ.out _).mono fun _ _ h => ⟨h.1, h.2.symm⟩)))
          go_wp2
          go_roundw
          case rel =>
            refine ⟨k + 1, by omega, by go_num, fun j y hj hjy => ?_, below_drewN HB.out.2.1 _⟩
            by_cases e : j = k
            · subst e
              rw [HB.out.2.2.1] at hjy
              injection hjy with hjy
              rw [← hjy]; exact HB.out.2.2.2.1
            · exact HB.out.1 j y (by omega) hjy
          case measure => simp [intOf]; omega
      · have t1 : decide ((q : Int) ≤ (p : Int)) = false := by simp; omega
        have HB := Lib.hid (And.intro hno (And.intro hbw (And.intro hy (And.intro (hHP.trans (decide_eq_false (fun h => h1 h.1))) hm))))
        clear hno hbw hZ hy hHP hm hsm
        go_wp2_with (fail)
        go_quiet (fail)
        go_wp2
        go_roundw
        case rel =>
          refine ⟨k + 1, by omega, by go_num, fun j y hj hjy => ?_, below_drewN HB.out.2.1 _⟩
          by_cases e : j = k
          · subst e
            rw [HB.out.2.2.1] at hjy
            injection hjy with hjy
            rw [← hjy]; exact HB.out.2.2.2.1
          · exact HB.out.1 j y (by omega) hjy
        case measure => simp [intOf]; omega
    · obtain rfl : k = L.length := by omega
      have HB := Lib.hid (And.intro hno hbw)
      clear hno hbw hZ
      go_wp2
      go_ret
      refine ⟨?_, HX.out.2.1.trans (HB.out.2.mono (by have := HX.out.2.1.size; omega))⟩
      rw [HR.out, givenI_no HB.out.1]
      rfl
end Bu
end Go.Proofs.Ytdanhbbdkcbapaa
