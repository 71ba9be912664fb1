/- Free of the specification. -/
import Derived.Test.YtdanhbbdkcbapaaRC
namespace Go.Proofs.Ytdanhbbdkcbapaa
open Go.RowKit
namespace Bu

theorem freeB_false {L : List Blk} {p n d : Nat} (hd : d < 2 ^ n) (h : anyP L (p + d) = true) : freeB L p n = false := by
  unfold freeB
  rw [List.all_eq_false]
  exact ⟨d, List.mem_range.2 hd, by rw [h]; simp⟩
theorem freeB_true {L : List Blk} {p n : Nat} (h : ∀ d, d < 2 ^ n → anyP L (p + d) = false) : freeB L p n = true := by
  unfold freeB
  rw [List.all_eq_true]
  intro d hd
  rw [h d (List.mem_range.1 hd)]; rfl

set_option maxRecDepth 100000 in
set_option maxHeartbeats 2000000 in
theorem freeR_ok (w : World) (N : Int) (A : Option Addr) (c : Nat) (L : List Blk) (p n : Nat) (h : BlkAt w A c L) (hS : Small L) (hn : n ≤ 10) (hp : p + 2 ^ n ≤ 2048) :
    Calls Try.prog 16 #[sv N A L.length c, .int .i64 (p : Int), .int .i64 (n : Int)] w fun e w' => e = .returned (.bool (freeB L p n)) ∧ Below w.heap.size w w' := by
  obtain ⟨b1, b2⟩ := state_cells w (.int .i64 N) (.slice A L.length c) 24
  have hb0 := below_box w (.cells #[.int .i64 N, .slice A L.length c] 24)
  obtain ⟨r, hr⟩ : ∃ r, r = freeB L p n := ⟨_, rfl⟩
  rw [← hr]
  have HR := Lib.hid hr
  have HX := Lib.hid (And.intro (h.below hb0) (And.intro hb0 hS))
  have HZ := Lib.hid (fun W => size_ok n W (by omega))
  have hpos := pow_pos2 n
  obtain ⟨m, hm⟩ : ∃ m : Nat, m = 2 ^ n := ⟨_, rfl⟩
  rw [← hm] at HZ hp hpos
  have HM := Lib.hid hm
  have hsum : IntKind.i64.wrap ((p : Int) + (m : Int)) = ((p + m : Nat) : Int) := by rw [IntWalk.i64_in _ (by omega)]; rfl
  clear h hb0 hr hS hm
  go_enter Try.func16, Try.ntmps16
  go_wp2_with (fail)
  generalize hW0 : w.alloc (.cells #[.int .i64 N, .slice A L.length c] 24) = W0 at *
  clear hW0
  go_loopw [7] (fun i wr => ∃ (d : Nat), d ≤ m ∧ i = .int .i64 ((p + d : Nat) : Int) ∧ (∀ j, j < d → anyP L (p + j) = false) ∧ Below W0.heap.size W0 wr) (fun i _ => p + m - (intOf i).toNat)
  case atStart => exact ⟨0, Nat.zero_le _, rfl, fun j hj => by omega, Below.refl _ _⟩
  case round =>
    obtain ⟨d, hd, rfl, hno, hbw⟩ := hrel
    have c0 := cell_keep2 hbw b1
    have c1 := cell_keep2 hbw b2
    have hZ := HX.out.1.below hbw
    obtain ⟨x, hx⟩ : ∃ x : Nat, x = p + d := ⟨_, rfl⟩
    rw [← hx]
    by_cases hlt : d < m
    · have t1 : (x : Int) < ((p + m : Nat) : Int) := by omega
      have hG := given_ok wr N A c L x hZ HX.out.2.2 (by omega)
      obtain ⟨gi, hgi⟩ : ∃ gi, gi = givenI L x := ⟨_, rfl⟩
      rw [← hgi] at hG
      have hneg := @givenI_neg L x
      rw [← hgi] at hneg
      have HG := Lib.hid hG
      have hkk : IntKind.i64.wrap ((x : Int) + 1) = ((x + 1 : Nat) : Int) := by rw [IntWalk.i64_in _ (by omega)]; rfl
      by_cases h0 : 0 ≤ gi
      · have HB := Lib.hid (And.intro hno (And.intro hbw (And.intro (hneg.1 h0) hx)))
        clear hno hbw hZ hx hgi hneg hG
        go_wp2_with (first | (go_at_call 15; refine (HZ.out _).mono ?_; rintro e w' ⟨rfl, rfl⟩) | (go_at_call 33; refine HG.out.mono ?_; rintro e w' ⟨rfl, hbG⟩; have H5 := Lib.hid hbG; clear hbG))
        go_ret
        refine ⟨?_, HX.out.2.1.trans (Below.mono (HB.out.2.1.trans (H5.out.mono HB.out.2.1.size)) (by have := HX.out.2.1.size; omega))⟩
        rw [HR.out, freeB_false (d := d) (by rw [← HM.out]; exact hlt) (by rw [← HB.out.2.2.2]; exact HB.out.2.2.1)]
        rfl
      · have hany : anyP L x = false := by
          cases e : anyP L x with
          | false => rfl
          | true => exact absurd (hneg.2 e) h0
        have h0' : gi < 0 := by omega
        have HB := Lib.hid (And.intro hno (And.intro hbw (And.intro hany hx)))
        clear hno hbw hZ hgi hneg hG hany h0 hx
        go_wp2_with (first | (go_at_call 15; refine (HZ.out _).mono ?_; rintro e w' ⟨rfl, rfl⟩) | (go_at_call 33; refine HG.out.mono ?_; rintro e w' ⟨rfl, hbG⟩; have H5 := Lib.hid hbG; clear hbG))
        go_roundw
        case rel =>
          have hx := HB.out.2.2.2
          refine ⟨d + 1, by omega, by rw [show p + (d + 1) = x + 1 by omega]; go_num, fun j hj => ?_, HB.out.2.1.trans (H5.out.mono HB.out.2.1.size)⟩
          by_cases e : j = d
          · subst e; rw [← HB.out.2.2.2]; exact HB.out.2.2.1
          · exact HB.out.1 j (by omega)
        case measure => have hx := HB.out.2.2.2; simp [intOf]; omega
    · have t1 : ¬ (x : Int) < ((p + m : Nat) : Int) := by omega
      have HB := Lib.hid (And.intro hno (And.intro hbw hx))
      clear hno hbw hZ hx
      go_wp2_with (go_at_call 15; refine (HZ.out _).mono ?_; rintro e w' ⟨rfl, rfl⟩)
      go_ret
      refine ⟨?_, HX.out.2.1.trans (HB.out.2.1.mono (by have := HX.out.2.1.size; omega))⟩
      rw [HR.out, freeB_true fun j hj => HB.out.1 j (by rw [← HM.out] at hj; omega)]
      rfl
end Bu
end Go.Proofs.Ytdanhbbdkcbapaa
