/- The reference: Check. -/
import Derived.Test.YtllmddhahpegmaaBD
namespace Go.Proofs.Ytllmddhahpegmaa
open Go.RowKit
namespace Ne

set_option maxRecDepth 100000 in
set_option maxHeartbeats 2000000 in
theorem check_ok (K : Nat → Prop) (w : World) (A : Option Addr) (c : Nat) (M : Tr) (h : StK K w A c (save M)) (hg : Good M) :
    Calls Try.prog 12 #[.agg #[.slice A M.length c]] w fun e w' => e = .returned (.tuple #[.int .i64 0, .int .i64 0]) ∧ Below w.heap.size w w' := by
  obtain ⟨hc1, hc2⟩ := st_len h
  have hm := hg.len
  have hp := hg.pos
  have hb0 := below_box w (.cells #[.slice A M.length c] 28)
  have b1 : (w.alloc (.cells #[.slice A M.length c] 28)).cell? ⟨w.heap.size, 0, none⟩ = some (.slice A M.length c) := by rw [World.cell?_alloc_at _ _ _ _ rfl]; rfl
  have hsz : (w.alloc (.cells #[.slice A M.length c] 28)).heap.size = w.heap.size + 1 := by simp
  have H := Lib.hid (And.intro h (And.intro hg hb0))
  have e0 : ((M.length : Int) == 0) = false := by rw [beq_eq_false_iff_ne]; omega
  clear h hg hb0
  go_enter Try.func12, Try.ntmps12
  go_wp2_with fail
  generalize (w.alloc (.cells #[.slice A M.length c] 28)) = W1 at *
  go_loopw [4] (fun i wr => ∃ j : Nat, j ≤ M.length ∧ i = .int .i64 j ∧ Below W1.heap.size W1 wr) (fun i _ => M.length - (intOf i).toNat)
  case atStart => exact ⟨0, Nat.zero_le _, rfl, Below.refl _ _⟩
  case round =>
    obtain ⟨j, hj, rfl, hb⟩ := hrel
    have b1' := (hb.cell (p := ⟨w.heap.size, _, none⟩) (show w.heap.size < W1.heap.size by omega)).trans b1
    have HB := Lib.hid hb
    have hbs := hb.size
    clear hb
    by_cases hjl : j < M.length
    · have hW := Lib.hid (wrong_ok K wr A c M j (H.out.1.below (H.out.2.2.trans (HB.out.mono H.out.2.2.size))) H.out.2.1 hjl)
      go_wp2_with (go_at_call 31; refine hW.out.mono ?_; rintro e w3 ⟨rfl, hb3⟩; have HB3 := Lib.hid hb3; clear hb3)
      go_roundw
      case rel => exact ⟨j + 1, by omega, by go_num, HB.out.trans (HB3.out.mono hbs)⟩
      case measure => simp [intOf]; omega
    · obtain rfl : j = M.length := by omega
      go_wp2_with fail
      go_loopw [5] (fun i wr' => ∃ j : Nat, j ≤ M.length ∧ i = .int .i64 j ∧ Below W1.heap.size W1 wr') (fun i _ => M.length - (intOf i).toNat)
      case atStart => exact ⟨0, Nat.zero_le _, rfl, HB.out⟩
      case round =>
        obtain ⟨j, hj, rfl, hb⟩ := hrel
        have b1'' := (hb.cell (p := ⟨w.heap.size, _, none⟩) (show w.heap.size < W1.heap.size by omega)).trans b1
        have HB := Lib.hid hb
        have hbs := hb.size
        clear hb
        by_cases hjl : j < M.length
        · obtain ⟨o, ho⟩ : ∃ o, M[j]? = some o := ⟨_, List.getElem?_eq_getElem hjl⟩
          have hbz := H.out.2.2.trans (HB.out.mono H.out.2.2.size)
          obtain ⟨g, f, B, cB, rfl, hgl, _, _, _, _, p4, _⟩ := st_at H.out.1 ho
          replace p4 := (hbz.cell (p := ⟨g, _, none⟩) hgl).trans p4
          cases o with
          | none =>
            replace p4 : wr.cell? ⟨g, f + j * 5 + 4, none⟩ = some (.bool true) := p4
            clear ho hbz
            go_wp2
            go_roundw
            case rel => exact ⟨j + 1, by omega, by go_num, HB.out⟩
            case measure => simp [intOf]; omega
          | some n =>
            replace p4 : wr.cell? ⟨g, f + j * 5 + 4, none⟩ = some (.bool false) := p4
            have hR := Lib.hid (rooted_ok K wr (some ⟨g, f, none⟩) c M j (H.out.1.below hbz) H.out.2.1 ⟨n, ho⟩)
            clear ho hbz
            go_wp2_with (go_at_call 32; refine hR.out.mono ?_; rintro e w3 ⟨rfl, hb3⟩; have HB3 := Lib.hid hb3; clear hb3)
            go_roundw
            case rel => exact ⟨j + 1, by omega, by go_num, HB.out.trans (HB3.out.mono hbs)⟩
            case measure => simp [intOf]; omega
        · obtain rfl : j = M.length := by omega
          go_wp2
          go_ret2
          exact ⟨rfl, H.out.2.2.trans (HB.out.mono H.out.2.2.size)⟩
end Ne
end Go.Proofs.Ytllmddhahpegmaa
