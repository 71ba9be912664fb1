/- The stable sort: rotating. Exchanging ranges and rotating: plain. -/
import Derived.Test.YtjgakcpjphdicaaK22
namespace Go.Proofs.Ytjgakcpjphdicaa
open Go.Shelf Go.RowKit Go.Lib Go.Sort Go.Proofs
namespace Of

/-- The rounds of rotate. -/
def rotGo {α : Type} [Inhabited α] (m : Nat) : Nat → Array α → Nat → Nat → Array α
  | 0, d, _, _ => d
  | f + 1, d, i, j => if i = j then swapR d (m - i) m i else if j < i then rotGo m f (swapR d (m - i) m j) (i - j) j else rotGo m f (swapR d (m - i) (m + j - i) i) i (j - i)

set_option maxHeartbeats 4000000 in
set_option maxRecDepth 1000000 in
theorem rotate_ok {α : Type} [Inhabited α] (enc : α → Value) (fv : Value) (blk cap a m b : Nat) (d0 d : Array α) (w0 w : World)
    (R : Row1 enc w0 blk 0 d0) (hs : d0.size = d.size) (S : SW enc w0 blk 0 d w) (ham : a < m) (hmb : m < b) (hb : b ≤ d.size) (hsz : d.size ≤ 100000) :
    Calls Try.prog 96 #[.slice (some ⟨blk, 0, none⟩) d.size cap, .int .i64 (a : Int), .int .i64 (m : Int), .int .i64 (b : Int), fv] w fun e w' => e = .returned (.tuple #[]) ∧ SW enc w0 blk 0 (rotGo m (b - a) d (m - a) (b - m)) w' := by
  have q1 : IntKind.i64.wrap ((m : Int) - (a : Int)) = ((m - a : Nat) : Int) := by rw [IntKind.wrap_i64]; omega
  have q2 : IntKind.i64.wrap ((b : Int) - (m : Int)) = ((b - m : Nat) : Int) := by rw [IntKind.wrap_i64]; omega
  have HSW := Lib.hid S
  clear S
  go_enter Try.func96, Try.ntmps96
  go_wp2_with (fail)
  go_loopw [10, 11] (fun iv jv wr => ∃ (i j f : Nat) (dk : Array α), 0 < i ∧ 0 < j ∧ i ≤ m - a ∧ j ≤ b - m ∧ i + j ≤ f ∧ iv = .int .i64 (i : Int) ∧ jv = .int .i64 (j : Int) ∧ dk.size = d.size ∧ SW enc w0 blk 0 dk wr ∧ rotGo m (b - a) d (m - a) (b - m) = rotGo m f dk i j) (fun iv jv _ => (intOf iv).toNat + (intOf jv).toNat)
  case atStart => exact ⟨m - a, b - m, b - a, d, by omega, by omega, Nat.le_refl _, Nat.le_refl _, by omega, rfl, rfl, rfl, HSW.out, rfl⟩
  case round =>
    obtain ⟨i, j, f, dk, hi, hj, hia, hjb, hf, rfl, rfl, hds, hS, heq⟩ := hrel
    obtain ⟨f, rfl⟩ : ∃ f', f = f' + 1 := ⟨f - 1, by omega⟩
    rw [rotGo] at heq
    have HQ := Lib.hid heq
    clear heq
    have r1 : IntKind.i64.wrap ((m : Int) - (i : Int)) = ((m - i : Nat) : Int) := by rw [IntKind.wrap_i64]; omega
    rcases Nat.lt_trichotomy i j with h | rfl | h
    · have e1 : ((i : Int) != (j : Int)) = true := by simp; omega
      have e2 : ¬ (j : Int) < (i : Int) := by omega
      have r2 : IntKind.i64.wrap ((m : Int) + (j : Int)) = (m : Int) + (j : Int) := by rw [IntKind.wrap_i64]; omega
      have r3 : IntKind.i64.wrap ((m : Int) + (j : Int) - (i : Int)) = ((m + j - i : Nat) : Int) := by rw [IntKind.wrap_i64]; omega
      have r4 : IntKind.i64.wrap ((j : Int) - (i : Int)) = ((j - i : Nat) : Int) := by rw [IntKind.wrap_i64]; omega
      have HC := Lib.hid (swapRange_ok enc fv blk cap (m - i) (m + j - i) i d0 dk w0 wr R (hs.trans hds.symm) hS (by omega) (by omega) (by omega))
      rw [hds] at HC
      clear hS
      go_wp2_with (go_at_call 107; refine HC.out.mono ?_; rintro e w2 ⟨rfl, h2⟩; have H2 := Lib.hid h2; clear h2)
      go_roundw
      case rel => exact ⟨i, j - i, f, _, hi, by omega, hia, by omega, by omega, rfl, rfl, by rw [swapR_size, hds], H2.out, by rw [HQ.out, if_neg (by omega), if_neg (by omega)]⟩
      case measure => simp [intOf]; omega
    · have e1 : ((i : Int) != (i : Int)) = false := by simp
      have HC := Lib.hid (swapRange_ok enc fv blk cap (m - i) m i d0 dk w0 wr R (hs.trans hds.symm) hS (by omega) (by omega) (by omega))
      rw [hds] at HC
      clear hS
      go_wp2_with (go_at_call 107; refine HC.out.mono ?_; rintro e w2 ⟨rfl, h2⟩; have H2 := Lib.hid h2; clear h2)
      go_end0
      exact ⟨rfl, by rw [HQ.out, if_pos trivial]; exact H2.out⟩
    · have e1 : ((i : Int) != (j : Int)) = true := by simp; omega
      have e2 : (j : Int) < (i : Int) := by omega
      have r4 : IntKind.i64.wrap ((i : Int) - (j : Int)) = ((i - j : Nat) : Int) := by rw [IntKind.wrap_i64]; omega
      have HC := Lib.hid (swapRange_ok enc fv blk cap (m - i) m j d0 dk w0 wr R (hs.trans hds.symm) hS (by omega) (by omega) (by omega))
      rw [hds] at HC
      clear hS
      go_wp2_with (go_at_call 107; refine HC.out.mono ?_; rintro e w2 ⟨rfl, h2⟩; have H2 := Lib.hid h2; clear h2)
      go_roundw
      case rel => exact ⟨i - j, j, f, _, by omega, hj, by omega, hjb, by omega, rfl, rfl, by rw [swapR_size, hds], H2.out, by rw [HQ.out, if_neg (by omega), if_pos h]⟩
      case measure => simp [intOf]; omega
end Of
end Go.Proofs.Ytjgakcpjphdicaa
namespace Go.Proofs.Ytjgakcpjphdicaa
open Go.Sort Go.Proofs
namespace Of

theorem swapR_at {α : Type} [Inhabited α] (d : Array α) (a b : Nat) : ∀ k, a + k ≤ b → b + k ≤ d.size → ∀ x, (swapR d a b k)[x]! = if a ≤ x ∧ x < a + k then d[x - a + b]! else if b ≤ x ∧ x < b + k then d[x - b + a]! else d[x]!
  | 0, _, _, x => by
    rw [if_neg (by omega), if_neg (by omega)]; rfl
  | k + 1, h1, h2, x => by
    have ih := swapR_at d a b k (by omega) (by omega)
    have hsz := swapR_size d a b k
    rw [swapR]
    by_cases e1 : x = a + k
    · subst e1
      rw [swp_left _ _ _ (by omega) (by omega), ih, if_neg (by omega), if_neg (by omega), if_pos (by omega)]
      congr 1
      omega
    · by_cases e2 : x = b + k
      · subst e2
        rw [swp_right _ _ _ (by omega), ih, if_neg (by omega), if_neg (by omega), if_neg (by omega), if_pos (by omega)]
        congr 1
        omega
      · rw [swp_other _ _ _ _ e1 e2, ih]
        repeat' split
        all_goals first | rfl | (exfalso; omega)
theorem rotGo_size {α : Type} [Inhabited α] (m : Nat) : ∀ (f : Nat) (d : Array α) (i j : Nat), (rotGo m f d i j).size = d.size
  | 0, _, _, _ => rfl
  | f + 1, d, i, j => by
    rw [rotGo]
    split
    · exact swapR_size ..
    · split
      · rw [rotGo_size, swapR_size]
      · rw [rotGo_size, swapR_size]
/-- Rotating: the two parts have changed places. -/
theorem rotGo_at {α : Type} [Inhabited α] (m : Nat) : ∀ (f : Nat) (d : Array α) (i j : Nat), 0 < i → 0 < j → i + j ≤ f → i ≤ m → m + j ≤ d.size → ∀ x,
    (rotGo m f d i j)[x]! = if m - i ≤ x ∧ x < m - i + j then d[x + i]! else if m - i + j ≤ x ∧ x < m + j then d[x - j]! else d[x]!
  | 0, _, i, j, _, _, h, _, _, x => by omega
  | f + 1, d, i, j, hi, hj, hf, him, hd, x => by
    rw [rotGo]
    by_cases h : i = j
    · subst h
      rw [if_pos rfl, swapR_at _ _ _ _ (by omega) (by omega)]
      by_cases c1 : m - i ≤ x ∧ x < m - i + i
      · rw [if_pos c1, if_pos c1]; congr 1; omega
      · rw [if_neg c1, if_neg c1]
        by_cases c2 : m ≤ x ∧ x < m + i
        · rw [if_pos c2, if_pos (by omega)]; congr 1; omega
        · rw [if_neg c2, if_neg (by omega)]
    · rw [if_neg h]
      by_cases h2 : j < i
      · rw [if_pos h2, rotGo_at m f _ (i - j) j (by omega) hj (by omega) (by omega) (by rw [swapR_size]; omega)]
        have e := fun y => swapR_at d (m - i) m j (by omega) (by omega) y
        rw [e, e, e]
        repeat' split
        all_goals first | rfl | (exfalso; omega) | (congr 1; omega)
      · rw [if_neg h2, rotGo_at m f _ i (j - i) hi (by omega) (by omega) him (by rw [swapR_size]; omega)]
        have e := fun y => swapR_at d (m - i) (m + j - i) i (by omega) (by omega) y
        rw [e, e, e]
        repeat' split
        all_goals first | rfl | (exfalso; omega) | (congr 1; omega)
end Of
end Go.Proofs.Ytjgakcpjphdicaa
