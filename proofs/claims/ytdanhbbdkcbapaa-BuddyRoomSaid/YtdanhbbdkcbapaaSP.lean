/- Largest. -/
import Derived.Test.YtdanhbbdkcbapaaSPe
namespace Go.Proofs.Ytdanhbbdkcbapaa
open Go.RowKit
namespace Bu

/-- The greatest order below n with a free block. -/
def lastK (Fr : Nat → Nat → Bool) : Nat → Option Nat
  | 0 => none
  | n + 1 => match least (Fr n) with
    | none => lastK Fr n
    | some _ => some n
/-- What Largest hands back. -/
def LargestV : Option Nat → Value
  | some k => .tuple #[.int .i64 (k : Int), .int .i64 0]
  | none => .tuple #[.int .i64 0, .int .i64 4]

set_option maxRecDepth 100000 in
set_option maxHeartbeats 1000000 in
theorem largest_ok (w : World) (b N : Nat) (Fr Gv : Nat → Nat → Bool) (hB : Bu w b N Fr Gv) (hN : N ≤ 10) :
    Calls Try.prog 24 #[.pointer (some ⟨b, 0, none⟩)] w fun e w' => e = .returned (LargestV (lastK Fr (N + 1))) ∧ w = w' := by
  have hc1 := hB.head.2
  have HIs := Lib.hid (is_ok w b N Fr Gv hB)
  have HB := Lib.hid hB
  obtain ⟨r, hr⟩ : ∃ r, r = lastK Fr (N + 1) := ⟨_, rfl⟩
  rw [← hr]
  have HR := Lib.hid hr
  clear hB hr
  go_enter Try.func24, Try.ntmps24
  go_wp2_with (go_at_call 29; refine HIs.out.mono ?_; rintro e w' ⟨rfl, rfl⟩)
  go_loopw [4] (fun i wr => ∃ k : Nat, k ≤ N + 1 ∧ i = .int .i64 ((k : Int) - 1) ∧ r = lastK Fr k ∧ w = wr) (fun i _ => (intOf i + 1).toNat)
  case atStart => exact ⟨N + 1, by omega, by go_num, HR.out, rfl⟩
  case round =>
    obtain ⟨k, hk, rfl, hr, rfl⟩ := hrel
    cases k with
    | zero =>
      rw [lastK] at hr
      subst hr
      go_wp2
      go_ret2
      exact ⟨rfl, rfl⟩
    | succ k =>
      have e1 : (((k + 1 : Nat) : Int) - 1) = (k : Int) := by omega
      rw [e1]
      have e2 : (0 : Int) ≤ (k : Int) := by omega
      have e3 : (k : Int) < 11 := by omega
      clear e1
      have hQ := run_set_eq w (Fr k)
      rw [lastK] at hr
      have HR1 := Lib.hid hr
      clear hr
      have d0 : w.cell? ⟨b, 2 + k * 16, none⟩ = some (.int .u64 ((word (Fr k) 0 : Nat) : Int)) := (HB.out.free (k := k) (by omega) 0 (by omega)).1
      have d1 : w.cell? ⟨b, 2 + k * 16 + 1, none⟩ = some (.int .u64 ((word (Fr k) 1 : Nat) : Int)) := (HB.out.free (k := k) (by omega) 1 (by omega)).1
      have d2 : w.cell? ⟨b, 2 + k * 16 + 2, none⟩ = some (.int .u64 ((word (Fr k) 2 : Nat) : Int)) := (HB.out.free (k := k) (by omega) 2 (by omega)).1
      have d3 : w.cell? ⟨b, 2 + k * 16 + 3, none⟩ = some (.int .u64 ((word (Fr k) 3 : Nat) : Int)) := (HB.out.free (k := k) (by omega) 3 (by omega)).1
      have d4 : w.cell? ⟨b, 2 + k * 16 + 4, none⟩ = some (.int .u64 ((word (Fr k) 4 : Nat) : Int)) := (HB.out.free (k := k) (by omega) 4 (by omega)).1
      have d5 : w.cell? ⟨b, 2 + k * 16 + 5, none⟩ = some (.int .u64 ((word (Fr k) 5 : Nat) : Int)) := (HB.out.free (k := k) (by omega) 5 (by omega)).1
      have d6 : w.cell? ⟨b, 2 + k * 16 + 6, none⟩ = some (.int .u64 ((word (Fr k) 6 : Nat) : Int)) := (HB.out.free (k := k) (by omega) 6 (by omega)).1
      have d7 : w.cell? ⟨b, 2 + k * 16 + 7, none⟩ = some (.int .u64 ((word (Fr k) 7 : Nat) : Int)) := (HB.out.free (k := k) (by omega) 7 (by omega)).1
      have d8 : w.cell? ⟨b, 2 + k * 16 + 8, none⟩ = some (.int .u64 ((word (Fr k) 8 : Nat) : Int)) := (HB.out.free (k := k) (by omega) 8 (by omega)).1
      have d9 : w.cell? ⟨b, 2 + k * 16 + 9, none⟩ = some (.int .u64 ((word (Fr k) 9 : Nat) : Int)) := (HB.out.free (k := k) (by omega) 9 (by omega)).1
      have d10 : w.cell? ⟨b, 2 + k * 16 + 10, none⟩ = some (.int .u64 ((word (Fr k) 10 : Nat) : Int)) := (HB.out.free (k := k) (by omega) 10 (by omega)).1
      have d11 : w.cell? ⟨b, 2 + k * 16 + 11, none⟩ = some (.int .u64 ((word (Fr k) 11 : Nat) : Int)) := (HB.out.free (k := k) (by omega) 11 (by omega)).1
      have d12 : w.cell? ⟨b, 2 + k * 16 + 12, none⟩ = some (.int .u64 ((word (Fr k) 12 : Nat) : Int)) := (HB.out.free (k := k) (by omega) 12 (by omega)).1
      have d13 : w.cell? ⟨b, 2 + k * 16 + 13, none⟩ = some (.int .u64 ((word (Fr k) 13 : Nat) : Int)) := (HB.out.free (k := k) (by omega) 13 (by omega)).1
      have d14 : w.cell? ⟨b, 2 + k * 16 + 14, none⟩ = some (.int .u64 ((word (Fr k) 14 : Nat) : Int)) := (HB.out.free (k := k) (by omega) 14 (by omega)).1
      have d15 : w.cell? ⟨b, 2 + k * 16 + 15, none⟩ = some (.int .u64 ((word (Fr k) 15 : Nat) : Int)) := (HB.out.free (k := k) (by omega) 15 (by omega)).1
      cases hl : least (Fr k) with
      | none =>
        rw [hl] at hQ HR1
        simp only [Option.isNone] at hQ
        go_wp2
        go_roundw
        case rel => exact ⟨k, by omega, by go_num, HR1.out, trivial⟩
        case measure => simp [intOf] <;> omega
      | some p =>
        rw [hl] at hQ HR1
        simp only [Option.isNone] at hQ
        go_wp2
        go_ret2
        exact ⟨by rw [HR1.out]; rfl, rfl⟩
end Bu
end Go.Proofs.Ytdanhbbdkcbapaa
