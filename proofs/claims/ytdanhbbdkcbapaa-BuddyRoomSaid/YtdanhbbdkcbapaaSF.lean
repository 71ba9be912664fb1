/- in, around. -/
import Derived.Test.YtdanhbbdkcbapaaSE
namespace Go.Proofs.Ytdanhbbdkcbapaa
open Go.RowKit
namespace Bu

theorem and_val (page a : Nat) (hp : page < 1024) (ha : a ≤ 10) : bits .and .i64 (page : Int) (IntKind.i64.wrap (IntKind.i64.wrap ((2 : Int) ^ a) - 1)) = ((page % 2 ^ a : Nat) : Int) := by
  rw [pow_i64_pred a (by omega), mask_and page a (by omega) (by omega)]

theorem w64 (x : Int) : IntKind.i64.wrap x = wrap64 x := by unfold wrap64; exact IntKind.wrap_i64 x
theorem pow_w64 (a : Nat) (ha : a ≤ 11) : wrap64 ((2 : Int) ^ a) = ((2 ^ a : Nat) : Int) := by rw [← w64]; exact pow_i64 a ha
theorem and_w64 (page a : Nat) (hp : page < 1024) (ha : a ≤ 10) : bits .and .i64 (page : Int) (wrap64 (wrap64 ((2 : Int) ^ a) - 1)) = ((page % 2 ^ a : Nat) : Int) := by
  rw [← w64, ← w64]; exact and_val page a hp ha
theorem nat_eq0 (n : Nat) : (((n : Nat) : Int) == 0) = decide (n = 0) := by
  cases n with
  | zero => rfl
  | succ n =>
    rw [decide_eq_false (by omega), beq_eq_false_iff_ne]
    omega

set_option maxRecDepth 100000 in
set_option maxHeartbeats 1000000 in
theorem in_ok (w : World) (b N page order : Nat) (Fr Gv : Nat → Nat → Bool) (hB : Bu w b N Fr Gv) (hN : N ≤ 10) (ho : order ≤ N) (hp : page < 2 ^ N) :
    Calls Try.prog 34 #[.pointer (some ⟨b, 0, none⟩), .int .i64 page, .int .i64 order] w fun e w' => e = .returned (.bool (decide (page % 2 ^ order = 0))) ∧ w = w' := by
  obtain ⟨_, h1⟩ := hB.head
  have h1024 : 2 ^ N ≤ 1024 := by
    have : 2 ^ N ≤ 2 ^ 10 := Nat.pow_le_pow_right (by omega) hN
    omega
  obtain ⟨M, hM⟩ : ∃ M : Nat, M = 2 ^ N := ⟨_, rfl⟩
  have hpw := pow_w64 N (by omega)
  rw [← hM] at hpw hp h1024
  have hav := and_w64 page order (by omega) (by omega)
  have e1 : (0 : Int) ≤ (order : Int) := by omega
  have e2 : (order : Int) ≤ (N : Int) := by omega
  have e3 : (0 : Int) ≤ (page : Int) := by omega
  have e4 : (page : Int) < (M : Int) := by omega
  have e5 : (0 : Int) ≤ (N : Int) := by omega
  obtain ⟨r, hr⟩ : ∃ r : Nat, r = page % 2 ^ order := ⟨_, rfl⟩
  rw [← hr] at hav ⊢
  clear hB hM hr
  go_enter Try.func34, Try.ntmps34
  go_wp2
  go_ret
  exact ⟨congrArg (fun x => Ending.returned (.bool x)) (nat_eq0 r), rfl⟩

set_option maxRecDepth 100000 in
set_option maxHeartbeats 1000000 in
theorem in_bad (w : World) (b N : Nat) (page order : Int) (Fr Gv : Nat → Nat → Bool) (hB : Bu w b N Fr Gv) (hN : N ≤ 10) (h : ¬ (0 ≤ order ∧ order ≤ N ∧ 0 ≤ page ∧ page < 2 ^ N)) :
    Calls Try.prog 34 #[.pointer (some ⟨b, 0, none⟩), .int .i64 page, .int .i64 order] w fun e w' => e = .returned (.bool false) ∧ w = w' := by
  obtain ⟨_, h1⟩ := hB.head
  obtain ⟨M, hM⟩ : ∃ M : Nat, M = 2 ^ N := ⟨_, rfl⟩
  have hpw := pow_w64 N (by omega)
  rw [← hM] at hpw
  have e5 : (0 : Int) ≤ (N : Int) := by omega
  clear hB
  have hc : order < 0 ∨ (0 ≤ order ∧ (N : Int) < order) ∨ (0 ≤ order ∧ order ≤ N ∧ page < 0) ∨ (0 ≤ order ∧ order ≤ N ∧ 0 ≤ page ∧ (M : Int) ≤ page) := by
    have : ((2 : Int) ^ N) = (M : Int) := by rw [hM, Int.natCast_pow]; rfl
    rw [this] at h
    omega
  clear h hM
  rcases hc with h | ⟨h, h2⟩ | ⟨h, h2, h3⟩ | ⟨h, h2, h3, h4⟩
  all_goals
    go_enter Try.func34, Try.ntmps34
    go_wp2
    go_ret
    exact ⟨rfl, rfl⟩

/-- The least order from k up (n orders) whose set has the block around a page. -/
def fromK (Fr : Nat → Nat → Bool) (page : Nat) : Nat → Nat → Option Nat
  | _, 0 => none
  | k, n + 1 => if Fr k (page / 2 ^ k * 2 ^ k) then some k else fromK Fr page (k + 1) n

/-- What around returns. -/
def aroundV (o : Option Nat) : Int := match o with | some k => (k : Int) | none => -1

set_option maxRecDepth 100000 in
set_option maxHeartbeats 2000000 in
theorem around_ok (w : World) (b N page order : Nat) (Fr Gv : Nat → Nat → Bool) (hB : Bu w b N Fr Gv) (hN : N ≤ 10) (hp : page < 1024) (ho : order ≤ N) :
    Calls Try.prog 38 #[.pointer (some ⟨b, 0, none⟩), .int .i64 page, .int .i64 order] w fun e w' => e = .returned (.int .i64 (aroundV (fromK Fr page order (N + 1 - order)))) ∧ ∃ m, w' = w.drewN m := by
  obtain ⟨_, h1⟩ := hB.head
  obtain ⟨r, hr⟩ : ∃ r, r = fromK Fr page order (N + 1 - order) := ⟨_, rfl⟩
  rw [← hr]
  have HR := Lib.hid hr
  have HB := Lib.hid hB
  clear hr hB
  go_enter Try.func38, Try.ntmps38
  go_wp2
  go_loopw [7] (fun i wr => ∃ k : Nat, k ≤ N + 1 ∧ i = .int .i64 k ∧ r = fromK Fr page k (N + 1 - k) ∧ ∃ m, wr = w.drewN m) (fun i _ => N + 1 - (intOf i).toNat)
  case atStart => exact ⟨order, by omega, rfl, HR.out, 0, rfl⟩
  case round =>
    obtain ⟨k, hk, rfl, hr, hm⟩ := hrel
    have hc1 : wr.cell? ⟨b, 1, none⟩ = some (.int .i64 (N : Int)) := by obtain ⟨m, rfl⟩ := hm; exact h1
    have hBr : Bu wr b N Fr Gv := by obtain ⟨m, rfl⟩ := hm; exact HB.out
    have HM := Lib.hid hm
    clear hm h1
    by_cases hlt : k ≤ N
    · have hoff : page / 2 ^ k * 2 ^ k < 1024 := Nat.lt_of_le_of_lt (Nat.div_mul_le_self _ _) hp
      have HH := Lib.hid (fun m => has_ok (wr.drewN m) b (2 + k * 16) (page / 2 ^ k * 2 ^ k) (Fr k) (hBr.free (by omega)) hoff)
      have hoffv := off_val page k hp (by omega)
      have e1 : (0 : Int) ≤ (k : Int) := by omega
      have e2 : (k : Int) < 11 := by omega
      have e3 : (k : Int) ≤ (N : Int) := by omega
      rw [show N + 1 - k = (N + 1 - (k + 1)) + 1 by omega, fromK] at hr
      have HO := Lib.hid hoffv
      clear hoff hoffv hBr
      cases hS : Fr k (page / 2 ^ k * 2 ^ k) with
      | true =>
        rw [hS] at HH
        rw [hS, if_pos rfl] at hr
        subst hr
        go_wp2_with (fail)
        go_quiet ((go_at_call 35; rw [HO.out]; exact Calls.quiet_of_same ((HH.out _).mono fun _ _ h => ⟨h.1, h.2.symm⟩)))
        go_wp2
        go_ret
        obtain ⟨m, hm⟩ := HM.out
        exact ⟨rfl, _, by rw [hm]; exact World.drewN_drewN _ _ _⟩
      | false =>
        rw [hS] at HH
        rw [hS, if_neg (by decide)] at hr
        have HR2 := Lib.hid hr
        clear hr
        go_wp2_with (fail)
        go_quiet ((go_at_call 35; rw [HO.out]; exact Calls.quiet_of_same ((HH.out _).mono fun _ _ h => ⟨h.1, h.2.symm⟩)))
        go_wp2
        go_roundw
        case rel =>
          obtain ⟨m, hm⟩ := HM.out
          exact ⟨k + 1, by omega, by go_num, HR2.out, _, by rw [hm]; exact World.drewN_drewN _ _ _⟩
        case measure => simp [intOf]; omega
    · obtain rfl : k = N + 1 := by omega
      rw [Nat.sub_self, fromK] at hr
      subst hr
      have e3 : ¬ ((N + 1 : Nat) : Int) ≤ (N : Int) := by omega
      go_wp2
      go_ret
      exact ⟨rfl, HM.out⟩
end Bu
end Go.Proofs.Ytdanhbbdkcbapaa
