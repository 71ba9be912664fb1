/- The specification's small functions; how lists of blocks lie in memory. -/
import Derived.Test.YtdanhbbdkcbapaaSF
import Derived.Test.YtdanhbbdkcbapaaBN
namespace Go.Proofs.Ytdanhbbdkcbapaa
open Go.RowKit
namespace Bu

theorem below_drewN {n : Nat} {w w' : World} (h : Below n w w') (q : Nat) : Below n w (w'.drewN q) := ⟨h.os, h.tape, h.output, h.size, h.block⟩
/-- A slice of blocks, with whatever numbers. -/
def ZAt (w : World) (A : Option Addr) (c : Nat) (L : List (Int × Int)) : Prop :=
  L.length ≤ c ∧ c ≤ maxLen ∧ ∀ (j : Nat) (x : Int × Int), L[j]? = some x → ∃ g o, A = some ⟨g, o, none⟩ ∧ g < w.heap.size ∧ w.cell? ⟨g, o + j * 2, none⟩ = some (.int .i64 x.1) ∧ w.cell? ⟨g, o + j * 2 + 1, none⟩ = some (.int .i64 x.2)

theorem ZAt.keep {w w' : World} {A : Option Addr} {c : Nat} {L : List (Int × Int)} (h : ZAt w A c L) (hs : w.heap.size ≤ w'.heap.size) (hk : ∀ g, A.map (·.block) = some g → g < w.heap.size → w'.heap[g]? = w.heap[g]?) : ZAt w' A c L := by
  refine ⟨h.1, h.2.1, fun j x hx => ?_⟩
  obtain ⟨g, o, hA, hg, h1, h2⟩ := h.2.2 j x hx
  have e := hk g (by rw [hA]; rfl) hg
  exact ⟨g, o, hA, by omega, (World.cell?_of_block (a := ⟨g, _, none⟩) e).trans h1, (World.cell?_of_block (a := ⟨g, _, none⟩) e).trans h2⟩
theorem ZAt.below {w w' : World} {A : Option Addr} {c : Nat} {L : List (Int × Int)} (h : ZAt w A c L) (hb : Below w.heap.size w w') : ZAt w' A c L :=
  h.keep hb.size fun g _ hg => hb.block g hg

def zb (x : Blk) : Int × Int := ((x.1 : Int), (x.2 : Int))
/-- A slice that reads as blocks. -/
def BlkAt (w : World) (A : Option Addr) (c : Nat) (L : List Blk) : Prop := ZAt w A c (L.map zb)
theorem BlkAt.keep {w w' : World} {A : Option Addr} {c : Nat} {L : List Blk} (h : BlkAt w A c L) (hs : w.heap.size ≤ w'.heap.size) (hk : ∀ g, A.map (·.block) = some g → g < w.heap.size → w'.heap[g]? = w.heap[g]?) : BlkAt w' A c L := ZAt.keep h hs hk
theorem BlkAt.below {w w' : World} {A : Option Addr} {c : Nat} {L : List Blk} (h : BlkAt w A c L) (hb : Below w.heap.size w w') : BlkAt w' A c L := ZAt.below h hb
theorem BlkAt.at {w : World} {A : Option Addr} {c : Nat} {L : List Blk} (h : BlkAt w A c L) {j : Nat} {x : Blk} (hx : L[j]? = some x) :
    ∃ g o, A = some ⟨g, o, none⟩ ∧ g < w.heap.size ∧ w.cell? ⟨g, o + j * 2, none⟩ = some (.int .i64 (x.1 : Int)) ∧ w.cell? ⟨g, o + j * 2 + 1, none⟩ = some (.int .i64 (x.2 : Int)) :=
  h.2.2 j (zb x) (by rw [List.getElem?_map, hx]; rfl)
theorem BlkAt.len {w : World} {A : Option Addr} {c : Nat} {L : List Blk} (h : BlkAt w A c L) : L.length ≤ c ∧ c ≤ maxLen := by
  have := h.1; rw [List.length_map] at this; exact ⟨this, h.2.1⟩

/-- A state as a value. -/
abbrev sv (N : Int) (A : Option Addr) (n c : Nat) : Value := .agg #[.int .i64 N, .slice A n c]

theorem order_ok (n : Int) (w : World) : Calls Try.prog 28 #[.int .i64 n] w fun e w' => e = .returned (.bool (decide (0 ≤ n ∧ n ≤ 10))) ∧ w = w' := by
  have hc : (n < 0) ∨ (0 ≤ n ∧ n ≤ 10) ∨ (0 ≤ n ∧ 10 < n) := by omega
  rcases hc with h | ⟨h, h2⟩ | ⟨h, h2⟩
  · go_enter Try.func28, Try.ntmps28
    go_wp2
    go_ret
    exact ⟨congrArg (fun x => Ending.returned (.bool x)) (by simp; omega), rfl⟩
  · go_enter Try.func28, Try.ntmps28
    go_wp2
    go_ret
    exact ⟨congrArg (fun x => Ending.returned (.bool x)) (by simp; omega), rfl⟩
  · go_enter Try.func28, Try.ntmps28
    go_wp2
    go_ret
    exact ⟨congrArg (fun x => Ending.returned (.bool x)) (by simp; omega), rfl⟩

theorem size_ok (n : Nat) (w : World) (hn : n ≤ 11) : Calls Try.prog 15 #[.int .i64 (n : Int)] w fun e w' => e = .returned (.int .i64 ((2 ^ n : Nat) : Int)) ∧ w = w' := by
  have hp := pow_w64 n hn
  have hu : IntKind.u64.wrap (n : Int) = (n : Int) := by simp [IntKind.wrap, IntKind.bits, IntKind.signed]; omega
  have h0 : (0 : Int) ≤ (n : Int) := by omega
  have hmin : min n 64 = n := by omega
  obtain ⟨M, hM⟩ : ∃ M : Nat, M = 2 ^ n := ⟨_, rfl⟩
  rw [← hM] at hp ⊢
  clear hM
  go_enter Try.func15, Try.ntmps15
  go_wp2
  go_ret
  exact ⟨congrArg (fun x => Ending.returned (.int .i64 x)) hp, rfl⟩

/-- In, of whatever numbers. -/
def inZ (N : Nat) (p n : Int) : Bool := decide (0 ≤ n ∧ n ≤ 10 ∧ n ≤ N ∧ 0 ≤ p ∧ InB N (p.toNat, n.toNat))

theorem inZ_nat {N : Nat} (hN : N ≤ 10) (p n : Nat) : inZ N (p : Int) (n : Int) = decide (InB N (p, n)) := by
  unfold inZ
  rw [decide_eq_decide]
  constructor
  · rintro ⟨_, _, _, _, h⟩; simpa using h
  · intro h
    have h1 : n ≤ N := h.1
    exact ⟨by omega, by omega, by omega, by omega, by simpa using h⟩
theorem inZ_true {N : Nat} {p n : Int} (h : inZ N p n = true) : ∃ q k : Nat, p = q ∧ n = k ∧ InB N (q, k) := by
  unfold inZ at h
  rw [decide_eq_true_eq] at h
  exact ⟨p.toNat, n.toNat, by omega, by omega, h.2.2.2.2⟩

set_option maxRecDepth 100000 in
set_option maxHeartbeats 1000000 in
theorem inR_nat (N p n : Nat) (hN : N ≤ 10) (hn : n ≤ N) (w : World) :
    Calls Try.prog 17 #[.int .i64 (N : Int), .int .i64 (p : Int), .int .i64 (n : Int)] w fun e w' => e = .returned (.bool (decide (InB N (p, n)))) ∧ w = w' := by
  have HO0 := order_ok (n : Int) w
  rw [decide_eq_true (show (0 : Int) ≤ (n : Int) ∧ (n : Int) ≤ 10 by omega)] at HO0
  have HO := Lib.hid HO0
  have HN := Lib.hid (size_ok N w (by omega))
  have Hn := Lib.hid (size_ok n w (by omega))
  have hle : 2 ^ n ≤ 2 ^ N := Nat.pow_le_pow_right (by decide) hn
  have hlt : 2 ^ N ≤ 1024 := by
    have : 2 ^ N ≤ 2 ^ 10 := Nat.pow_le_pow_right (by omega) hN
    omega
  have hpos := pow_pos2 n
  have hin : InB N (p, n) ↔ p % 2 ^ n = 0 ∧ p + 2 ^ n ≤ 2 ^ N := ⟨fun h => h.2, fun h => ⟨hn, h⟩⟩
  obtain ⟨M, hM⟩ : ∃ M : Nat, M = 2 ^ N := ⟨_, rfl⟩
  obtain ⟨m, hm⟩ : ∃ m : Nat, m = 2 ^ n := ⟨_, rfl⟩
  rw [← hM] at HN hle hlt hin
  rw [← hm] at Hn hle hpos hin
  have e1 : (0 : Int) ≤ (n : Int) := by omega
  have e2 : (n : Int) ≤ (N : Int) := by omega
  have e3 : (0 : Int) ≤ (p : Int) := by omega
  have hsub : IntKind.i64.wrap ((M : Int) - (m : Int)) = ((M - m : Nat) : Int) := by rw [IntWalk.i64_in _ (by omega)]; omega
  have hsub2 : (M : Int) - (m : Int) = ((M - m : Nat) : Int) := by omega
  have H2 := Lib.hid hsub2
  have HI := Lib.hid hin
  clear HO0 hM hm hin hsub2
  by_cases hp : p ≤ M - m
  · have e4 : (p : Int) ≤ ((M - m : Nat) : Int) := by omega
    have e5 : (p : Int) ≤ (M : Int) - (m : Int) := by omega
    have hmm : ((m : Nat) : Int) ≠ 0 := by omega
    have hdec : decide (InB N (p, n)) = (((p : Int) % (m : Int)) == 0) := by
      rw [Bool.eq_iff_iff, decide_eq_true_eq, beq_iff_eq, HI.out]
      omega
    have HD := Lib.hid hdec
    clear hdec
    go_enter Try.func17, Try.ntmps17
    go_wp2_with (first | (go_at_call 28; refine HO.out.mono ?_; rintro e w' ⟨rfl, rfl⟩) | (go_at_call 15; refine HN.out.mono ?_; rintro e w' ⟨rfl, rfl⟩) | (go_at_call 15; refine Hn.out.mono ?_; rintro e w' ⟨rfl, rfl⟩))
    go_ret
    exact ⟨congrArg (fun x => Ending.returned (.bool x)) HD.out.symm, rfl⟩
  · have e4 : (((M - m : Nat) : Int)) < (p : Int) := by omega
    have e5 : ¬ (p : Int) ≤ (M : Int) - (m : Int) := by omega
    have hdec : decide (InB N (p, n)) = false := by rw [decide_eq_false_iff_not, HI.out]; omega
    have HD := Lib.hid hdec
    clear hdec
    go_enter Try.func17, Try.ntmps17
    go_wp2_with (first | (go_at_call 28; refine HO.out.mono ?_; rintro e w' ⟨rfl, rfl⟩) | (go_at_call 15; refine HN.out.mono ?_; rintro e w' ⟨rfl, rfl⟩) | (go_at_call 15; refine Hn.out.mono ?_; rintro e w' ⟨rfl, rfl⟩))
    go_ret
    exact ⟨congrArg (fun x => Ending.returned (.bool x)) HD.out.symm, rfl⟩

set_option maxRecDepth 100000 in
set_option maxHeartbeats 1000000 in
theorem inR_bad (N : Nat) (p n : Int) (hN : N ≤ 10) (h : n < 0 ∨ 10 < n ∨ (0 ≤ n ∧ n ≤ 10 ∧ (N : Int) < n) ∨ (0 ≤ n ∧ n ≤ 10 ∧ n ≤ N ∧ p < 0)) (w : World) :
    Calls Try.prog 17 #[.int .i64 (N : Int), .int .i64 p, .int .i64 n] w fun e w' => e = .returned (.bool false) ∧ w = w' := by
  have HO0 := order_ok n w
  rcases h with h | h | ⟨h, h2, h3⟩ | ⟨h, h2, h3, h4⟩
  · rw [decide_eq_false (show ¬ ((0 : Int) ≤ n ∧ n ≤ 10) by omega)] at HO0
    have HO := Lib.hid HO0
    clear HO0
    go_enter Try.func17, Try.ntmps17
    go_wp2_with (go_at_call 28; refine HO.out.mono ?_; rintro e w' ⟨rfl, rfl⟩)
    go_ret
    exact ⟨rfl, rfl⟩
  · rw [decide_eq_false (show ¬ ((0 : Int) ≤ n ∧ n ≤ 10) by omega)] at HO0
    have HO := Lib.hid HO0
    clear HO0
    go_enter Try.func17, Try.ntmps17
    go_wp2_with (go_at_call 28; refine HO.out.mono ?_; rintro e w' ⟨rfl, rfl⟩)
    go_ret
    exact ⟨rfl, rfl⟩
  · rw [decide_eq_true (show ((0 : Int) ≤ n ∧ n ≤ 10) by omega)] at HO0
    have HO := Lib.hid HO0
    clear HO0
    go_enter Try.func17, Try.ntmps17
    go_wp2_with (go_at_call 28; refine HO.out.mono ?_; rintro e w' ⟨rfl, rfl⟩)
    go_ret
    exact ⟨rfl, rfl⟩
  · rw [decide_eq_true (show ((0 : Int) ≤ n ∧ n ≤ 10) by omega)] at HO0
    have HO := Lib.hid HO0
    clear HO0
    go_enter Try.func17, Try.ntmps17
    go_wp2_with (go_at_call 28; refine HO.out.mono ?_; rintro e w' ⟨rfl, rfl⟩)
    go_ret
    exact ⟨rfl, rfl⟩

theorem inR_ok (N : Nat) (p n : Int) (hN : N ≤ 10) (w : World) :
    Calls Try.prog 17 #[.int .i64 (N : Int), .int .i64 p, .int .i64 n] w fun e w' => e = .returned (.bool (inZ N p n)) ∧ w = w' := by
  by_cases h : 0 ≤ n ∧ n ≤ 10 ∧ n ≤ N ∧ 0 ≤ p
  · obtain ⟨h1, h2, h3, h4⟩ := h
    obtain ⟨k, rfl⟩ := Int.eq_ofNat_of_zero_le h1
    obtain ⟨q, rfl⟩ := Int.eq_ofNat_of_zero_le h4
    rw [inZ_nat hN]
    exact inR_nat N q k hN (by omega) w
  · have e : inZ N p n = false := by
      unfold inZ
      rw [decide_eq_false_iff_not]
      rintro ⟨h1, h2, h3, h4, _⟩
      exact h ⟨h1, h2, h3, h4⟩
    rw [e]
    exact inR_bad N p n hN (by omega) w
end Bu
end Go.Proofs.Ytdanhbbdkcbapaa
