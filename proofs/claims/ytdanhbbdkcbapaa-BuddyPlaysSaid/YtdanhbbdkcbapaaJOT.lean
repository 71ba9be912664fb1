/- Calls of both: the program's and the specification's, with whatever arguments. -/
import Derived.Test.YtdanhbbdkcbapaaJOJ
namespace Go.Proofs.Ytdanhbbdkcbapaa
open Go.RowKit
namespace Bu

/-- The slice of a state that the specification returns: the one that was, or one of its own. -/
def NewS (w w' : World) (A : Option Addr) (c : Nat) (L : List Blk) (A' : Option Addr) (c' : Nat) (L' : List Blk) : Prop := (A' = A ∧ c' = c ∧ L' = L) ∨ Own w' w.heap.size A' c' L'

def alO (N : Nat) (L : List Blk) (k : Int) : Int × Int × List Blk :=
  if 0 ≤ k ∧ k ≤ 10 then match allocB N L k.toNat with | none => (0, 5, L) | some (p, L') => ((p : Int), 0, L') else (0, 7, L)
def atO (N : Nat) (L : List Blk) (p k : Int) : Int × List Blk :=
  if inZ N p k = true then if freeB L p.toNat k.toNat = true then (0, putB L (p.toNat, k.toNat)) else (8, L) else (7, L)
def drO (N : Nat) (L : List Blk) (p k : Int) : Int × List Blk :=
  if inZ N p k = true then if (p.toNat, k.toNat) ∈ L then (0, delB L (p.toNat, k.toNat)) else (9, L) else (7, L)

theorem keep_below {w w' : World} {b N : Nat} {L : List Blk} (h : BuL w b N L) (hb : Below w.heap.size w w') : BuL w' b N L ∧ Grow1 b w w' :=
  ⟨h.keep (hb.block b h.lt), hb.os, hb.tape, hb.output, hb.size, fun k hk _ => hb.block k hk⟩

theorem al_both (w : World) (b N : Nat) (L : List Blk) (k : Int) (h : BuL w b N L) :
    Calls Try.prog 14 #[.pointer (some ⟨b, 0, none⟩), .int .i64 k] w fun e w' => e = .returned (.tuple #[.int .i64 (alO N L k).1, .int .i64 (alO N L k).2.1]) ∧ BuL w' b N (alO N L k).2.2 ∧ Grow1 b w w' := by
  by_cases hk : 0 ≤ k ∧ k ≤ 10
  · obtain ⟨n, rfl⟩ := Int.eq_ofNat_of_zero_le hk.1
    have hn : n ≤ 10 := by omega
    unfold alO
    rw [if_pos hk, Int.toNat_natCast]
    cases ha : allocB N L n with
    | none => exact al_none h hn ha
    | some pl => exact al_some h hn ha
  · unfold alO
    rw [if_neg hk]
    exact (allocL_bad w b N L k h hk).mono fun e w' ⟨he, hb⟩ => ⟨he, keep_below h hb⟩
theorem alR_both (w : World) (N : Nat) (A : Option Addr) (c : Nat) (L : List Blk) (k : Int) (h : BlkAt w A c L) (hS : St N L) :
    Calls Try.prog 39 #[sv N A L.length c, .int .i64 k] w fun e w' => ∃ A' c', e = .returned (.tuple #[sv N A' (alO N L k).2.2.length c', .int .i64 (alO N L k).1, .int .i64 (alO N L k).2.1]) ∧ NewS w w' A c L A' c' (alO N L k).2.2 ∧ Below w.heap.size w w' := by
  by_cases hk : 0 ≤ k ∧ k ≤ 10
  · obtain ⟨n, rfl⟩ := Int.eq_ofNat_of_zero_le hk.1
    have hn : n ≤ 10 := by omega
    have hr := allocR_ok w N A c L n hn h hS
    unfold alO
    rw [if_pos hk, Int.toNat_natCast]
    unfold GiveR at hr
    cases ha : allocB N L n with
    | none => rw [ha] at hr; exact hr.mono fun e w' ⟨he, hb⟩ => ⟨A, c, he, .inl ⟨rfl, rfl, rfl⟩, hb⟩
    | some pl => rw [ha] at hr; exact hr.mono fun e w' ⟨⟨A', c', he, ho⟩, hb⟩ => ⟨A', c', he, .inr ho, hb⟩
  · unfold alO
    rw [if_neg hk]
    exact (allocR_bad w N A c L.length k hk).mono fun e w' ⟨he, hb⟩ => ⟨A, c, he, .inl ⟨rfl, rfl, rfl⟩, hb⟩

theorem at_both (w : World) (b N : Nat) (L : List Blk) (p k : Int) (h : BuL w b N L) :
    Calls Try.prog 25 #[.pointer (some ⟨b, 0, none⟩), .int .i64 p, .int .i64 k] w fun e w' => e = .returned (.int .i64 (atO N L p k).1) ∧ BuL w' b N (atO N L p k).2 ∧ Grow1 b w w' := by
  unfold atO
  cases hz : inZ N p k with
  | false =>
    rw [if_neg (by simp)]
    exact (atL_bad w b N L p k h hz).mono fun e w' ⟨he, hw⟩ => by subst hw; exact ⟨he, h, Grow1.refl _ _⟩
  | true =>
    rw [if_pos rfl]
    obtain ⟨q, n, rfl, rfl, hin⟩ := inZ_true hz
    rw [Int.toNat_natCast, Int.toNat_natCast]
    refine (atL_ok w b N L (q, n) h hin).mono ?_
    rintro e w' ⟨hg, ⟨hf, he, hB⟩ | ⟨hf, he, hB⟩⟩
    · rw [if_pos hf]; exact ⟨he, hB, hg⟩
    · have hf : freeB L q n = false := hf
      rw [hf, if_neg (by simp)]; exact ⟨he, hB, hg⟩
theorem atR_both (w : World) (N : Nat) (A : Option Addr) (c : Nat) (L : List Blk) (p k : Int) (h : BlkAt w A c L) (hS : St N L) :
    Calls Try.prog 40 #[sv N A L.length c, .int .i64 p, .int .i64 k] w fun e w' => ∃ A' c', e = .returned (.tuple #[sv N A' (atO N L p k).2.length c', .int .i64 (atO N L p k).1]) ∧ NewS w w' A c L A' c' (atO N L p k).2 ∧ Below w.heap.size w w' := by
  unfold atO
  cases hz : inZ N p k with
  | false =>
    rw [if_neg (by simp)]
    exact (allocAtR_bad w N A c L.length p k hS.n10 hz).mono fun e w' ⟨he, hb⟩ => ⟨A, c, he, .inl ⟨rfl, rfl, rfl⟩, hb⟩
  | true =>
    rw [if_pos rfl]
    obtain ⟨q, n, rfl, rfl, hin⟩ := inZ_true hz
    rw [Int.toNat_natCast, Int.toNat_natCast]
    refine (allocAtR_ok w N A c L (q, n) h hS hin).mono ?_
    rintro e w' ⟨⟨hf, A', c', he, ho⟩ | ⟨hf, he⟩, hb⟩
    · rw [if_pos hf]; exact ⟨A', c', he, .inr ho, hb⟩
    · have hf : freeB L q n = false := hf
      rw [hf, if_neg (by simp)]; exact ⟨A, c, he, .inl ⟨rfl, rfl, rfl⟩, hb⟩

theorem dr_both (w : World) (b N : Nat) (L : List Blk) (p k : Int) (h : BuL w b N L) :
    Calls Try.prog 21 #[.pointer (some ⟨b, 0, none⟩), .int .i64 p, .int .i64 k] w fun e w' => e = .returned (.int .i64 (drO N L p k).1) ∧ BuL w' b N (drO N L p k).2 ∧ Grow1 b w w' := by
  unfold drO
  cases hz : inZ N p k with
  | false =>
    rw [if_neg (by simp)]
    exact (freeL_bad w b N L p k h hz).mono fun e w' ⟨he, hw⟩ => by subst hw; exact ⟨he, h, Grow1.refl _ _⟩
  | true =>
    rw [if_pos rfl]
    obtain ⟨q, n, rfl, rfl, hin⟩ := inZ_true hz
    rw [Int.toNat_natCast, Int.toNat_natCast]
    refine (freeL_ok w b N L (q, n) h hin).mono ?_
    rintro e w' ⟨hg, ⟨hf, he, hB⟩ | ⟨hf, he, hB⟩⟩
    · rw [if_pos hf]; exact ⟨he, hB, hg⟩
    · rw [if_neg hf]; exact ⟨he, hB, hg⟩
theorem drR_both (w : World) (N : Nat) (A : Option Addr) (c : Nat) (L : List Blk) (p k : Int) (h : BlkAt w A c L) (hS : St N L) :
    Calls Try.prog 41 #[sv N A L.length c, .int .i64 p, .int .i64 k] w fun e w' => ∃ A' c', e = .returned (.tuple #[sv N A' (drO N L p k).2.length c', .int .i64 (drO N L p k).1]) ∧ NewS w w' A c L A' c' (drO N L p k).2 ∧ Below w.heap.size w w' := by
  unfold drO
  cases hz : inZ N p k with
  | false =>
    rw [if_neg (by simp)]
    exact (dropR_bad w N A c L.length p k hS.n10 hz).mono fun e w' ⟨he, hb⟩ => ⟨A, c, he, .inl ⟨rfl, rfl, rfl⟩, hb⟩
  | true =>
    rw [if_pos rfl]
    obtain ⟨q, n, rfl, rfl, hin⟩ := inZ_true hz
    rw [Int.toNat_natCast, Int.toNat_natCast]
    refine (dropR_ok w N A c L (q, n) hS.n10 h (by have := st_len hS; omega) hin).mono ?_
    rintro e w' ⟨⟨hf, A', c', he, ho⟩ | ⟨hf, he⟩, hb⟩
    · rw [if_pos hf]; exact ⟨A', c', he, .inr ho, hb⟩
    · rw [if_neg hf]; exact ⟨A, c, he, .inl ⟨rfl, rfl, rfl⟩, hb⟩

def owO (N : Nat) (L : List Blk) (page : Int) : Int × Int × Int :=
  if page < 0 ∨ ((2 ^ N : Nat) : Int) ≤ page then (0, 0, 7) else match ownerB L page.toNat with | some x => ((x.1 : Int), (x.2 : Int), 0) | none => (0, 0, 4)
theorem ow_both (w : World) (b N : Nat) (L : List Blk) (page : Int) (h : BuL w b N L) :
    Calls Try.prog 23 #[.pointer (some ⟨b, 0, none⟩), .int .i64 page] w fun e w' => e = .returned (.tuple #[.agg #[.int .i64 (owO N L page).1, .int .i64 (owO N L page).2.1], .int .i64 (owO N L page).2.2]) ∧ Below w.heap.size w w' := by
  unfold owO
  by_cases hp : page < 0 ∨ ((2 ^ N : Nat) : Int) ≤ page
  · rw [if_pos hp]; exact ownerL_bad w b N L page h hp
  · rw [if_neg hp]
    obtain ⟨q, rfl⟩ := Int.eq_ofNat_of_zero_le (show 0 ≤ page by omega)
    have := ownerL_ok w b N L q h (by omega)
    rw [Int.toNat_natCast]
    cases e : ownerB L q <;> (rw [e] at this; exact this)
theorem owR_both (w : World) (N : Nat) (A : Option Addr) (c : Nat) (L : List Blk) (page : Int) (h : BlkAt w A c L) (hS : St N L) :
    Calls Try.prog 42 #[sv N A L.length c, .int .i64 page] w fun e w' => e = .returned (.tuple #[.agg #[.int .i64 (owO N L page).1, .int .i64 (owO N L page).2.1], .int .i64 (owO N L page).2.2]) ∧ Below w.heap.size w w' := by
  unfold owO
  by_cases hp : page < 0 ∨ ((2 ^ N : Nat) : Int) ≤ page
  · rw [if_pos hp]; exact ownerR_bad w N A c L page hS.n10 hp
  · rw [if_neg hp]
    obtain ⟨q, rfl⟩ := Int.eq_ofNat_of_zero_le (show 0 ≤ page by omega)
    have := ownerR_ok w N A c L q hS.n10 h (st_le hS) (by omega)
    rw [Int.toNat_natCast]
    cases e : ownerB L q <;> (rw [e] at this; exact this)

def roO (N : Nat) (L : List Blk) (k : Int) : Int × Int := if 0 ≤ k ∧ k ≤ 10 then (((roomB k.toNat (blocksB N L) : Nat) : Int), 0) else (0, 7)
theorem ro_both (w : World) (b N : Nat) (L : List Blk) (k : Int) (h : BuL w b N L) :
    Calls Try.prog 18 #[.pointer (some ⟨b, 0, none⟩), .int .i64 k] w fun e w' => e = .returned (.tuple #[.int .i64 (roO N L k).1, .int .i64 (roO N L k).2]) ∧ Below w.heap.size w w' := by
  unfold roO
  by_cases hk : 0 ≤ k ∧ k ≤ 10
  · rw [if_pos hk]
    obtain ⟨n, rfl⟩ := Int.eq_ofNat_of_zero_le hk.1
    exact roomL_ok w b N L n h (by omega)
  · rw [if_neg hk]; exact roomL_bad w b N L k h hk
theorem roR_both (w : World) (N : Nat) (A : Option Addr) (c : Nat) (L : List Blk) (k : Int) (h : BlkAt w A c L) (hS : St N L) :
    Calls Try.prog 43 #[sv N A L.length c, .int .i64 k] w fun e w' => e = .returned (.tuple #[.int .i64 (roO N L k).1, .int .i64 (roO N L k).2]) ∧ Below w.heap.size w w' := by
  unfold roO
  by_cases hk : 0 ≤ k ∧ k ≤ 10
  · rw [if_pos hk]
    obtain ⟨n, rfl⟩ := Int.eq_ofNat_of_zero_le hk.1
    exact roomR_ok w N A c L n (by omega) h hS
  · rw [if_neg hk]; exact roomR_bad w N A c L.length k hk
def lgO (N : Nat) (L : List Blk) : Int × Int := match largeB none (blocksB N L) with | some k => ((k : Int), 0) | none => (0, 4)
theorem lg_both (w : World) (b N : Nat) (L : List Blk) (h : BuL w b N L) :
    Calls Try.prog 24 #[.pointer (some ⟨b, 0, none⟩)] w fun e w' => e = .returned (.tuple #[.int .i64 (lgO N L).1, .int .i64 (lgO N L).2]) ∧ w = w' := by
  have := largeL_ok w b N L h
  unfold lgO
  cases e : largeB none (blocksB N L) <;> (rw [e] at this; exact this)
theorem lgR_both (w : World) (N : Nat) (A : Option Addr) (c : Nat) (L : List Blk) (h : BlkAt w A c L) (hS : St N L) :
    Calls Try.prog 44 #[sv N A L.length c] w fun e w' => e = .returned (.tuple #[.int .i64 (lgO N L).1, .int .i64 (lgO N L).2]) ∧ Below w.heap.size w w' := by
  have := largeR_ok w N A c L h hS
  unfold lgO
  cases e : largeB none (blocksB N L) <;> (rw [e] at this; exact this)
end Bu
end Go.Proofs.Ytdanhbbdkcbapaa
