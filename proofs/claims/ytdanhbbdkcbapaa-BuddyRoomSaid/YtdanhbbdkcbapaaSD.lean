/- carve. -/
import Derived.Test.YtdanhbbdkcbapaaSC
namespace Go.Proofs.Ytdanhbbdkcbapaa
open Go.RowKit
namespace Bu

theorem sib_lt {page a : Nat} (hp : page < 1024) (ha : a < 10) : sib (page / 2 ^ a) * 2 ^ a < 1024 := by
  have h1 : 2 ^ a * 2 ^ (10 - a) = 1024 := by rw [← Nat.pow_add, show a + (10 - a) = 10 by omega]
  have h2 : page / 2 ^ a < 2 ^ (10 - a) := by
    rw [Nat.div_lt_iff_lt_mul (Nat.pow_pos (by decide)), Nat.mul_comm]
    omega
  have h3 : 2 ^ (10 - a) = 2 * 2 ^ (10 - (a + 1)) := pow_split 10 a (by omega)
  have h4 : sib (page / 2 ^ a) < 2 ^ (10 - a) := by
    have := sib_half (page / 2 ^ a)
    omega
  calc sib (page / 2 ^ a) * 2 ^ a < 2 ^ (10 - a) * 2 ^ a := Nat.mul_lt_mul_of_pos_right h4 (Nat.pow_pos (by decide))
    _ = 1024 := by rw [Nat.mul_comm]; exact h1

theorem pow_i64 (a : Nat) (ha : a ≤ 11) : IntKind.i64.wrap ((2 : Int) ^ a) = ((2 ^ a : Nat) : Int) := by
  have h := pow_small ha
  have e : (2 : Int) ^ a = ((2 ^ a : Nat) : Int) := by rw [Int.natCast_pow]; rfl
  rw [e, i64_wrap _ (by omega)]
theorem pow_i64_pred (a : Nat) (ha : a ≤ 11) : IntKind.i64.wrap (IntKind.i64.wrap ((2 : Int) ^ a) - 1) = ((2 ^ a : Nat) : Int) - 1 := by
  have h := pow_small ha
  rw [pow_i64 a ha, IntWalk.i64_in _ (by have := Nat.pow_pos (n := a) (show 0 < 2 by decide); omega)]
theorem off_val (page a : Nat) (hp : page < 1024) (ha : a ≤ 10) : bits .andNot .i64 (page : Int) (IntKind.i64.wrap (IntKind.i64.wrap ((2 : Int) ^ a) - 1)) = ((page / 2 ^ a * 2 ^ a : Nat) : Int) := by
  rw [pow_i64_pred a (by omega), mask_off page a (by omega) (by omega)]
theorem flip_val (page a : Nat) (hp : page < 1024) (ha : a ≤ 10) : bits .xor .i64 (bits .andNot .i64 (page : Int) (IntKind.i64.wrap (IntKind.i64.wrap ((2 : Int) ^ a) - 1))) (IntKind.i64.wrap ((2 : Int) ^ a)) = ((sib (page / 2 ^ a) * 2 ^ a : Nat) : Int) := by
  have h := Nat.div_mul_le_self page (2 ^ a)
  rw [off_val page a hp ha, pow_i64 a (by omega), flip_page _ _ (by omega) (by omega)]

set_option maxRecDepth 100000 in
set_option maxHeartbeats 1000000 in
theorem halve_ok (b N order page bo bb bp bh : Nat) (hp : page < 1024) (hne : bo ≠ b ∧ bb ≠ b ∧ bp ≠ b ∧ bh ≠ b) (j : Nat) : ∀ (w : World) (Fr Gv : Nat → Nat → Bool), order + j ≤ 10 → Bu w b N Fr Gv →
    w.cell? ⟨bo, 0, none⟩ = some (.int .i64 (order : Int)) → w.cell? ⟨bb, 0, none⟩ = some (.pointer (some ⟨b, 0, none⟩)) → w.cell? ⟨bp, 0, none⟩ = some (.int .i64 (page : Int)) →
    w.cell? ⟨bh, 0, none⟩ = some (.func (.func 49) #[] #[.pointer (some ⟨bo, 0, none⟩), .pointer (some ⟨bb, 0, none⟩), .pointer (some ⟨bp, 0, none⟩), .pointer (some ⟨bh, 0, none⟩)]) →
    Calls Try.prog 49 #[.int .i64 ((order + j : Nat) : Int), .pointer (some ⟨bo, 0, none⟩), .pointer (some ⟨bb, 0, none⟩), .pointer (some ⟨bp, 0, none⟩), .pointer (some ⟨bh, 0, none⟩)] w fun e w' => e = .returned (.tuple #[]) ∧ Bu w' b N (halves Fr order (order + j) page) Gv ∧ Grow1 b w w' := by
  induction j with
  | zero =>
    intro w Fr Gv _ hB c1 c2 c3 c4
    rw [Nat.add_zero, halves_none]
    have HB := Lib.hid hB
    have he : ((order : Int) == (order : Int)) = true := by simp
    clear hB
    go_enter Try.func49, Try.ntmps49
    go_wp2
    exact bodyPost_ret (results_none rfl _ _ _) rfl ⟨rfl, HB.out, Grow1.refl _ _⟩
  | succ j ih =>
    intro w Fr Gv hj hB c1 c2 c3 c4
    obtain ⟨a, ha⟩ : ∃ a, a = order + j := ⟨_, rfl⟩
    have he : (((a + 1 : Nat) : Int) == (order : Int)) = false := by rw [beq_eq_false_iff_ne]; omega
    rw [show order + (j + 1) = a + 1 by omega] at hj ⊢
    rw [← ha] at ih
    have hs := sib_lt (page := page) (a := a) hp (by omega)
    have hB1 := hB.putF (k := a) (p := sib (page / 2 ^ a) * 2 ^ a) (by omega) hs
    have hfr : ∀ x o, x ≠ b → (setW w.drew b (2 + a * 16) (sib (page / 2 ^ a) * 2 ^ a) (sadd (Fr a) (sib (page / 2 ^ a) * 2 ^ a))).cell? ⟨x, o, none⟩ = w.cell? ⟨x, o, none⟩ := fun x o hx => World.cell?_of_block (a := ⟨x, o, none⟩) (setW_far _ _ _ _ _ _ hx)
    have HP := Lib.hid (put_ok w.drew b (2 + a * 16) (sib (page / 2 ^ a) * 2 ^ a) (Fr a) (hB.free (by omega)) hs)
    have HI := Lib.hid (ih (setW w.drew b (2 + a * 16) (sib (page / 2 ^ a) * 2 ^ a) (sadd (Fr a) (sib (page / 2 ^ a) * 2 ^ a))) _ Gv (by omega) hB1 ((hfr bo 0 hne.1).trans c1) ((hfr bb 0 hne.2.1).trans c2) ((hfr bp 0 hne.2.2.1).trans c3) ((hfr bh 0 hne.2.2.2).trans c4))
    have c4' := (hfr bh 0 hne.2.2.2).trans c4
    have hnx : halves (upd Fr a (sadd (Fr a) (sib (page / 2 ^ a) * 2 ^ a))) order a page = halves Fr order (a + 1) page := halves_next Fr order a page (by omega)
    rw [hnx] at HI
    have HG := Lib.hid (setW_grow w.drew b (2 + a * 16) (sib (page / 2 ^ a) * 2 ^ a) (sadd (Fr a) (sib (page / 2 ^ a) * 2 ^ a)))
    have i1 : (0 : Int) ≤ (a : Int) := by omega
    have i2 : (a : Int) + 1 ≤ 10 := by omega
    have i3 : (a : Int) < 11 := by omega
    have w1 : IntKind.i64.wrap ((a : Int) + 1 - 1) = (a : Int) := by rw [IntWalk.i64_in _ (by omega)]; omega
    have w2 : IntKind.i64.wrap (a : Int) = (a : Int) := by rw [IntWalk.i64_in _ (by omega)]
    have ha10 : a ≤ 10 := by omega
    clear ih hB hB1 ha hj hs hfr hnx
    generalize setW w.drew b (2 + a * 16) (sib (page / 2 ^ a) * 2 ^ a) (sadd (Fr a) (sib (page / 2 ^ a) * 2 ^ a)) = W3 at *
    go_enter Try.func49, Try.ntmps49
    go_wp2_with fail
    have S0 : w.drew.cell? ⟨bb, 0, none⟩ = some (.pointer (some ⟨b, 0, none⟩)) ∧ w.drew.cell? ⟨bp, 0, none⟩ = some (.int .i64 (page : Int)) := ⟨c2, c3⟩
    go_region_with ((go_at_call 37; rw [flip_val page a hp ha10]; refine HP.out.mono ?_; rintro e w3 ⟨rfl, rfl⟩))
    all_goals
      go_wp2_with (first | (go_at_call 49; refine HI.out.mono ?_; rintro e w4 ⟨rfl, hB4, hg4⟩; have H4 := Lib.hid (And.intro hB4 hg4); clear hB4 hg4))
      go_end0
      exact ⟨rfl, H4.out.1, (Grow1.refl b w).drew.trans (HG.out.trans H4.out.2)⟩
end Bu
end Go.Proofs.Ytdanhbbdkcbapaa
