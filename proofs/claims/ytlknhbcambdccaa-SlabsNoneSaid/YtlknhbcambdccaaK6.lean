/- Free. Ranges over functions within a loop: the marks on the frame. Alloc. -/
import Derived.Test.YtlknhbcambdccaaK5
import Derived.Sort.LoopGhostIn
import Derived.StillTailTactics
namespace Go.Proofs.Ytlknhbcambdccaa
open Go.RowKit
namespace Bu

theorem free_bad (w : World) (b N : Nat) (page order : Int) (G : Bl) (h : Bud w b N G) (hno : ¬ (0 ≤ order ∧ order ≤ N ∧ 0 ≤ page ∧ page < 2 ^ N ∧ page.toNat % 2 ^ order.toNat = 0)) :
    Calls Try.prog 71 #[.pointer (some ⟨b, 0, none⟩), .int .i64 page, .int .i64 order] w fun e w' => e = .returned (.int .i64 7) ∧ w = w' := by
  have HI := Lib.hid (err_in w b N page order G h hno)
  obtain ⟨Fr, Gv, h1, h2⟩ := h
  have HS := Lib.hid (is_ok w b N Fr Gv h1)
  clear hno h1 h2
  go_enter Try.func71, Try.ntmps71
  go_wp2_with (first | (go_at_call 47; refine HS.out.mono ?_; rintro e w' ⟨rfl, rfl⟩) | (go_at_call 88; refine HI.out.mono ?_; rintro e w' ⟨rfl, rfl⟩))
  go_ret
  exact ⟨rfl, rfl⟩

set_option maxHeartbeats 1000000 in
theorem free_not (w : World) (b N page order : Nat) (G : Bl) (h : Bud w b N G) (ho : order ≤ N) (hp : page < 2 ^ N) (hd : page % 2 ^ order = 0) (hg : ¬ G order (page / 2 ^ order)) :
    Calls Try.prog 71 #[.pointer (some ⟨b, 0, none⟩), .int .i64 page, .int .i64 order] w fun e w' => e = .returned (.int .i64 9) ∧ w = w' := by
  obtain ⟨Fr, Gv, h1, h2⟩ := h
  have hn := h2.n10
  have hp2 : page < 1024 := Nat.lt_of_lt_of_le hp (by
    have : 2 ^ N ≤ 2 ^ 10 := Nat.pow_le_pow_right (by omega) hn
    omega)
  have HS := Lib.hid (is_ok w b N Fr Gv h1)
  have HI0 := in_ok w b N page order Fr Gv h1 hn ho hp
  rw [decide_eq_true hd] at HI0
  have HI := Lib.hid HI0
  have HH0 := has_ok w b (178 + order * 16) page (Gv order) (h1.given (by omega)) hp2
  have hgf : Gv order page = false := by
    rw [← Bool.not_eq_true, h2.given order page (by omega) hp2]
    exact fun h => hg h.2
  rw [hgf] at HH0
  have HH := Lib.hid HH0
  have e1 : (0 : Int) ≤ (order : Int) := by omega
  have e2 : (order : Int) < 11 := by omega
  clear HI0 HH0 hgf h1 h2 hg hd
  go_enter Try.func71, Try.ntmps71
  go_wp2_with (first | (go_at_call 47; refine HS.out.mono ?_; rintro e w' ⟨rfl, rfl⟩) | (go_at_call 88; refine HI.out.mono ?_; rintro e w' ⟨rfl, rfl⟩) | (go_at_call 86; refine HH.out.mono ?_; rintro e w' ⟨rfl, rfl⟩))
  go_ret
  exact ⟨rfl, rfl⟩

theorem flip_at (page k : Nat) (hp : page < 1024) (hk : k ≤ 10) : bits .xor .i64 ((page / 2 ^ k * 2 ^ k : Nat) : Int) (IntKind.i64.wrap ((2 : Int) ^ k)) = ((sib (page / 2 ^ k) * 2 ^ k : Nat) : Int) := by
  have h := Nat.div_mul_le_self page (2 ^ k)
  rw [pow_i64 k (by omega), flip_page _ _ (by omega) (by omega)]
theorem clear_at (page k : Nat) (hp : page < 1024) (hk : k ≤ 10) : bits .andNot .i64 ((page / 2 ^ k * 2 ^ k : Nat) : Int) (wrap64 ((2 : Int) ^ k)) = ((page / 2 ^ (k + 1) * 2 ^ (k + 1) : Nat) : Int) := by
  have h := Nat.div_mul_le_self page (2 ^ k)
  rw [pow_w64 k (by omega), clear_page _ _ (by omega) (by omega), div_step]
theorem div_off {page order m : Nat} : page / 2 ^ order / 2 ^ m = page / 2 ^ (order + m) := (div_pow _ _ _).symm

theorem Grow1.drewN {g : Nat} {a b : World} (h : Grow1 g a b) (n : Nat) : Grow1 g a (b.drewN n) := ⟨h.os, h.tape, h.output, h.size, h.block⟩

theorem freed {w : World} {b N page order m i : Nat} {G : Bl} {Fr Gv : Nat → Nat → Bool} (h2 : Sem N Fr Gv G) (hg : G order i) (hi : i = page / 2 ^ order) (hpo : page / 2 ^ order * 2 ^ order = page)
    (hf : Free (del G order i) (order + m) (i / 2 ^ m)) (hm : order + m ≤ N) (hp2 : page < 1024) (hend : order + m = N ∨ Fr (order + m) (sib (page / 2 ^ (order + m)) * 2 ^ (order + m)) = false)
    (hB : Bu w b N (unhalves Fr order (order + m) page) (upd Gv order (sdel (Gv order) page))) :
    Bud (setW w b (2 + (order + m) * 16) (page / 2 ^ (order + m) * 2 ^ (order + m)) (sadd (Fr (order + m)) (page / 2 ^ (order + m) * 2 ^ (order + m)))) b N (del G order i) := by
  have hn := h2.n10
  have hX0 : page / 2 ^ (order + m) = i / 2 ^ m := by rw [hi, div_pow]
  have hpi : i * 2 ^ order = page := by rw [hi]; exact hpo
  have hM : MaxFree (del G order i) N (order + m) (i / 2 ^ m) := by
    refine merge_end h2.ok hg hf hm ?_
    rcases hend with he | he
    · exact .inl he
    · by_cases hN : order + m = N
      · exact .inl hN
      · refine .inr fun hx => ?_
        have := (h2.free (order + m) (sib (page / 2 ^ (order + m)) * 2 ^ (order + m)) (by omega) (sib_lt hp2 (by omega))).2 ⟨Nat.mul_mod_left _ _, by rw [first, hX0]; exact hx⟩
        rw [he] at this
        cases this
  have hS := sem_merge h2 hg hM
  rw [hpi] at hS
  have hP := Bu.putF hB (k := order + m) (p := page / 2 ^ (order + m) * 2 ^ (order + m)) (by omega) (Nat.lt_of_le_of_lt (Nat.div_mul_le_self _ _) hp2)
  rw [← hX0] at hS
  have hsame : unhalves Fr order (order + m) page (order + m) = Fr (order + m) := by unfold unhalves; rw [if_neg (by omega)]
  rw [hsame] at hP hS
  exact ⟨_, _, hP, hS⟩

set_option maxRecDepth 100000 in
set_option maxHeartbeats 2000000 in
theorem free_ok (w : World) (b N page order : Nat) (G : Bl) (h : Bud w b N G) (ho : order ≤ N) (hp : page < 2 ^ N) (hd : page % 2 ^ order = 0) (hg : G order (page / 2 ^ order)) :
    Calls Try.prog 71 #[.pointer (some ⟨b, 0, none⟩), .int .i64 page, .int .i64 order] w fun e w' => e = .returned (.int .i64 0) ∧ Grow1 b w w' ∧ Bud w' b N (del G order (page / 2 ^ order)) := by
  obtain ⟨Fr, Gv, h1, h2⟩ := h
  have hn := h2.n10
  have hp2 : page < 1024 := Nat.lt_of_lt_of_le hp (by
    have : 2 ^ N ≤ 2 ^ 10 := Nat.pow_le_pow_right (by omega) hn
    omega)
  have HS := Lib.hid (is_ok w b N Fr Gv h1)
  have HI0 := in_ok w b N page order Fr Gv h1 hn ho hp
  rw [decide_eq_true hd] at HI0
  have HI := Lib.hid HI0
  have HH0 := has_ok w b (178 + order * 16) page (Gv order) (h1.given (by omega)) hp2
  have hgf : Gv order page = true := (h2.given order page (by omega) hp2).2 ⟨hd, hg⟩
  rw [hgf] at HH0
  have HH := Lib.hid HH0
  have e1 : (0 : Int) ≤ (order : Int) := by omega
  have e2 : (order : Int) < 11 := by omega
  have HT := Lib.hid (take_ok w b (178 + order * 16) page (Gv order) (h1.given (by omega)) hp2)
  obtain ⟨W1, hW1⟩ : ∃ W1, W1 = setW w b (178 + order * 16) page (sdel (Gv order) page) := ⟨_, rfl⟩
  have hB1 : Bu W1 b N Fr (upd Gv order (sdel (Gv order) page)) := by rw [hW1]; exact Bu.takeG h1 (by omega) hp2
  have hG1 : Grow1 b w W1 := by rw [hW1]; exact setW_grow _ _ _ _ _
  rw [← hW1] at HT
  replace HT := Lib.hid (HT.out.mono fun _ _ h => And.intro h.1 h.2.symm)
  obtain ⟨i, hi⟩ : ∃ i, i = page / 2 ^ order := ⟨_, rfl⟩
  rw [← hi] at hg ⊢
  have hX0 : ∀ m, page / 2 ^ (order + m) = i / 2 ^ m := fun m => by rw [hi, div_pow]
  have hf0 : Free (del G order i) (order + 0) (i / 2 ^ 0) := by
    rw [Nat.pow_zero, Nat.div_one]
    exact free_del_self h2.ok hg
  have hpo : page / 2 ^ order * 2 ^ order = page := mul_of_mod hd
  have H2 := Lib.hid (And.intro h2 (And.intro hg (And.intro hi (And.intro hX0 (And.intro hpo (And.intro hG1 hB1))))))
  have HF0 := Lib.hid hf0
  clear HI0 HH0 hgf h1 h2 hg hd hB1 hG1 hf0 hX0 hi hW1 hpo
  go_enter Try.func71, Try.ntmps71
  go_wp2_with (first | (go_at_call 47; refine HS.out.mono ?_; rintro e w' ⟨rfl, rfl⟩) | (go_at_call 88; refine HI.out.mono ?_; rintro e w' ⟨rfl, rfl⟩) | (go_at_call 86; refine HH.out.mono ?_; rintro e w' ⟨rfl, rfl⟩) | (go_at_call 91; refine HT.out.mono ?_; rintro e w' ⟨rfl, rfl⟩))
  go_loopw [1, 2] (fun vp vo wr => ∃ m : Nat, order + m ≤ N ∧ vp = .int .i64 ((page / 2 ^ (order + m) * 2 ^ (order + m) : Nat) : Int) ∧ vo = .int .i64 ((order + m : Nat) : Int) ∧ Free (del G order i) (order + m) (i / 2 ^ m) ∧
      Bu wr b N (unhalves Fr order (order + m) page) (upd Gv order (sdel (Gv order) page)) ∧ Grow1 b W1 wr) (fun _ vo _ => N - (intOf vo).toNat)
  case atStart => exact ⟨0, ho, by rw [Nat.add_zero, H2.out.2.2.2.2.1], rfl, HF0.out, by rw [Nat.add_zero, unhalves_none]; exact H2.out.2.2.2.2.2.2, Grow1.refl _ _⟩
  case round =>
    obtain ⟨m, hm, rfl, rfl, hf, hB, hG⟩ := hrel
    obtain ⟨k, hk⟩ : ∃ k, k = order + m := ⟨_, rfl⟩
    have hk10 : k ≤ 10 := by omega
    have hsame : unhalves Fr order k page k = Fr k := by unfold unhalves; rw [if_neg (by omega)]
    rw [← hk] at hm hB hf ⊢
    have hc1 := hB.head.2
    have hxv := flip_at page k hp2 hk10
    have hyv := clear_at page k hp2 hk10
    have hHk : k < N → ∀ q, Calls Try.prog 86 #[.pointer (some ⟨b, 2 + k * 16, none⟩), .int .i64 ((sib (page / 2 ^ k) * 2 ^ k : Nat) : Int)] (wr.drewN q) fun e w' => e = .returned (.bool (Fr k (sib (page / 2 ^ k) * 2 ^ k))) ∧ wr.drewN q = w' := fun hlt q => by
      have := has_ok (wr.drewN q) b (2 + k * 16) (sib (page / 2 ^ k) * 2 ^ k) (unhalves Fr order k page k) (hB.free (by omega)) (sib_lt hp2 (by omega))
      rw [hsame] at this
      exact this
    have hoff : page / 2 ^ k * 2 ^ k < 1024 := Nat.lt_of_le_of_lt (Nat.div_mul_le_self _ _) hp2
    have hc0 : (0 : Int) ≤ (k : Int) := by omega
    have hc11 : (k : Int) < 11 := by omega
    have hkeep : k < N → ∀ x, (sib (page / 2 ^ k) * 2 ^ k < 1024) ∧ Bu (setW x b (2 + k * 16) (sib (page / 2 ^ k) * 2 ^ k) (sdel (Fr k) (sib (page / 2 ^ k) * 2 ^ k))) b N (unhalves Fr order (k + 1) page) (upd Gv order (sdel (Gv order) page)) ∨ ¬ Bu x b N (unhalves Fr order k page) (upd Gv order (sdel (Gv order) page)) := fun hlt x => by
      by_cases hx : Bu x b N (unhalves Fr order k page) (upd Gv order (sdel (Gv order) page))
      · refine .inl ⟨sib_lt hp2 (by omega), ?_⟩
        have := Bu.takeF hx (k := k) (p := sib (page / 2 ^ k) * 2 ^ k) (by omega) (sib_lt hp2 (by omega))
        rw [unhalves_next Fr order k page (by omega), hsame] at this
        exact this
      · exact .inr hx
    obtain ⟨p, hpp⟩ : ∃ p, p = page / 2 ^ k * 2 ^ k := ⟨_, rfl⟩
    obtain ⟨s, hss⟩ : ∃ s, s = sib (page / 2 ^ k) * 2 ^ k := ⟨_, rfl⟩
    obtain ⟨p2, hp22⟩ : ∃ p, p = page / 2 ^ (k + 1) * 2 ^ (k + 1) := ⟨_, rfl⟩
    rw [← hpp] at hxv hyv hoff ⊢
    rw [← hss] at hxv hHk hkeep
    rw [← hp22] at hyv
    have HX := Lib.hid (And.intro hf (And.intro hB (And.intro hG (And.intro hHk (And.intro hkeep (And.intro hm (And.intro hk (And.intro hoff (And.intro hsame (And.intro hpp (And.intro hss hp22)))))))))))
    have HV := Lib.hid hxv
    clear hf hB hG hHk hkeep hxv hoff hsame hpp hss hp22
    by_cases hlt : k < N
    · have hlt' : (k : Int) < (N : Int) := by omega
      cases hS : Fr k s with
      | true =>
        have HQ := HX.out.2.2.2.1 hlt
        rw [hS] at HQ
        have HQ := Lib.hid HQ
        clear hk hm
        go_wp2_with (fail)
        go_quiet ((go_at_call 86; rw [HV.out]; exact Calls.quiet_of_same ((HQ.out _).mono fun _ _ h => ⟨h.1, h.2.symm⟩)))
        go_wp2_with (fail)
        generalize hq : wr.drewN _ = wq
        have hBq : Bu wq b N (unhalves Fr order k page) (upd Gv order (sdel (Gv order) page)) := by rw [← hq]; exact HX.out.2.1.keep rfl
        have hGq : Grow1 b W1 wq := by rw [← hq]; exact ⟨HX.out.2.2.1.os, HX.out.2.2.1.tape, HX.out.2.2.1.output, HX.out.2.2.1.size, HX.out.2.2.1.block⟩
        have hs1024 : s < 1024 := by rw [HX.out.2.2.2.2.2.2.2.2.2.2.1]; exact sib_lt hp2 (by omega)
        have HT2 := Lib.hid (take_ok wq.drew b (2 + k * 16) s (unhalves Fr order k page k) (hBq.free (by omega)) hs1024)
        have hB3 : Bu (setW wq.drew b (2 + k * 16) s (sdel (unhalves Fr order k page k) s)) b N (unhalves Fr order (k + 1) page) (upd Gv order (sdel (Gv order) page)) := by
          have := Bu.takeF (w := wq.drew) (hBq.keep rfl) (k := k) (p := s) (by omega) hs1024
          rw [HX.out.2.2.2.2.2.2.2.2.2.2.1, unhalves_next Fr order k page (by rw [HX.out.2.2.2.2.2.2.1]; omega)] at this
          rw [HX.out.2.2.2.2.2.2.2.2.2.2.1]
          exact this
        have hG3 : Grow1 b W1 (setW wq.drew b (2 + k * 16) s (sdel (unhalves Fr order k page k) s)) := (hGq.trans (Grow1.refl b wq).drew).trans (setW_grow _ _ _ _ _)
        generalize setW wq.drew b (2 + k * 16) s (sdel (unhalves Fr order k page k) s) = w3 at *
        have H3 := Lib.hid (And.intro hB3 hG3)
        clear hB3 hG3 hBq hGq hq
        rw [HV.out]
        go_cut [59] from 50 to 59 (fun _ wx => wx = w3)
        case first =>
          go_region_with ((go_at_call 91; rw [HV.out]; refine HT2.out.mono ?_; rintro e w4 ⟨rfl, rfl⟩))
          all_goals
            go_wp2_with (fail)
            go_meet
            rfl
        case rest =>
          rw [hcut]
          clear hcut
          go_wp2
          go_roundw
          case rel =>
            obtain ⟨m', hm'⟩ : ∃ m', k = order + m' := ⟨m, HX.out.2.2.2.2.2.2.1⟩
            refine ⟨m + 1, by have := HX.out.2.2.2.2.2.2.1; omega, ?_, ?_, ?_, ?_, H3.out.2⟩
            · rw [← Nat.add_assoc, ← HX.out.2.2.2.2.2.2.1, ← HX.out.2.2.2.2.2.2.2.2.2.2.2]
            · rw [← Nat.add_assoc, ← HX.out.2.2.2.2.2.2.1]; go_num
            · refine merge_on H2.out.1.ok H2.out.2.1 (by rw [← HX.out.2.2.2.2.2.2.1]; exact HX.out.1) ?_
              have h5 := (H2.out.1.free k s (by omega) hs1024).1 hS
              have h6 : s / 2 ^ k = sib (i / 2 ^ m) := by
                rw [HX.out.2.2.2.2.2.2.2.2.2.2.1, first, HX.out.2.2.2.2.2.2.1, H2.out.2.2.2.1]
              rw [h6] at h5
              rw [← HX.out.2.2.2.2.2.2.1]
              exact h5.2
            · rw [← Nat.add_assoc, ← HX.out.2.2.2.2.2.2.1]; exact H3.out.1
          case measure => simp [intOf]; omega
      | false =>
        have HQ := HX.out.2.2.2.1 hlt
        rw [hS] at HQ
        have HQ := Lib.hid HQ
        clear hk hm
        go_wp2_with (fail)
        go_quiet ((go_at_call 86; rw [HV.out]; exact Calls.quiet_of_same ((HQ.out _).mono fun _ _ h => ⟨h.1, h.2.symm⟩)))
        have hend : ∀ q, k < 11 ∧ p < 1024 ∧ SetAt (wr.drewN q) b (2 + k * 16) (Fr k) := fun q => ⟨by omega, HX.out.2.2.2.2.2.2.2.1, by
          have := (HX.out.2.1.free (k := k) (by omega))
          rw [HX.out.2.2.2.2.2.2.2.2.1] at this
          exact this⟩
        have HE := Lib.hid hend
        clear hend
        go_wp2_with (go_at_call 44; refine (put_ok _ b (2 + k * 16) p (Fr k) (HE.out _).2.2 (HE.out 0).2.1).mono ?_; rintro e w4 ⟨rfl, rfl⟩)
        go_ret
        refine ⟨rfl, ?_, ?_⟩
        · exact (H2.out.2.2.2.2.2.1.trans (HX.out.2.2.1.drewN _)).trans (setW_grow _ _ _ _ _)
        · rw [HX.out.2.2.2.2.2.2.2.2.2.1, HX.out.2.2.2.2.2.2.1]
          refine freed H2.out.1 H2.out.2.1 H2.out.2.2.1 H2.out.2.2.2.2.1 (by rw [← HX.out.2.2.2.2.2.2.1]; exact HX.out.1) (by rw [← HX.out.2.2.2.2.2.2.1]; exact HX.out.2.2.2.2.2.1) hp2 (.inr ?_) ?_
          · rw [← HX.out.2.2.2.2.2.2.1, ← HX.out.2.2.2.2.2.2.2.2.2.2.1]; exact hS
          · rw [← HX.out.2.2.2.2.2.2.1]; exact HX.out.2.1.keep rfl
    · obtain rfl : k = N := by omega
      have hlt' : decide ((k : Int) < (k : Int)) = false := by simp
      have hend : ∀ q, k < 11 ∧ p < 1024 ∧ SetAt (wr.drewN q) b (2 + k * 16) (Fr k) := fun q => ⟨by omega, HX.out.2.2.2.2.2.2.2.1, by
        have := (HX.out.2.1.free (k := k) (by omega))
        rw [HX.out.2.2.2.2.2.2.2.2.1] at this
        exact this⟩
      have HE := Lib.hid hend
      clear hend hk hm
      go_wp2_with (fail)
      go_quiet (fail)
      go_wp2_with (go_at_call 44; refine (put_ok _ b (2 + k * 16) p (Fr k) (HE.out _).2.2 (HE.out 0).2.1).mono ?_; rintro e w4 ⟨rfl, rfl⟩)
      go_ret
      refine ⟨rfl, ?_, ?_⟩
      · exact (H2.out.2.2.2.2.2.1.trans (HX.out.2.2.1.drewN _)).trans (setW_grow _ _ _ _ _)
      · rw [HX.out.2.2.2.2.2.2.2.2.2.1, HX.out.2.2.2.2.2.2.1]
        have hk2 := HX.out.2.2.2.2.2.2.1
        subst hk2
        exact freed H2.out.1 H2.out.2.1 H2.out.2.2.1 H2.out.2.2.2.2.1 HX.out.1 (Nat.le_refl _) hp2 (.inl rfl) (HX.out.2.1.keep rfl)
end Bu
end Go.Proofs.Ytlknhbcambdccaa
namespace Go.Proofs.Ytlknhbcambdccaa
open Go.RowKit
namespace Bu

/-- The marks that ranges left on a frame: each names a block of deferred calls that holds none. -/
def Marks (lo : Nat) (W : World) : Nat → List Deferred → Prop
  | _, [] => True
  | hi, d :: ds => ∃ r, lo ≤ r ∧ r < hi ∧ d = { target := .collected r, args := #[] } ∧ W.heap[r]? = some (.deferred (some [])) ∧ Marks lo W r ds

theorem Marks.keep {lo : Nat} {W W' : World} : ∀ {ds : List Deferred} {hi hi' : Nat}, Marks lo W hi ds → hi ≤ hi' → (∀ k, lo ≤ k → W.heap[k]? = some (.deferred (some [])) → W'.heap[k]? = some (.deferred (some []))) → Marks lo W' hi' ds := by
  intro ds
  induction ds with
  | nil => intro _ _ _ _ _; trivial
  | cons d ds ih =>
    rintro hi hi' ⟨r, h1, h2, h3, h4, h5⟩ hle hk
    exact ⟨r, h1, by omega, h3, hk r h1 h4, ih h5 (Nat.le_refl _) hk⟩

/-- Two worlds that differ in blocks of deferred calls from lo on alone. -/
structure Shut (lo : Nat) (W W' : World) : Prop where
  os : W'.os = W.os
  tape : W'.tape = W.tape
  output : W'.output = W.output
  size : W'.heap.size = W.heap.size
  block : ∀ k, k < lo → W'.heap[k]? = W.heap[k]?

theorem Shut.refl (lo : Nat) (W : World) : Shut lo W W := ⟨rfl, rfl, rfl, rfl, fun _ _ => rfl⟩

theorem leaves_marks {F : Fence} {n : Nat} {P : Program} {fn : Func} {tmps : Array Value} {R : Ending → World → Prop} (lo : Nat) : ∀ (ds : List Deferred) (hi : Nat) (W : World), Marks lo W hi ds →
    (∀ W', Shut lo W W' → ∃ v, (results fn tmps).run P W' = .ok v W' ∧ R (.returned v) W') → LeavesInM F n P fn tmps R ds .returning W := by
  intro ds
  induction ds with
  | nil => intro _ W _ h; exact h W (Shut.refl _ _)
  | cons d ds ih =>
    rintro hi W ⟨r, h1, h2, rfl, h4, h5⟩ h
    refine ⟨by simp, .inl ⟨r, _, rfl, run_takeDeferred h4, ih r _ ?_ ?_⟩⟩
    · have key : ∀ (ds : List Deferred) (hi : Nat), hi ≤ r → Marks lo W hi ds → Marks lo (W.putObj r (.deferred none)) hi ds := by
        intro ds
        induction ds with
        | nil => intro _ _ _; trivial
        | cons d ds ih2 =>
          rintro hi hle ⟨q, g1, g2, g3, g4, g5⟩
          exact ⟨q, g1, g2, g3, by rw [World.putObj_heap_other (by omega)]; exact g4, ih2 q (by omega) g5⟩
      exact key ds r (Nat.le_refl _) h5
    · intro W' hs
      refine h W' ⟨hs.os, hs.tape, hs.output, by rw [hs.size]; simp, fun k hk => ?_⟩
      rw [hs.block k hk, World.putObj_heap_other (by omega)]

theorem loopK {F : Fence} {rm : Nat} {P : Program} {Q : Exit → Act → World → Prop} {a : Act} {w : World} {c : Code} (I : Nat → Act → World → Prop) (n₀ : Nat) (h₀ : I n₀ a w)
    (round : ∀ n a w, I n a w → ∀ K : Act → World → Prop, (∀ k a' w', k < n → I k a' w' → K a' w') → c.wpIn F rm P (Exit.then K Q) a w) : (Code.loop c).wpIn F rm P Q a w :=
  wpIn_loop_ghost I n₀ h₀ fun n a w h => round n a w h _ fun k _ _ h1 h2 => ⟨k, h1, h2⟩
end Bu
end Go.Proofs.Ytlknhbcambdccaa
namespace Go.Proofs.Ytlknhbcambdccaa
open Go.RowKit
attribute [local go_sem] Oper.semAt_some
namespace Bu

theorem members_head {S : Nat → Bool} {p q : Nat} (hq : q < 1024) (h : members S (q + 1) = [p]) : ∃ l, members S 1024 = p :: l := by
  unfold members at h ⊢
  obtain ⟨m, hm⟩ := Nat.exists_eq_add_of_le (show q + 1 ≤ 1024 by omega)
  rw [hm, List.range_add, List.filter_append, h]
  exact ⟨_, rfl⟩

/-- The least page of a set. -/
def least (S : Nat → Bool) : Option Nat := (members S 1024).head?
theorem least_head {S : Nat → Bool} {p q : Nat} (hq : q < 1024) (h : members S (q + 1) = [p]) : least S = some p := by
  obtain ⟨l, hl⟩ := members_head hq h
  unfold least
  rw [hl]; rfl
theorem least_nil {S : Nat → Bool} (h : members S 1024 = []) : least S = none := by
  unfold least
  rw [h]; rfl
attribute [irreducible] least

/-- The least order from k up (n orders) that has a free block, and its first block. -/
def firstK (Fr : Nat → Nat → Bool) : Nat → Nat → Option (Nat × Nat)
  | _, 0 => none
  | k, n + 1 => match least (Fr k) with
    | none => firstK Fr (k + 1) n
    | some p => some (k, p)
theorem firstK_zero (Fr : Nat → Nat → Bool) (k : Nat) : firstK Fr k 0 = none := by rw [firstK]
theorem firstK_cons {Fr : Nat → Nat → Bool} {k n p : Nat} (h : least (Fr k) = some p) : firstK Fr k (n + 1) = some (k, p) := by rw [firstK, h]
theorem firstK_nil {Fr : Nat → Nat → Bool} {k n : Nat} (h : least (Fr k) = none) : firstK Fr k (n + 1) = firstK Fr (k + 1) n := by rw [firstK, h]

/-- What Alloc hands back. -/
def AllocR (b N order : Nat) (Fr Gv : Nat → Nat → Bool) (w : World) (e : Ending) (w' : World) : Option (Nat × Nat) → Prop
  | none => e = .returned (.tuple #[.int .i64 0, .int .i64 5]) ∧ Grow1 b w w' ∧ Bu w' b N Fr Gv
  | some (k, p) => e = .returned (.tuple #[.int .i64 p, .int .i64 0]) ∧ Grow1 b w w' ∧ Bu w' b N (carveF Fr p order k) (putIn Gv p order) ∧ order ≤ k ∧ k ≤ N ∧ p < 1024 ∧ Fr k p = true

/-- The boxes of Alloc. -/
structure Boxes (S b order : Nat) (p e : Int) (V : World) : Prop where
  x2 : V.heap[S]? = some (.cells #[.pointer (some ⟨b, 0, none⟩)] 33 (0, 0))
  x3 : V.heap[S + 1]? = some (.cells #[.int .i64 (order : Int)] 3 (0, 0))
  x4 : V.heap[S + 1 + 1]? = some (.cells #[.int .i64 p] 3 (0, 0))
  x5 : V.heap[S + 1 + 1 + 1]? = some (.cells #[.int .i64 e] 24 (0, 0))
theorem Boxes.keep {S b order : Nat} {p e : Int} {V V' : World} (h : Boxes S b order p e V) (hk : ∀ x, S ≤ x → x ≤ S + 1 + 1 + 1 → V'.heap[x]? = V.heap[x]?) : Boxes S b order p e V' :=
  ⟨(hk _ (by omega) (by omega)).trans h.x2, (hk _ (by omega) (by omega)).trans h.x3, (hk _ (by omega) (by omega)).trans h.x4, (hk _ (by omega) (by omega)).trans h.x5⟩

theorem alloc_results (V : World) (S : Nat) (p e : Int) (tmps : Array Value) (h4 : tmps[4]?.getD undef = .pointer (some ⟨S + 1 + 1, 0, none⟩)) (h5 : tmps[5]?.getD undef = .pointer (some ⟨S + 1 + 1 + 1, 0, none⟩))
    (c4 : V.cell? ⟨S + 1 + 1, 0, none⟩ = some (.int .i64 p)) (c5 : V.cell? ⟨S + 1 + 1 + 1, 0, none⟩ = some (.int .i64 e)) :
    (results Try.f39 tmps).run Try.prog V = .ok (.tuple #[.int .i64 p, .int .i64 e]) V := by
  have hr : Try.f39.results = #[.cell 4 3, .cell 5 24] := rfl
  simp [results, hr, h4, h5, go_sem, loadVar, asAddr, c4, c5]
theorem Boxes.put4 {S b order : Nat} {p e p2 : Int} {V : World} (h : Boxes S b order p e V) : Boxes S b order p2 e (V.setCell ⟨S + 1 + 1, 0, none⟩ (.int .i64 p2)) :=
  ⟨(setCell_far _ _ _ _ (by show S ≠ S + 1 + 1; omega)).trans h.x2, (setCell_far _ _ _ _ (by show S + 1 ≠ S + 1 + 1; omega)).trans h.x3, setCell_at _ _ _ _ _ _ h.x4, (setCell_far _ _ _ _ (by show S + 1 + 1 + 1 ≠ S + 1 + 1; omega)).trans h.x5⟩
theorem Boxes.put5 {S b order : Nat} {p e e2 : Int} {V : World} (h : Boxes S b order p e V) : Boxes S b order p e2 (V.setCell ⟨S + 1 + 1 + 1, 0, none⟩ (.int .i64 e2)) :=
  ⟨(setCell_far _ _ _ _ (by show S ≠ S + 1 + 1 + 1; omega)).trans h.x2, (setCell_far _ _ _ _ (by show S + 1 ≠ S + 1 + 1 + 1; omega)).trans h.x3, (setCell_far _ _ _ _ (by show S + 1 + 1 ≠ S + 1 + 1 + 1; omega)).trans h.x4, setCell_at _ _ _ _ _ _ h.x5⟩
theorem Boxes.drewN {S b order : Nat} {p e : Int} {V : World} (h : Boxes S b order p e V) (n : Nat) : Boxes S b order p e (V.drewN n) := ⟨h.x2, h.x3, h.x4, h.x5⟩

theorem twoFar (V : World) (S x : Nat) (u v : Value) (h : x < S ∨ S + 1 + 1 + 1 < x) : ((V.setCell ⟨S + 1 + 1, 0, none⟩ u).setCell ⟨S + 1 + 1 + 1, 0, none⟩ v).heap[x]? = V.heap[x]? :=
  (setCell_far _ _ _ _ (by show x ≠ S + 1 + 1 + 1; omega)).trans (setCell_far _ _ _ _ (by show x ≠ S + 1 + 1; omega))

theorem alloc_leave {w : World} {b N order : Nat} {Fr Gv : Nat → Nat → Bool} {o : Option (Nat × Nat)} {p e : Int} {ds : List Deferred} {hi : Nat} {V : World} {tmps : Array Value} (hM : Marks (w.heap.size + 4) V hi ds)
    (h4 : tmps[4]?.getD undef = .pointer (some ⟨w.heap.size + 1 + 1, 0, none⟩)) (h5 : tmps[5]?.getD undef = .pointer (some ⟨w.heap.size + 1 + 1 + 1, 0, none⟩)) (hX : Boxes w.heap.size b order p e V)
    (hR : ∀ V', Shut (w.heap.size + 4) V V' → AllocR b N order Fr Gv w (.returned (.tuple #[.int .i64 p, .int .i64 e])) V' o) :
    bodyPostM Fence.wide 8 Try.prog Try.f39 (fun e w' => AllocR b N order Fr Gv w e w' o) Exit.ret ⟨tmps, ds⟩ V :=
  leaves_marks (w.heap.size + 4) ds hi V hM fun V' hs =>
    ⟨_, alloc_results V' w.heap.size p e tmps h4 h5 (one_cell ((hs.block _ (by omega)).trans hX.x4)).1 (one_cell ((hs.block _ (by omega)).trans hX.x5)).1, hR V' hs⟩

/-- The loop of Alloc. -/
def AllocI (w : World) (b N order : Nat) (Fr Gv : Nat → Nat → Bool) (m : Nat) (a : Act) (W : World) : Prop :=
  ∃ (k r : Nat) (ds : List Deferred) (u7 u8 u9 u10 u11 u12 u13 u14 u15 u16 u17 u18 u19 u20 u21 u22 u23 u24 u25 u26 u27 u28 u29 u30 u31 u32 u33 u34 u35 u36 u37 u38 u39 : Value), m = N + 1 - k ∧ order ≤ k ∧ (k ≤ N + 1 ∨ k = order) ∧ k ≤ 11 ∧ firstK Fr order (N + 1 - order) = firstK Fr k (N + 1 - k) ∧
    w.heap.size + 1 + 1 + 1 < r ∧ W.heap[r]? = some (.cells #[.int .i64 (k : Int)] 3 (0, 0)) ∧ Boxes w.heap.size b order 0 0 W ∧ Bu W b N Fr Gv ∧ Grow1 b w W ∧ Marks (w.heap.size + 4) W W.heap.size ds ∧
    a = ⟨#[.pointer (some ⟨b, 0, none⟩), .int .i64 (order : Int), .pointer (some ⟨w.heap.size, 0, none⟩), .pointer (some ⟨w.heap.size + 1, 0, none⟩), .pointer (some ⟨w.heap.size + 1 + 1, 0, none⟩), .pointer (some ⟨w.heap.size + 1 + 1 + 1, 0, none⟩), .pointer (some ⟨r, 0, none⟩), u7, u8, u9, u10, u11, u12, u13, u14, u15, u16, u17, u18, u19, u20, u21, u22, u23, u24, u25, u26, u27, u28, u29, u30, u31, u32, u33, u34, u35, u36, u37, u38, u39], ds⟩

set_option maxRecDepth 100000 in
set_option maxHeartbeats 2000000 in
theorem alloc_ok (w : World) (b N order : Nat) (Fr Gv : Nat → Nat → Bool) (hB : Bu w b N Fr Gv) (hN : N ≤ 10) (ho : order ≤ 10) :
    Calls Try.prog 39 #[.pointer (some ⟨b, 0, none⟩), .int .i64 order] w fun e w' => AllocR b N order Fr Gv w e w' (firstK Fr order (N + 1 - order)) := by
  have hbl := hB.lt
  obtain ⟨W0, hW0⟩ : ∃ W0, W0 = ((((w.alloc (.cells #[.pointer (some ⟨b, 0, none⟩)] 33)).alloc (.cells #[.int .i64 (order : Int)] 3)).alloc (.cells #[.int .i64 0] 3)).alloc (.cells #[.int .i64 0] 24)) := ⟨_, rfl⟩
  have hs0 : W0.heap.size = w.heap.size + 4 := by rw [hW0]; simp
  have hb0 : Below w.heap.size w W0 := by rw [hW0]; exact ((((Below.refl _ _).alloc (Nat.le_refl _) _).alloc (by simp) _).alloc (by simp; omega) _).alloc (by simp; omega) _
  have hx0 : Boxes w.heap.size b order 0 0 W0 := by
    rw [hW0]
    refine ⟨?_, ?_, ?_, ?_⟩
    · rw [heapAlloc, if_neg (by simp <;> omega), heapAlloc, if_neg (by simp <;> omega), heapAlloc, if_neg (by simp), heapAlloc, if_pos rfl]
    · rw [heapAlloc, if_neg (by simp <;> omega), heapAlloc, if_neg (by simp), heapAlloc, if_pos (by simp)]
    · rw [heapAlloc, if_neg (by simp), heapAlloc, if_pos (by simp)]
    · rw [heapAlloc, if_pos (by simp)]
  have hB0 : Bu W0 b N Fr Gv := hB.keep (hb0.block b hbl)
  have c2 := one_cell hx0.x2
  have c3 := one_cell hx0.x3
  obtain ⟨c2, _⟩ := c2
  obtain ⟨c3, _⟩ := c3
  have HIs := Lib.hid (is_ok W0 b N Fr Gv hB0)
  have H0 := Lib.hid (And.intro hb0 (And.intro hx0 hB0))
  have hc0 : ¬ (order : Int) < 0 := by omega
  have hc1 : ¬ (order : Int) > 10 := by omega
  clear hB hb0 hx0 hB0
  refine (callsIn_wide (n := 8)).1 ?_
  refine callsIn_of_wp_marks Try.func39 rfl trivial ?_ rfl
  simp only [Try.ntmps39, List.size_toArray, List.length_cons, List.length_nil, Nat.reduceAdd, Nat.reduceSub, Array.replicate_succ, Array.replicate_zero, List.push_toArray, List.append_toArray, List.nil_append, List.cons_append]
  refine wpIn_wide.2 ?_
  go_wp2_with (fail)
  rw [← hW0]
  clear hW0
  go_wp2_with (go_at_call 47; refine HIs.out.mono ?_; rintro e w' ⟨rfl, rfl⟩)
  refine (wpIn_wide (n := 8)).1 ?_
  refine loopK (AllocI w b N order Fr Gv) (N + 1 - order) ?_ ?_
  · refine ⟨order, w.heap.size + 4, [], _, _, _, _, _, _, _, _, _, _, _, _, _, _, _, _, _, _, _, _, _, _, _, _, _, _, _, _, _, _, _, _, _, rfl, Nat.le_refl _, .inr rfl, by omega, rfl, by omega, ?_, H0.out.2.1.keep fun x _ _ => alloc_old _ _ _ (by omega), H0.out.2.2.keep (alloc_old _ _ _ (by omega)), Grow1.alloc ⟨H0.out.1.os, H0.out.1.tape, H0.out.1.output, H0.out.1.size, fun x hx _ => H0.out.1.block x hx⟩ _, trivial, rfl⟩
    rw [heapAlloc, if_pos hs0.symm]
  · rintro m a W ⟨k, r, ds, u7, u8, u9, u10, u11, u12, u13, u14, u15, u16, u17, u18, u19, u20, u21, u22, u23, u24, u25, u26, u27, u28, u29, u30, u31, u32, u33, u34, u35, u36, u37, u38, u39, hm, hok, hkN, hk11, hfk, hr, hrk, hX, hBW, hbW, hM, rfl⟩ K hK
    have hbW2 : b < W.heap.size := hBW.lt
    have hc1' := hBW.head.2
    have hr2 := one_cell hrk
    have h22 := one_cell hX.x2
    have h44 := one_cell hX.x4
    have h55 := one_cell hX.x5
    obtain ⟨c6, f6⟩ := hr2
    obtain ⟨c22, _⟩ := h22
    obtain ⟨c44, f44⟩ := h44
    obtain ⟨c55, f55⟩ := h55
    have HX := Lib.hid (And.intro hX (And.intro hBW (And.intro hbW (And.intro hM (And.intro hfk (And.intro hrk hkN))))))
    have HK := Lib.hid hK
    have HR := Lib.hid hr
    clear hX hBW hbW hM hfk hrk hK hkN hr c2 c3 HIs H0
    refine wpIn_wide.2 ?_
    by_cases hle : k ≤ N
    · have e1 : (k : Int) ≤ (N : Int) := by omega
      have e2 : (0 : Int) ≤ (k : Int) := by omega
      have e3 : (k : Int) < 11 := by omega
      go_wp2_with (fail)
      go_quiet (fail)
      go_wp2_with (fail)
      generalize hq : W.drewN _ = Wq
      have c6q : Wq.cell? ⟨r, 0, none⟩ = some (.int .i64 (k : Int)) := by rw [← hq]; exact c6
      have c2q : Wq.cell? ⟨w.heap.size, 0, none⟩ = some (.pointer (some ⟨b, 0, none⟩)) := by rw [← hq]; exact c22
      have hsq : Wq.heap.size = W.heap.size := by rw [← hq]; rfl
      have hbq : Below W.heap.size W Wq := by rw [← hq]; exact ⟨rfl, rfl, rfl, Nat.le_refl _, fun _ _ => rfl⟩
      clear hq
      obtain ⟨WA, hWA⟩ : ∃ WA, WA = Wq.drew.alloc (.cells #[.pointer (some ⟨b, 2 + k * 16, none⟩)] 144) := ⟨_, rfl⟩
      have hsA : WA.heap.size = W.heap.size + 1 := by rw [hWA]; simp [hsq]
      have hbA : Below W.heap.size W WA := by rw [hWA]; exact (hbq.drew).alloc hbq.size _
      have hDA : WA.heap[W.heap.size]? = some (.cells #[.pointer (some ⟨b, 2 + k * 16, none⟩)] 144 (0, 0)) := by rw [hWA, heapAlloc, if_pos (by simp [hsq])]
      have HAq := Lib.hid (all_ok Wq.drew b (2 + k * 16))
      rw [← hWA] at HAq
      have hsq' : Wq.drew.heap.size = W.heap.size := hsq
      clear hWA
      refine wp_region_still_tail 5 (by kernel_rfl) (by kernel_rfl) ?_
      simp only [List.take_succ_cons, List.take_zero, List.drop_succ_cons, List.drop_zero]
      change wpStill _ _ (World.drew _) (fun a' => wpList _ _ _ _ a' (World.drew _)) _ _
      repeat still_step
      refine wpStill_nil ?_
      go_wp2_with (go_at_call 73; refine HAq.out.mono ?_; rintro e w' ⟨rfl, hw'⟩; rw [hsq', hw'])
      refine (wpIn_wide (n := 8)).1 ?_
      have hBA : Bu WA b N Fr Gv := HX.out.2.1.keep (hbA.block b hbW2)
      have hXA : Boxes w.heap.size b order 0 0 WA := HX.out.1.keep fun x _ _ => hbA.block x (by have := HX.out.2.2.1.size; have := HR.out; have := lt_of_heap HX.out.1.x5; omega)
      have hrA : WA.heap[r]? = some (.cells #[.int .i64 (k : Int)] 3 (0, 0)) := (hbA.block r (lt_of_heap HX.out.2.2.2.2.2.1)).trans HX.out.2.2.2.2.2.1
      have hrl := lt_of_heap HX.out.2.2.2.2.2.1
      have h5l := lt_of_heap HX.out.1.x5
      obtain ⟨own0, hown⟩ : ∃ own0 : Ow, own0 = (fun x => if x = b ∨ (w.heap.size ≤ x ∧ x ≤ w.heap.size + 1 + 1 + 1) ∨ x = r then some 0 else none) := ⟨_, rfl⟩
      have hoz : ∀ x, own0 x = none ↔ ¬ (x = b ∨ (w.heap.size ≤ x ∧ x ≤ w.heap.size + 1 + 1 + 1) ∨ x = r) := fun x => by rw [hown]; simp
      have ho1 : ∀ x, (x = b ∨ (w.heap.size ≤ x ∧ x ≤ w.heap.size + 1 + 1 + 1) ∨ x = r) → own0 x ≠ none := fun x hx h => (hoz x).1 h hx
      have HO := Lib.hid (And.intro hBA (And.intro hXA (And.intro hrA (And.intro hbA (And.intro hDA (And.intro hoz ho1))))))
      clear hBA hXA hrA hbA hDA hoz hown ho1 HAq
      refine rangeZ (I := fun own pre V => own = own0 ∧ pre = [] ∧ Bu V b N Fr Gv ∧ Boxes w.heap.size b order 0 0 V ∧ V.heap[r]? = some (.cells #[.int .i64 (k : Int)] 3 (0, 0)))
        (Ix := fun c own pre V => c = .ret ∧ own = own0 ∧ ∃ p, pre = [p] ∧ p < 1024 ∧ Fr k p = true ∧ Bu V b N (carveF Fr p order k) (putIn Gv p order) ∧ Boxes w.heap.size b order p 0 V)
        rfl (by omega) (gf := 92) (lb := #[.pointer (some ⟨W.heap.size, 0, none⟩)]) rfl trivial (enters_of Try.func92 (by kernel_rfl) rfl) (allseq (8 - 1) (by omega) W.heap.size b (2 + k * 16) (Fr k))
        own0 ?hf0 ?hD ?hR (fun _ => rfl) ?hE ?hI ?hIx ?h0 ?a1 ?assign ?body ?done ?stop
      case hf0 =>
        intro x hx
        have := (not_congr (HO.out.2.2.2.2.2.1 x)).1 hx
        omega
      case hD =>
        intro V hV
        exact ⟨by have := hV.size; omega, (one_cell ((hV.block _ (by omega)).trans HO.out.2.2.2.2.1)).1⟩
      case hR =>
        rintro x rfl
        exact ⟨(HO.out.2.2.2.2.2.1 _).2 (by omega), by omega⟩
      case hE =>
        rintro own pre V ⟨_, _, h, _⟩
        exact h.free (by omega)
      case hI =>
        rintro own pre V V' ⟨rfl, rfl, h1, h2, h3⟩ hs hk
        exact ⟨rfl, rfl, h1.keep (hk _ (HO.out.2.2.2.2.2.2 _ (.inl rfl)) h1.lt), h2.keep fun x hx1 hx2 => hk _ (HO.out.2.2.2.2.2.2 _ (.inr (.inl ⟨hx1, hx2⟩))) (by have := lt_of_heap h2.x5; omega), (hk _ (HO.out.2.2.2.2.2.2 _ (.inr (.inr rfl))) (lt_of_heap h3)).trans h3⟩
      case hIx =>
        rintro c own pre V V' ⟨rfl, rfl, p, rfl, h0, h00, h1, h2⟩ hs hk
        exact ⟨rfl, rfl, p, rfl, h0, h00, h1.keep (hk _ (HO.out.2.2.2.2.2.2 _ (.inl rfl)) h1.lt), h2.keep fun x hx1 hx2 => hk _ (HO.out.2.2.2.2.2.2 _ (.inr (.inl ⟨hx1, hx2⟩))) (by have := lt_of_heap h2.x5; omega)⟩
      case h0 => exact ⟨rfl, rfl, HO.out.1, HO.out.2.1, HO.out.2.2.1⟩
      case assign =>
        intro l x V K hK
        gi_wp2
        exact hK
      case body =>
        rintro l own pre x V ⟨ho, rfl, hBV, hXV, hrV⟩ hfV ⟨hx1, hx2, hx3⟩
        obtain ⟨j, hj⟩ := Nat.exists_eq_add_of_le hok
        have hC := carve_ok V b N x order j Fr Gv hBV hx1 (by omega)
        rw [← hj] at hC
        have HC := Lib.hid hC
        obtain ⟨v2, _⟩ := one_cell hXV.x2
        obtain ⟨v3, _⟩ := one_cell hXV.x3
        obtain ⟨v6, _⟩ := one_cell hrV
        have hV5 := lt_of_heap hXV.x5
        have HV := Lib.hid (And.intro hXV (And.intro hx1 (And.intro hx2 (And.intro ho hV5))))
        clear hC hXV hx1 hx2 hx3 hBV hrV c6 c22 c44 c55 f6 f44 f55 c6q c2q hc1' hj ho
        gi_wp2
        refine ⟨trivial, CallsIn.mono (CallsIn.inRound l (callsIn_wide.2 HC.out)) ?_⟩
        rintro e w3 ⟨rfl, hB3, hG3⟩
        have hX3 : Boxes w.heap.size b order 0 0 w3 := HV.out.1.keep fun y hy1 hy2 => hG3.block y (by omega) (by omega)
        have hh4 := one_cell hX3.x4
        have hh5 := one_cell hX3.x5
        obtain ⟨d4, g4⟩ := hh4
        obtain ⟨d5, g5⟩ := hh5
        have H3 := Lib.hid (And.intro hX3 (And.intro hB3 hG3))
        clear hX3 hB3 hG3
        gi_wp2
        have hh := H3.out.1.put4 (p2 := (x : Int))
        have hh2 := hh.put5 (e2 := 0)
        refine ⟨own, ⟨?_, ?_, ?_, ?_, ?_, fun _ _ => rfl, fun _ h => .inl h⟩, rfl, HV.out.2.2.2.1, x, rfl, HV.out.2.1, HV.out.2.2.1, ?_, hh2⟩
        · exact H3.out.2.2.os
        · exact H3.out.2.2.tape
        · exact H3.out.2.2.output
        · rw [setCell_size, setCell_size]; exact H3.out.2.2.size
        · intro y hy hyn
          rw [HV.out.2.2.2.1] at hyn
          have hyo := (HO.out.2.2.2.2.2.1 y).1 hyn
          rw [twoFar _ _ _ _ _ (by omega)]
          exact H3.out.2.2.block y hy (by omega)
        · refine H3.out.2.1.keep ?_
          rw [twoFar _ _ _ _ _ (by omega)]
      case done =>
        rintro own xs V hxs ⟨ho, hnil, hBV, hXV, hrV⟩ hKV hd hdv
        have hK2 := hKV.block
        have hkeep : ∀ x, x < WA.heap.size → ¬ (x = b ∨ (w.heap.size ≤ x ∧ x ≤ w.heap.size + 1 + 1 + 1) ∨ x = r) → V.heap[x]? = WA.heap[x]? := fun x hx hn => hK2 x hx ((HO.out.2.2.2.2.2.1 x).2 hn)
        have hbV : Grow1 b w V := by
          have h1 := HX.out.2.2.1
          have h2 := HO.out.2.2.2.1
          refine ⟨hKV.os.trans (h2.os.trans h1.os), hKV.tape.trans (h2.tape.trans h1.tape), hKV.output.trans (h2.output.trans h1.output), Nat.le_trans h1.size (Nat.le_trans h2.size hKV.size), fun x hx hxb => ?_⟩
          have := h1.size
          have := HR.out
          rw [hkeep x (by omega) (by omega), h2.block x (by omega), h1.block x hx hxb]
        have hMV : Marks (w.heap.size + 4) V V.heap.size ({ target := .collected WA.heap.size, args := #[] } :: ds) := by
          refine ⟨WA.heap.size, by omega, lt_of_heap hdv, rfl, hdv, HX.out.2.2.2.1.keep (by omega) fun x hx hxd => ?_⟩
          have hxl := lt_of_heap hxd
          have hxr : x ≠ r := fun e => by rw [e, HX.out.2.2.2.2.2.1] at hxd; cases hxd
          rw [hkeep x (by omega) (by omega), HO.out.2.2.2.1.block x hxl]
          exact hxd
        have hfn : firstK Fr k (N + 1 - k) = firstK Fr (k + 1) (N + 1 - (k + 1)) := by
          rw [show N + 1 - k = (N + 1 - (k + 1)) + 1 by omega, firstK_nil (least_nil (hxs.symm.trans hnil))]
        obtain ⟨v6, vf6⟩ := one_cell hrV
        have hVr := lt_of_heap hrV
        have hV5 := lt_of_heap hXV.x5
        have hkk : IntKind.i64.wrap ((k : Int) + 1) = ((k + 1 : Nat) : Int) := by rw [IntWalk.i64_in _ (by omega)]; rfl
        have HL := Lib.hid (And.intro hMV (And.intro hXV (And.intro hBV (And.intro hbV hfn))))
        clear hK2 hkeep hbV hMV hfn hXV hBV hKV hd hdv hxs hnil hrV
        clear c6 c22 c44 c55 f6 f44 f55 c6q c2q hc1'
        go_wp2
        refine HK.out (N + 1 - (k + 1)) _ _ (by omega) ?_
        refine ⟨k + 1, V.heap.size, _, _, _, _, _, _, _, _, _, _, _, _, _, _, _, _, _, _, _, _, _, _, _, _, _, _, _, _, _, _, _, _, _, _, rfl, by omega, .inl (by omega), by omega, HX.out.2.2.2.2.1.trans HL.out.2.2.2.2, by omega, ?_, HL.out.2.1.keep fun x _ _ => alloc_old _ _ _ (by omega), HL.out.2.2.1.keep (alloc_old _ _ _ HL.out.2.2.1.lt), HL.out.2.2.2.1.alloc _, HL.out.1.keep (by simp) fun x hx hxd => ?_, rfl⟩
        · rw [heapAlloc, if_pos rfl]; rfl
        · rw [alloc_old _ _ _ (lt_of_heap hxd)]; exact hxd
      case stop =>
        rintro own c pre V hSp ⟨rfl, ho, p, rfl, hp1, hp2, hBV, hXV⟩ hKV hd hdv
        have hK2 := hKV.block
        have hkeep : ∀ x, x < WA.heap.size → ¬ (x = b ∨ (w.heap.size ≤ x ∧ x ≤ w.heap.size + 1 + 1 + 1) ∨ x = r) → V.heap[x]? = WA.heap[x]? := fun x hx hn => hK2 x hx ((HO.out.2.2.2.2.2.1 x).2 hn)
        have hbV : Grow1 b w V := by
          have h1 := HX.out.2.2.1
          have h2 := HO.out.2.2.2.1
          refine ⟨hKV.os.trans (h2.os.trans h1.os), hKV.tape.trans (h2.tape.trans h1.tape), hKV.output.trans (h2.output.trans h1.output), Nat.le_trans h1.size (Nat.le_trans h2.size hKV.size), fun x hx hxb => ?_⟩
          have := h1.size
          have := HR.out
          rw [hkeep x (by omega) (by omega), h2.block x (by omega), h1.block x hx hxb]
        have hMV : Marks (w.heap.size + 4) V V.heap.size ({ target := .collected WA.heap.size, args := #[] } :: ds) := by
          refine ⟨WA.heap.size, by omega, lt_of_heap hdv, rfl, hdv, HX.out.2.2.2.1.keep (by omega) fun x hx hxd => ?_⟩
          have hxl := lt_of_heap hxd
          have hxr : x ≠ r := fun e => by rw [e, HX.out.2.2.2.2.2.1] at hxd; cases hxd
          rw [hkeep x (by omega) (by omega), HO.out.2.2.2.1.block x hxl]
          exact hxd
        have hfn : firstK Fr order (N + 1 - order) = some (k, p) := by
          obtain ⟨q, hq1, hq2, hq3⟩ := hSp
          have hl := least_head hq1 hq3.symm
          rw [HX.out.2.2.2.2.1, show N + 1 - k = (N - k) + 1 by omega, firstK_cons hl]
        have HL := Lib.hid (And.intro hMV (And.intro hXV (And.intro hBV (And.intro hbV hfn))))
        clear hK2 hkeep hbV hMV hfn hXV hBV hKV hd hdv hSp
        gi_wp2
        rw [HL.out.2.2.2.2]
        refine alloc_leave HL.out.1 rfl rfl HL.out.2.1 fun V' hs => ⟨rfl, ?_, ?_, hok, hle, hp1, hp2⟩
        · refine ⟨hs.os.trans HL.out.2.2.2.1.os, hs.tape.trans HL.out.2.2.2.1.tape, hs.output.trans HL.out.2.2.2.1.output, by rw [hs.size]; exact HL.out.2.2.2.1.size, fun x hx hxb => ?_⟩
          rw [hs.block x (by omega)]
          exact HL.out.2.2.2.1.block x hx hxb
        · exact HL.out.2.2.1.keep (hs.block b (by omega))
    · have e1 : decide ((k : Int) ≤ (N : Int)) = false := by simp; omega
      go_wp2_with (fail)
      go_quiet (fail)
      go_wp2_with (fail)
      have hz : N + 1 - k = 0 := by omega
      have hfn := HX.out.2.2.2.2.1
      rw [hz, firstK_zero] at hfn
      rw [hfn]
      have hrS := HX.out.2.2.1.size
      refine alloc_leave (p := 0) (e := 5) (HX.out.2.2.2.1.keep (Nat.le_refl _) fun x hx hd => ?_) rfl rfl ((HX.out.1.drewN _).put4.put5) fun V' hs => ⟨rfl, ?_, ?_⟩
      · rw [twoFar _ _ _ _ _ (by omega)]
        exact hd
      · refine ⟨hs.os.trans HX.out.2.2.1.os, hs.tape.trans HX.out.2.2.1.tape, hs.output.trans HX.out.2.2.1.output, by rw [hs.size, setCell_size, setCell_size]; exact hrS, fun x hx hxb => ?_⟩
        rw [hs.block x (by omega), twoFar _ _ _ _ _ (by omega)]
        exact HX.out.2.2.1.block x hx hxb
      · refine HX.out.2.1.keep ?_
        rw [hs.block b (by omega), twoFar _ _ _ _ _ (by omega)]
        rfl
end Bu
end Go.Proofs.Ytlknhbcambdccaa
