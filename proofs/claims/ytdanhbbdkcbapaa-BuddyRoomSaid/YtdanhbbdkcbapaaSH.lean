/- Free. -/
import Derived.Test.YtdanhbbdkcbapaaSG
namespace Go.Proofs.Ytdanhbbdkcbapaa
open Go.RowKit
namespace Bu

theorem free_bad (w : World) (b N : Nat) (page order : Int) (G : Bl) (h : Bud w b N G) (hno : ¬ (0 ≤ order ∧ order ≤ N ∧ 0 ≤ page ∧ page < 2 ^ N ∧ page.toNat % 2 ^ order.toNat = 0)) :
    Calls Try.prog 21 #[.pointer (some ⟨b, 0, none⟩), .int .i64 page, .int .i64 order] w fun e w' => e = .returned (.int .i64 7) ∧ w = w' := by
  have HI := Lib.hid (err_in w b N page order G h hno)
  obtain ⟨Fr, Gv, h1, h2⟩ := h
  have HS := Lib.hid (is_ok w b N Fr Gv h1)
  clear hno h1 h2
  go_enter Try.func21, Try.ntmps21
  go_wp2_with (first | (go_at_call 29; refine HS.out.mono ?_; rintro e w' ⟨rfl, rfl⟩) | (go_at_call 34; refine HI.out.mono ?_; rintro e w' ⟨rfl, rfl⟩))
  go_ret
  exact ⟨rfl, rfl⟩

set_option maxHeartbeats 1000000 in
theorem free_not (w : World) (b N page order : Nat) (G : Bl) (h : Bud w b N G) (ho : order ≤ N) (hp : page < 2 ^ N) (hd : page % 2 ^ order = 0) (hg : ¬ G order (page / 2 ^ order)) :
    Calls Try.prog 21 #[.pointer (some ⟨b, 0, none⟩), .int .i64 page, .int .i64 order] w fun e w' => e = .returned (.int .i64 9) ∧ w = w' := by
  obtain ⟨Fr, Gv, h1, h2⟩ := h
  have hn := h2.n10
  have hp2 : page < 1024 := Nat.lt_of_lt_of_le hp (by
    have : 2 ^ N ≤ 2 ^ 10 := Nat.pow_le_pow_right (by omega) hn
    omega)
  have HS := Lib.hid (is_ok w b N Fr Gv h1)
  have HI0 := in_ok w b N page order Fr Gv h1 hn ho hp
  rw [decide_eq_true hd] at HI0
  have HI := Lib.hid HI0
  have HH0 := has_ok w b (178 + order * 16) page (Gv order) (h1.given (by omega)) hp2
  have hgf : Gv order page = false := by
    rw [← Bool.not_eq_true, h2.given order page (by omega) hp2]
    exact fun h => hg h.2
  rw [hgf] at HH0
  have HH := Lib.hid HH0
  have e1 : (0 : Int) ≤ (order : Int) := by omega
  have e2 : (order : Int) < 11 := by omega
  clear HI0 HH0 hgf h1 h2 hg hd
  go_enter Try.func21, Try.ntmps21
  go_wp2_with (first | (go_at_call 29; refine HS.out.mono ?_; rintro e w' ⟨rfl, rfl⟩) | (go_at_call 34; refine HI.out.mono ?_; rintro e w' ⟨rfl, rfl⟩) | (go_at_call 35; refine HH.out.mono ?_; rintro e w' ⟨rfl, rfl⟩))
  go_ret
  exact ⟨rfl, rfl⟩

theorem flip_at (page k : Nat) (hp : page < 1024) (hk : k ≤ 10) : bits .xor .i64 ((page / 2 ^ k * 2 ^ k : Nat) : Int) (IntKind.i64.wrap ((2 : Int) ^ k)) = ((sib (page / 2 ^ k) * 2 ^ k : Nat) : Int) := by
  have h := Nat.div_mul_le_self page (2 ^ k)
  rw [pow_i64 k (by omega), flip_page _ _ (by omega) (by omega)]
theorem clear_at (page k : Nat) (hp : page < 1024) (hk : k ≤ 10) : bits .andNot .i64 ((page / 2 ^ k * 2 ^ k : Nat) : Int) (wrap64 ((2 : Int) ^ k)) = ((page / 2 ^ (k + 1) * 2 ^ (k + 1) : Nat) : Int) := by
  have h := Nat.div_mul_le_self page (2 ^ k)
  rw [pow_w64 k (by omega), clear_page _ _ (by omega) (by omega), div_step]
theorem div_off {page order m : Nat} : page / 2 ^ order / 2 ^ m = page / 2 ^ (order + m) := (div_pow _ _ _).symm

theorem Grow1.drewN {g : Nat} {a b : World} (h : Grow1 g a b) (n : Nat) : Grow1 g a (b.drewN n) := ⟨h.os, h.tape, h.output, h.size, h.block⟩

theorem freed {w : World} {b N page order m i : Nat} {G : Bl} {Fr Gv : Nat → Nat → Bool} (h2 : Sem N Fr Gv G) (hg : G order i) (hi : i = page / 2 ^ order) (hpo : page / 2 ^ order * 2 ^ order = page)
    (hf : Free (del G order i) (order + m) (i / 2 ^ m)) (hm : order + m ≤ N) (hp2 : page < 1024) (hend : order + m = N ∨ Fr (order + m) (sib (page / 2 ^ (order + m)) * 2 ^ (order + m)) = false)
    (hB : Bu w b N (unhalves Fr order (order + m) page) (upd Gv order (sdel (Gv order) page))) :
    Bud (setW w b (2 + (order + m) * 16) (page / 2 ^ (order + m) * 2 ^ (order + m)) (sadd (Fr (order + m)) (page / 2 ^ (order + m) * 2 ^ (order + m)))) b N (del G order i) := by
  have hn := h2.n10
  have hX0 : page / 2 ^ (order + m) = i / 2 ^ m := by rw [hi, div_pow]
  have hpi : i * 2 ^ order = page := by rw [hi]; exact hpo
  have hM : MaxFree (del G order i) N (order + m) (i / 2 ^ m) := by
    refine merge_end h2.ok hg hf hm ?_
    rcases hend with he | he
    · exact .inl he
    · by_cases hN : order + m = N
      · exact .inl hN
      · refine .inr fun hx => ?_
        have := (h2.free (order + m) (sib (page / 2 ^ (order + m)) * 2 ^ (order + m)) (by omega) (sib_lt hp2 (by omega))).2 ⟨Nat.mul_mod_left _ _, by rw [first, hX0]; exact hx⟩
        rw [he] at this
        cases this
  have hS := sem_merge h2 hg hM
  rw [hpi] at hS
  have hP := Bu.putF hB (k := order + m) (p := page / 2 ^ (order + m) * 2 ^ (order + m)) (by omega) (Nat.lt_of_le_of_lt (Nat.div_mul_le_self _ _) hp2)
  rw [← hX0] at hS
  have hsame : unhalves Fr order (order + m) page (order + m) = Fr (order + m) := by unfold unhalves; rw [if_neg (by omega)]
  rw [hsame] at hP hS
  exact ⟨_, _, hP, hS⟩

set_option maxRecDepth 100000 in
set_option maxHeartbeats 2000000 in
theorem free_ok (w : World) (b N page order : Nat) (G : Bl) (h : Bud w b N G) (ho : order ≤ N) (hp : page < 2 ^ N) (hd : page % 2 ^ order = 0) (hg : G order (page / 2 ^ order)) :
    Calls Try.prog 21 #[.pointer (some ⟨b, 0, none⟩), .int .i64 page, .int .i64 order] w fun e w' => e = .returned (.int .i64 0) ∧ Grow1 b w w' ∧ Bud w' b N (del G order (page / 2 ^ order)) := by
  obtain ⟨Fr, Gv, h1, h2⟩ := h
  have hn := h2.n10
  have hp2 : page < 1024 := Nat.lt_of_lt_of_le hp (by
    have : 2 ^ N ≤ 2 ^ 10 := Nat.pow_le_pow_right (by omega) hn
    omega)
  have HS := Lib.hid (is_ok w b N Fr Gv h1)
  have HI0 := in_ok w b N page order Fr Gv h1 hn ho hp
  rw [decide_eq_true hd] at HI0
  have HI := Lib.hid HI0
  have HH0 := has_ok w b (178 + order * 16) page (Gv order) (h1.given (by omega)) hp2
  have hgf : Gv order page = true := (h2.given order page (by omega) hp2).2 ⟨hd, hg⟩
  rw [hgf] at HH0
  have HH := Lib.hid HH0
  have e1 : (0 : Int) ≤ (order : Int) := by omega
  have e2 : (order : Int) < 11 := by omega
  have HT := Lib.hid (take_ok w b (178 + order * 16) page (Gv order) (h1.given (by omega)) hp2)
  obtain ⟨W1, hW1⟩ : ∃ W1, W1 = setW w b (178 + order * 16) page (sdel (Gv order) page) := ⟨_, rfl⟩
  have hB1 : Bu W1 b N Fr (upd Gv order (sdel (Gv order) page)) := by rw [hW1]; exact Bu.takeG h1 (by omega) hp2
  have hG1 : Grow1 b w W1 := by rw [hW1]; exact setW_grow _ _ _ _ _
  rw [← hW1] at HT
  replace HT := Lib.hid (HT.out.mono fun _ _ h => And.intro h.1 h.2.symm)
  obtain ⟨i, hi⟩ : ∃ i, i = page / 2 ^ order := ⟨_, rfl⟩
  rw [← hi] at hg ⊢
  have hX0 : ∀ m, page / 2 ^ (order + m) = i / 2 ^ m := fun m => by rw [hi, div_pow]
  have hf0 : Free (del G order i) (order + 0) (i / 2 ^ 0) := by
    rw [Nat.pow_zero, Nat.div_one]
    exact free_del_self h2.ok hg
  have hpo : page / 2 ^ order * 2 ^ order = page := mul_of_mod hd
  have H2 := Lib.hid (And.intro h2 (And.intro hg (And.intro hi (And.intro hX0 (And.intro hpo (And.intro hG1 hB1))))))
  have HF0 := Lib.hid hf0
  clear HI0 HH0 hgf h1 h2 hg hd hB1 hG1 hf0 hX0 hi hW1 hpo
  go_enter Try.func21, Try.ntmps21
  go_wp2_with (first | (go_at_call 29; refine HS.out.mono ?_; rintro e w' ⟨rfl, rfl⟩) | (go_at_call 34; refine HI.out.mono ?_; rintro e w' ⟨rfl, rfl⟩) | (go_at_call 35; refine HH.out.mono ?_; rintro e w' ⟨rfl, rfl⟩) | (go_at_call 36; refine HT.out.mono ?_; rintro e w' ⟨rfl, rfl⟩))
  go_loopw [1, 2] (fun vp vo wr => ∃ m : Nat, order + m ≤ N ∧ vp = .int .i64 ((page / 2 ^ (order + m) * 2 ^ (order + m) : Nat) : Int) ∧ vo = .int .i64 ((order + m : Nat) : Int) ∧ Free (del G order i) (order + m) (i / 2 ^ m) ∧
      Bu wr b N (unhalves Fr order (order + m) page) (upd Gv order (sdel (Gv order) page)) ∧ Grow1 b W1 wr) (fun _ vo _ => N - (intOf vo).toNat)
  case atStart => exact ⟨0, ho, by rw [Nat.add_zero, H2.out.2.2.2.2.1], rfl, HF0.out, by rw [Nat.add_zero, unhalves_none]; exact H2.out.2.2.2.2.2.2, Grow1.refl _ _⟩
  case round =>
    obtain ⟨m, hm, rfl, rfl, hf, hB, hG⟩ := hrel
    obtain ⟨k, hk⟩ : ∃ k, k = order + m := ⟨_, rfl⟩
    have hk10 : k ≤ 10 := by omega
    have hsame : unhalves Fr order k page k = Fr k := by unfold unhalves; rw [if_neg (by omega)]
    rw [← hk] at hm hB hf ⊢
    have hc1 := hB.head.2
    have hxv := flip_at page k hp2 hk10
    have hyv := clear_at page k hp2 hk10
    have hHk : k < N → ∀ q, Calls Try.prog 35 #[.pointer (some ⟨b, 2 + k * 16, none⟩), .int .i64 ((sib (page / 2 ^ k) * 2 ^ k : Nat) : Int)] (wr.drewN q) fun e w' => e = .returned (.bool (Fr k (sib (page / 2 ^ k) * 2 ^ k))) ∧ wr.drewN q = w' := fun hlt q => by
      have := has_ok (wr.drewN q) b (2 + k * 16) (sib (page / 2 ^ k) * 2 ^ k) (unhalves Fr order k page k) (hB.free (by omega)) (sib_lt hp2 (by omega))
      rw [hsame] at this
      exact this
    have hoff : page / 2 ^ k * 2 ^ k < 1024 := Nat.lt_of_le_of_lt (Nat.div_mul_le_self _ _) hp2
    have hc0 : (0 : Int) ≤ (k : Int) := by omega
    have hc11 : (k : Int) < 11 := by omega
    have hkeep : k < N → ∀ x, (sib (page / 2 ^ k) * 2 ^ k < 1024) ∧ Bu (setW x b (2 + k * 16) (sib (page / 2 ^ k) * 2 ^ k) (sdel (Fr k) (sib (page / 2 ^ k) * 2 ^ k))) b N (unhalves Fr order (k + 1) page) (upd Gv order (sdel (Gv order) page)) ∨ ¬ Bu x b N (unhalves Fr order k page) (upd Gv order (sdel (Gv order) page)) := fun hlt x => by
      by_cases hx : Bu x b N (unhalves Fr order k page) (upd Gv order (sdel (Gv order) page))
      · refine .inl ⟨sib_lt hp2 (by omega), ?_⟩
        have := Bu.takeF hx (k := k) (p := sib (page / 2 ^ k) * 2 ^ k) (by omega) (sib_lt hp2 (by omega))
        rw [unhalves_next Fr order k page (by omega), hsame] at this
        exact this
      · exact .inr hx
    obtain ⟨p, hpp⟩ : ∃ p, p = page / 2 ^ k * 2 ^ k := ⟨_, rfl⟩
    obtain ⟨s, hss⟩ : ∃ s, s = sib (page / 2 ^ k) * 2 ^ k := ⟨_, rfl⟩
    obtain ⟨p2, hp22⟩ : ∃ p, p = page / 2 ^ (k + 1) * 2 ^ (k + 1) := ⟨_, rfl⟩
    rw [← hpp] at hxv hyv hoff ⊢
    rw [← hss] at hxv hHk hkeep
    rw [← hp22] at hyv
    have HX := Lib.hid (And.intro hf (And.intro hB (And.intro hG (And.intro hHk (And.intro hkeep (And.intro hm (And.intro hk (And.intro hoff (And.intro hsame (And.intro hpp (And.intro hss hp22)))))))))))
    have HV := Lib.hid hxv
    clear hf hB hG hHk hkeep hxv hoff hsame hpp hss hp22
    by_cases hlt : k < N
    · have hlt' : (k : Int) < (N : Int) := by omega
      cases hS : Fr k s with
      | true =>
        have HQ := HX.out.2.2.2.1 hlt
        rw [hS] at HQ
        have HQ := Lib.hid HQ
        clear hk hm
        go_wp2_with (fail)
        go_quiet ((go_at_call 35; rw [HV.out]; exact Calls.quiet_of_same ((HQ.out _).mono fun _ _ h => ⟨h.1, h.2.symm⟩)))
        go_wp2_with (fail)
        generalize hq : wr.drewN _ = wq
        have hBq : Bu wq b N (unhalves Fr order k page) (upd Gv order (sdel (Gv order) page)) := by rw [← hq]; exact HX.out.2.1.keep rfl
        have hGq : Grow1 b W1 wq := by rw [← hq]; exact ⟨HX.out.2.2.1.os, HX.out.2.2.1.tape, HX.out.2.2.1.output, HX.out.2.2.1.size, HX.out.2.2.1.block⟩
        have hs1024 : s < 1024 := by rw [HX.out.2.2.2.2.2.2.2.2.2.2.1]; exact sib_lt hp2 (by omega)
        have HT2 := Lib.hid (take_ok wq.drew b (2 + k * 16) s (unhalves Fr order k page k) (hBq.free (by omega)) hs1024)
        have hB3 : Bu (setW wq.drew b (2 + k * 16) s (sdel (unhalves Fr order k page k) s)) b N (unhalves Fr order (k + 1) page) (upd Gv order (sdel (Gv order) page)) := by
          have := Bu.takeF (w := wq.drew) (hBq.keep rfl) (k := k) (p := s) (by omega) hs1024
          rw [HX.out.2.2.2.2.2.2.2.2.2.2.1, unhalves_next Fr order k page (by rw [HX.out.2.2.2.2.2.2.1]; omega)] at this
          rw [HX.out.2.2.2.2.2.2.2.2.2.2.1]
          exact this
        have hG3 : Grow1 b W1 (setW wq.drew b (2 + k * 16) s (sdel (unhalves Fr order k page k) s)) := (hGq.trans (Grow1.refl b wq).drew).trans (setW_grow _ _ _ _ _)
        generalize setW wq.drew b (2 + k * 16) s (sdel (unhalves Fr order k page k) s) = w3 at *
        have H3 := Lib.hid (And.intro hB3 hG3)
        clear hB3 hG3 hBq hGq hq
        rw [HV.out]
        go_cut [59] from 50 to 59 (fun _ wx => wx = w3)
        case first =>
          go_region_with ((go_at_call 36; rw [HV.out]; refine HT2.out.mono ?_; rintro e w4 ⟨rfl, rfl⟩))
          all_goals
            go_wp2_with (fail)
            go_meet
            rfl
        case rest =>
          rw [hcut]
          clear hcut
          go_wp2
          go_roundw
          case rel =>
            obtain ⟨m', hm'⟩ : ∃ m', k = order + m' := ⟨m, HX.out.2.2.2.2.2.2.1⟩
            refine ⟨m + 1, by have := HX.out.2.2.2.2.2.2.1; omega, ?_, ?_, ?_, ?_, H3.out.2⟩
            · rw [← Nat.add_assoc, ← HX.out.2.2.2.2.2.2.1, ← HX.out.2.2.2.2.2.2.2.2.2.2.2]
            · rw [← Nat.add_assoc, ← HX.out.2.2.2.2.2.2.1]; go_num
            · refine merge_on H2.out.1.ok H2.out.2.1 (by rw [← HX.out.2.2.2.2.2.2.1]; exact HX.out.1) ?_
              have h5 := (H2.out.1.free k s (by omega) hs1024).1 hS
              have h6 : s / 2 ^ k = sib (i / 2 ^ m) := by
                rw [HX.out.2.2.2.2.2.2.2.2.2.2.1, first, HX.out.2.2.2.2.2.2.1, H2.out.2.2.2.1]
              rw [h6] at h5
              rw [← HX.out.2.2.2.2.2.2.1]
              exact h5.2
            · rw [← Nat.add_assoc, ← HX.out.2.2.2.2.2.2.1]; exact H3.out.1
          case measure => simp [intOf]; omega
      | false =>
        have HQ := HX.out.2.2.2.1 hlt
        rw [hS] at HQ
        have HQ := Lib.hid HQ
        clear hk hm
        go_wp2_with (fail)
        go_quiet ((go_at_call 35; rw [HV.out]; exact Calls.quiet_of_same ((HQ.out _).mono fun _ _ h => ⟨h.1, h.2.symm⟩)))
        have hend : ∀ q, k < 11 ∧ p < 1024 ∧ SetAt (wr.drewN q) b (2 + k * 16) (Fr k) := fun q => ⟨by omega, HX.out.2.2.2.2.2.2.2.1, by
          have := (HX.out.2.1.free (k := k) (by omega))
          rw [HX.out.2.2.2.2.2.2.2.2.1] at this
          exact this⟩
        have HE := Lib.hid hend
        clear hend
        go_wp2_with (go_at_call 37; refine (put_ok _ b (2 + k * 16) p (Fr k) (HE.out _).2.2 (HE.out 0).2.1).mono ?_; rintro e w4 ⟨rfl, rfl⟩)
        go_ret
        refine ⟨rfl, ?_, ?_⟩
        · exact (H2.out.2.2.2.2.2.1.trans (HX.out.2.2.1.drewN _)).trans (setW_grow _ _ _ _ _)
        · rw [HX.out.2.2.2.2.2.2.2.2.2.1, HX.out.2.2.2.2.2.2.1]
          refine freed H2.out.1 H2.out.2.1 H2.out.2.2.1 H2.out.2.2.2.2.1 (by rw [← HX.out.2.2.2.2.2.2.1]; exact HX.out.1) (by rw [← HX.out.2.2.2.2.2.2.1]; exact HX.out.2.2.2.2.2.1) hp2 (.inr ?_) ?_
          · rw [← HX.out.2.2.2.2.2.2.1, ← HX.out.2.2.2.2.2.2.2.2.2.2.1]; exact hS
          · rw [← HX.out.2.2.2.2.2.2.1]; exact HX.out.2.1.keep rfl
    · obtain rfl : k = N := by omega
      have hlt' : decide ((k : Int) < (k : Int)) = false := by simp
      have hend : ∀ q, k < 11 ∧ p < 1024 ∧ SetAt (wr.drewN q) b (2 + k * 16) (Fr k) := fun q => ⟨by omega, HX.out.2.2.2.2.2.2.2.1, by
        have := (HX.out.2.1.free (k := k) (by omega))
        rw [HX.out.2.2.2.2.2.2.2.2.1] at this
        exact this⟩
      have HE := Lib.hid hend
      clear hend hk hm
      go_wp2_with (fail)
      go_quiet (fail)
      go_wp2_with (go_at_call 37; refine (put_ok _ b (2 + k * 16) p (Fr k) (HE.out _).2.2 (HE.out 0).2.1).mono ?_; rintro e w4 ⟨rfl, rfl⟩)
      go_ret
      refine ⟨rfl, ?_, ?_⟩
      · exact (H2.out.2.2.2.2.2.1.trans (HX.out.2.2.1.drewN _)).trans (setW_grow _ _ _ _ _)
      · rw [HX.out.2.2.2.2.2.2.2.2.2.1, HX.out.2.2.2.2.2.2.1]
        have hk2 := HX.out.2.2.2.2.2.2.1
        subst hk2
        exact freed H2.out.1 H2.out.2.1 H2.out.2.2.1 H2.out.2.2.2.2.1 HX.out.1 (Nat.le_refl _) hp2 (.inl rfl) (HX.out.2.1.keep rfl)
end Bu
end Go.Proofs.Ytdanhbbdkcbapaa
