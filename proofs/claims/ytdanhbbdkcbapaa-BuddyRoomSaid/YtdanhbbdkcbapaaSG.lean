/- AllocAt. -/
import Derived.Test.YtdanhbbdkcbapaaSF
import Derived.Test.YtdanhbbdkcbapaaBPlain2
namespace Go.Proofs.Ytdanhbbdkcbapaa
open Go.RowKit
namespace Bu

/-- An allocator in memory that has given the blocks G. -/
def Bud (w : World) (b N : Nat) (G : Bl) : Prop := ∃ Fr Gv, Bu w b N Fr Gv ∧ Sem N Fr Gv G

theorem Bud.lt {w : World} {b N : Nat} {G : Bl} (h : Bud w b N G) : b < w.heap.size := by obtain ⟨_, _, h1, _⟩ := h; exact h1.lt
theorem Bud.keep {w w' : World} {b N : Nat} {G : Bl} (h : Bud w b N G) (hk : w'.heap[b]? = w.heap[b]?) : Bud w' b N G := by
  obtain ⟨Fr, Gv, h1, h2⟩ := h
  exact ⟨Fr, Gv, h1.keep hk, h2⟩

theorem fromK_some {Fr : Nat → Nat → Bool} {page : Nat} : ∀ (n k j : Nat), fromK Fr page k n = some j → k ≤ j ∧ j < k + n ∧ Fr j (page / 2 ^ j * 2 ^ j) = true := by
  intro n
  induction n with
  | zero => intro k j h; simp [fromK] at h
  | succ n ih =>
    intro k j h
    rw [fromK] at h
    split at h
    · next e => injection h with h; subst h; exact ⟨Nat.le_refl _, by omega, e⟩
    · obtain ⟨h1, h2, h3⟩ := ih _ _ h
      exact ⟨by omega, by omega, h3⟩
theorem fromK_none {Fr : Nat → Nat → Bool} {page : Nat} : ∀ (n k : Nat), fromK Fr page k n = none → ∀ j, k ≤ j → j < k + n → Fr j (page / 2 ^ j * 2 ^ j) = false := by
  intro n
  induction n with
  | zero => intro k _ j h1 h2; omega
  | succ n ih =>
    intro k h j h1 h2
    rw [fromK] at h
    split at h
    · cases h
    · next e =>
      by_cases e2 : j = k
      · subst e2; simpa using e
      · exact ih _ h j (by omega) (by omega)

theorem sem_from {N : Nat} {Fr Gv : Nat → Nat → Bool} {G : Bl} (h : Sem N Fr Gv G) {page order : Nat} (hp : page < 2 ^ N) (ho : order ≤ N) :
    match fromK Fr page order (N + 1 - order) with
    | some k => order ≤ k ∧ k ≤ N ∧ MaxFree G N k (page / 2 ^ k) ∧ Free G order (page / 2 ^ order)
    | none => ¬ Free G order (page / 2 ^ order) := by
  have hn := h.n10
  have hp2 : page < 1024 := Nat.lt_of_lt_of_le hp (by
    have : 2 ^ N ≤ 2 ^ 10 := Nat.pow_le_pow_right (by omega) hn
    omega)
  have hoff : ∀ k, page / 2 ^ k * 2 ^ k < 1024 := fun k => Nat.lt_of_le_of_lt (Nat.div_mul_le_self _ _) hp2
  have hpd : ∀ k, page / 2 ^ k * 2 ^ k / 2 ^ k = page / 2 ^ k := fun k => first k _
  cases e : fromK Fr page order (N + 1 - order) with
  | some k =>
    obtain ⟨h1, h2, h3⟩ := fromK_some _ _ _ e
    obtain ⟨_, h4⟩ := (h.free k _ (by omega) (hoff k)).1 h3
    rw [hpd] at h4
    refine ⟨h1, by omega, h4, ?_⟩
    obtain ⟨m, rfl⟩ := Nat.exists_eq_add_of_le h1
    refine Free.mono m ?_
    rw [← div_pow]
    exact h4.2.2.1
  | none =>
    intro hf
    have hi : page / 2 ^ order < 2 ^ (N - order) := by
      rw [Nat.div_lt_iff_lt_mul (Nat.pow_pos (by decide)), ← Nat.pow_add, Nat.sub_add_cancel ho]
      exact hp
    obtain ⟨m, hm⟩ := around ho hi hf
    have hm1 := hm.1
    rw [← div_pow] at hm
    have h3 := fromK_none _ _ e (order + m) (by omega) (by omega)
    have h4 := (h.free (order + m) (page / 2 ^ (order + m) * 2 ^ (order + m)) (by omega) (hoff _)).2 ⟨Nat.mul_mod_left _ _, by rw [hpd]; exact hm⟩
    rw [h3] at h4
    cases h4

/-- What the sets are after a block was carved out. -/
theorem sem_carved {N : Nat} {Fr Gv : Nat → Nat → Bool} {G : Bl} (h : Sem N Fr Gv G) {page order k : Nat} (hd : page % 2 ^ order = 0) (hk : order ≤ k) (hkN : k ≤ N) (hM : MaxFree G N k (page / 2 ^ k)) :
    Sem N (carveF Fr page order k) (putIn Gv page order) (add G order (page / 2 ^ order)) := by
  obtain ⟨m, rfl⟩ := Nat.exists_eq_add_of_le hk
  rw [div_pow] at hM
  have := sem_carve h (k := order) (m := m) (i := page / 2 ^ order) hkN hM
  rw [mul_of_mod hd, ← div_pow] at this
  exact this

theorem err_in (w : World) (b N : Nat) (page order : Int) (G : Bl) (h : Bud w b N G) (hno : ¬ (0 ≤ order ∧ order ≤ N ∧ 0 ≤ page ∧ page < 2 ^ N ∧ page.toNat % 2 ^ order.toNat = 0)) :
    Calls Try.prog 34 #[.pointer (some ⟨b, 0, none⟩), .int .i64 page, .int .i64 order] w fun e w' => e = .returned (.bool false) ∧ w = w' := by
  obtain ⟨Fr, Gv, h1, h2⟩ := h
  by_cases e : 0 ≤ order ∧ order ≤ N ∧ 0 ≤ page ∧ page < 2 ^ N
  · obtain ⟨e1, e2, e3, e4⟩ := e
    obtain ⟨o, rfl⟩ := Int.eq_ofNat_of_zero_le e1
    obtain ⟨p, rfl⟩ := Int.eq_ofNat_of_zero_le e3
    have hp : p < 2 ^ N := by
      have : ((2 : Int) ^ N) = ((2 ^ N : Nat) : Int) := by rw [Int.natCast_pow]; rfl
      rw [this] at e4
      omega
    have hd : ¬ p % 2 ^ o = 0 := fun hd => hno ⟨e1, e2, e3, e4, hd⟩
    have := in_ok w b N p o Fr Gv h1 h2.n10 (by omega) hp
    rw [decide_eq_false hd] at this
    exact this
  · exact in_bad w b N page order Fr Gv h1 h2.n10 e

set_option maxRecDepth 100000 in
set_option maxHeartbeats 1000000 in
theorem allocAt_bad (w : World) (b N : Nat) (page order : Int) (G : Bl) (h : Bud w b N G) (hno : ¬ (0 ≤ order ∧ order ≤ N ∧ 0 ≤ page ∧ page < 2 ^ N ∧ page.toNat % 2 ^ order.toNat = 0)) :
    Calls Try.prog 25 #[.pointer (some ⟨b, 0, none⟩), .int .i64 page, .int .i64 order] w fun e w' => e = .returned (.int .i64 7) ∧ w = w' := by
  have HI := Lib.hid (err_in w b N page order G h hno)
  obtain ⟨Fr, Gv, h1, h2⟩ := h
  have HS := Lib.hid (is_ok w b N Fr Gv h1)
  clear hno h1 h2
  go_enter Try.func25, Try.ntmps25
  go_wp2_with (first | (go_at_call 29; refine HS.out.mono ?_; rintro e w' ⟨rfl, rfl⟩) | (go_at_call 34; refine HI.out.mono ?_; rintro e w' ⟨rfl, rfl⟩))
  go_ret
  exact ⟨rfl, rfl⟩

set_option maxRecDepth 100000 in
set_option maxHeartbeats 1000000 in
theorem allocAt_ok (w : World) (b N page order : Nat) (G : Bl) (h : Bud w b N G) (ho : order ≤ N) (hp : page < 2 ^ N) (hd : page % 2 ^ order = 0) :
    Calls Try.prog 25 #[.pointer (some ⟨b, 0, none⟩), .int .i64 page, .int .i64 order] w fun e w' => Grow1 b w w' ∧
      ((Free G order (page / 2 ^ order) ∧ e = .returned (.int .i64 0) ∧ Bud w' b N (add G order (page / 2 ^ order))) ∨ (¬ Free G order (page / 2 ^ order) ∧ e = .returned (.int .i64 8) ∧ Bud w' b N G)) := by
  obtain ⟨Fr, Gv, h1, h2⟩ := h
  have hn := h2.n10
  have hp2 : page < 1024 := Nat.lt_of_lt_of_le hp (by
    have : 2 ^ N ≤ 2 ^ 10 := Nat.pow_le_pow_right (by omega) hn
    omega)
  have HS := Lib.hid (is_ok w b N Fr Gv h1)
  have HI0 := in_ok w b N page order Fr Gv h1 hn ho hp
  rw [decide_eq_true hd] at HI0
  have HI := Lib.hid HI0
  have HA0 := around_ok w b N page order Fr Gv h1 hn hp2 ho
  have hsf := sem_from h2 hp ho
  cases hk : fromK Fr page order (N + 1 - order) with
  | none =>
    rw [hk] at HA0 hsf
    have HA := Lib.hid HA0
    have HX := Lib.hid (And.intro h1 (And.intro h2 hsf))
    clear HI0 HA0 hsf h1 h2 hk hd
    go_enter Try.func25, Try.ntmps25
    go_wp2_with (first | (go_at_call 29; refine HS.out.mono ?_; rintro e w' ⟨rfl, rfl⟩) | (go_at_call 34; refine HI.out.mono ?_; rintro e w' ⟨rfl, rfl⟩) | (go_at_call 38; refine HA.out.mono ?_; rintro e w' ⟨rfl, m, rfl⟩; simp only [aroundV]))
    go_ret
    exact ⟨⟨rfl, rfl, rfl, Nat.le_refl _, fun _ _ _ => rfl⟩, .inr ⟨HX.out.2.2, rfl, Fr, Gv, HX.out.1.keep rfl, HX.out.2.1⟩⟩
  | some k =>
    rw [hk] at HA0 hsf
    obtain ⟨g1, g2, g3, g4⟩ := hsf
    obtain ⟨j, rfl⟩ := Nat.exists_eq_add_of_le g1
    have HA := Lib.hid HA0
    have hC : ∀ m, Calls Try.prog 32 #[.pointer (some ⟨b, 0, none⟩), .int .i64 page, .int .i64 order, .int .i64 ((order + j : Nat) : Int)] (w.drewN m) fun e w' => e = .returned (.tuple #[]) ∧ Bu w' b N (carveF Fr page order (order + j)) (putIn Gv page order) ∧ Grow1 b (w.drewN m) w' :=
      fun m => carve_ok (w.drewN m) b N page order j Fr Gv (h1.keep rfl) hp2 (by omega)
    have HC := Lib.hid hC
    have HX := Lib.hid (And.intro (sem_carved h2 hd g1 g2 g3) g4)
    obtain ⟨k, hkk⟩ : ∃ k : Nat, k = order + j := ⟨_, rfl⟩
    rw [← hkk] at HA HC HX
    have hk0 : ¬ ((k : Nat) : Int) < 0 := by omega
    clear HI0 HA0 h1 h2 hk hd hC g1 g2 g3 g4 hkk
    go_enter Try.func25, Try.ntmps25
    go_wp2_with (first | (go_at_call 29; refine HS.out.mono ?_; rintro e w' ⟨rfl, rfl⟩) | (go_at_call 34; refine HI.out.mono ?_; rintro e w' ⟨rfl, rfl⟩) | (go_at_call 38; refine HA.out.mono ?_; rintro e w' ⟨rfl, m, rfl⟩; simp only [aroundV]) | (go_at_call 32; refine (HC.out _).mono ?_; rintro e w' ⟨rfl, hB, hG⟩))
    go_ret
    exact ⟨Grow1.trans (b := w.drewN m) ⟨rfl, rfl, rfl, Nat.le_refl _, fun _ _ _ => rfl⟩ hG, .inl ⟨HX.out.2, rfl, _, _, hB, HX.out.1⟩⟩
end Bu
end Go.Proofs.Ytdanhbbdkcbapaa
