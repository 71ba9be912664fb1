/- in, around. AllocAt. Free. Ranges over functions within a loop: the marks on the frame. -/
import Derived.Test.YtlknhbcambdccaaK3
import Derived.Test.YtlknhbcambdccaaK2
import Derived.Sort.LoopGhostIn
namespace Go.Proofs.Ytlknhbcambdccaa
open Go.RowKit
namespace Bu

theorem and_val (page a : Nat) (hp : page < 1024) (ha : a ≤ 10) : bits .and .i64 (page : Int) (IntKind.i64.wrap (IntKind.i64.wrap ((2 : Int) ^ a) - 1)) = ((page % 2 ^ a : Nat) : Int) := by
  rw [pow_i64_pred a (by omega), mask_and page a (by omega) (by omega)]

theorem w64 (x : Int) : IntKind.i64.wrap x = wrap64 x := by unfold wrap64; exact IntKind.wrap_i64 x
theorem pow_w64 (a : Nat) (ha : a ≤ 11) : wrap64 ((2 : Int) ^ a) = ((2 ^ a : Nat) : Int) := by rw [← w64]; exact pow_i64 a ha
theorem and_w64 (page a : Nat) (hp : page < 1024) (ha : a ≤ 10) : bits .and .i64 (page : Int) (wrap64 (wrap64 ((2 : Int) ^ a) - 1)) = ((page % 2 ^ a : Nat) : Int) := by
  rw [← w64, ← w64]; exact and_val page a hp ha
theorem nat_eq0 (n : Nat) : (((n : Nat) : Int) == 0) = decide (n = 0) := by
  cases n with
  | zero => rfl
  | succ n =>
    rw [decide_eq_false (by omega), beq_eq_false_iff_ne]
    omega

set_option maxRecDepth 100000 in
set_option maxHeartbeats 1000000 in
theorem in_ok (w : World) (b N page order : Nat) (Fr Gv : Nat → Nat → Bool) (hB : Bu w b N Fr Gv) (hN : N ≤ 10) (ho : order ≤ N) (hp : page < 2 ^ N) :
    Calls Try.prog 88 #[.pointer (some ⟨b, 0, none⟩), .int .i64 page, .int .i64 order] w fun e w' => e = .returned (.bool (decide (page % 2 ^ order = 0))) ∧ w = w' := by
  obtain ⟨_, h1⟩ := hB.head
  have h1024 : 2 ^ N ≤ 1024 := by
    have : 2 ^ N ≤ 2 ^ 10 := Nat.pow_le_pow_right (by omega) hN
    omega
  obtain ⟨M, hM⟩ : ∃ M : Nat, M = 2 ^ N := ⟨_, rfl⟩
  have hpw := pow_w64 N (by omega)
  rw [← hM] at hpw hp h1024
  have hav := and_w64 page order (by omega) (by omega)
  have e1 : (0 : Int) ≤ (order : Int) := by omega
  have e2 : (order : Int) ≤ (N : Int) := by omega
  have e3 : (0 : Int) ≤ (page : Int) := by omega
  have e4 : (page : Int) < (M : Int) := by omega
  have e5 : (0 : Int) ≤ (N : Int) := by omega
  obtain ⟨r, hr⟩ : ∃ r : Nat, r = page % 2 ^ order := ⟨_, rfl⟩
  rw [← hr] at hav ⊢
  clear hB hM hr
  go_enter Try.func88, Try.ntmps88
  go_wp2
  go_ret
  exact ⟨congrArg (fun x => Ending.returned (.bool x)) (nat_eq0 r), rfl⟩

set_option maxRecDepth 100000 in
set_option maxHeartbeats 1000000 in
theorem in_bad (w : World) (b N : Nat) (page order : Int) (Fr Gv : Nat → Nat → Bool) (hB : Bu w b N Fr Gv) (hN : N ≤ 10) (h : ¬ (0 ≤ order ∧ order ≤ N ∧ 0 ≤ page ∧ page < 2 ^ N)) :
    Calls Try.prog 88 #[.pointer (some ⟨b, 0, none⟩), .int .i64 page, .int .i64 order] w fun e w' => e = .returned (.bool false) ∧ w = w' := by
  obtain ⟨_, h1⟩ := hB.head
  obtain ⟨M, hM⟩ : ∃ M : Nat, M = 2 ^ N := ⟨_, rfl⟩
  have hpw := pow_w64 N (by omega)
  rw [← hM] at hpw
  have e5 : (0 : Int) ≤ (N : Int) := by omega
  clear hB
  have hc : order < 0 ∨ (0 ≤ order ∧ (N : Int) < order) ∨ (0 ≤ order ∧ order ≤ N ∧ page < 0) ∨ (0 ≤ order ∧ order ≤ N ∧ 0 ≤ page ∧ (M : Int) ≤ page) := by
    have : ((2 : Int) ^ N) = (M : Int) := by rw [hM, Int.natCast_pow]; rfl
    rw [this] at h
    omega
  clear h hM
  rcases hc with h | ⟨h, h2⟩ | ⟨h, h2, h3⟩ | ⟨h, h2, h3, h4⟩
  all_goals
    go_enter Try.func88, Try.ntmps88
    go_wp2
    go_ret
    exact ⟨rfl, rfl⟩

/-- The least order from k up (n orders) whose set has the block around a page. -/
def fromK (Fr : Nat → Nat → Bool) (page : Nat) : Nat → Nat → Option Nat
  | _, 0 => none
  | k, n + 1 => if Fr k (page / 2 ^ k * 2 ^ k) then some k else fromK Fr page (k + 1) n

/-- What around returns. -/
def aroundV (o : Option Nat) : Int := match o with | some k => (k : Int) | none => -1

set_option maxRecDepth 100000 in
set_option maxHeartbeats 2000000 in
theorem around_ok (w : World) (b N page order : Nat) (Fr Gv : Nat → Nat → Bool) (hB : Bu w b N Fr Gv) (hN : N ≤ 10) (hp : page < 1024) (ho : order ≤ N) :
    Calls Try.prog 89 #[.pointer (some ⟨b, 0, none⟩), .int .i64 page, .int .i64 order] w fun e w' => e = .returned (.int .i64 (aroundV (fromK Fr page order (N + 1 - order)))) ∧ ∃ m, w' = w.drewN m := by
  obtain ⟨_, h1⟩ := hB.head
  obtain ⟨r, hr⟩ : ∃ r, r = fromK Fr page order (N + 1 - order) := ⟨_, rfl⟩
  rw [← hr]
  have HR := Lib.hid hr
  have HB := Lib.hid hB
  clear hr hB
  go_enter Try.func89, Try.ntmps89
  go_wp2
  go_loopw [7] (fun i wr => ∃ k : Nat, k ≤ N + 1 ∧ i = .int .i64 k ∧ r = fromK Fr page k (N + 1 - k) ∧ ∃ m, wr = w.drewN m) (fun i _ => N + 1 - (intOf i).toNat)
  case atStart => exact ⟨order, by omega, rfl, HR.out, 0, rfl⟩
  case round =>
    obtain ⟨k, hk, rfl, hr, hm⟩ := hrel
    have hc1 : wr.cell? ⟨b, 1, none⟩ = some (.int .i64 (N : Int)) := by obtain ⟨m, rfl⟩ := hm; exact h1
    have hBr : Bu wr b N Fr Gv := by obtain ⟨m, rfl⟩ := hm; exact HB.out
    have HM := Lib.hid hm
    clear hm h1
    by_cases hlt : k ≤ N
    · have hoff : page / 2 ^ k * 2 ^ k < 1024 := Nat.lt_of_le_of_lt (Nat.div_mul_le_self _ _) hp
      have HH := Lib.hid (fun m => has_ok (wr.drewN m) b (2 + k * 16) (page / 2 ^ k * 2 ^ k) (Fr k) (hBr.free (by omega)) hoff)
      have hoffv := off_val page k hp (by omega)
      have e1 : (0 : Int) ≤ (k : Int) := by omega
      have e2 : (k : Int) < 11 := by omega
      have e3 : (k : Int) ≤ (N : Int) := by omega
      rw [show N + 1 - k = (N + 1 - (k + 1)) + 1 by omega, fromK] at hr
      have HO := Lib.hid hoffv
      clear hoff hoffv hBr
      cases hS : Fr k (page / 2 ^ k * 2 ^ k) with
      | true =>
        rw [hS] at HH
        rw [hS, if_pos rfl] at hr
        subst hr
        go_wp2_with (fail)
        go_quiet ((go_at_call 86; rw [HO.out]; exact Calls.quiet_of_same ((HH.out _).mono fun _ _ h => ⟨h.1, h.2.symm⟩)))
        go_wp2
        go_ret
        obtain ⟨m, hm⟩ := HM.out
        exact ⟨rfl, _, by rw [hm]; exact World.drewN_drewN _ _ _⟩
      | false =>
        rw [hS] at HH
        rw [hS, if_neg (by decide)] at hr
        have HR2 := Lib.hid hr
        clear hr
        go_wp2_with (fail)
        go_quiet ((go_at_call 86; rw [HO.out]; exact Calls.quiet_of_same ((HH.out _).mono fun _ _ h => ⟨h.1, h.2.symm⟩)))
        go_wp2
        go_roundw
        case rel =>
          obtain ⟨m, hm⟩ := HM.out
          exact ⟨k + 1, by omega, by go_num, HR2.out, _, by rw [hm]; exact World.drewN_drewN _ _ _⟩
        case measure => simp [intOf]; omega
    · obtain rfl : k = N + 1 := by omega
      rw [Nat.sub_self, fromK] at hr
      subst hr
      have e3 : ¬ ((N + 1 : Nat) : Int) ≤ (N : Int) := by omega
      go_wp2
      go_ret
      exact ⟨rfl, HM.out⟩
end Bu
end Go.Proofs.Ytlknhbcambdccaa
namespace Go.Proofs.Ytlknhbcambdccaa
open Go.RowKit
namespace Bu

/-- An allocator in memory that has given the blocks G. -/
def Bud (w : World) (b N : Nat) (G : Bl) : Prop := ∃ Fr Gv, Bu w b N Fr Gv ∧ Sem N Fr Gv G

theorem Bud.lt {w : World} {b N : Nat} {G : Bl} (h : Bud w b N G) : b < w.heap.size := by obtain ⟨_, _, h1, _⟩ := h; exact h1.lt
theorem Bud.keep {w w' : World} {b N : Nat} {G : Bl} (h : Bud w b N G) (hk : w'.heap[b]? = w.heap[b]?) : Bud w' b N G := by
  obtain ⟨Fr, Gv, h1, h2⟩ := h
  exact ⟨Fr, Gv, h1.keep hk, h2⟩

theorem fromK_some {Fr : Nat → Nat → Bool} {page : Nat} : ∀ (n k j : Nat), fromK Fr page k n = some j → k ≤ j ∧ j < k + n ∧ Fr j (page / 2 ^ j * 2 ^ j) = true := by
  intro n
  induction n with
  | zero => intro k j h; simp [fromK] at h
  | succ n ih =>
    intro k j h
    rw [fromK] at h
    split at h
    · next e => injection h with h; subst h; exact ⟨Nat.le_refl _, by omega, e⟩
    · obtain ⟨h1, h2, h3⟩ := ih _ _ h
      exact ⟨by omega, by omega, h3⟩
theorem fromK_none {Fr : Nat → Nat → Bool} {page : Nat} : ∀ (n k : Nat), fromK Fr page k n = none → ∀ j, k ≤ j → j < k + n → Fr j (page / 2 ^ j * 2 ^ j) = false := by
  intro n
  induction n with
  | zero => intro k _ j h1 h2; omega
  | succ n ih =>
    intro k h j h1 h2
    rw [fromK] at h
    split at h
    · cases h
    · next e =>
      by_cases e2 : j = k
      · subst e2; simpa using e
      · exact ih _ h j (by omega) (by omega)

theorem sem_from {N : Nat} {Fr Gv : Nat → Nat → Bool} {G : Bl} (h : Sem N Fr Gv G) {page order : Nat} (hp : page < 2 ^ N) (ho : order ≤ N) :
    match fromK Fr page order (N + 1 - order) with
    | some k => order ≤ k ∧ k ≤ N ∧ MaxFree G N k (page / 2 ^ k) ∧ Free G order (page / 2 ^ order)
    | none => ¬ Free G order (page / 2 ^ order) := by
  have hn := h.n10
  have hp2 : page < 1024 := Nat.lt_of_lt_of_le hp (by
    have : 2 ^ N ≤ 2 ^ 10 := Nat.pow_le_pow_right (by omega) hn
    omega)
  have hoff : ∀ k, page / 2 ^ k * 2 ^ k < 1024 := fun k => Nat.lt_of_le_of_lt (Nat.div_mul_le_self _ _) hp2
  have hpd : ∀ k, page / 2 ^ k * 2 ^ k / 2 ^ k = page / 2 ^ k := fun k => first k _
  cases e : fromK Fr page order (N + 1 - order) with
  | some k =>
    obtain ⟨h1, h2, h3⟩ := fromK_some _ _ _ e
    obtain ⟨_, h4⟩ := (h.free k _ (by omega) (hoff k)).1 h3
    rw [hpd] at h4
    refine ⟨h1, by omega, h4, ?_⟩
    obtain ⟨m, rfl⟩ := Nat.exists_eq_add_of_le h1
    refine Free.mono m ?_
    rw [← div_pow]
    exact h4.2.2.1
  | none =>
    intro hf
    have hi : page / 2 ^ order < 2 ^ (N - order) := by
      rw [Nat.div_lt_iff_lt_mul (Nat.pow_pos (by decide)), ← Nat.pow_add, Nat.sub_add_cancel ho]
      exact hp
    obtain ⟨m, hm⟩ := around ho hi hf
    have hm1 := hm.1
    rw [← div_pow] at hm
    have h3 := fromK_none _ _ e (order + m) (by omega) (by omega)
    have h4 := (h.free (order + m) (page / 2 ^ (order + m) * 2 ^ (order + m)) (by omega) (hoff _)).2 ⟨Nat.mul_mod_left _ _, by rw [hpd]; exact hm⟩
    rw [h3] at h4
    cases h4

/-- What the sets are after a block was carved out. -/
theorem sem_carved {N : Nat} {Fr Gv : Nat → Nat → Bool} {G : Bl} (h : Sem N Fr Gv G) {page order k : Nat} (hd : page % 2 ^ order = 0) (hk : order ≤ k) (hkN : k ≤ N) (hM : MaxFree G N k (page / 2 ^ k)) :
    Sem N (carveF Fr page order k) (putIn Gv page order) (add G order (page / 2 ^ order)) := by
  obtain ⟨m, rfl⟩ := Nat.exists_eq_add_of_le hk
  rw [div_pow] at hM
  have := sem_carve h (k := order) (m := m) (i := page / 2 ^ order) hkN hM
  rw [mul_of_mod hd, ← div_pow] at this
  exact this

theorem err_in (w : World) (b N : Nat) (page order : Int) (G : Bl) (h : Bud w b N G) (hno : ¬ (0 ≤ order ∧ order ≤ N ∧ 0 ≤ page ∧ page < 2 ^ N ∧ page.toNat % 2 ^ order.toNat = 0)) :
    Calls Try.prog 88 #[.pointer (some ⟨b, 0, none⟩), .int .i64 page, .int .i64 order] w fun e w' => e = .returned (.bool false) ∧ w = w' := by
  obtain ⟨Fr, Gv, h1, h2⟩ := h
  by_cases e : 0 ≤ order ∧ order ≤ N ∧ 0 ≤ page ∧ page < 2 ^ N
  · obtain ⟨e1, e2, e3, e4⟩ := e
    obtain ⟨o, rfl⟩ := Int.eq_ofNat_of_zero_le e1
    obtain ⟨p, rfl⟩ := Int.eq_ofNat_of_zero_le e3
    have hp : p < 2 ^ N := by
      have : ((2 : Int) ^ N) = ((2 ^ N : Nat) : Int) := by rw [Int.natCast_pow]; rfl
      rw [this] at e4
      omega
    have hd : ¬ p % 2 ^ o = 0 := fun hd => hno ⟨e1, e2, e3, e4, hd⟩
    have := in_ok w b N p o Fr Gv h1 h2.n10 (by omega) hp
    rw [decide_eq_false hd] at this
    exact this
  · exact in_bad w b N page order Fr Gv h1 h2.n10 e

set_option maxRecDepth 100000 in
set_option maxHeartbeats 1000000 in
theorem allocAt_bad (w : World) (b N : Nat) (page order : Int) (G : Bl) (h : Bud w b N G) (hno : ¬ (0 ≤ order ∧ order ≤ N ∧ 0 ≤ page ∧ page < 2 ^ N ∧ page.toNat % 2 ^ order.toNat = 0)) :
    Calls Try.prog 66 #[.pointer (some ⟨b, 0, none⟩), .int .i64 page, .int .i64 order] w fun e w' => e = .returned (.int .i64 7) ∧ w = w' := by
  have HI := Lib.hid (err_in w b N page order G h hno)
  obtain ⟨Fr, Gv, h1, h2⟩ := h
  have HS := Lib.hid (is_ok w b N Fr Gv h1)
  clear hno h1 h2
  go_enter Try.func66, Try.ntmps66
  go_wp2_with (first | (go_at_call 47; refine HS.out.mono ?_; rintro e w' ⟨rfl, rfl⟩) | (go_at_call 88; refine HI.out.mono ?_; rintro e w' ⟨rfl, rfl⟩))
  go_ret
  exact ⟨rfl, rfl⟩

set_option maxRecDepth 100000 in
set_option maxHeartbeats 1000000 in
theorem allocAt_ok (w : World) (b N page order : Nat) (G : Bl) (h : Bud w b N G) (ho : order ≤ N) (hp : page < 2 ^ N) (hd : page % 2 ^ order = 0) :
    Calls Try.prog 66 #[.pointer (some ⟨b, 0, none⟩), .int .i64 page, .int .i64 order] w fun e w' => Grow1 b w w' ∧
      ((Free G order (page / 2 ^ order) ∧ e = .returned (.int .i64 0) ∧ Bud w' b N (add G order (page / 2 ^ order))) ∨ (¬ Free G order (page / 2 ^ order) ∧ e = .returned (.int .i64 8) ∧ Bud w' b N G)) := by
  obtain ⟨Fr, Gv, h1, h2⟩ := h
  have hn := h2.n10
  have hp2 : page < 1024 := Nat.lt_of_lt_of_le hp (by
    have : 2 ^ N ≤ 2 ^ 10 := Nat.pow_le_pow_right (by omega) hn
    omega)
  have HS := Lib.hid (is_ok w b N Fr Gv h1)
  have HI0 := in_ok w b N page order Fr Gv h1 hn ho hp
  rw [decide_eq_true hd] at HI0
  have HI := Lib.hid HI0
  have HA0 := around_ok w b N page order Fr Gv h1 hn hp2 ho
  have hsf := sem_from h2 hp ho
  cases hk : fromK Fr page order (N + 1 - order) with
  | none =>
    rw [hk] at HA0 hsf
    have HA := Lib.hid HA0
    have HX := Lib.hid (And.intro h1 (And.intro h2 hsf))
    clear HI0 HA0 hsf h1 h2 hk hd
    go_enter Try.func66, Try.ntmps66
    go_wp2_with (first | (go_at_call 47; refine HS.out.mono ?_; rintro e w' ⟨rfl, rfl⟩) | (go_at_call 88; refine HI.out.mono ?_; rintro e w' ⟨rfl, rfl⟩) | (go_at_call 89; refine HA.out.mono ?_; rintro e w' ⟨rfl, m, rfl⟩; simp only [aroundV]))
    go_ret
    exact ⟨⟨rfl, rfl, rfl, Nat.le_refl _, fun _ _ _ => rfl⟩, .inr ⟨HX.out.2.2, rfl, Fr, Gv, HX.out.1.keep rfl, HX.out.2.1⟩⟩
  | some k =>
    rw [hk] at HA0 hsf
    obtain ⟨g1, g2, g3, g4⟩ := hsf
    obtain ⟨j, rfl⟩ := Nat.exists_eq_add_of_le g1
    have HA := Lib.hid HA0
    have hC : ∀ m, Calls Try.prog 74 #[.pointer (some ⟨b, 0, none⟩), .int .i64 page, .int .i64 order, .int .i64 ((order + j : Nat) : Int)] (w.drewN m) fun e w' => e = .returned (.tuple #[]) ∧ Bu w' b N (carveF Fr page order (order + j)) (putIn Gv page order) ∧ Grow1 b (w.drewN m) w' :=
      fun m => carve_ok (w.drewN m) b N page order j Fr Gv (h1.keep rfl) hp2 (by omega)
    have HC := Lib.hid hC
    have HX := Lib.hid (And.intro (sem_carved h2 hd g1 g2 g3) g4)
    obtain ⟨k, hkk⟩ : ∃ k : Nat, k = order + j := ⟨_, rfl⟩
    rw [← hkk] at HA HC HX
    have hk0 : ¬ ((k : Nat) : Int) < 0 := by omega
    clear HI0 HA0 h1 h2 hk hd hC g1 g2 g3 g4 hkk
    go_enter Try.func66, Try.ntmps66
    go_wp2_with (first | (go_at_call 47; refine HS.out.mono ?_; rintro e w' ⟨rfl, rfl⟩) | (go_at_call 88; refine HI.out.mono ?_; rintro e w' ⟨rfl, rfl⟩) | (go_at_call 89; refine HA.out.mono ?_; rintro e w' ⟨rfl, m, rfl⟩; simp only [aroundV]) | (go_at_call 74; refine (HC.out _).mono ?_; rintro e w' ⟨rfl, hB, hG⟩))
    go_ret
    exact ⟨Grow1.trans (b := w.drewN m) ⟨rfl, rfl, rfl, Nat.le_refl _, fun _ _ _ => rfl⟩ hG, .inl ⟨HX.out.2, rfl, _, _, hB, HX.out.1⟩⟩
end Bu
end Go.Proofs.Ytlknhbcambdccaa
namespace Go.Proofs.Ytlknhbcambdccaa
open Go.RowKit
namespace Bu

theorem free_bad (w : World) (b N : Nat) (page order : Int) (G : Bl) (h : Bud w b N G) (hno : ¬ (0 ≤ order ∧ order ≤ N ∧ 0 ≤ page ∧ page < 2 ^ N ∧ page.toNat % 2 ^ order.toNat = 0)) :
    Calls Try.prog 71 #[.pointer (some ⟨b, 0, none⟩), .int .i64 page, .int .i64 order] w fun e w' => e = .returned (.int .i64 7) ∧ w = w' := by
  have HI := Lib.hid (err_in w b N page order G h hno)
  obtain ⟨Fr, Gv, h1, h2⟩ := h
  have HS := Lib.hid (is_ok w b N Fr Gv h1)
  clear hno h1 h2
  go_enter Try.func71, Try.ntmps71
  go_wp2_with (first | (go_at_call 47; refine HS.out.mono ?_; rintro e w' ⟨rfl, rfl⟩) | (go_at_call 88; refine HI.out.mono ?_; rintro e w' ⟨rfl, rfl⟩))
  go_ret
  exact ⟨rfl, rfl⟩

set_option maxHeartbeats 1000000 in
theorem free_not (w : World) (b N page order : Nat) (G : Bl) (h : Bud w b N G) (ho : order ≤ N) (hp : page < 2 ^ N) (hd : page % 2 ^ order = 0) (hg : ¬ G order (page / 2 ^ order)) :
    Calls Try.prog 71 #[.pointer (some ⟨b, 0, none⟩), .int .i64 page, .int .i64 order] w fun e w' => e = .returned (.int .i64 9) ∧ w = w' := by
  obtain ⟨Fr, Gv, h1, h2⟩ := h
  have hn := h2.n10
  have hp2 : page < 1024 := Nat.lt_of_lt_of_le hp (by
    have : 2 ^ N ≤ 2 ^ 10 := Nat.pow_le_pow_right (by omega) hn
    omega)
  have HS := Lib.hid (is_ok w b N Fr Gv h1)
  have HI0 := in_ok w b N page order Fr Gv h1 hn ho hp
  rw [decide_eq_true hd] at HI0
  have HI := Lib.hid HI0
  have HH0 := has_ok w b (178 + order * 16) page (Gv order) (h1.given (by omega)) hp2
  have hgf : Gv order page = false := by
    rw [← Bool.not_eq_true, h2.given order page (by omega) hp2]
    exact fun h => hg h.2
  rw [hgf] at HH0
  have HH := Lib.hid HH0
  have e1 : (0 : Int) ≤ (order : Int) := by omega
  have e2 : (order : Int) < 11 := by omega
  clear HI0 HH0 hgf h1 h2 hg hd
  go_enter Try.func71, Try.ntmps71
  go_wp2_with (first | (go_at_call 47; refine HS.out.mono ?_; rintro e w' ⟨rfl, rfl⟩) | (go_at_call 88; refine HI.out.mono ?_; rintro e w' ⟨rfl, rfl⟩) | (go_at_call 86; refine HH.out.mono ?_; rintro e w' ⟨rfl, rfl⟩))
  go_ret
  exact ⟨rfl, rfl⟩

theorem flip_at (page k : Nat) (hp : page < 1024) (hk : k ≤ 10) : bits .xor .i64 ((page / 2 ^ k * 2 ^ k : Nat) : Int) (IntKind.i64.wrap ((2 : Int) ^ k)) = ((sib (page / 2 ^ k) * 2 ^ k : Nat) : Int) := by
  have h := Nat.div_mul_le_self page (2 ^ k)
  rw [pow_i64 k (by omega), flip_page _ _ (by omega) (by omega)]
theorem clear_at (page k : Nat) (hp : page < 1024) (hk : k ≤ 10) : bits .andNot .i64 ((page / 2 ^ k * 2 ^ k : Nat) : Int) (wrap64 ((2 : Int) ^ k)) = ((page / 2 ^ (k + 1) * 2 ^ (k + 1) : Nat) : Int) := by
  have h := Nat.div_mul_le_self page (2 ^ k)
  rw [pow_w64 k (by omega), clear_page _ _ (by omega) (by omega), div_step]
theorem div_off {page order m : Nat} : page / 2 ^ order / 2 ^ m = page / 2 ^ (order + m) := (div_pow _ _ _).symm

theorem Grow1.drewN {g : Nat} {a b : World} (h : Grow1 g a b) (n : Nat) : Grow1 g a (b.drewN n) := ⟨h.os, h.tape, h.output, h.size, h.block⟩

theorem freed {w : World} {b N page order m i : Nat} {G : Bl} {Fr Gv : Nat → Nat → Bool} (h2 : Sem N Fr Gv G) (hg : G order i) (hi : i = page / 2 ^ order) (hpo : page / 2 ^ order * 2 ^ order = page)
    (hf : Free (del G order i) (order + m) (i / 2 ^ m)) (hm : order + m ≤ N) (hp2 : page < 1024) (hend : order + m = N ∨ Fr (order + m) (sib (page / 2 ^ (order + m)) * 2 ^ (order + m)) = false)
    (hB : Bu w b N (unhalves Fr order (order + m) page) (upd Gv order (sdel (Gv order) page))) :
    Bud (setW w b (2 + (order + m) * 16) (page / 2 ^ (order + m) * 2 ^ (order + m)) (sadd (Fr (order + m)) (page / 2 ^ (order + m) * 2 ^ (order + m)))) b N (del G order i) := by
  have hn := h2.n10
  have hX0 : page / 2 ^ (order + m) = i / 2 ^ m := by rw [hi, div_pow]
  have hpi : i * 2 ^ order = page := by rw [hi]; exact hpo
  have hM : MaxFree (del G order i) N (order + m) (i / 2 ^ m) := by
    refine merge_end h2.ok hg hf hm ?_
    rcases hend with he | he
    · exact .inl he
    · by_cases hN : order + m = N
      · exact .inl hN
      · refine .inr fun hx => ?_
        have := (h2.free (order + m) (sib (page / 2 ^ (order + m)) * 2 ^ (order + m)) (by omega) (sib_lt hp2 (by omega))).2 ⟨Nat.mul_mod_left _ _, by rw [first, hX0]; exact hx⟩
        rw [he] at this
        cases this
  have hS := sem_merge h2 hg hM
  rw [hpi] at hS
  have hP := Bu.putF hB (k := order + m) (p := page / 2 ^ (order + m) * 2 ^ (order + m)) (by omega) (Nat.lt_of_le_of_lt (Nat.div_mul_le_self _ _) hp2)
  rw [← hX0] at hS
  have hsame : unhalves Fr order (order + m) page (order + m) = Fr (order + m) := by unfold unhalves; rw [if_neg (by omega)]
  rw [hsame] at hP hS
  exact ⟨_, _, hP, hS⟩

set_option maxRecDepth 100000 in
set_option maxHeartbeats 2000000 in
theorem free_ok (w : World) (b N page order : Nat) (G : Bl) (h : Bud w b N G) (ho : order ≤ N) (hp : page < 2 ^ N) (hd : page % 2 ^ order = 0) (hg : G order (page / 2 ^ order)) :
    Calls Try.prog 71 #[.pointer (some ⟨b, 0, none⟩), .int .i64 page, .int .i64 order] w fun e w' => e = .returned (.int .i64 0) ∧ Grow1 b w w' ∧ Bud w' b N (del G order (page / 2 ^ order)) := by
  obtain ⟨Fr, Gv, h1, h2⟩ := h
  have hn := h2.n10
  have hp2 : page < 1024 := Nat.lt_of_lt_of_le hp (by
    have : 2 ^ N ≤ 2 ^ 10 := Nat.pow_le_pow_right (by omega) hn
    omega)
  have HS := Lib.hid (is_ok w b N Fr Gv h1)
  have HI0 := in_ok w b N page order Fr Gv h1 hn ho hp
  rw [decide_eq_true hd] at HI0
  have HI := Lib.hid HI0
  have HH0 := has_ok w b (178 + order * 16) page (Gv order) (h1.given (by omega)) hp2
  have hgf : Gv order page = true := (h2.given order page (by omega) hp2).2 ⟨hd, hg⟩
  rw [hgf] at HH0
  have HH := Lib.hid HH0
  have e1 : (0 : Int) ≤ (order : Int) := by omega
  have e2 : (order : Int) < 11 := by omega
  have HT := Lib.hid (take_ok w b (178 + order * 16) page (Gv order) (h1.given (by omega)) hp2)
  obtain ⟨W1, hW1⟩ : ∃ W1, W1 = setW w b (178 + order * 16) page (sdel (Gv order) page) := ⟨_, rfl⟩
  have hB1 : Bu W1 b N Fr (upd Gv order (sdel (Gv order) page)) := by rw [hW1]; exact Bu.takeG h1 (by omega) hp2
  have hG1 : Grow1 b w W1 := by rw [hW1]; exact setW_grow _ _ _ _ _
  rw [← hW1] at HT
  replace HT := Lib.hid (HT.out.mono fun _ _ h => And.intro h.1 h.2.symm)
  obtain ⟨i, hi⟩ : ∃ i, i = page / 2 ^ order := ⟨_, rfl⟩
  rw [← hi] at hg ⊢
  have hX0 : ∀ m, page / 2 ^ (order + m) = i / 2 ^ m := fun m => by rw [hi, div_pow]
  have hf0 : Free (del G order i) (order + 0) (i / 2 ^ 0) := by
    rw [Nat.pow_zero, Nat.div_one]
    exact free_del_self h2.ok hg
  have hpo : page / 2 ^ order * 2 ^ order = page := mul_of_mod hd
  have H2 := Lib.hid (And.intro h2 (And.intro hg (And.intro hi (And.intro hX0 (And.intro hpo (And.intro hG1 hB1))))))
  have HF0 := Lib.hid hf0
  clear HI0 HH0 hgf h1 h2 hg hd hB1 hG1 hf0 hX0 hi hW1 hpo
  go_enter Try.func71, Try.ntmps71
  go_wp2_with (first | (go_at_call 47; refine HS.out.mono ?_; rintro e w' ⟨rfl, rfl⟩) | (go_at_call 88; refine HI.out.mono ?_; rintro e w' ⟨rfl, rfl⟩) | (go_at_call 86; refine HH.out.mono ?_; rintro e w' ⟨rfl, rfl⟩) | (go_at_call 91; refine HT.out.mono ?_; rintro e w' ⟨rfl, rfl⟩))
  go_loopw [1, 2] (fun vp vo wr => ∃ m : Nat, order + m ≤ N ∧ vp = .int .i64 ((page / 2 ^ (order + m) * 2 ^ (order + m) : Nat) : Int) ∧ vo = .int .i64 ((order + m : Nat) : Int) ∧ Free (del G order i) (order + m) (i / 2 ^ m) ∧
      Bu wr b N (unhalves Fr order (order + m) page) (upd Gv order (sdel (Gv order) page)) ∧ Grow1 b W1 wr) (fun _ vo _ => N - (intOf vo).toNat)
  case atStart => exact ⟨0, ho, by rw [Nat.add_zero, H2.out.2.2.2.2.1], rfl, HF0.out, by rw [Nat.add_zero, unhalves_none]; exact H2.out.2.2.2.2.2.2, Grow1.refl _ _⟩
  case round =>
    obtain ⟨m, hm, rfl, rfl, hf, hB, hG⟩ := hrel
    obtain ⟨k, hk⟩ : ∃ k, k = order + m := ⟨_, rfl⟩
    have hk10 : k ≤ 10 := by omega
    have hsame : unhalves Fr order k page k = Fr k := by unfold unhalves; rw [if_neg (by omega)]
    rw [← hk] at hm hB hf ⊢
    have hc1 := hB.head.2
    have hxv := flip_at page k hp2 hk10
    have hyv := clear_at page k hp2 hk10
    have hHk : k < N → ∀ q, Calls Try.prog 86 #[.pointer (some ⟨b, 2 + k * 16, none⟩), .int .i64 ((sib (page / 2 ^ k) * 2 ^ k : Nat) : Int)] (wr.drewN q) fun e w' => e = .returned (.bool (Fr k (sib (page / 2 ^ k) * 2 ^ k))) ∧ wr.drewN q = w' := fun hlt q => by
      have := has_ok (wr.drewN q) b (2 + k * 16) (sib (page / 2 ^ k) * 2 ^ k) (unhalves Fr order k page k) (hB.free (by omega)) (sib_lt hp2 (by omega))
      rw [hsame] at this
      exact this
    have hoff : page / 2 ^ k * 2 ^ k < 1024 := Nat.lt_of_le_of_lt (Nat.div_mul_le_self _ _) hp2
    have hc0 : (0 : Int) ≤ (k : Int) := by omega
    have hc11 : (k : Int) < 11 := by omega
    have hkeep : k < N → ∀ x, (sib (page / 2 ^ k) * 2 ^ k < 1024) ∧ Bu (setW x b (2 + k * 16) (sib (page / 2 ^ k) * 2 ^ k) (sdel (Fr k) (sib (page / 2 ^ k) * 2 ^ k))) b N (unhalves Fr order (k + 1) page) (upd Gv order (sdel (Gv order) page)) ∨ ¬ Bu x b N (unhalves Fr order k page) (upd Gv order (sdel (Gv order) page)) := fun hlt x => by
      by_cases hx : Bu x b N (unhalves Fr order k page) (upd Gv order (sdel (Gv order) page))
      · refine .inl ⟨sib_lt hp2 (by omega), ?_⟩
        have := Bu.takeF hx (k := k) (p := sib (page / 2 ^ k) * 2 ^ k) (by omega) (sib_lt hp2 (by omega))
        rw [unhalves_next Fr order k page (by omega), hsame] at this
        exact this
      · exact .inr hx
    obtain ⟨p, hpp⟩ : ∃ p, p = page / 2 ^ k * 2 ^ k := ⟨_, rfl⟩
    obtain ⟨s, hss⟩ : ∃ s, s = sib (page / 2 ^ k) * 2 ^ k := ⟨_, rfl⟩
    obtain ⟨p2, hp22⟩ : ∃ p, p = page / 2 ^ (k + 1) * 2 ^ (k + 1) := ⟨_, rfl⟩
    rw [← hpp] at hxv hyv hoff ⊢
    rw [← hss] at hxv hHk hkeep
    rw [← hp22] at hyv
    have HX := Lib.hid (And.intro hf (And.intro hB (And.intro hG (And.intro hHk (And.intro hkeep (And.intro hm (And.intro hk (And.intro hoff (And.intro hsame (And.intro hpp (And.intro hss hp22)))))))))))
    have HV := Lib.hid hxv
    clear hf hB hG hHk hkeep hxv hoff hsame hpp hss hp22
    by_cases hlt : k < N
    · have hlt' : (k : Int) < (N : Int) := by omega
      cases hS : Fr k s with
      | true =>
        have HQ := HX.out.2.2.2.1 hlt
        rw [hS] at HQ
        have HQ := Lib.hid HQ
        clear hk hm
        go_wp2_with (fail)
        go_quiet ((go_at_call 86; rw [HV.out]; exact Calls.quiet_of_same ((HQ.out _).mono fun _ _ h => ⟨h.1, h.2.symm⟩)))
        go_wp2_with (fail)
        generalize hq : wr.drewN _ = wq
        have hBq : Bu wq b N (unhalves Fr order k page) (upd Gv order (sdel (Gv order) page)) := by rw [← hq]; exact HX.out.2.1.keep rfl
        have hGq : Grow1 b W1 wq := by rw [← hq]; exact ⟨HX.out.2.2.1.os, HX.out.2.2.1.tape, HX.out.2.2.1.output, HX.out.2.2.1.size, HX.out.2.2.1.block⟩
        have hs1024 : s < 1024 := by rw [HX.out.2.2.2.2.2.2.2.2.2.2.1]; exact sib_lt hp2 (by omega)
        have HT2 := Lib.hid (take_ok wq.drew b (2 + k * 16) s (unhalves Fr order k page k) (hBq.free (by omega)) hs1024)
        have hB3 : Bu (setW wq.drew b (2 + k * 16) s (sdel (unhalves Fr order k page k) s)) b N (unhalves Fr order (k + 1) page) (upd Gv order (sdel (Gv order) page)) := by
          have := Bu.takeF (w := wq.drew) (hBq.keep rfl) (k := k) (p := s) (by omega) hs1024
          rw [HX.out.2.2.2.2.2.2.2.2.2.2.1, unhalves_next Fr order k page (by rw [HX.out.2.2.2.2.2.2.1]; omega)] at this
          rw [HX.out.2.2.2.2.2.2.2.2.2.2.1]
          exact this
        have hG3 : Grow1 b W1 (setW wq.drew b (2 + k * 16) s (sdel (unhalves Fr order k page k) s)) := (hGq.trans (Grow1.refl b wq).drew).trans (setW_grow _ _ _ _ _)
        generalize setW wq.drew b (2 + k * 16) s (sdel (unhalves Fr order k page k) s) = w3 at *
        have H3 := Lib.hid (And.intro hB3 hG3)
        clear hB3 hG3 hBq hGq hq
        rw [HV.out]
        go_cut [59] from 50 to 59 (fun _ wx => wx = w3)
        case first =>
          go_region_with ((go_at_call 91; rw [HV.out]; refine HT2.out.mono ?_; rintro e w4 ⟨rfl, rfl⟩))
          all_goals
            go_wp2_with (fail)
            go_meet
            rfl
        case rest =>
          rw [hcut]
          clear hcut
          go_wp2
          go_roundw
          case rel =>
            obtain ⟨m', hm'⟩ : ∃ m', k = order + m' := ⟨m, HX.out.2.2.2.2.2.2.1⟩
            refine ⟨m + 1, by have := HX.out.2.2.2.2.2.2.1; omega, ?_, ?_, ?_, ?_, H3.out.2⟩
            · rw [← Nat.add_assoc, ← HX.out.2.2.2.2.2.2.1, ← HX.out.2.2.2.2.2.2.2.2.2.2.2]
            · rw [← Nat.add_assoc, ← HX.out.2.2.2.2.2.2.1]; go_num
            · refine merge_on H2.out.1.ok H2.out.2.1 (by rw [← HX.out.2.2.2.2.2.2.1]; exact HX.out.1) ?_
              have h5 := (H2.out.1.free k s (by omega) hs1024).1 hS
              have h6 : s / 2 ^ k = sib (i / 2 ^ m) := by
                rw [HX.out.2.2.2.2.2.2.2.2.2.2.1, first, HX.out.2.2.2.2.2.2.1, H2.out.2.2.2.1]
              rw [h6] at h5
              rw [← HX.out.2.2.2.2.2.2.1]
              exact h5.2
            · rw [← Nat.add_assoc, ← HX.out.2.2.2.2.2.2.1]; exact H3.out.1
          case measure => simp [intOf]; omega
      | false =>
        have HQ := HX.out.2.2.2.1 hlt
        rw [hS] at HQ
        have HQ := Lib.hid HQ
        clear hk hm
        go_wp2_with (fail)
        go_quiet ((go_at_call 86; rw [HV.out]; exact Calls.quiet_of_same ((HQ.out _).mono fun _ _ h => ⟨h.1, h.2.symm⟩)))
        have hend : ∀ q, k < 11 ∧ p < 1024 ∧ SetAt (wr.drewN q) b (2 + k * 16) (Fr k) := fun q => ⟨by omega, HX.out.2.2.2.2.2.2.2.1, by
          have := (HX.out.2.1.free (k := k) (by omega))
          rw [HX.out.2.2.2.2.2.2.2.2.1] at this
          exact this⟩
        have HE := Lib.hid hend
        clear hend
        go_wp2_with (go_at_call 44; refine (put_ok _ b (2 + k * 16) p (Fr k) (HE.out _).2.2 (HE.out 0).2.1).mono ?_; rintro e w4 ⟨rfl, rfl⟩)
        go_ret
        refine ⟨rfl, ?_, ?_⟩
        · exact (H2.out.2.2.2.2.2.1.trans (HX.out.2.2.1.drewN _)).trans (setW_grow _ _ _ _ _)
        · rw [HX.out.2.2.2.2.2.2.2.2.2.1, HX.out.2.2.2.2.2.2.1]
          refine freed H2.out.1 H2.out.2.1 H2.out.2.2.1 H2.out.2.2.2.2.1 (by rw [← HX.out.2.2.2.2.2.2.1]; exact HX.out.1) (by rw [← HX.out.2.2.2.2.2.2.1]; exact HX.out.2.2.2.2.2.1) hp2 (.inr ?_) ?_
          · rw [← HX.out.2.2.2.2.2.2.1, ← HX.out.2.2.2.2.2.2.2.2.2.2.1]; exact hS
          · rw [← HX.out.2.2.2.2.2.2.1]; exact HX.out.2.1.keep rfl
    · obtain rfl : k = N := by omega
      have hlt' : decide ((k : Int) < (k : Int)) = false := by simp
      have hend : ∀ q, k < 11 ∧ p < 1024 ∧ SetAt (wr.drewN q) b (2 + k * 16) (Fr k) := fun q => ⟨by omega, HX.out.2.2.2.2.2.2.2.1, by
        have := (HX.out.2.1.free (k := k) (by omega))
        rw [HX.out.2.2.2.2.2.2.2.2.1] at this
        exact this⟩
      have HE := Lib.hid hend
      clear hend hk hm
      go_wp2_with (fail)
      go_quiet (fail)
      go_wp2_with (go_at_call 44; refine (put_ok _ b (2 + k * 16) p (Fr k) (HE.out _).2.2 (HE.out 0).2.1).mono ?_; rintro e w4 ⟨rfl, rfl⟩)
      go_ret
      refine ⟨rfl, ?_, ?_⟩
      · exact (H2.out.2.2.2.2.2.1.trans (HX.out.2.2.1.drewN _)).trans (setW_grow _ _ _ _ _)
      · rw [HX.out.2.2.2.2.2.2.2.2.2.1, HX.out.2.2.2.2.2.2.1]
        have hk2 := HX.out.2.2.2.2.2.2.1
        subst hk2
        exact freed H2.out.1 H2.out.2.1 H2.out.2.2.1 H2.out.2.2.2.2.1 HX.out.1 (Nat.le_refl _) hp2 (.inl rfl) (HX.out.2.1.keep rfl)
end Bu
end Go.Proofs.Ytlknhbcambdccaa
namespace Go.Proofs.Ytlknhbcambdccaa
open Go.RowKit
namespace Bu

/-- The marks that ranges left on a frame: each names a block of deferred calls that holds none. -/
def Marks (lo : Nat) (W : World) : Nat → List Deferred → Prop
  | _, [] => True
  | hi, d :: ds => ∃ r, lo ≤ r ∧ r < hi ∧ d = { target := .collected r, args := #[] } ∧ W.heap[r]? = some (.deferred (some [])) ∧ Marks lo W r ds

theorem Marks.keep {lo : Nat} {W W' : World} : ∀ {ds : List Deferred} {hi hi' : Nat}, Marks lo W hi ds → hi ≤ hi' → (∀ k, lo ≤ k → W.heap[k]? = some (.deferred (some [])) → W'.heap[k]? = some (.deferred (some []))) → Marks lo W' hi' ds := by
  intro ds
  induction ds with
  | nil => intro _ _ _ _ _; trivial
  | cons d ds ih =>
    rintro hi hi' ⟨r, h1, h2, h3, h4, h5⟩ hle hk
    exact ⟨r, h1, by omega, h3, hk r h1 h4, ih h5 (Nat.le_refl _) hk⟩

/-- Two worlds that differ in blocks of deferred calls from lo on alone. -/
structure Shut (lo : Nat) (W W' : World) : Prop where
  os : W'.os = W.os
  tape : W'.tape = W.tape
  output : W'.output = W.output
  size : W'.heap.size = W.heap.size
  block : ∀ k, k < lo → W'.heap[k]? = W.heap[k]?

theorem Shut.refl (lo : Nat) (W : World) : Shut lo W W := ⟨rfl, rfl, rfl, rfl, fun _ _ => rfl⟩

theorem leaves_marks {F : Fence} {n : Nat} {P : Program} {fn : Func} {tmps : Array Value} {R : Ending → World → Prop} (lo : Nat) : ∀ (ds : List Deferred) (hi : Nat) (W : World), Marks lo W hi ds →
    (∀ W', Shut lo W W' → ∃ v, (results fn tmps).run P W' = .ok v W' ∧ R (.returned v) W') → LeavesInM F n P fn tmps R ds .returning W := by
  intro ds
  induction ds with
  | nil => intro _ W _ h; exact h W (Shut.refl _ _)
  | cons d ds ih =>
    rintro hi W ⟨r, h1, h2, rfl, h4, h5⟩ h
    refine ⟨by simp, .inl ⟨r, _, rfl, run_takeDeferred h4, ih r _ ?_ ?_⟩⟩
    · have key : ∀ (ds : List Deferred) (hi : Nat), hi ≤ r → Marks lo W hi ds → Marks lo (W.putObj r (.deferred none)) hi ds := by
        intro ds
        induction ds with
        | nil => intro _ _ _; trivial
        | cons d ds ih2 =>
          rintro hi hle ⟨q, g1, g2, g3, g4, g5⟩
          exact ⟨q, g1, g2, g3, by rw [World.putObj_heap_other (by omega)]; exact g4, ih2 q (by omega) g5⟩
      exact key ds r (Nat.le_refl _) h5
    · intro W' hs
      refine h W' ⟨hs.os, hs.tape, hs.output, by rw [hs.size]; simp, fun k hk => ?_⟩
      rw [hs.block k hk, World.putObj_heap_other (by omega)]

theorem loopK {F : Fence} {rm : Nat} {P : Program} {Q : Exit → Act → World → Prop} {a : Act} {w : World} {c : Code} (I : Nat → Act → World → Prop) (n₀ : Nat) (h₀ : I n₀ a w)
    (round : ∀ n a w, I n a w → ∀ K : Act → World → Prop, (∀ k a' w', k < n → I k a' w' → K a' w') → c.wpIn F rm P (Exit.then K Q) a w) : (Code.loop c).wpIn F rm P Q a w :=
  wpIn_loop_ghost I n₀ h₀ fun n a w h => round n a w h _ fun k _ _ h1 h2 => ⟨k, h1, h2⟩
end Bu
end Go.Proofs.Ytlknhbcambdccaa
