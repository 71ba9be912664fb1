/- carve. in, around. AllocAt. -/
import Derived.Test.YtlknhbcambdccaaK4
import Derived.Laws.EntriesVeiled
import Derived.Test.YtlknhbcambdccaaK3
namespace Go.Proofs.Ytlknhbcambdccaa
open Go.RowKit
namespace Bu

/-- The sets behind carve. -/
def carveF (Fr : Nat → Nat → Bool) (page order frm : Nat) : Nat → Nat → Bool := halves (upd Fr frm (sdel (Fr frm) (page / 2 ^ frm * 2 ^ frm))) order frm page
def putIn (Gv : Nat → Nat → Bool) (page order : Nat) : Nat → Nat → Bool := upd Gv order (sadd (Gv order) page)

theorem cell_of_block {w w' : World} {b o : Nat} (h : w'.heap[b]? = w.heap[b]?) : w'.cell? ⟨b, o, none⟩ = w.cell? ⟨b, o, none⟩ := World.cell?_of_block (a := ⟨b, o, none⟩) h

set_option maxRecDepth 100000 in
set_option maxHeartbeats 2000000 in
theorem carve_ok (w : World) (b N page order j : Nat) (Fr Gv : Nat → Nat → Bool) (hB : Bu w b N Fr Gv) (hp : page < 1024) (hj : order + j ≤ 10) :
    Calls Try.prog 74 #[.pointer (some ⟨b, 0, none⟩), .int .i64 page, .int .i64 order, .int .i64 ((order + j : Nat) : Int)] w fun e w' => e = .returned (.tuple #[]) ∧ Bu w' b N (carveF Fr page order (order + j)) (putIn Gv page order) ∧ Grow1 b w w' := by
  obtain ⟨a, ha⟩ : ∃ a, a = order + j := ⟨_, rfl⟩
  rw [← ha]
  have hbl := hB.lt
  have hoff : page / 2 ^ a * 2 ^ a < 1024 := Nat.lt_of_le_of_lt (Nat.div_mul_le_self _ _) hp
  -- the three boxes
  obtain ⟨W0, hW0⟩ : ∃ W0, W0 = ((w.alloc (.cells #[.pointer (some ⟨b, 0, none⟩)] 33)).alloc (.cells #[.int .i64 (page : Int)] 3)).alloc (.cells #[.int .i64 (order : Int)] 3) := ⟨_, rfl⟩
  have hs0 : W0.heap.size = w.heap.size + 3 := by rw [hW0]; simp
  have hk0 : ∀ k, k < w.heap.size → W0.heap[k]? = w.heap[k]? := fun k hk => by
    rw [hW0, alloc_old _ _ _ (by simp; omega), alloc_old _ _ _ (by simp; omega), alloc_old _ _ _ hk]
  have x0 : W0.cell? ⟨w.heap.size, 0, none⟩ = some (.pointer (some ⟨b, 0, none⟩)) := by
    refine (one_cell (T := 33) ?_).1
    rw [hW0, heapAlloc, if_neg (by simp; omega), heapAlloc, if_neg (by simp), heapAlloc, if_pos rfl]
  have x1 : W0.cell? ⟨w.heap.size + 1, 0, none⟩ = some (.int .i64 (page : Int)) := by
    refine (one_cell (T := 3) ?_).1
    rw [hW0, heapAlloc, if_neg (by simp), heapAlloc, if_pos (by simp)]
  have x2 : W0.cell? ⟨w.heap.size + 1 + 1, 0, none⟩ = some (.int .i64 (order : Int)) := by
    refine (one_cell (T := 3) ?_).1
    rw [hW0, heapAlloc, if_pos (by simp)]
  have hB0 : Bu W0 b N Fr Gv := hB.keep (hk0 b hbl)
  have hG0 : Grow1 b w W0 := by rw [hW0]; exact (((Grow1.refl b w).alloc _).alloc _).alloc _
  have HP1 := Lib.hid (take_ok W0.drew b (2 + a * 16) (page / 2 ^ a * 2 ^ a) (Fr a) (hB0.free (by omega)) hoff)
  have hB1 : Bu (setW W0.drew b (2 + a * 16) (page / 2 ^ a * 2 ^ a) (sdel (Fr a) (page / 2 ^ a * 2 ^ a))) b N (upd Fr a (sdel (Fr a) (page / 2 ^ a * 2 ^ a))) Gv := hB0.takeF (k := a) (p := page / 2 ^ a * 2 ^ a) (by omega) hoff
  have hG1 := setW_grow W0.drew b (2 + a * 16) (page / 2 ^ a * 2 ^ a) (sdel (Fr a) (page / 2 ^ a * 2 ^ a))
  have hs1 := setW_size W0.drew b (2 + a * 16) (page / 2 ^ a * 2 ^ a) (sdel (Fr a) (page / 2 ^ a * 2 ^ a))
  replace hs1 : (setW W0.drew b (2 + a * 16) (page / 2 ^ a * 2 ^ a) (sdel (Fr a) (page / 2 ^ a * 2 ^ a))).heap.size = w.heap.size + 3 := hs1.trans hs0
  have hf1 : ∀ x, x ≠ b → (setW W0.drew b (2 + a * 16) (page / 2 ^ a * 2 ^ a) (sdel (Fr a) (page / 2 ^ a * 2 ^ a))).heap[x]? = W0.heap[x]? := fun x hx => setW_far _ _ _ _ _ _ hx
  generalize setW W0.drew b (2 + a * 16) (page / 2 ^ a * 2 ^ a) (sdel (Fr a) (page / 2 ^ a * 2 ^ a)) = W1 at *
  -- the box of the closure
  have y0 : ∀ o, (W1.alloc o).cell? ⟨w.heap.size, 0, none⟩ = some (.pointer (some ⟨b, 0, none⟩)) := fun o => (cell_of_block ((alloc_old W1 o _ (by omega)).trans (hf1 _ (by omega)))).trans x0
  have y1 : ∀ o, (W1.alloc o).cell? ⟨w.heap.size + 1, 0, none⟩ = some (.int .i64 (page : Int)) := fun o => (cell_of_block ((alloc_old W1 o _ (by omega)).trans (hf1 _ (by omega)))).trans x1
  have y2 : ∀ o, (W1.alloc o).cell? ⟨w.heap.size + 1 + 1, 0, none⟩ = some (.int .i64 (order : Int)) := fun o => (cell_of_block ((alloc_old W1 o _ (by omega)).trans (hf1 _ (by omega)))).trans x2
  have hB2 : ∀ o, Bu (W1.alloc o) b N (upd Fr a (sdel (Fr a) (page / 2 ^ a * 2 ^ a))) Gv := fun o => hB1.keep (alloc_old W1 o b hB1.lt)
  have hG2 : ∀ o, Grow1 b W1 (W1.alloc o) := fun o => (Grow1.refl b W1).alloc o
  have HH := Lib.hid (halve_ok b N order page (w.heap.size + 1 + 1) w.heap.size (w.heap.size + 1) (w.heap.size + 3) hp (by omega) j (W1.alloc (.cells #[.func (.func 93) #[] #[.pointer (some ⟨w.heap.size + 1 + 1, 0, none⟩), .pointer (some ⟨w.heap.size, 0, none⟩), .pointer (some ⟨w.heap.size + 1, 0, none⟩), .pointer (some ⟨w.heap.size + 3, 0, none⟩)]] 105)) _ Gv hj (hB2 _) (y2 _) (y0 _) (y1 _) (by
    refine (one_cell (T := 105) ?_).1
    rw [heapAlloc, if_pos hs1.symm]))
  rw [← ha] at HH
  have HF := Lib.hid (And.intro hG0 (And.intro hG1 (And.intro hG2 (And.intro y0 (And.intro y1 y2)))))
  have hsz2 : ∀ o, (W1.alloc o).heap.size = w.heap.size + 4 := fun o => by simp; omega
  have ha10 : a ≤ 10 := by omega
  have i1 : (0 : Int) ≤ (a : Int) := by omega
  have i3 : (a : Int) < 11 := by omega
  have i4 : (0 : Int) ≤ (order : Int) := by omega
  have i5 : (order : Int) < 11 := by omega
  have ho11 : order < 11 := by omega
  have HS2 := Lib.hid hsz2
  clear hB hB0 hB1 hB2 hG0 hG1 hG2 hk0 hf1 y0 y1 y2 ha hj hoff hsz2
  go_enter Try.func74, Try.ntmps74
  go_wp2_with fail
  rw [← hW0]
  clear hW0
  go_cut [19] from 9 to 19 (fun _ wx => wx = W1)
  case first =>
    go_region_with ((go_at_call 91; rw [off_val page a hp ha10]; refine HP1.out.mono ?_; rintro e w3 ⟨rfl, rfl⟩))
    all_goals
      go_wp2_with (fail)
      go_meet
      rfl
  case rest =>
    rw [hcut]
    clear hcut
    have hW1b : b < W1.heap.size := by omega
    go_wp2_with (go_at_call 93; fail)
    refine HH.out.mono ?_
    rintro e w4 ⟨rfl, hB4, hg4⟩
    have hgs := hg4.size
    have z0 := (cell_of_block (o := 0) (hg4.block w.heap.size (by rw [HS2.out]; omega) (by omega))).trans (HF.out.2.2.2.1 _)
    have z1 := (cell_of_block (o := 0) (hg4.block (w.heap.size + 1) (by rw [HS2.out]; omega) (by omega))).trans (HF.out.2.2.2.2.1 _)
    have z2 := (cell_of_block (o := 0) (hg4.block (w.heap.size + 1 + 1) (by rw [HS2.out]; omega) (by omega))).trans (HF.out.2.2.2.2.2 _)
    have HP2 := Lib.hid (put_ok w4.drew b (178 + order * 16) page (Gv order) (hB4.given ho11) hp)
    have HB5 := Lib.hid (And.intro (Bu.putG (w := w4.drew) hB4.drew (k := order) (p := page) ho11 hp) hg4)
    clear hB4 hg4 hgs
    go_wp2_with fail
    go_region_with ((go_at_call 44; refine HP2.out.mono ?_; rintro e w5 ⟨rfl, rfl⟩))
    all_goals
      go_wp2
      go_end0
      exact ⟨rfl, HB5.out.1, HF.out.1.trans ((Grow1.refl b W0).drew.trans (HF.out.2.1.trans ((HF.out.2.2.1 _).trans (HB5.out.2.trans ((Grow1.refl b w4).drew.trans (setW_grow _ _ _ _ _))))))⟩
end Bu
end Go.Proofs.Ytlknhbcambdccaa
namespace Go.Proofs.Ytlknhbcambdccaa
open Go.RowKit
namespace Bu

theorem and_val (page a : Nat) (hp : page < 1024) (ha : a ≤ 10) : bits .and .i64 (page : Int) (IntKind.i64.wrap (IntKind.i64.wrap ((2 : Int) ^ a) - 1)) = ((page % 2 ^ a : Nat) : Int) := by
  rw [pow_i64_pred a (by omega), mask_and page a (by omega) (by omega)]

theorem w64 (x : Int) : IntKind.i64.wrap x = wrap64 x := by unfold wrap64; exact IntKind.wrap_i64 x
theorem pow_w64 (a : Nat) (ha : a ≤ 11) : wrap64 ((2 : Int) ^ a) = ((2 ^ a : Nat) : Int) := by rw [← w64]; exact pow_i64 a ha
theorem and_w64 (page a : Nat) (hp : page < 1024) (ha : a ≤ 10) : bits .and .i64 (page : Int) (wrap64 (wrap64 ((2 : Int) ^ a) - 1)) = ((page % 2 ^ a : Nat) : Int) := by
  rw [← w64, ← w64]; exact and_val page a hp ha
theorem nat_eq0 (n : Nat) : (((n : Nat) : Int) == 0) = decide (n = 0) := by
  cases n with
  | zero => rfl
  | succ n =>
    rw [decide_eq_false (by omega), beq_eq_false_iff_ne]
    omega

set_option maxRecDepth 100000 in
set_option maxHeartbeats 1000000 in
theorem in_ok (w : World) (b N page order : Nat) (Fr Gv : Nat → Nat → Bool) (hB : Bu w b N Fr Gv) (hN : N ≤ 10) (ho : order ≤ N) (hp : page < 2 ^ N) :
    Calls Try.prog 88 #[.pointer (some ⟨b, 0, none⟩), .int .i64 page, .int .i64 order] w fun e w' => e = .returned (.bool (decide (page % 2 ^ order = 0))) ∧ w = w' := by
  obtain ⟨_, h1⟩ := hB.head
  have h1024 : 2 ^ N ≤ 1024 := by
    have : 2 ^ N ≤ 2 ^ 10 := Nat.pow_le_pow_right (by omega) hN
    omega
  obtain ⟨M, hM⟩ : ∃ M : Nat, M = 2 ^ N := ⟨_, rfl⟩
  have hpw := pow_w64 N (by omega)
  rw [← hM] at hpw hp h1024
  have hav := and_w64 page order (by omega) (by omega)
  have e1 : (0 : Int) ≤ (order : Int) := by omega
  have e2 : (order : Int) ≤ (N : Int) := by omega
  have e3 : (0 : Int) ≤ (page : Int) := by omega
  have e4 : (page : Int) < (M : Int) := by omega
  have e5 : (0 : Int) ≤ (N : Int) := by omega
  obtain ⟨r, hr⟩ : ∃ r : Nat, r = page % 2 ^ order := ⟨_, rfl⟩
  rw [← hr] at hav ⊢
  clear hB hM hr
  go_enter Try.func88, Try.ntmps88
  go_wp2
  go_ret
  exact ⟨congrArg (fun x => Ending.returned (.bool x)) (nat_eq0 r), rfl⟩

set_option maxRecDepth 100000 in
set_option maxHeartbeats 1000000 in
theorem in_bad (w : World) (b N : Nat) (page order : Int) (Fr Gv : Nat → Nat → Bool) (hB : Bu w b N Fr Gv) (hN : N ≤ 10) (h : ¬ (0 ≤ order ∧ order ≤ N ∧ 0 ≤ page ∧ page < 2 ^ N)) :
    Calls Try.prog 88 #[.pointer (some ⟨b, 0, none⟩), .int .i64 page, .int .i64 order] w fun e w' => e = .returned (.bool false) ∧ w = w' := by
  obtain ⟨_, h1⟩ := hB.head
  obtain ⟨M, hM⟩ : ∃ M : Nat, M = 2 ^ N := ⟨_, rfl⟩
  have hpw := pow_w64 N (by omega)
  rw [← hM] at hpw
  have e5 : (0 : Int) ≤ (N : Int) := by omega
  clear hB
  have hc : order < 0 ∨ (0 ≤ order ∧ (N : Int) < order) ∨ (0 ≤ order ∧ order ≤ N ∧ page < 0) ∨ (0 ≤ order ∧ order ≤ N ∧ 0 ≤ page ∧ (M : Int) ≤ page) := by
    have : ((2 : Int) ^ N) = (M : Int) := by rw [hM, Int.natCast_pow]; rfl
    rw [this] at h
    omega
  clear h hM
  rcases hc with h | ⟨h, h2⟩ | ⟨h, h2, h3⟩ | ⟨h, h2, h3, h4⟩
  all_goals
    go_enter Try.func88, Try.ntmps88
    go_wp2
    go_ret
    exact ⟨rfl, rfl⟩

/-- The least order from k up (n orders) whose set has the block around a page. -/
def fromK (Fr : Nat → Nat → Bool) (page : Nat) : Nat → Nat → Option Nat
  | _, 0 => none
  | k, n + 1 => if Fr k (page / 2 ^ k * 2 ^ k) then some k else fromK Fr page (k + 1) n

/-- What around returns. -/
def aroundV (o : Option Nat) : Int := match o with | some k => (k : Int) | none => -1

set_option maxRecDepth 100000 in
set_option maxHeartbeats 2000000 in
theorem around_ok (w : World) (b N page order : Nat) (Fr Gv : Nat → Nat → Bool) (hB : Bu w b N Fr Gv) (hN : N ≤ 10) (hp : page < 1024) (ho : order ≤ N) :
    Calls Try.prog 89 #[.pointer (some ⟨b, 0, none⟩), .int .i64 page, .int .i64 order] w fun e w' => e = .returned (.int .i64 (aroundV (fromK Fr page order (N + 1 - order)))) ∧ ∃ m, w' = w.drewN m := by
  obtain ⟨_, h1⟩ := hB.head
  obtain ⟨r, hr⟩ : ∃ r, r = fromK Fr page order (N + 1 - order) := ⟨_, rfl⟩
  rw [← hr]
  have HR := Lib.hid hr
  have HB := Lib.hid hB
  clear hr hB
  go_enter Try.func89, Try.ntmps89
  go_wp2
  go_loopw [7] (fun i wr => ∃ k : Nat, k ≤ N + 1 ∧ i = .int .i64 k ∧ r = fromK Fr page k (N + 1 - k) ∧ ∃ m, wr = w.drewN m) (fun i _ => N + 1 - (intOf i).toNat)
  case atStart => exact ⟨order, by omega, rfl, HR.out, 0, rfl⟩
  case round =>
    obtain ⟨k, hk, rfl, hr, hm⟩ := hrel
    have hc1 : wr.cell? ⟨b, 1, none⟩ = some (.int .i64 (N : Int)) := by obtain ⟨m, rfl⟩ := hm; exact h1
    have hBr : Bu wr b N Fr Gv := by obtain ⟨m, rfl⟩ := hm; exact HB.out
    have HM := Lib.hid hm
    clear hm h1
    by_cases hlt : k ≤ N
    · have hoff : page / 2 ^ k * 2 ^ k < 1024 := Nat.lt_of_le_of_lt (Nat.div_mul_le_self _ _) hp
      have HH := Lib.hid (fun m => has_ok (wr.drewN m) b (2 + k * 16) (page / 2 ^ k * 2 ^ k) (Fr k) (hBr.free (by omega)) hoff)
      have hoffv := off_val page k hp (by omega)
      have e1 : (0 : Int) ≤ (k : Int) := by omega
      have e2 : (k : Int) < 11 := by omega
      have e3 : (k : Int) ≤ (N : Int) := by omega
      rw [show N + 1 - k = (N + 1 - (k + 1)) + 1 by omega, fromK] at hr
      have HO := Lib.hid hoffv
      clear hoff hoffv hBr
      cases hS : Fr k (page / 2 ^ k * 2 ^ k) with
      | true =>
        rw [hS] at HH
        rw [hS, if_pos rfl] at hr
        subst hr
        go_wp2_with (fail)
        go_quiet ((go_at_call 86; rw [HO.out]; exact Calls.quiet_of_same ((HH.out _).mono fun _ _ h => ⟨h.1, h.2.symm⟩)))
        go_wp2
        go_ret
        obtain ⟨m, hm⟩ := HM.out
        exact ⟨rfl, _, by rw [hm]; exact World.drewN_drewN _ _ _⟩
      | false =>
        rw [hS] at HH
        rw [hS, if_neg (by decide)] at hr
        have HR2 := Lib.hid hr
        clear hr
        go_wp2_with (fail)
        go_quiet ((go_at_call 86; rw [HO.out]; exact Calls.quiet_of_same ((HH.out _).mono fun _ _ h => ⟨h.1, h.2.symm⟩)))
        go_wp2
        go_roundw
        case rel =>
          obtain ⟨m, hm⟩ := HM.out
          exact ⟨k + 1, by omega, by go_num, HR2.out, _, by rw [hm]; exact World.drewN_drewN _ _ _⟩
        case measure => simp [intOf]; omega
    · obtain rfl : k = N + 1 := by omega
      rw [Nat.sub_self, fromK] at hr
      subst hr
      have e3 : ¬ ((N + 1 : Nat) : Int) ≤ (N : Int) := by omega
      go_wp2
      go_ret
      exact ⟨rfl, HM.out⟩
end Bu
end Go.Proofs.Ytlknhbcambdccaa
namespace Go.Proofs.Ytlknhbcambdccaa
open Go.RowKit
namespace Bu

/-- An allocator in memory that has given the blocks G. -/
def Bud (w : World) (b N : Nat) (G : Bl) : Prop := ∃ Fr Gv, Bu w b N Fr Gv ∧ Sem N Fr Gv G

theorem Bud.lt {w : World} {b N : Nat} {G : Bl} (h : Bud w b N G) : b < w.heap.size := by obtain ⟨_, _, h1, _⟩ := h; exact h1.lt
theorem Bud.keep {w w' : World} {b N : Nat} {G : Bl} (h : Bud w b N G) (hk : w'.heap[b]? = w.heap[b]?) : Bud w' b N G := by
  obtain ⟨Fr, Gv, h1, h2⟩ := h
  exact ⟨Fr, Gv, h1.keep hk, h2⟩

theorem fromK_some {Fr : Nat → Nat → Bool} {page : Nat} : ∀ (n k j : Nat), fromK Fr page k n = some j → k ≤ j ∧ j < k + n ∧ Fr j (page / 2 ^ j * 2 ^ j) = true := by
  intro n
  induction n with
  | zero => intro k j h; simp [fromK] at h
  | succ n ih =>
    intro k j h
    rw [fromK] at h
    split at h
    · next e => injection h with h; subst h; exact ⟨Nat.le_refl _, by omega, e⟩
    · obtain ⟨h1, h2, h3⟩ := ih _ _ h
      exact ⟨by omega, by omega, h3⟩
theorem fromK_none {Fr : Nat → Nat → Bool} {page : Nat} : ∀ (n k : Nat), fromK Fr page k n = none → ∀ j, k ≤ j → j < k + n → Fr j (page / 2 ^ j * 2 ^ j) = false := by
  intro n
  induction n with
  | zero => intro k _ j h1 h2; omega
  | succ n ih =>
    intro k h j h1 h2
    rw [fromK] at h
    split at h
    · cases h
    · next e =>
      by_cases e2 : j = k
      · subst e2; simpa using e
      · exact ih _ h j (by omega) (by omega)

theorem sem_from {N : Nat} {Fr Gv : Nat → Nat → Bool} {G : Bl} (h : Sem N Fr Gv G) {page order : Nat} (hp : page < 2 ^ N) (ho : order ≤ N) :
    match fromK Fr page order (N + 1 - order) with
    | some k => order ≤ k ∧ k ≤ N ∧ MaxFree G N k (page / 2 ^ k) ∧ Free G order (page / 2 ^ order)
    | none => ¬ Free G order (page / 2 ^ order) := by
  have hn := h.n10
  have hp2 : page < 1024 := Nat.lt_of_lt_of_le hp (by
    have : 2 ^ N ≤ 2 ^ 10 := Nat.pow_le_pow_right (by omega) hn
    omega)
  have hoff : ∀ k, page / 2 ^ k * 2 ^ k < 1024 := fun k => Nat.lt_of_le_of_lt (Nat.div_mul_le_self _ _) hp2
  have hpd : ∀ k, page / 2 ^ k * 2 ^ k / 2 ^ k = page / 2 ^ k := fun k => first k _
  cases e : fromK Fr page order (N + 1 - order) with
  | some k =>
    obtain ⟨h1, h2, h3⟩ := fromK_some _ _ _ e
    obtain ⟨_, h4⟩ := (h.free k _ (by omega) (hoff k)).1 h3
    rw [hpd] at h4
    refine ⟨h1, by omega, h4, ?_⟩
    obtain ⟨m, rfl⟩ := Nat.exists_eq_add_of_le h1
    refine Free.mono m ?_
    rw [← div_pow]
    exact h4.2.2.1
  | none =>
    intro hf
    have hi : page / 2 ^ order < 2 ^ (N - order) := by
      rw [Nat.div_lt_iff_lt_mul (Nat.pow_pos (by decide)), ← Nat.pow_add, Nat.sub_add_cancel ho]
      exact hp
    obtain ⟨m, hm⟩ := around ho hi hf
    have hm1 := hm.1
    rw [← div_pow] at hm
    have h3 := fromK_none _ _ e (order + m) (by omega) (by omega)
    have h4 := (h.free (order + m) (page / 2 ^ (order + m) * 2 ^ (order + m)) (by omega) (hoff _)).2 ⟨Nat.mul_mod_left _ _, by rw [hpd]; exact hm⟩
    rw [h3] at h4
    cases h4

/-- What the sets are after a block was carved out. -/
theorem sem_carved {N : Nat} {Fr Gv : Nat → Nat → Bool} {G : Bl} (h : Sem N Fr Gv G) {page order k : Nat} (hd : page % 2 ^ order = 0) (hk : order ≤ k) (hkN : k ≤ N) (hM : MaxFree G N k (page / 2 ^ k)) :
    Sem N (carveF Fr page order k) (putIn Gv page order) (add G order (page / 2 ^ order)) := by
  obtain ⟨m, rfl⟩ := Nat.exists_eq_add_of_le hk
  rw [div_pow] at hM
  have := sem_carve h (k := order) (m := m) (i := page / 2 ^ order) hkN hM
  rw [mul_of_mod hd, ← div_pow] at this
  exact this

theorem err_in (w : World) (b N : Nat) (page order : Int) (G : Bl) (h : Bud w b N G) (hno : ¬ (0 ≤ order ∧ order ≤ N ∧ 0 ≤ page ∧ page < 2 ^ N ∧ page.toNat % 2 ^ order.toNat = 0)) :
    Calls Try.prog 88 #[.pointer (some ⟨b, 0, none⟩), .int .i64 page, .int .i64 order] w fun e w' => e = .returned (.bool false) ∧ w = w' := by
  obtain ⟨Fr, Gv, h1, h2⟩ := h
  by_cases e : 0 ≤ order ∧ order ≤ N ∧ 0 ≤ page ∧ page < 2 ^ N
  · obtain ⟨e1, e2, e3, e4⟩ := e
    obtain ⟨o, rfl⟩ := Int.eq_ofNat_of_zero_le e1
    obtain ⟨p, rfl⟩ := Int.eq_ofNat_of_zero_le e3
    have hp : p < 2 ^ N := by
      have : ((2 : Int) ^ N) = ((2 ^ N : Nat) : Int) := by rw [Int.natCast_pow]; rfl
      rw [this] at e4
      omega
    have hd : ¬ p % 2 ^ o = 0 := fun hd => hno ⟨e1, e2, e3, e4, hd⟩
    have := in_ok w b N p o Fr Gv h1 h2.n10 (by omega) hp
    rw [decide_eq_false hd] at this
    exact this
  · exact in_bad w b N page order Fr Gv h1 h2.n10 e

set_option maxRecDepth 100000 in
set_option maxHeartbeats 1000000 in
theorem allocAt_bad (w : World) (b N : Nat) (page order : Int) (G : Bl) (h : Bud w b N G) (hno : ¬ (0 ≤ order ∧ order ≤ N ∧ 0 ≤ page ∧ page < 2 ^ N ∧ page.toNat % 2 ^ order.toNat = 0)) :
    Calls Try.prog 66 #[.pointer (some ⟨b, 0, none⟩), .int .i64 page, .int .i64 order] w fun e w' => e = .returned (.int .i64 7) ∧ w = w' := by
  have HI := Lib.hid (err_in w b N page order G h hno)
  obtain ⟨Fr, Gv, h1, h2⟩ := h
  have HS := Lib.hid (is_ok w b N Fr Gv h1)
  clear hno h1 h2
  go_enter Try.func66, Try.ntmps66
  go_wp2_with (first | (go_at_call 47; refine HS.out.mono ?_; rintro e w' ⟨rfl, rfl⟩) | (go_at_call 88; refine HI.out.mono ?_; rintro e w' ⟨rfl, rfl⟩))
  go_ret
  exact ⟨rfl, rfl⟩

set_option maxRecDepth 100000 in
set_option maxHeartbeats 1000000 in
theorem allocAt_ok (w : World) (b N page order : Nat) (G : Bl) (h : Bud w b N G) (ho : order ≤ N) (hp : page < 2 ^ N) (hd : page % 2 ^ order = 0) :
    Calls Try.prog 66 #[.pointer (some ⟨b, 0, none⟩), .int .i64 page, .int .i64 order] w fun e w' => Grow1 b w w' ∧
      ((Free G order (page / 2 ^ order) ∧ e = .returned (.int .i64 0) ∧ Bud w' b N (add G order (page / 2 ^ order))) ∨ (¬ Free G order (page / 2 ^ order) ∧ e = .returned (.int .i64 8) ∧ Bud w' b N G)) := by
  obtain ⟨Fr, Gv, h1, h2⟩ := h
  have hn := h2.n10
  have hp2 : page < 1024 := Nat.lt_of_lt_of_le hp (by
    have : 2 ^ N ≤ 2 ^ 10 := Nat.pow_le_pow_right (by omega) hn
    omega)
  have HS := Lib.hid (is_ok w b N Fr Gv h1)
  have HI0 := in_ok w b N page order Fr Gv h1 hn ho hp
  rw [decide_eq_true hd] at HI0
  have HI := Lib.hid HI0
  have HA0 := around_ok w b N page order Fr Gv h1 hn hp2 ho
  have hsf := sem_from h2 hp ho
  cases hk : fromK Fr page order (N + 1 - order) with
  | none =>
    rw [hk] at HA0 hsf
    have HA := Lib.hid HA0
    have HX := Lib.hid (And.intro h1 (And.intro h2 hsf))
    clear HI0 HA0 hsf h1 h2 hk hd
    go_enter Try.func66, Try.ntmps66
    go_wp2_with (first | (go_at_call 47; refine HS.out.mono ?_; rintro e w' ⟨rfl, rfl⟩) | (go_at_call 88; refine HI.out.mono ?_; rintro e w' ⟨rfl, rfl⟩) | (go_at_call 89; refine HA.out.mono ?_; rintro e w' ⟨rfl, m, rfl⟩; simp only [aroundV]))
    go_ret
    exact ⟨⟨rfl, rfl, rfl, Nat.le_refl _, fun _ _ _ => rfl⟩, .inr ⟨HX.out.2.2, rfl, Fr, Gv, HX.out.1.keep rfl, HX.out.2.1⟩⟩
  | some k =>
    rw [hk] at HA0 hsf
    obtain ⟨g1, g2, g3, g4⟩ := hsf
    obtain ⟨j, rfl⟩ := Nat.exists_eq_add_of_le g1
    have HA := Lib.hid HA0
    have hC : ∀ m, Calls Try.prog 74 #[.pointer (some ⟨b, 0, none⟩), .int .i64 page, .int .i64 order, .int .i64 ((order + j : Nat) : Int)] (w.drewN m) fun e w' => e = .returned (.tuple #[]) ∧ Bu w' b N (carveF Fr page order (order + j)) (putIn Gv page order) ∧ Grow1 b (w.drewN m) w' :=
      fun m => carve_ok (w.drewN m) b N page order j Fr Gv (h1.keep rfl) hp2 (by omega)
    have HC := Lib.hid hC
    have HX := Lib.hid (And.intro (sem_carved h2 hd g1 g2 g3) g4)
    obtain ⟨k, hkk⟩ : ∃ k : Nat, k = order + j := ⟨_, rfl⟩
    rw [← hkk] at HA HC HX
    have hk0 : ¬ ((k : Nat) : Int) < 0 := by omega
    clear HI0 HA0 h1 h2 hk hd hC g1 g2 g3 g4 hkk
    go_enter Try.func66, Try.ntmps66
    go_wp2_with (first | (go_at_call 47; refine HS.out.mono ?_; rintro e w' ⟨rfl, rfl⟩) | (go_at_call 88; refine HI.out.mono ?_; rintro e w' ⟨rfl, rfl⟩) | (go_at_call 89; refine HA.out.mono ?_; rintro e w' ⟨rfl, m, rfl⟩; simp only [aroundV]) | (go_at_call 74; refine (HC.out _).mono ?_; rintro e w' ⟨rfl, hB, hG⟩))
    go_ret
    exact ⟨Grow1.trans (b := w.drewN m) ⟨rfl, rfl, rfl, Nat.le_refl _, fun _ _ _ => rfl⟩ hG, .inl ⟨HX.out.2, rfl, _, _, hB, HX.out.1⟩⟩
end Bu
end Go.Proofs.Ytlknhbcambdccaa
