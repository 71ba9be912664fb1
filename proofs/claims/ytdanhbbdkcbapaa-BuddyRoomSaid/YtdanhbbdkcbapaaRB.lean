/- Check of the specification. -/
import Derived.Test.YtdanhbbdkcbapaaRA
import Derived.Test.YtdanhbbdkcbapaaSL
namespace Go.Proofs.Ytdanhbbdkcbapaa
open Go.RowKit
namespace Bu

/-- Are blocks valid from a page on? -/
def chkZ (N : Nat) : Int → List (Int × Int) → Bool
  | _, [] => true
  | nx, x :: l => inZ N x.1 x.2 && decide (nx ≤ x.1) && chkZ N (x.1 + ((2 ^ x.2.toNat : Nat) : Int)) l
def checkV (N : Int) (L : List (Int × Int)) : Int := if 0 ≤ N ∧ N ≤ 10 then (if chkZ N.toNat 0 L = true then 0 else 6) else 7

theorem inZ_le {N : Nat} {p n : Int} (hN : N ≤ 10) (h : inZ N p n = true) : 0 ≤ p ∧ 0 ≤ n ∧ n ≤ 10 ∧ p + ((2 ^ n.toNat : Nat) : Int) ≤ 1024 := by
  obtain ⟨q, k, rfl, rfl, h1, h2, h3⟩ := inZ_true h
  have h1 : k ≤ N := h1
  have h3 : q + 2 ^ k ≤ 2 ^ N := h3
  have : 2 ^ N ≤ 2 ^ 10 := Nat.pow_le_pow_right (by omega) hN
  rw [Int.toNat_natCast]
  omega

theorem state_cells (w : World) (x y : Value) (T : TypeId) : (w.alloc (.cells #[x, y] T)).cell? ⟨w.heap.size, 0, none⟩ = some x ∧ (w.alloc (.cells #[x, y] T)).cell? ⟨w.heap.size, 1, none⟩ = some y := by
  have h : (w.alloc (.cells #[x, y] T)).heap[w.heap.size]? = some (.cells #[x, y] T (0, 0)) := by rw [heapAlloc, if_pos rfl]
  exact ⟨(two_cells h).1, (two_cells h).2.1⟩
theorem cell_keep2 {w1 w2 : World} (hb : Below w1.heap.size w1 w2) {b o : Nat} {v : Value} (h : w1.cell? ⟨b, o, none⟩ = some v) : w2.cell? ⟨b, o, none⟩ = some v :=
  (hb.cell (p := ⟨b, o, none⟩) (World.block_lt_of_cell? w1 _ h)).trans h

set_option maxRecDepth 100000 in
set_option maxHeartbeats 2000000 in
theorem check_ok (w : World) (N : Int) (A : Option Addr) (c : Nat) (L : List (Int × Int)) (h : ZAt w A c L) :
    Calls Try.prog 10 #[sv N A L.length c] w fun e w' => e = .returned (.int .i64 (checkV N L)) ∧ Below w.heap.size w w' := by
  have hcap := h.2.1
  have hlc := h.1
  unfold maxLen at hcap
  obtain ⟨b1, b2⟩ := state_cells w (.int .i64 N) (.slice A L.length c) 24
  have hb0 := below_box w (.cells #[.int .i64 N, .slice A L.length c] 24)
  have hO := order_ok N (w.alloc (.cells #[.int .i64 N, .slice A L.length c] 24))
  have hs0 : (w.alloc (.cells #[.int .i64 N, .slice A L.length c] 24)).heap.size = w.heap.size + 1 := by simp
  by_cases hN : 0 ≤ N ∧ N ≤ 10
  · obtain ⟨M, rfl⟩ := Int.eq_ofNat_of_zero_le hN.1
    have hM : M ≤ 10 := by omega
    rw [decide_eq_true hN] at hO
    have hres : checkV (M : Int) L = if chkZ M 0 L = true then 0 else 6 := by unfold checkV; rw [if_pos hN, Int.toNat_natCast]
    obtain ⟨r, hr⟩ : ∃ r, r = checkV (M : Int) L := ⟨_, rfl⟩
    rw [← hr] at hres ⊢
    have HR := Lib.hid hres
    have HO := Lib.hid hO
    have HX := Lib.hid (And.intro (h.below hb0) hb0)
    have HS := Lib.hid hs0
    clear hO h hb0 hs0 hres hN hr
    go_enter Try.func10, Try.ntmps10
    go_wp2_with (fail)
    generalize hW0 : w.alloc (.cells #[.int .i64 (M : Int), .slice A L.length c] 24) = W0 at *
    clear hW0
    go_wp2_with (go_at_call 28; refine HO.out.mono ?_; rintro e w' ⟨rfl, rfl⟩)
    go_loopw [3, 4] (fun nx i wr => ∃ (k : Nat) (x : Int), k ≤ L.length ∧ i = .int .i64 k ∧ nx = .int .i64 x ∧ 0 ≤ x ∧ x ≤ 1024 ∧ chkZ M 0 L = chkZ M x (L.drop k) ∧ Below W0.heap.size W0 wr) (fun _ i _ => L.length - (intOf i).toNat)
    case atStart => exact ⟨0, 0, Nat.zero_le _, rfl, rfl, by omega, by omega, rfl, Below.refl _ _⟩
    case round =>
      obtain ⟨k, x, hk, rfl, rfl, hx0, hx1, hck, hbw⟩ := hrel
      have c0 := cell_keep2 hbw b1
      have c1 := cell_keep2 hbw b2
      have hZ := HX.out.1.below hbw
      have hwl : w.heap.size < wr.heap.size := by have := hbw.size; have := HS.out; omega
      by_cases hlt : k < L.length
      · obtain ⟨y, hy⟩ : ∃ y, L[k]? = some y := ⟨_, List.getElem?_eq_getElem hlt⟩
        obtain ⟨g, o, hA, hg, d1, d2⟩ := hZ.2.2 k y hy
        obtain ⟨p, n⟩ := y
        have hd : L.drop k = (p, n) :: L.drop (k + 1) := by
          rw [List.drop_eq_getElem_cons hlt]
          congr 1
          rw [List.getElem?_eq_getElem hlt] at hy
          injection hy
        rw [hd, chkZ] at hck
        subst hA
        have hin := fun W => inR_ok M p n hM W
        have hck1 : inZ M p n = true → 0 ≤ p ∧ 0 ≤ n ∧ n ≤ 10 ∧ p + ((2 ^ n.toNat : Nat) : Int) ≤ 1024 := fun h => inZ_le hM h
        have hbb : ∀ v, Below W0.heap.size W0 (wr.alloc (.cells v 39)) := fun v => hbw.alloc hbw.size _
        have HB := Lib.hid (And.intro hbb (And.intro hck1 hck))
        have hsz := hbw.size
        clear hbw hbb hck1 hck hZ hy hd
        cases hI : inZ M p n with
        | false =>
          rw [hI] at hin HB
          have HI := Lib.hid hin
          clear hin hI
          go_wp2_with (go_at_call 17; refine (HI.out _).mono ?_; rintro e w' ⟨rfl, rfl⟩)
          go_ret
          refine ⟨?_, HX.out.2.trans ((HB.out.1 _).mono (by have := HX.out.2.size; omega))⟩
          rw [HR.out, HB.out.2.2]; rfl
        | true =>
          obtain ⟨g1, g2, g3, g4⟩ := HB.out.2.1 hI
          rw [hI] at hin HB
          have HI := Lib.hid hin
          clear hin hI
          by_cases hpx : p < x
          · go_wp2_with (go_at_call 17; refine (HI.out _).mono ?_; rintro e w' ⟨rfl, rfl⟩)
            go_ret
            refine ⟨?_, HX.out.2.trans ((HB.out.1 _).mono (by have := HX.out.2.size; omega))⟩
            rw [HR.out, HB.out.2.2, decide_eq_false (by omega)]; rfl
          · obtain ⟨nn, rfl⟩ := Int.eq_ofNat_of_zero_le g2
            have HZ := Lib.hid (fun W => size_ok nn W (by omega))
            rw [Int.toNat_natCast] at g4 HB
            obtain ⟨m, hm⟩ : ∃ m : Nat, m = 2 ^ nn := ⟨_, rfl⟩
            have hmp := pow_pos2 nn
            rw [← hm] at g4 HB HZ hmp
            have hsum : IntKind.i64.wrap (p + (m : Int)) = p + (m : Int) := IntWalk.i64_in _ (by omega)
            have hsum0 : 0 ≤ p + (m : Int) := by omega
            have hkk : IntKind.i64.wrap ((k : Int) + 1) = ((k + 1 : Nat) : Int) := by rw [IntWalk.i64_in _ (by omega)]; rfl
            have HM := Lib.hid hm
            clear hm
            go_wp2_with (go_at_call 17; refine (HI.out _).mono ?_; rintro e w' ⟨rfl, rfl⟩)
            go_quiet ((go_at_call 15; exact Calls.quiet_of_same ((HZ.out _).mono fun _ _ h => ⟨h.1, h.2.symm⟩)))
            go_wp2
            go_roundw
            case rel => exact ⟨k + 1, p + (m : Int), by omega, by go_num, by first | rfl | rw [hsum], by omega, by omega, by rw [HB.out.2.2, decide_eq_true (by omega)]; simp, by first | exact HB.out.1 _ | exact below_drewN (HB.out.1 _) _⟩
            case measure => simp [intOf]; omega
      · obtain rfl : k = L.length := by omega
        have HB := Lib.hid (And.intro hck hbw)
        clear hck hbw hZ
        go_wp2
        go_ret
        refine ⟨?_, HX.out.2.trans (HB.out.2.mono (by have := HX.out.2.size; omega))⟩
        rw [HR.out, HB.out.1, List.drop_length]; rfl
  · rw [decide_eq_false hN] at hO
    have hres : checkV N L = 7 := if_neg hN
    rw [hres]
    have HO := Lib.hid hO
    have HX := Lib.hid (And.intro (h.below hb0) hb0)
    clear hO h hb0 hN hres
    go_enter Try.func10, Try.ntmps10
    go_wp2_with (fail)
    generalize hW0 : w.alloc (.cells #[.int .i64 N, .slice A L.length c] 24) = W0 at *
    clear hW0
    go_wp2_with (go_at_call 28; refine HO.out.mono ?_; rintro e w' ⟨rfl, rfl⟩)
    go_ret
    exact ⟨rfl, HX.out.2⟩
end Bu
end Go.Proofs.Ytdanhbbdkcbapaa
