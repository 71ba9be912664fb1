/- Waste. The law's small functions: same, ints. -/
import Derived.Test.YtjgakcpjphdicaaK18
import Derived.Test.YtjgakcpjphdicaaK19
import Derived.Test.YtjgakcpjphdicaaK1
import Derived.Deep.QuietTactic
namespace Go.Proofs.Ytjgakcpjphdicaa
open Go.RowKit
namespace Of

/-- What Waste says. -/
def wasteRes (L : List OB) (M : List Int) : Int × Int := if (validRes L M).2.2 ≠ 0 then (0, (validRes L M).2.2) else if (validRes L M).1 = false then (0, 2) else ((validRes L M).2.1 - (peakRes L).1, 0)
theorem validRes_cases (L : List OB) (M : List Int) : (validRes L M).2.2 = 0 ∨ (validRes L M).2.2 = 2 ∨ (validRes L M).2.2 = 3 ∨ (validRes L M).2.2 = 7 := by
  unfold validRes
  rcases checkV_cases L with h | h | h
  · rw [h, if_neg (by simp)]
    split
    · exact .inr (.inl rfl)
    · exact .inl rfl
  · rw [h, if_pos (by simp)]; exact .inr (.inr (.inl rfl))
  · rw [h, if_pos (by simp)]; exact .inr (.inr (.inr rfl))
theorem valid_bd {L : List OB} {M : List Int} (h : (validRes L M).2.2 = 0) : checkV L = 0 ∧ 0 ≤ (validRes L M).2.1 ∧ (validRes L M).2.1 ≤ 1099511693312 := by
  unfold validRes at h ⊢
  rcases checkV_cases L with hv | hv | hv
  · rw [hv, if_neg (by simp)] at h ⊢
    split at h
    · cases h
    · next hn =>
      rw [if_neg hn]
      refine ⟨rfl, ?_⟩
      have hf : M.any farB = false := by cases e : M.any farB with | false => rfl | true => exact absurd (.inr e) hn
      have := topF_bd ((checkV_ok L).1 hv) hf (List.range L.length)
      unfold validV
      split <;> (dsimp only; omega)
  · rw [hv, if_pos (by simp)] at h; cases h
  · rw [hv, if_pos (by simp)] at h; cases h
theorem peak_bd {L : List OB} (h : checkV L = 0) : 0 ≤ (peakRes L).1 ∧ (peakRes L).1 ≤ 32768000 := by
  have hL := (checkV_ok L).1 h
  unfold peakRes
  rw [h, if_neg (by simp)]
  have := pk_bd (f := fun t : Nat => loadV L t) (B := 32768000) (by omega) (fun t => by have := loadV_take hL L.length t; rw [List.take_length] at this; exact this.2) 1001
  exact ⟨this.1, this.2.1⟩

set_option maxRecDepth 100000 in
set_option maxHeartbeats 2000000 in
theorem Waste_ok (w : World) (lA : Option Addr) (lc : Nat) (L : List OB) (A : Option Addr) (c : Nat) (M : List Int) (hl : OBAt w lA lc L) (hm : IAt w A c M) (hML : M.length ≤ 100000) :
    Calls Try.prog 18 #[.slice lA L.length lc, .slice A M.length c] w fun e w' => e = .returned (.tuple #[.int .i64 (wasteRes L M).1, .int .i64 (wasteRes L M).2]) ∧ Below w.heap.size w w' := by
  have hv := Valid_ok w lA lc L A c M hl hm hML
  have hp := fun W (hb : Below w.heap.size w W) => Peak_ok lA lc L W (hl.below hb (Nat.le_refl _))
  unfold wasteRes
  have hvb := valid_bd (L := L) (M := M)
  have hpb := peak_bd (L := L)
  have hcs := validRes_cases L M
  generalize validRes L M = vr at *
  generalize peakRes L = pr at *
  obtain ⟨b, top, er⟩ := vr
  obtain ⟨pk1, pk2, pk3⟩ := pr
  dsimp only at hv hvb hcs hp hpb ⊢
  rcases hcs with rfl | rfl | rfl | rfl
  · obtain ⟨h1, h2, h3⟩ := hvb rfl
    obtain ⟨h4, h5⟩ := hpb h1
    rw [if_neg (by simp)]
    have HV := Lib.hid hv
    have HP := Lib.hid hp
    clear hv hp hl hm hvb hpb h1
    cases b with
    | false =>
      go_enter Try.func18, Try.ntmps18
      go_wp2_with (go_at_call 16; refine HV.out.mono ?_; rintro e w1 ⟨rfl, hb1⟩; have HB1 := Lib.hid hb1; clear hb1)
      go_ret2
      exact ⟨rfl, HB1.out⟩
    | true =>
      have q1 : IntKind.i64.wrap (top - pk1) = top - pk1 := IntWalk.i64_in _ (by omega)
      go_enter Try.func18, Try.ntmps18
      go_wp2_with (first
        | (go_at_call 16; refine HV.out.mono ?_; rintro e w1 ⟨rfl, hb1⟩; have HB1 := Lib.hid hb1; clear hb1)
        | (go_at_call 21; refine (HP.out _ HB1.out).mono ?_; rintro e w2 ⟨rfl, hb2⟩; have HB2 := Lib.hid hb2; clear hb2))
      go_ret2
      exact ⟨rfl, HB1.out.trans (HB2.out.mono HB1.out.size)⟩
  all_goals
    rw [if_pos (by simp)]
    have HV := Lib.hid hv
    clear hv hp hl hm hvb hpb
    go_enter Try.func18, Try.ntmps18
    go_wp2_with (go_at_call 16; refine HV.out.mono ?_; rintro e w1 ⟨rfl, hb1⟩; have HB1 := Lib.hid hb1; clear hb1)
    go_ret2
    exact ⟨rfl, HB1.out⟩
end Of
end Go.Proofs.Ytjgakcpjphdicaa
namespace Go.Proofs.Ytjgakcpjphdicaa
open Go.RowKit
namespace Of

def same2 (M N : List Int) (k : Nat) : Prop := M.take k = N.take k
theorem take_ext {M N : List Int} {k : Nat} (h : M.take k = N.take k) {x y : Int} (hx : M[k]? = some x) (hy : N[k]? = some y) : x = y ↔ M.take (k + 1) = N.take (k + 1) := by
  have e1 : M.take (k + 1) = M.take k ++ [x] := by rw [List.take_add_one, hx]; rfl
  have e2 : N.take (k + 1) = N.take k ++ [y] := by rw [List.take_add_one, hy]; rfl
  rw [e1, e2, h]
  simp

set_option maxRecDepth 100000 in
set_option maxHeartbeats 2000000 in
theorem same_ok (w : World) (A B : Option Addr) (c d : Nat) (M N : List Int) (hM : IAt w A c M) (hN : IAt w B d N) :
    Calls Try.prog 14 #[.slice A M.length c, .slice B N.length d] w fun e w' => e = .returned (.bool (decide (M = N))) ∧ ∃ q, w' = w.drewN q := by
  have m1 := hM.1
  have m2 := hM.2.1
  have n1 := hN.1
  have n2 := hN.2.1
  unfold maxLen at m2 n2
  have HM := Lib.hid (And.intro hM hN)
  clear hM hN
  go_enter Try.func14, Try.ntmps14
  go_wp2_with (fail)
  go_loopw [5] (fun i wr => ∃ k : Nat, k ≤ M.length ∧ k ≤ N.length ∧ i = .int .i64 k ∧ same2 M N k ∧ ∃ q, wr = w.drewN q) (fun i _ => M.length - (intOf i).toNat)
  case atStart => exact ⟨0, Nat.zero_le _, Nat.zero_le _, rfl, rfl, 0, rfl⟩
  case round =>
    obtain ⟨k, hk, hk2, rfl, hs, q, hq⟩ := hrel
    have hbw : Below w.heap.size w wr := by rw [hq]; exact below_drewN (Below.refl _ _) q
    have hI1 := HM.out.1.below hbw (Nat.le_refl _)
    have hI2 := HM.out.2.below hbw (Nat.le_refl _)
    have HQ := Lib.hid hq
    clear hbw hq
    by_cases h1 : k < M.length
    · by_cases h2 : k < N.length
      · obtain ⟨x, hx⟩ : ∃ x, M[k]? = some x := ⟨_, List.getElem?_eq_getElem h1⟩
        obtain ⟨y, hy⟩ : ∃ y, N[k]? = some y := ⟨_, List.getElem?_eq_getElem h2⟩
        obtain ⟨g, o, rfl, hg, d0⟩ := hI1.2.2 k x hx
        obtain ⟨g2, o2, rfl, hg2, d1⟩ := hI2.2.2 k y hy
        have hxt := take_ext hs hx hy
        have HX := Lib.hid (And.intro hxt hs)
        clear hxt hs hx hy hI1 hI2
        by_cases he : x = y
        · have hq : (x != y) = false := by simp [he]
          have hn : same2 M N (k + 1) := HX.out.1.1 he
          have HN := Lib.hid hn
          clear he hn
          go_wp2_with (fail)
          go_quiet (fail)
          go_wp2
          go_roundw
          case rel => exact ⟨k + 1, by omega, by omega, by go_num, HN.out, _, by rw [HQ.out]; exact World.drewN_drewN ..⟩
          case measure => simp [intOf]; omega
        · have hq : (x != y) = true := by simp [he]
          have hn : decide (M = N) = false := by
            rw [decide_eq_false_iff_not]
            intro e
            subst e
            exact he (HX.out.1.2 rfl)
          have HN := Lib.hid hn
          clear he hn
          go_wp2_with (fail)
          go_quiet (fail)
          go_wp2
          go_ret
          exact ⟨by rw [HN.out]; rfl, _, by rw [HQ.out]; exact World.drewN_drewN ..⟩
      · have hnl : N.length = k := by omega
        have hne : decide (M = N) = false := by rw [decide_eq_false_iff_not]; intro e; subst e; omega
        have hq : ((M.length : Int) == (N.length : Int)) = false := by simp; omega
        have HN := Lib.hid hne
        have h2' : ¬ (k : Int) < (N.length : Int) := by omega
        clear hne hs hnl hI1 hI2
        go_wp2
        go_ret
        exact ⟨by rw [HN.out]; rfl, q, HQ.out⟩
    · have hml : M.length = k := by omega
      have hres : decide (M = N) = ((M.length : Int) == (N.length : Int)) := by
        unfold same2 at hs
        rw [← hml, List.take_length] at hs
        by_cases he : M.length = N.length
        · have hMN : M = N := by rw [hs, he, List.take_length]
          rw [decide_eq_true hMN]; simp [he]
        · have hMN : ¬ M = N := fun e => he (by rw [e])
          rw [decide_eq_false hMN]; simp; omega
      have HN := Lib.hid hres
      clear hres hs hml hI1 hI2
      go_wp2
      go_ret
      exact ⟨by rw [HN.out]; rfl, q, HQ.out⟩
set_option maxRecDepth 100000 in
set_option maxHeartbeats 2000000 in
theorem ints_ok (w : World) (A B : Option Addr) (c d : Nat) (M N : List Int) (hM : IAt w A c M) (hN : IAt w B d N) :
    Calls Try.prog 15 #[.slice A M.length c, .slice B N.length d] w fun e w' => e = .returned (.bool (decide (M = N))) ∧ ∃ q, w' = w.drewN q := by
  have m1 := hM.1
  have m2 := hM.2.1
  have n1 := hN.1
  have n2 := hN.2.1
  unfold maxLen at m2 n2
  have HM := Lib.hid (And.intro hM hN)
  clear hM hN
  go_enter Try.func15, Try.ntmps15
  go_wp2_with (fail)
  go_loopw [5] (fun i wr => ∃ k : Nat, k ≤ M.length ∧ k ≤ N.length ∧ i = .int .i64 k ∧ same2 M N k ∧ ∃ q, wr = w.drewN q) (fun i _ => M.length - (intOf i).toNat)
  case atStart => exact ⟨0, Nat.zero_le _, Nat.zero_le _, rfl, rfl, 0, rfl⟩
  case round =>
    obtain ⟨k, hk, hk2, rfl, hs, q, hq⟩ := hrel
    have hbw : Below w.heap.size w wr := by rw [hq]; exact below_drewN (Below.refl _ _) q
    have hI1 := HM.out.1.below hbw (Nat.le_refl _)
    have hI2 := HM.out.2.below hbw (Nat.le_refl _)
    have HQ := Lib.hid hq
    clear hbw hq
    by_cases h1 : k < M.length
    · by_cases h2 : k < N.length
      · obtain ⟨x, hx⟩ : ∃ x, M[k]? = some x := ⟨_, List.getElem?_eq_getElem h1⟩
        obtain ⟨y, hy⟩ : ∃ y, N[k]? = some y := ⟨_, List.getElem?_eq_getElem h2⟩
        obtain ⟨g, o, rfl, hg, d0⟩ := hI1.2.2 k x hx
        obtain ⟨g2, o2, rfl, hg2, d1⟩ := hI2.2.2 k y hy
        have hxt := take_ext hs hx hy
        have HX := Lib.hid (And.intro hxt hs)
        clear hxt hs hx hy hI1 hI2
        by_cases he : x = y
        · have hq : (x != y) = false := by simp [he]
          have hn : same2 M N (k + 1) := HX.out.1.1 he
          have HN := Lib.hid hn
          clear he hn
          go_wp2_with (fail)
          go_quiet (fail)
          go_wp2
          go_roundw
          case rel => exact ⟨k + 1, by omega, by omega, by go_num, HN.out, _, by rw [HQ.out]; exact World.drewN_drewN ..⟩
          case measure => simp [intOf]; omega
        · have hq : (x != y) = true := by simp [he]
          have hn : decide (M = N) = false := by
            rw [decide_eq_false_iff_not]
            intro e
            subst e
            exact he (HX.out.1.2 rfl)
          have HN := Lib.hid hn
          clear he hn
          go_wp2_with (fail)
          go_quiet (fail)
          go_wp2
          go_ret
          exact ⟨by rw [HN.out]; rfl, _, by rw [HQ.out]; exact World.drewN_drewN ..⟩
      · have hnl : N.length = k := by omega
        have hne : decide (M = N) = false := by rw [decide_eq_false_iff_not]; intro e; subst e; omega
        have hq : ((M.length : Int) == (N.length : Int)) = false := by simp; omega
        have HN := Lib.hid hne
        have h2' : ¬ (k : Int) < (N.length : Int) := by omega
        clear hne hs hnl hI1 hI2
        go_wp2
        go_ret
        exact ⟨by rw [HN.out]; rfl, q, HQ.out⟩
    · have hml : M.length = k := by omega
      have hres : decide (M = N) = ((M.length : Int) == (N.length : Int)) := by
        unfold same2 at hs
        rw [← hml, List.take_length] at hs
        by_cases he : M.length = N.length
        · have hMN : M = N := by rw [hs, he, List.take_length]
          rw [decide_eq_true hMN]; simp [he]
        · have hMN : ¬ M = N := fun e => he (by rw [e])
          rw [decide_eq_false hMN]; simp; omega
      have HN := Lib.hid hres
      clear hres hs hml hI1 hI2
      go_wp2
      go_ret
      exact ⟨by rw [HN.out]; rfl, q, HQ.out⟩
end Of
end Go.Proofs.Ytjgakcpjphdicaa
