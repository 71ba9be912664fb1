/- Check of the specification. The specification: load, Load, Peak. -/
import Derived.Test.YtjgakcpjphdicaaK2
namespace Go.Proofs.Ytjgakcpjphdicaa
open Go.RowKit
namespace Of
set_option maxRecDepth 100000 in
set_option maxHeartbeats 4000000 in
theorem checkR_ok (A : Option Addr) (c : Nat) (L : List OB) (w : World) (h : OBAt w A c L) :
    Calls Try.prog 20 #[.slice A L.length c] w fun e w' => e = .returned (.int .i64 (checkV L)) ∧ Below w.heap.size w w' := by
  have hcap := h.2.1
  have hlc := h.1
  unfold maxLen at hcap
  have HX := Lib.hid h
  clear h
  by_cases hL : 500 < L.length
  · have hv : checkV L = 3 := by unfold checkV; rw [if_pos hL]
    have HV := Lib.hid hv
    have e500 : (500 : Int) < (L.length : Int) := by omega
    clear hv
    go_enter Try.func20, Try.ntmps20
    go_wp2
    go_ret
    exact ⟨by rw [HV.out]; rfl, Below.refl _ _⟩
  · have hv : checkV L = if L.all okB then 0 else 7 := by unfold checkV; rw [if_neg hL]
    have HV := Lib.hid hv
    have e500 : ¬ (500 : Int) < (L.length : Int) := by omega
    clear hv
    go_enter Try.func20, Try.ntmps20
    go_wp2_with (fail)
    go_loopw [3] (fun i wr => ∃ k : Nat, k ≤ L.length ∧ i = .int .i64 k ∧ L.all okB = (L.drop k).all okB ∧ Below w.heap.size w wr) (fun i _ => L.length - (intOf i).toNat)
    case atStart => exact ⟨0, Nat.zero_le _, rfl, rfl, Below.refl _ _⟩
    case round =>
      obtain ⟨k, hk, rfl, hall, hb⟩ := hrel
      by_cases hlt : k < L.length
      · have hZ := HX.out.below hb (Nat.le_refl _)
        obtain ⟨g, o, rfl, hg, d0, d1, d2, d3⟩ := hZ.at hlt
        have hd : L.drop k = blk L k :: L.drop (k + 1) := by
          rw [List.drop_eq_getElem_cons hlt]
          congr 1
          unfold blk
          rw [List.getD_eq_getElem?_getD, List.getElem?_eq_getElem hlt]; rfl
        rw [hd, List.all_cons] at hall
        generalize hbk : blk L k = b at *
        have hok : okB b = (decide (1 ≤ b.s) && decide (b.s ≤ 65536) && isPow b.a && decide (0 ≤ b.f) && decide (b.f < b.t) && decide (b.t ≤ 1000)) := rfl
        have hbb : Below w.heap.size w (wr.alloc (.cells #[.int .i64 b.s, .int .i64 b.a, .int .i64 b.f, .int .i64 b.t] 42)) := hb.alloc hb.size _
        obtain ⟨s, a, f, t⟩ := b
        dsimp only at d0 d1 d2 d3 hok hbb
        have hN := fun W => power_ok a W
        have hbad : okB ⟨s, a, f, t⟩ = false → checkV L = 7 := fun e => by rw [HV.out, hall, e]; rfl
        have hgood : okB ⟨s, a, f, t⟩ = true → L.all okB = (L.drop (k + 1)).all okB := fun e => by rw [hall, e, Bool.true_and]
        have HB := Lib.hid hbad
        have HG := Lib.hid hgood
        have HH := Lib.hid hbb
        have HN := Lib.hid hN
        have hsz := hb.size
        clear hall hbb hN hbk hZ hb hd hbad hgood
        by_cases h0 : s < 1
        · have hf : okB ⟨s, a, f, t⟩ = false := by rw [hok]; simp; omega
          clear hok
          go_wp2
          go_ret
          exact ⟨by rw [HB.out hf]; rfl, HH.out⟩
        by_cases h1 : 65536 < s
        · have hf : okB ⟨s, a, f, t⟩ = false := by rw [hok]; simp; omega
          clear hok
          go_wp2
          go_ret
          exact ⟨by rw [HB.out hf]; rfl, HH.out⟩
        cases hp : isPow a with
        | false =>
          have hf : okB ⟨s, a, f, t⟩ = false := by rw [hok, hp]; simp
          rw [hp] at HN
          clear hok hp
          go_wp2_with (go_at_call 47; refine (HN.out _).mono ?_; rintro e w' ⟨rfl, rfl⟩)
          go_ret
          exact ⟨by rw [HB.out hf]; rfl, HH.out⟩
        | true =>
          rw [hp] at HN hok
          clear hp
          by_cases h5 : f < 0
          · have hf : okB ⟨s, a, f, t⟩ = false := by rw [hok]; simp; omega
            clear hok
            go_wp2_with (go_at_call 47; refine (HN.out _).mono ?_; rintro e w' ⟨rfl, rfl⟩)
            go_ret
            exact ⟨by rw [HB.out hf]; rfl, HH.out⟩
          by_cases h6 : 1000 < t
          · have hf : okB ⟨s, a, f, t⟩ = false := by rw [hok]; simp; omega
            clear hok
            go_wp2_with (go_at_call 47; refine (HN.out _).mono ?_; rintro e w' ⟨rfl, rfl⟩)
            go_ret
            exact ⟨by rw [HB.out hf]; rfl, HH.out⟩
          by_cases h7 : t ≤ f
          · have hf : okB ⟨s, a, f, t⟩ = false := by rw [hok]; simp; omega
            clear hok
            go_wp2_with (go_at_call 47; refine (HN.out _).mono ?_; rintro e w' ⟨rfl, rfl⟩)
            go_ret
            exact ⟨by rw [HB.out hf]; rfl, HH.out⟩
          have hf : okB ⟨s, a, f, t⟩ = true := by rw [hok]; simp; omega
          clear hok
          go_wp2_with (go_at_call 47; refine (HN.out _).mono ?_; rintro e w' ⟨rfl, rfl⟩)
          go_roundw
          case rel => exact ⟨k + 1, by omega, by go_num, HG.out hf, HH.out⟩
          case measure => simp [intOf]; omega
      · obtain rfl : k = L.length := by omega
        have HH := Lib.hid (And.intro hall hb)
        clear hall hb
        go_wp2
        go_ret
        refine ⟨?_, HH.out.2⟩
        rw [HV.out, HH.out.1, List.drop_length]; rfl
end Of
end Go.Proofs.Ytjgakcpjphdicaa
namespace Go.Proofs.Ytjgakcpjphdicaa
open Go.RowKit
namespace Of

set_option maxRecDepth 100000 in
set_option maxHeartbeats 2000000 in
theorem loadR_ok (A : Option Addr) (c : Nat) (L : List OB) (hL : OkL L) (t : Int) (w : World) (h : OBAt w A c L) :
    Calls Try.prog 53 #[.slice A L.length c, .int .i64 t] w fun e w' => e = .returned (.int .i64 (loadV L t)) ∧ w = w' := by
  have hcap := h.2.1
  have hlc := h.1
  have hlen := hL.1
  unfold maxLen at hcap
  have HX := Lib.hid h
  have HL := Lib.hid hL
  clear h hL
  go_enter Try.func53, Try.ntmps53
  go_wp2_with (fail)
  go_loop [5, 6] (fun n i => ∃ k : Nat, k ≤ L.length ∧ i = .int .i64 k ∧ n = .int .i64 (loadV (L.take k) t)) (fun _ i => L.length - (intOf i).toNat)
  case atStart => exact ⟨0, Nat.zero_le _, rfl, rfl⟩
  case round =>
    obtain ⟨k, hk, rfl, rfl⟩ := hrel
    have hbd := loadV_take HL.out k t
    by_cases hlt : k < L.length
    · obtain ⟨g, o, rfl, hg, d0, d1, d2, d3⟩ := HX.out.at hlt
      have hb := HL.out.blk k
      have hs1 := hb.s1
      have hs2 := hb.s2
      have hnext : loadV (L.take (k + 1)) t = loadV (L.take k) t + ld (blk L k) t := by rw [take_next (blk_get hlt), loadV_snoc]
      clear hb d1
      generalize loadV (L.take k) t = n at *
      generalize blk L k = b at *
      obtain ⟨s, a, f, u⟩ := b
      dsimp only at d0 d2 d3 hs1 hs2
      have hld : ld ⟨s, a, f, u⟩ t = if f ≤ t ∧ t < u then s else 0 := rfl
      rw [hld] at hnext
      clear hld
      by_cases h1 : f ≤ t
      · by_cases h2 : t < u
        · rw [if_pos ⟨h1, h2⟩] at hnext
          have HN := Lib.hid hnext
          clear hnext
          go_wp2
          go_round
          case rel => exact ⟨k + 1, by omega, by go_num, by first | (rw [HN.out]; done) | (rw [HN.out]; go_num)⟩
          case measure => simp [intOf]; omega
        · rw [if_neg (fun e => h2 e.2)] at hnext
          have HN := Lib.hid hnext
          clear hnext
          go_wp2
          go_round
          case rel => exact ⟨k + 1, by omega, by go_num, by rw [HN.out, Int.add_zero]⟩
          case measure => simp [intOf]; omega
      · rw [if_neg (fun e => h1 e.1)] at hnext
        have HN := Lib.hid hnext
        clear hnext
        go_wp2
        go_round
        case rel => exact ⟨k + 1, by omega, by go_num, by rw [HN.out, Int.add_zero]⟩
        case measure => simp [intOf]; omega
    · obtain rfl : k = L.length := by omega
      go_wp2
      go_ret
      exact ⟨rfl, rfl⟩

/-- What Load says. -/
def loadRes (L : List OB) (t : Int) : Int × Int := if checkV L ≠ 0 then (0, checkV L) else if t < 0 ∨ 1000 < t then (0, 7) else (loadV L t, 0)
/-- What Peak says. -/
def peakRes (L : List OB) : Int × Int × Int := if checkV L ≠ 0 then (0, 0, checkV L) else ((peakV L).1, ((peakV L).2 : Int), 0)

set_option maxRecDepth 100000 in
set_option maxHeartbeats 2000000 in
theorem LoadR_ok (A : Option Addr) (c : Nat) (L : List OB) (t : Int) (w : World) (h : OBAt w A c L) :
    Calls Try.prog 25 #[.slice A L.length c, .int .i64 t] w fun e w' => e = .returned (.tuple #[.int .i64 (loadRes L t).1, .int .i64 (loadRes L t).2]) ∧ Below w.heap.size w w' := by
  have hc := checkR_ok A c L w h
  rcases checkV_cases L with hv | hv | hv
  · have hL := (checkV_ok L).1 hv
    have hl := fun W (hb : Below w.heap.size w W) => loadR_ok A c L hL t W (h.below hb (Nat.le_refl _))
    rw [hv] at hc
    unfold loadRes
    rw [hv, if_neg (by simp)]
    have HC := Lib.hid hc
    have HL := Lib.hid hl
    clear hc hl hL hv h
    by_cases ht : t < 0
    · rw [if_pos (.inl ht)]
      go_enter Try.func25, Try.ntmps25
      go_wp2_with (go_at_call 20; refine HC.out.mono ?_; rintro e w' ⟨rfl, hb⟩; have HB := Lib.hid hb; clear hb)
      go_ret2
      exact ⟨rfl, HB.out⟩
    · by_cases ht2 : 1000 < t
      · rw [if_pos (.inr ht2)]
        go_enter Try.func25, Try.ntmps25
        go_wp2_with (go_at_call 20; refine HC.out.mono ?_; rintro e w' ⟨rfl, hb⟩; have HB := Lib.hid hb; clear hb)
        go_ret2
        exact ⟨rfl, HB.out⟩
      · rw [if_neg (by omega)]
        go_enter Try.func25, Try.ntmps25
        go_wp2_with (first | (go_at_call 20; refine HC.out.mono ?_; rintro e w' ⟨rfl, hb⟩; have HB := Lib.hid hb; clear hb) | (go_at_call 53; refine (HL.out _ HB.out).mono ?_; rintro e w2 ⟨rfl, rfl⟩))
        go_ret2
        exact ⟨rfl, HB.out⟩
  all_goals
    rw [hv] at hc
    unfold loadRes
    rw [hv, if_pos (by simp)]
    have HC := Lib.hid hc
    clear hc hv h
    go_enter Try.func25, Try.ntmps25
    go_wp2_with (go_at_call 20; refine HC.out.mono ?_; rintro e w' ⟨rfl, hb⟩; have HB := Lib.hid hb; clear hb)
    go_ret2
    exact ⟨rfl, HB.out⟩

set_option maxRecDepth 100000 in
set_option maxHeartbeats 2000000 in
theorem PeakR_ok (A : Option Addr) (c : Nat) (L : List OB) (w : World) (h : OBAt w A c L) :
    Calls Try.prog 26 #[.slice A L.length c] w fun e w' => e = .returned (.tuple #[.int .i64 (peakRes L).1, .int .i64 (peakRes L).2.1, .int .i64 (peakRes L).2.2]) ∧ Below w.heap.size w w' := by
  have hc := checkR_ok A c L w h
  rcases checkV_cases L with hv | hv | hv
  · have hL := (checkV_ok L).1 hv
    have hl := fun t W (hb : Below w.heap.size w W) => loadR_ok A c L hL t W (h.below hb (Nat.le_refl _))
    rw [hv] at hc
    unfold peakRes
    rw [hv, if_neg (by simp)]
    have hfb : ∀ t : Nat, 0 ≤ loadV L t ∧ loadV L t ≤ 32768000 := fun t => by have := loadV_take hL L.length t; rwa [List.take_length] at this
    unfold peakV
    generalize hf : (fun t : Nat => loadV L t) = f
    have hfe : ∀ t : Nat, loadV L t = f t := fun t => by rw [← hf]
    have hpb := fun n => pk_bd (f := f) (B := 32768000) (by omega) (fun t => by rw [← hfe]; exact (hfb t).2) n
    have HC := Lib.hid hc
    have HL := Lib.hid hl
    have HF := Lib.hid (And.intro hfe (And.intro hfb hpb))
    clear hc hl hL hv h hf hfe hfb hpb
    go_enter Try.func26, Try.ntmps26
    go_wp2_with (go_at_call 20; refine HC.out.mono ?_; rintro e w' ⟨rfl, hb⟩; have HB := Lib.hid hb; clear hb)
    go_loop [6, 7, 8] (fun best at_ i => ∃ k : Nat, k ≤ 1001 ∧ i = .int .i64 k ∧ best = .int .i64 (pk f k).1 ∧ at_ = .int .i64 ((pk f k).2 : Int)) (fun _ _ i => 1001 - (intOf i).toNat)
    case atStart => exact ⟨0, Nat.zero_le _, rfl, rfl, rfl⟩
    case round =>
      obtain ⟨k, hk, rfl, rfl, rfl⟩ := hrel
      by_cases hlt : k < 1001
      · have e1 : (k : Int) ≤ 1000 := by omega
        have hl := HL.out (k : Int) w' HB.out
        rw [HF.out.1 k] at hl
        have hfk := HF.out.2.1 k
        rw [HF.out.1 k] at hfk
        have hpk := HF.out.2.2 k
        have hnext : pk f (k + 1) = if (pk f k).1 < f k then (f k, k) else pk f k := rfl
        obtain ⟨p, hp⟩ : ∃ p, p = pk f k := ⟨_, rfl⟩
        rw [← hp] at hnext hpk ⊢
        obtain ⟨p1, p2⟩ := p
        dsimp only at hpk hnext ⊢
        generalize hfv : f k = v at *
        have HLk := Lib.hid hl
        by_cases hgt : p1 < v
        · rw [if_pos hgt] at hnext
          have HN := Lib.hid hnext
          clear hnext hp hfv hl
          go_wp2_with (go_at_call 53; refine HLk.out.mono ?_; rintro e w2 ⟨rfl, rfl⟩)
          go_round
          case rel => exact ⟨k + 1, by omega, by go_num, by rw [HN.out], by rw [HN.out]⟩
          case measure => simp [intOf]; omega
        · rw [if_neg hgt] at hnext
          have HN := Lib.hid hnext
          clear hnext hp hfv hl
          go_wp2_with (go_at_call 53; refine HLk.out.mono ?_; rintro e w2 ⟨rfl, rfl⟩)
          go_round
          case rel => exact ⟨k + 1, by omega, by go_num, by rw [HN.out], by rw [HN.out]⟩
          case measure => simp [intOf]; omega
      · obtain rfl : k = 1001 := by omega
        go_wp2
        go_ret3
        exact ⟨rfl, HB.out⟩
  all_goals
    rw [hv] at hc
    unfold peakRes
    rw [hv, if_pos (by simp)]
    have HC := Lib.hid hc
    clear hc hv h
    go_enter Try.func26, Try.ntmps26
    go_wp2_with (go_at_call 20; refine HC.out.mono ?_; rintro e w' ⟨rfl, hb⟩; have HB := Lib.hid hb; clear hb)
    go_ret3
    exact ⟨rfl, HB.out⟩
end Of
end Go.Proofs.Ytjgakcpjphdicaa
