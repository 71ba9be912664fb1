/- The bits of small numbers: which are powers of two, and what is rounded up to a multiple of one. place. -/
import Derived.Test.YtjgakcpjphdicaaK0
import Derived.WalkKit
import Derived.Test.YtjgakcpjphdicaaK1
import Derived.StillTailTactics
namespace Go.Proofs.Ytjgakcpjphdicaa
namespace Of
theorem toInt_small (n : Nat) (h : n < 9223372036854775808) : (BitVec.ofInt 64 (n : Int)).toNat = n := by
  simp; omega

theorem wrap_small (n : Nat) (h : n < 9223372036854775808) : IntKind.i64.wrap (n : Int) = n := by
  rw [IntWalk.i64_in]; omega

theorem and_nat (m n : Nat) (hm : m < 9223372036854775808) (hn : n < 9223372036854775808) : bits .and .i64 (m : Int) (n : Int) = ((m &&& n : Nat) : Int) := by
  have h1 := toInt_small m hm
  have h2 := toInt_small n hn
  have h3 : m &&& n ≤ m := Nat.and_le_left
  simp only [bits]
  show IntKind.i64.wrap ((BitVec.ofInt 64 (m : Int) &&& BitVec.ofInt 64 (n : Int)).toNat : Int) = _
  rw [BitVec.toNat_and, h1, h2, wrap_small _ (by omega)]

theorem andNot_nat (x k : Nat) (hx : x < 9223372036854775808) (hk : k ≤ 12) : bits .andNot .i64 (x : Int) ((2 ^ k - 1 : Nat) : Int) = ((x / 2 ^ k * 2 ^ k : Nat) : Int) := by
  have hp : 2 ^ k ≤ 2 ^ 12 := Nat.pow_le_pow_right (by omega) hk
  have h1 := toInt_small x hx
  have h2 := toInt_small (2 ^ k - 1) (by omega)
  have hle : x / 2 ^ k * 2 ^ k ≤ x := Nat.div_mul_le_self x (2 ^ k)
  have key : (BitVec.ofInt 64 (x : Int) &&& ~~~ BitVec.ofInt 64 ((2 ^ k - 1 : Nat) : Int)).toNat = x / 2 ^ k * 2 ^ k := by
    apply Nat.eq_of_testBit_eq
    intro i
    rw [← Nat.shiftRight_eq_div_pow, ← Nat.shiftLeft_eq, Nat.testBit_shiftLeft, Nat.testBit_shiftRight, BitVec.testBit_toNat, BitVec.getLsbD_and, BitVec.getLsbD_not, ← BitVec.testBit_toNat, ← BitVec.testBit_toNat, h1, h2, Nat.testBit_two_pow_sub_one]
    by_cases hi : i < 64
    · by_cases hik : i < k
      · have : ¬ k ≤ i := by omega
        simp [hik, this]
      · have h3 : k ≤ i := by omega
        have h4 : k + (i - k) = i := by omega
        simp [hi, hik, h3, h4]
    · have h3 : x.testBit i = false := Nat.testBit_lt_two_pow (Nat.lt_of_lt_of_le hx (by
        have : 2 ^ 63 ≤ 2 ^ i := Nat.pow_le_pow_right (by omega) (by omega)
        omega))
      have h5 : k ≤ i := by omega
      have h4 : k + (i - k) = i := by omega
      simp [h3, h4]
  show IntKind.i64.wrap ((BitVec.ofInt 64 (x : Int) &&& ~~~ BitVec.ofInt 64 ((2 ^ k - 1 : Nat) : Int)).toNat : Int) = _
  rw [key, wrap_small _ (by omega)]

/-- Rounding up, as the program does it. -/
theorem up_bits (x a : Int) (hx : 0 ≤ x) (hx2 : x ≤ 1000000000000) (h : isPow a = true) : bits .andNot .i64 (x + a - 1) (a - 1) = up x a := by
  obtain ⟨k, hk, rfl⟩ := (isPow_iff a).1 h
  obtain ⟨y, rfl⟩ := Int.eq_ofNat_of_zero_le hx
  have hp : 2 ^ k ≤ 2 ^ 12 := Nat.pow_le_pow_right (by omega) (show k ≤ 12 by omega)
  have hp0 : 1 ≤ 2 ^ k := Nat.one_le_two_pow
  have e0 : (2 : Int) ^ k = ((2 ^ k : Nat) : Int) := by norm_cast
  have e1 : (y : Int) + ((2 ^ k : Nat) : Int) - 1 = ((y + 2 ^ k - 1 : Nat) : Int) := by omega
  have e2 : ((2 ^ k : Nat) : Int) - 1 = ((2 ^ k - 1 : Nat) : Int) := by omega
  unfold up
  rw [e0, e1, e2, andNot_nat _ k (by omega) (by omega)]
  simp
/-- A multiple, as the program asks it. -/
theorem mask_bits (x a : Int) (hx : 0 ≤ x) (hx2 : x ≤ 1099511627776) (h : isPow a = true) : bits .and .i64 x (a - 1) = x % a := by
  obtain ⟨k, hk, rfl⟩ := (isPow_iff a).1 h
  obtain ⟨y, rfl⟩ := Int.eq_ofNat_of_zero_le hx
  have hp : 2 ^ k ≤ 2 ^ 12 := Nat.pow_le_pow_right (by omega) (show k ≤ 12 by omega)
  have hp0 : 1 ≤ 2 ^ k := Nat.one_le_two_pow
  have e0 : (2 : Int) ^ k = ((2 ^ k : Nat) : Int) := by norm_cast
  have e2 : ((2 ^ k : Nat) : Int) - 1 = ((2 ^ k - 1 : Nat) : Int) := by omega
  rw [e0, e2, and_nat _ _ (by omega) (by omega), Nat.and_two_pow_sub_one_eq_mod]
  rfl
end Of
end Go.Proofs.Ytjgakcpjphdicaa
namespace Go.Proofs.Ytjgakcpjphdicaa
open Go.RowKit
namespace Of

/-- What was laid: blocks, addresses, the indices by their addresses. -/
structure LaidAt (w : World) (bx : Nat) (lA : Option Addr) (lc : Nat) (L : List OB) (ga : Nat) (A : List Int) (iA : Option Addr) (ic : Nat) (I : List Nat) : Prop where
  box : w.heap[bx]? = some (.cells #[.slice lA L.length lc, .slice (some ⟨ga, 0, none⟩) A.length A.length, .slice iA I.length ic] 87 (0, 0))
  l : OBAt w lA lc L
  at_ : RowI 2 w ga A
  in_ : w.ownsRow 0 3 1 (.slice iA I.length ic) I.length (ci (zs I))
theorem LaidAt.ia {w : World} {bx lc ga ic : Nat} {lA iA : Option Addr} {L : List OB} {A : List Int} {I : List Nat} (h : LaidAt w bx lA lc L ga A iA ic I) : IAt w iA ic (zs I) := by
  have e : (zs I).length = I.length := List.length_map _
  have h1 : OwnI w 0 3 iA ic (zs I) := by unfold OwnI; rw [e]; exact h.in_
  exact h1.at.1
theorem LaidAt.below {w w' : World} {n bx lc ga ic : Nat} {lA iA : Option Addr} {L : List OB} {A : List Int} {I : List Nat} (h : LaidAt w bx lA lc L ga A iA ic I) (hb : Below n w w') (hn : w.heap.size ≤ n) : LaidAt w' bx lA lc L ga A iA ic I :=
  ⟨(hb.block _ (by have := lt_of_heap h.box; omega)).trans h.box, h.l.below hb hn, h.at_.keep (hb.block _ (by have := h.at_.lt; omega)), row_below h.in_ (hb.mono hn)⟩

set_option maxRecDepth 100000 in
set_option maxHeartbeats 4000000 in
theorem place_ok (w : World) (bx : Nat) (lA : Option Addr) (lc : Nat) (L : List OB) (ga : Nat) (A : List Int) (iA : Option Addr) (ic : Nat) (I : List Nat) (i : Nat) (T : Int)
    (h : LaidAt w bx lA lc L ga A iA ic I) (hL : OkL L) (hA : A.length = L.length) (hi : i < L.length) (hI : ∀ k, k ∈ I → k < L.length ∧ 0 ≤ addr A k ∧ addr A k + (blk L k).s ≤ T) (hT0 : 0 ≤ T) (hT : T ≤ 40000000) :
    Calls Try.prog 75 #[.pointer (some ⟨bx, 0, none⟩), .int .i64 (i : Int)] w fun e w' => e = .returned (.int .i64 (placeGo L A (blk L i) I 0)) ∧ Below w.heap.size w w' := by
  obtain ⟨b0, b1, b2⟩ := three_at h.box
  have hlen := hL.1
  have hcap := h.ia.2.1
  have hIl := h.ia.1
  have hlcap := h.l.2.1
  have hll := h.l.1
  rw [List.length_map] at hIl
  unfold maxLen at hcap hlcap
  have hbx := lt_of_heap h.box
  have hga := h.at_.lt
  obtain ⟨g, o, hlA, hg, d0, d1, d2, d3⟩ := h.l.at hi
  have hbi := hL.blk i
  have HH := Lib.hid (And.intro h (And.intro hL hI))
  have HHA := Lib.hid hA
  clear h hL hI hA
  generalize hb : blk L i = b at *
  obtain ⟨s1, s2, ha0, f0, ft, t1⟩ := hbi
  obtain ⟨k2, hk2, hak⟩ := (isPow_iff _).1 ha0
  have hab := isPow_bd ha0
  obtain ⟨s, a, f, u⟩ := b
  dsimp only at d0 d1 d2 d3 s1 s2 ha0 f0 ft t1 hak hab
  subst hlA
  have hb4 : Below w.heap.size w (w.alloc (.cells #[.int .i64 s, .int .i64 a, .int .i64 f, .int .i64 u] 42)) := below_box _ _
  have c4 := four_at (show (w.alloc (.cells #[.int .i64 s, .int .i64 a, .int .i64 f, .int .i64 u] 42)).heap[w.heap.size]? = some (.cells #[.int .i64 s, .int .i64 a, .int .i64 f, .int .i64 u] 42 (0, 0)) by rw [heapAlloc, if_pos rfl])
  have hs0 : (w.alloc (.cells #[.int .i64 s, .int .i64 a, .int .i64 f, .int .i64 u] 42)).heap.size = w.heap.size + 1 := by simp
  have H4 := Lib.hid (And.intro hb4 (And.intro c4 hs0))
  have HP := Lib.hid (And.intro hb (And.intro hak hk2))
  clear hb4 c4 hs0 hb hak hk2 ha0
  go_enter Try.func75, Try.ntmps75
  go_upto_region 2 with (fail)
  generalize hW0 : w.alloc (.cells #[.int .i64 s, .int .i64 a, .int .i64 f, .int .i64 u] 42) = W0 at *
  clear hW0 d0 d1 d2 d3 b0 b1 b2
  obtain ⟨z, hz⟩ : ∃ z, z = w.heap.size := ⟨_, rfl⟩
  rw [← hz] at H4 hg hbx hga ⊢
  have HZ := Lib.hid hz
  clear hz
  obtain ⟨b0, b1, b2⟩ := three_at (HH.out.1.below H4.out.1 (Nat.le_of_eq HZ.out.symm)).box
  go_wp2_with (fail)
  go_loopw [6, 21] (fun at_ i wr => ∃ (k : Nat) (c : Int), k ≤ I.length ∧ i = .int .i64 k ∧ at_ = .int .i64 c ∧ 0 ≤ c ∧ c ≤ T + 4095 ∧ placeGo L A ⟨s, a, f, u⟩ I 0 = placeGo L A ⟨s, a, f, u⟩ (I.drop k) c ∧ Below W0.heap.size W0 wr) (fun _ i _ => I.length - (intOf i).toNat)
  case atStart => exact ⟨0, 0, Nat.zero_le _, rfl, rfl, by omega, by omega, rfl, Below.refl _ _⟩
  case round =>
    obtain ⟨k, cu, hk, rfl, rfl, hc0, hc1, hpl, hbw⟩ := hrel
    by_cases hlt : k < I.length
    · obtain ⟨x, hx⟩ : ∃ x, I[k]? = some x := ⟨_, List.getElem?_eq_getElem hlt⟩
      have hbz : Below z w wr := H4.out.1.trans (hbw.mono (by have := H4.out.2.2; omega))
      have hLw := HH.out.1.below hbz (Nat.le_of_eq HZ.out.symm)
      obtain ⟨ig, io, rfl, hig, ix⟩ := iat_nat hLw.ia hx
      obtain ⟨hxl, hx0, hxT⟩ := HH.out.2.2 x (List.mem_of_getElem? hx)
      obtain ⟨g', o', hgo, _, e0, e1, e2, e3⟩ := hLw.l.at hxl
      obtain ⟨b0, b1, b2⟩ := three_at hLw.box
      have hcx := hLw.at_.cell (j := x) (by rw [HHA.out]; exact hxl)
      injection hgo with hgo; injection hgo with hg1 hg2 _
      subst hg1; subst hg2
      have hdr : I.drop k = x :: I.drop (k + 1) := by
        rw [List.drop_eq_getElem_cons hlt]; congr 1
        rw [List.getElem?_eq_getElem hlt] at hx; injection hx
      rw [hdr, placeGo] at hpl
      obtain ⟨c0, c1, c2, c3⟩ := H4.out.2.1
      have c0 := cell_keep2 hbw c0
      have c1 := cell_keep2 hbw c1
      have c2 := cell_keep2 hbw c2
      have c3 := cell_keep2 hbw c3
      have hsz := hbw.size
      have hob := HH.out.2.1.blk x
      have hxs1 := hob.s1
      have hxs2 := hob.s2
      have hkn : IntKind.i64.wrap ((k : Int) + 1) = ((k + 1 : Nat) : Int) := by rw [IntWalk.i64_in _ (by omega)]; rfl
      have hmt := meet_ok ⟨s, a, f, u⟩ (blk L x)
      have HPK := Lib.hid hpl
      clear hpl hdr hob hx
      generalize hcv : addr A x = cx at *
      generalize hbx' : blk L x = bb at *
      obtain ⟨xs, xa, xf, xu⟩ := bb
      dsimp only [ob] at e0 e1 e2 e3 hxs1 hxs2 hmt hxT HPK
      have hmx : min (T + 4095) (T + 4095) = T + 4095 := by omega
      have HM := Lib.hid hmt
      have HB := Lib.hid (And.intro hbw hLw)
      have HCV := Lib.hid (And.intro hcv hbx')
      have hzs : z < wr.heap.size := by have := H4.out.2.2; omega
      clear hmt hbw hLw hcv hbx' hmx
      cases hme : meet ⟨s, a, f, u⟩ ⟨xs, xa, xf, xu⟩ with
      | false =>
        rw [hme] at HM HPK
        have HME := Lib.hid hme
        clear hme
        go_wp2_with (fail)
        go_still_tail 8, (by kernel_rfl)
        change wpList _ _ _ _ _ wr.drew
        go_wp2_with (go_at_call 44; refine (HM.out _).mono ?_; rintro e w5 ⟨rfl, hb5⟩; have HB5 := Lib.hid hb5; clear hb5)
        go_roundw
        case rel =>
          exact ⟨k + 1, cu, by omega, by go_num, rfl, by omega, by omega, HPK.out, (below_drew HB.out.1).trans (HB5.out.mono HB.out.1.size)⟩
        case measure => simp [intOf]; omega
      | true =>
        rw [hme] at HM HPK
        have HME := Lib.hid hme
        clear hme
        rw [if_pos rfl] at HPK
        have q1 : IntKind.i64.wrap (cu + s) = cu + s := IntWalk.i64_in _ (by omega)
        go_wp2_with (fail)
        go_still_tail 8, (by kernel_rfl)
        change wpList _ _ _ _ _ wr.drew
        go_upto_region 7 with (go_at_call 44; refine (HM.out _).mono ?_; rintro e w5 ⟨rfl, hb5⟩; have HB5 := Lib.hid ((below_drew (Below.refl wr.heap.size wr)).trans (hb5 : Below wr.heap.size wr.drew w5)); clear hb5)
        clear b0 b1 b2 e0 e1 e2 e3 c0 c1 c2 c3 ix hcx
        have hLw5 := HB.out.2.below HB5.out (Nat.le_refl _)
        obtain ⟨_, _, hgo, _, e0, e1, e2, e3⟩ := hLw5.l.at hxl
        injection hgo with hgo; injection hgo with hg1 hg2 _
        subst hg1; subst hg2
        rw [HCV.out.2] at e0
        obtain ⟨b0, b1, b2⟩ := three_at hLw5.box
        have hcx := hLw5.at_.cell (j := x) (by rw [HHA.out]; exact hxl)
        rw [HCV.out.1] at hcx
        obtain ⟨c0, c1, c2, c3⟩ := H4.out.2.1
        have c0 := cell_keep2 HB.out.1 c0
        have c1 := cell_keep2 HB.out.1 c1
        have c0 := cell_keep2 HB5.out c0
        have c1 := cell_keep2 HB5.out c1
        clear c2 c3 e1 e2 e3 hLw5
        have hxA : x < A.length := by rw [HHA.out]; exact hxl
        have hb5 : Below W0.heap.size W0 w5 := HB.out.1.trans (HB5.out.mono HB.out.1.size)
        have hbz5 : Below z w w5 := H4.out.1.trans (hb5.mono (by have := H4.out.2.2; omega))
        have HBB := Lib.hid (And.intro hb5 hbz5)
        clear hb5 hbz5
        by_cases hle : cu + s ≤ cx
        · rw [if_pos hle] at HPK
          go_region
          go_wp2
          go_ret
          refine ⟨by rw [HPK.out]; rfl, ?_⟩
          rw [← HZ.out]
          first | exact HBB.out.2 | exact below_drew HBB.out.2
        · rw [if_neg hle] at HPK
          have hup := up_bits (cx + xs) a (by omega) (by omega) (by rw [HP.out.2.1]; exact (isPow_iff _).2 ⟨k2, HP.out.2.2, rfl⟩)
          have hub := up_le (x := cx + xs) hab.1
          have q2 : IntKind.i64.wrap (cx + xs) = cx + xs := IntWalk.i64_in _ (by omega)
          have q3 : IntKind.i64.wrap (cx + xs + a) = cx + xs + a := IntWalk.i64_in _ (by omega)
          have q4 : IntKind.i64.wrap (cx + xs + a - 1) = cx + xs + a - 1 := IntWalk.i64_in _ (by omega)
          have q5 : IntKind.i64.wrap (a - 1) = a - 1 := IntWalk.i64_in _ (by omega)
          generalize up (cx + xs) a = y at *
          go_region
          go_wp2_with (fail)
          go_region
          go_wp2
          go_roundw
          case rel => exact ⟨k + 1, max cu y, by omega, by go_num, by first | rfl | (congr 1; split <;> omega), by omega, by omega, HPK.out, by first | exact HBB.out.1 | exact below_drew HBB.out.1 | exact below_drew (below_drew HBB.out.1)⟩
          case measure => simp [intOf]; omega
    · obtain rfl : k = I.length := by omega
      rw [List.drop_length, placeGo] at hpl
      have HB := Lib.hid (And.intro hpl hbw)
      clear hpl hbw
      go_wp2
      go_ret
      refine ⟨by rw [HB.out.1]; rfl, ?_⟩
      rw [← HZ.out]
      exact H4.out.1.trans (HB.out.2.mono (by have := H4.out.2.2; omega))
end Of
end Go.Proofs.Ytjgakcpjphdicaa
