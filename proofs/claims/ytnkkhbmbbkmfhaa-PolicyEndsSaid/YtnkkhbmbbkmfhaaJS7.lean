/- PolicyEnds: the walk. -/
import Derived.Test.YtnkkhbmbbkmfhaaJS5
import Derived.Test.YtnkkhbmbbkmfhaaK2
namespace Go.Proofs.Ytnkkhbmbbkmfhaa
open Go.RowKit Go.Sort Go.Lib
namespace Py

abbrev epl (x : PU) : List Value := [.int .i64 x.p, .int .i64 x.f, .int .i64 x.t]
/-- The six policies: kind, age, most. -/
def pols : List PU := [⟨2, 0, 0⟩, ⟨4, 0, 0⟩, ⟨3, 0, 0⟩, ⟨1, 0, 0⟩, ⟨4, 0, 1024⟩, ⟨3, 1000000000, 0⟩]
def polv (d k : Int) : List Int := [d, d, d, k, k, k]
def mkv (d k : Int) (i : Nat) : List Int := (polv d k).take i ++ List.replicate (6 - i) 0
theorem mkv_set (d k : Int) {i : Nat} (h : i < 6) : (mkv d k i).set i ((polv d k).getD i 0) = mkv d k (i + 1) := by
  match i, h with
  | 0, _ => rfl
  | 1, _ => rfl
  | 2, _ => rfl
  | 3, _ => rfl
  | 4, _ => rfl
  | 5, _ => rfl
theorem mkv_len (d k : Int) {i : Nat} (h : i ≤ 6) : (mkv d k i).length = 6 := by
  unfold mkv polv
  rw [List.length_append, List.length_take, List.length_replicate]
  simp; omega
theorem pol_cost {L : List PU} (hL : OkL L) (h w : Int) {i : Nat} (hi : i < 6) : costX L h w (use pols i).p (use pols i).f (use pols i).t 0 = ((polv (agedV L h w 0) (agedV L h w 1000000000)).getD i 0, 0) := by
  have m0 := most_0 hL (stepsV_is hL) h w
  have m1 := most_all hL (stepsV_is hL) (h := h) (w := w) (lim := 1024) (Nat.le_refl _)
  match i, hi with
  | 0, _ => rfl
  | 1, _ =>
    show (mostV L (stepsV L) h w 0, (0 : Int)) = (agedV L h w 0, 0)
    rw [m0]
  | 2, _ => rfl
  | 3, _ => rfl
  | 4, _ =>
    show (mostV L (stepsV L) h w 1024, (0 : Int)) = (agedV L h w 1000000000, 0)
    rw [m1]
  | 5, _ => rfl
theorem pols_at {w : World} {b T : Nat} (h : w.heap[b]? = some (.cells #[.int .i64 2, .int .i64 0, .int .i64 0, .int .i64 4, .int .i64 0, .int .i64 0, .int .i64 3, .int .i64 0, .int .i64 0, .int .i64 1, .int .i64 0, .int .i64 0, .int .i64 4, .int .i64 0, .int .i64 1024, .int .i64 3, .int .i64 1000000000, .int .i64 0] T (0, 0))) {i : Nat} (hi : i < 6) :
    w.cell? ⟨b, i * 3, none⟩ = some (.int .i64 (use pols i).p) ∧ w.cell? ⟨b, i * 3 + 1, none⟩ = some (.int .i64 (use pols i).f) ∧ w.cell? ⟨b, i * 3 + 2, none⟩ = some (.int .i64 (use pols i).t) := by
  rw [cell_of_row _ _ _ _ _ _ h, cell_of_row _ _ _ _ _ _ h, cell_of_row _ _ _ _ _ _ h]
  match i, hi with
  | 0, _ => exact ⟨rfl, rfl, rfl⟩
  | 1, _ => exact ⟨rfl, rfl, rfl⟩
  | 2, _ => exact ⟨rfl, rfl, rfl⟩
  | 3, _ => exact ⟨rfl, rfl, rfl⟩
  | 4, _ => exact ⟨rfl, rfl, rfl⟩
  | 5, _ => exact ⟨rfl, rfl, rfl⟩
theorem S6.below {W w1 w2 : World} {n b b2 o : Nat} {h w p f t : Int} (s : Below n W w1 ∧ w1.cell? ⟨b, 0, none⟩ = some (.int .i64 h) ∧ w1.cell? ⟨b, 1, none⟩ = some (.int .i64 w) ∧ w1.cell? ⟨b2, o, none⟩ = some (.int .i64 p) ∧ w1.cell? ⟨b2, o + 1, none⟩ = some (.int .i64 f) ∧ w1.cell? ⟨b2, o + 2, none⟩ = some (.int .i64 t)) (hb : Below w1.heap.size w1 w2) (hn : n ≤ W.heap.size := by exact Nat.le_refl _) : Below n W w2 ∧ w2.cell? ⟨b, 0, none⟩ = some (.int .i64 h) ∧ w2.cell? ⟨b, 1, none⟩ = some (.int .i64 w) ∧ w2.cell? ⟨b2, o, none⟩ = some (.int .i64 p) ∧ w2.cell? ⟨b2, o + 1, none⟩ = some (.int .i64 f) ∧ w2.cell? ⟨b2, o + 2, none⟩ = some (.int .i64 t) :=
  ⟨s.1.trans (hb.mono (Nat.le_trans hn s.1.size)), cell_keep2 hb s.2.1, cell_keep2 hb s.2.2.1, cell_keep2 hb s.2.2.2.1, cell_keep2 hb s.2.2.2.2.1, cell_keep2 hb s.2.2.2.2.2⟩
theorem worst_ok {h w x0 x1 : Int} (e : worstE h w x0 x1 = 0) : OkC h w ∧ 0 ≤ x0 ∧ x0 ≤ 1000000000 ∧ 1 ≤ x1 ∧ x1 ≤ 200 ∧ 1 + (x1 - 1) * (x0 + 2) ≤ 1000000000 := by
  unfold worstE at e
  split at e
  · omega
  · next h1 =>
    split at e
    · omega
    · next h2 =>
      simp only [ne_eq, not_or, Int.not_lt, Classical.not_not] at h1
      exact ⟨(costV_ok h w).1 h1.1, h1.2.1, h1.2.2.1, h1.2.2.2.1, h1.2.2.2.2, by omega⟩
set_option maxRecDepth 100000 in
set_option maxHeartbeats 8000000 in
theorem ends_walk (W : World) (A : Option Addr) (c : Nat) (L : List PU) (hL : UAt W A c L) (h w x0 x1 : Int) (bx0 : -9223372036854775808 ≤ x0 ∧ x0 ≤ 9223372036854775807) (bx1 : -9223372036854775808 ≤ x1 ∧ x1 ≤ 9223372036854775807) : Calls Try.prog 8 #[.slice A L.length c, cbx h w, .agg #[.int .i64 x0, .int .i64 x1]] W fun e w' => e = .returned (.bool true) ∧ Below W.heap.size W w' := by
  obtain ⟨k1, k2⟩ := two_boxes W #[.int .i64 h, .int .i64 w] #[.int .i64 x0, .int .i64 x1] 24 47
  have hb2 : Below W.heap.size W ((W.alloc (.cells #[.int .i64 h, .int .i64 w] 24)).alloc (.cells #[.int .i64 x0, .int .i64 x1] 47)) := (below_box W _).alloc (by simp) _
  have hC := fun k a m V (hV : Below W.heap.size W V) => Cost_ok A c L h w k a m V (hL.below hV (Nat.le_refl _))
  have hD := fun V (hV : Below W.heap.size W V) => (checkR_ok A c L V (hL.below hV (Nat.le_refl _))).mono fun e w' h => checkR_any h
  have hcc := fun V => costR_ok h w V
  have hE := fun V => Worst_ok h w x0 x1 V
  have hcm := hL.2.1
  unfold maxLen at hcm
  have hlc := hL.1
  have HX := Lib.hid (And.intro hb2 (And.intro k1 k2))
  have HFA := Lib.hid (fun V => far_ok V A c L.length 210)
  have HD := Lib.hid hD
  have HCC := Lib.hid hcc
  have HE := Lib.hid hE
  have hgood : checkV L = 0 → costV h w = 0 →
      (∀ i, i < 6 → ∀ V, Below W.heap.size W V → Calls Try.prog 13 #[.slice A L.length c, cbx h w, pb (use pols i).p (use pols i).f (use pols i).t] V fun e w' => e = .returned (.tuple #[.int .i64 ((polv (agedV L h w 0) (agedV L h w 1000000000)).getD i 0), .int .i64 0]) ∧ Below V.heap.size V w') := fun g1 g2 i hi V hV => by
    have hask : askV L h w = 0 := by unfold askV; rw [if_pos g1]; exact g2
    have := hC (use pols i).p (use pols i).f (use pols i).t V hV
    rw [hask, pol_cost (ask_ok.1 hask).1 h w hi] at this
    exact this
  have HG := Lib.hid hgood
  have HL := Lib.hid hL
  clear hb2 k1 k2 hC hL hD hcc hgood hE
  generalize agedV L h w 0 = dv at *
  generalize agedV L h w 1000000000 = kv at *
  generalize L.length = n at *
  generalize checkV L = z at *
  generalize hz2v : costV h w = z2 at *
  have HZ2 := Lib.hid hz2v
  clear hz2v
  go_enter Try.func8, Try.ntmps8
  go_upto_region 1 with (fail)
  generalize hV : (W.alloc (.cells #[.int .i64 h, .int .i64 w] 24)).alloc (.cells #[.int .i64 x0, .int .i64 x1] 47) = V at *
  have c0 : V.cell? ⟨W.heap.size, 0, none⟩ = some (.int .i64 h) := by rw [cell_of_row _ _ _ _ _ _ HX.out.2.1]; rfl
  have c1 : V.cell? ⟨W.heap.size, 1, none⟩ = some (.int .i64 w) := by rw [cell_of_row _ _ _ _ _ _ HX.out.2.1]; rfl
  have p0 : V.cell? ⟨W.heap.size + 1, 0, none⟩ = some (.int .i64 x0) := by rw [cell_of_row _ _ _ _ _ _ HX.out.2.2]; rfl
  have p1 : V.cell? ⟨W.heap.size + 1, 1, none⟩ = some (.int .i64 x1) := by rw [cell_of_row _ _ _ _ _ _ HX.out.2.2]; rfl
  have hvs : W.heap.size + 2 ≤ V.heap.size := by rw [← hV]; simp
  clear hV
  have H1 := Lib.hid HX.out.1
  obtain ⟨bv, hbv⟩ : ∃ bv : Bool, bv = (farB n 210 || (z != 0) || (z2 != 0)) := ⟨_, rfl⟩
  have HBV := Lib.hid hbv
  go_cut [27] from 16 to 26 (fun b wx => b = .bool bv ∧ Below V.heap.size V wx)
  case first =>
    cases hf : farB n 210 with
    | true =>
      rw [hf] at HFA hbv
      clear hf
      go_wp2_with (go_at_call 11; refine (HFA.out _).mono ?_; rintro e w1 ⟨rfl, hw⟩; have hw := hw.symm; subst hw)
      go_meet
      exact ⟨by rw [hbv]; rfl, Below.refl _ _⟩
    | false =>
      rw [hf] at HFA hbv
      clear hf
      cases hz : (z != 0) with
      | true =>
        rw [hz] at hbv
        go_wp2_with (first | (go_at_call 11; refine (HFA.out _).mono ?_; rintro e w1 ⟨rfl, hw⟩; have hw := hw.symm; subst hw) | (go_at_call 16; refine (HD.out _ H1.out).mono ?_; rintro e w2 ⟨rfl, hb⟩; have H2 := Lib.hid hb; clear hb))
        go_meet
        exact ⟨by rw [hbv]; rfl, H2.out⟩
      | false =>
        rw [hz] at hbv
        have HB2 := Lib.hid (show bv = (z2 != 0) by rw [hbv]; rfl)
        clear hbv
        go_wp2_with (first | (go_at_call 11; refine (HFA.out _).mono ?_; rintro e w1 ⟨rfl, hw⟩; have hw := hw.symm; subst hw) | (go_at_call 16; refine (HD.out _ H1.out).mono ?_; rintro e w2 ⟨rfl, hb⟩; replace c0 := cell_keep2 hb c0; replace c1 := cell_keep2 hb c1; have H2 := Lib.hid hb; clear hb) | (go_at_call 17; refine (HCC.out _).mono ?_; rintro e w3 ⟨rfl, hb⟩; have H3 := Lib.hid (H2.out.trans (hb.mono H2.out.size)); clear hb))
        go_meet
        exact ⟨by rw [HB2.out], H3.out⟩
  case rest =>
  obtain ⟨rfl, hbc⟩ := hcut
  obtain ⟨V2, hV2⟩ : ∃ V2, V2 = wc := ⟨_, rfl⟩
  subst hV2
  replace c0 := cell_keep2 hbc c0
  replace c1 := cell_keep2 hbc c1
  replace p0 := cell_keep2 hbc p0
  replace p1 := cell_keep2 hbc p1
  replace H1 := Lib.hid (H1.out.trans (hbc.mono H1.out.size))
  have HSZ := Lib.hid (Nat.le_trans hvs hbc.size)
  clear hbc hbv hvs
  cases bv with
  | true =>
    go_wp2_with (go_at_call 12; refine (awake_ok _).mono ?_; rintro e w3 ⟨rfl, hb⟩; have HZ := Lib.hid hb; clear hb)
    go_ret
    exact ⟨rfl, H1.out.trans (HZ.out.mono H1.out.size)⟩
  | false =>
    have hall := HBV.out.symm
    simp only [Bool.or_eq_false_iff, bne_eq_false_iff_eq] at hall
    obtain ⟨⟨_, hz⟩, hz2⟩ := hall
    have HC := Lib.hid (HG.out hz hz2)
    clear hz hz2
    go_upto_region 5 with (fail)
    obtain ⟨k1, k2⟩ := two_boxes V2 #[.int .i64 2, .int .i64 0, .int .i64 0, .int .i64 4, .int .i64 0, .int .i64 0, .int .i64 3, .int .i64 0, .int .i64 0, .int .i64 1, .int .i64 0, .int .i64 0, .int .i64 4, .int .i64 0, .int .i64 1024, .int .i64 3, .int .i64 1000000000, .int .i64 0] #[.int .i64 0, .int .i64 0, .int .i64 0, .int .i64 0, .int .i64 0, .int .i64 0] 53 54
    have hb4 : Below V2.heap.size V2 ((V2.alloc (.cells #[.int .i64 2, .int .i64 0, .int .i64 0, .int .i64 4, .int .i64 0, .int .i64 0, .int .i64 3, .int .i64 0, .int .i64 0, .int .i64 1, .int .i64 0, .int .i64 0, .int .i64 4, .int .i64 0, .int .i64 1024, .int .i64 3, .int .i64 1000000000, .int .i64 0] 53)).alloc (.cells #[.int .i64 0, .int .i64 0, .int .i64 0, .int .i64 0, .int .i64 0, .int .i64 0] 54)) := (below_box V2 _).alloc (by simp) _
    have hs4 : ((V2.alloc (.cells #[.int .i64 2, .int .i64 0, .int .i64 0, .int .i64 4, .int .i64 0, .int .i64 0, .int .i64 3, .int .i64 0, .int .i64 0, .int .i64 1, .int .i64 0, .int .i64 0, .int .i64 4, .int .i64 0, .int .i64 1024, .int .i64 3, .int .i64 1000000000, .int .i64 0] 53)).alloc (.cells #[.int .i64 0, .int .i64 0, .int .i64 0, .int .i64 0, .int .i64 0, .int .i64 0] 54)).heap.size = V2.heap.size + 2 := by simp
    generalize hV4 : (V2.alloc (.cells #[.int .i64 2, .int .i64 0, .int .i64 0, .int .i64 4, .int .i64 0, .int .i64 0, .int .i64 3, .int .i64 0, .int .i64 0, .int .i64 1, .int .i64 0, .int .i64 0, .int .i64 4, .int .i64 0, .int .i64 1024, .int .i64 3, .int .i64 1000000000, .int .i64 0] 53)).alloc (.cells #[.int .i64 0, .int .i64 0, .int .i64 0, .int .i64 0, .int .i64 0, .int .i64 0] 54) = V4 at *
    replace c0 := cell_keep2 hb4 c0
    replace c1 := cell_keep2 hb4 c1
    replace p0 := cell_keep2 hb4 p0
    replace p1 := cell_keep2 hb4 p1
    have hW4 : Below W.heap.size W V4 := H1.out.trans (hb4.mono H1.out.size)
    have hsz1 : W.heap.size + 2 ≤ V2.heap.size := HSZ.out
    have hrow : RowI 54 V4 (V2.heap.size + 1) (mkv dv kv 0) := ⟨_, k2, rfl⟩
    obtain ⟨pbk, hpbk⟩ : ∃ x, x = V2.heap.size := ⟨_, rfl⟩
    rw [← hpbk] at k1 hsz1 hs4 hrow ⊢
    have HP := Lib.hid (And.intro k1 (And.intro hW4 (And.intro hrow hs4)))
    have HCL := Lib.hid (And.intro c0 (And.intro c1 (And.intro p0 p1)))
    clear k1 k2 hb4 hV4 hW4 hrow hs4 hpbk c0 c1 p0 p1
    go_upto_region 6 with (fail)
    go_loopw [9] (fun i wr => ∃ k : Nat, k ≤ 6 ∧ i = .int .i64 (k : Int) ∧ RowI 54 wr (pbk + 1) (mkv dv kv k) ∧ Below (pbk + 1) V4 wr) (fun i _ => 6 - (intOf i).toNat)
    case atStart => exact ⟨0, by omega, rfl, HP.out.2.2.1, Below.refl _ _⟩
    case round =>
      obtain ⟨k, hk, rfl, hr, hbw⟩ := hrel
      obtain ⟨bc1, bc2⟩ := bcell hbw
      by_cases hlt : k < 6
      · have hkz : (k : Int) < 6 := by omega
        have c0 := (bc1 W.heap.size 0 (by omega)).trans HCL.out.1
        have c1 := (bc1 W.heap.size 1 (by omega)).trans HCL.out.2.1
        obtain ⟨d0, d1, d2⟩ := pols_at HP.out.1 hlt
        replace d0 := (bc1 pbk (k * 3) (by omega)).trans d0
        replace d1 := (bc1 pbk (k * 3 + 1) (by omega)).trans d1
        replace d2 := (bc1 pbk (k * 3 + 2) (by omega)).trans d2
        have hbW : Below W.heap.size W wr := HP.out.2.1.trans (hbw.mono (by omega))
        have hco := HC.out k hlt
        have hset := mkv_set dv kv hlt
        have hrl := hr.lt
        generalize use pols k = u at *
        obtain ⟨up, uf, ut⟩ := u
        dsimp only at d0 d1 d2 hco
        generalize (polv dv kv).getD k 0 = va at *
        have HCO := Lib.hid hco
        have HR := Lib.hid (And.intro hr (And.intro hbw (And.intro hset hbW)))
        clear hr hbw hbW hco hset bc1 bc2
        go_upto_region 8 with (fail)
        have s0 : Below W.heap.size W wr.drew ∧ wr.drew.cell? ⟨W.heap.size, 0, none⟩ = some (.int .i64 h) ∧ wr.drew.cell? ⟨W.heap.size, 1, none⟩ = some (.int .i64 w) ∧ wr.drew.cell? ⟨pbk, k * 3, none⟩ = some (.int .i64 up) ∧ wr.drew.cell? ⟨pbk, k * 3 + 1, none⟩ = some (.int .i64 uf) ∧ wr.drew.cell? ⟨pbk, k * 3 + 2, none⟩ = some (.int .i64 ut) := ⟨below_drew HR.out.2.2.2, c0, c1, d0, d1, d2⟩
        go_region_held3 (fun w' => Below W.heap.size W w' ∧ w'.cell? ⟨W.heap.size, 0, none⟩ = some (.int .i64 h) ∧ w'.cell? ⟨W.heap.size, 1, none⟩ = some (.int .i64 w) ∧ w'.cell? ⟨pbk, k * 3, none⟩ = some (.int .i64 up) ∧ w'.cell? ⟨pbk, k * 3 + 1, none⟩ = some (.int .i64 uf) ∧ w'.cell? ⟨pbk, k * 3 + 2, none⟩ = some (.int .i64 ut))
          (first | assumption | exact S6.below (by assumption) hb3)
          (first | (go_at_call 13; with_reducible refine (HCO.out _ (And.left (by assumption))).mono ?_; rintro e w3 ⟨rfl, hb3⟩))
        all_goals
          have hb3' : Below wr.heap.size wr w3 := ⟨hb3.os, hb3.tape, hb3.output, hb3.size, hb3.block⟩
          have hr3 : RowI 54 w3 (pbk + 1) (mkv dv kv k) := HR.out.1.keep (hb3'.block _ hrl)
          have cN := hr3.cell (j := k) (by rw [mkv_len _ _ (by omega)]; exact hlt)
          have fN := hr3.frozen k
          have hr4 := hr3.set k va
          rw [HR.out.2.2.1] at hr4
          have hb4 : Below (pbk + 1) V4 (w3.setCell ⟨pbk + 1, k, none⟩ (.int .i64 va)) := (HR.out.2.1.trans (hb3'.mono (by have := HP.out.2.2.2; have := HR.out.2.1.size; omega))).setCell (Nat.le_refl _) _
          have H4 := Lib.hid (And.intro hr4 hb4)
          clear hr3 hr4 hb4 hb3 hb3' s0 c0 c1 d0 d1 d2
          go_wp2_with (fail)
          go_roundw
          case rel => exact ⟨k + 1, by omega, by go_num, H4.out.1, H4.out.2⟩
          case measure => simp [intOf]; omega
      · obtain rfl : k = 6 := by omega
        have hml : (mkv dv kv 6).length = 6 := rfl
        have n0 : wr.cell? ⟨pbk + 1, 0, none⟩ = some (.int .i64 dv) := hr.cell (by rw [hml]; omega)
        have n1 : wr.cell? ⟨pbk + 1, 1, none⟩ = some (.int .i64 dv) := hr.cell (by rw [hml]; omega)
        have n2 : wr.cell? ⟨pbk + 1, 2, none⟩ = some (.int .i64 dv) := hr.cell (by rw [hml]; omega)
        have n3 : wr.cell? ⟨pbk + 1, 3, none⟩ = some (.int .i64 kv) := hr.cell (by rw [hml]; omega)
        have n4 : wr.cell? ⟨pbk + 1, 4, none⟩ = some (.int .i64 kv) := hr.cell (by rw [hml]; omega)
        have n5 : wr.cell? ⟨pbk + 1, 5, none⟩ = some (.int .i64 kv) := hr.cell (by rw [hml]; omega)
        have c0 := (bc1 W.heap.size 0 (by omega)).trans HCL.out.1
        have c1 := (bc1 W.heap.size 1 (by omega)).trans HCL.out.2.1
        have p0 := (bc1 (W.heap.size + 1) 0 (by omega)).trans HCL.out.2.2.1
        have p1 := (bc1 (W.heap.size + 1) 1 (by omega)).trans HCL.out.2.2.2
        have hd : (dv != dv) = false := by simp
        have hkk : (kv != kv) = false := by simp
        have H6 := Lib.hid (HP.out.2.1.trans (hbw.mono (by omega)))
        clear bc1 bc2 hr hbw hml hlt
        obtain ⟨V6, hV6⟩ : ∃ V6, V6 = wr := ⟨_, rfl⟩
        subst hV6
        go_upto_region 14 with (fail)
        clear n0 n1 n2 n3 n4 n5
        by_cases hwe : worstE h w x0 x1 = 0
        · obtain ⟨hC2, a0, a1, b0, b1, hle⟩ := worst_ok hwe
          have hW := fun V => (HE.out V).mono fun e w' hh => (And.intro (hh.2.1 hwe) hh.2.2 : (∃ A' c', e = Ending.returned (.tuple #[.slice A' (worstL x0 x1.toNat).length c', .int .i64 0]) ∧ EAt eu 3 w' A' c' (worstL x0 x1.toNat)) ∧ Below V.heap.size V w')
          obtain ⟨m, rfl⟩ : ∃ m : Nat, x1 = (m : Int) := ⟨x1.toNat, by omega⟩
          rw [show (m : Int).toNat = m from rfl] at hW
          have hLW := worst_bad a0 hle (by omega)
          have hcost := worst_cost (h := h) (w := w) a0 hle (by omega) (by omega)
          have h0 := hC2.h0; have h9 := hC2.h1; have w0 := hC2.w0; have w9 := hC2.w1
          obtain ⟨y1, e1⟩ : ∃ y, y = (m : Int) * w := ⟨_, rfl⟩
          obtain ⟨y2, e2⟩ : ∃ y, y = ((m : Int) - 1) * x0 := ⟨_, rfl⟩
          obtain ⟨y3, e3⟩ : ∃ y, y = y2 * h := ⟨_, rfl⟩
          have by1 := mul_bd (a := (m : Int)) (b := w) (A := 200) (B := 1000000000) (by omega) w0 (by omega) w9
          have by2 : 0 ≤ y2 ∧ y2 ≤ 1000000000 := by
            have h1 : 0 ≤ ((m : Int) - 1) * x0 := Int.mul_nonneg (by omega) a0
            rw [Int.mul_add] at hle
            omega
          have by3 := mul_bd (a := y2) (b := h) (A := 1000000000) (B := 1000) by2.1 h0 by2.2 h9
          rw [← e1, ← e2, ← e3] at hcost
          rw [← e1] at by1
          rw [← e3] at by3
          have hCW : ∀ A' c' V, UAt V A' c' (worstL x0 m) → Calls Try.prog 13 #[.slice A' m c', cbx h w, pb 3 x0 0] V fun e w' => e = .returned (.tuple #[.int .i64 (y1 + y3), .int .i64 0]) ∧ Below V.heap.size V w' := fun A' c' V hU => by
            have h1 := Cost_ok A' c' (worstL x0 m) h w 3 x0 0 V hU
            have hask : askV (worstL x0 m) h w = 0 := ask_ok.2 ⟨hLW, hC2⟩
            have hcx : costX (worstL x0 m) h w 3 x0 0 0 = (y1 + y3, 0) := by
              unfold costX
              rw [if_neg (by omega), if_pos (by unfold polB; simp; omega), ← hcost]
              rfl
            rw [hask, hcx, worstL_len] at h1
            exact h1
          rw [worstL_len] at hW
          have HW := Lib.hid (And.intro hW hCW)
          have q1 : (m : Int) * w = y1 := e1.symm
          have q2 : ((m : Int) - 1) * x0 = y2 := e2.symm
          have q3 : y2 * h = y3 := e3.symm
          obtain ⟨by11, by12⟩ := by1
          obtain ⟨by21, by22⟩ := by2
          obtain ⟨by31, by32⟩ := by3
          clear hwe hW hCW hLW hcost hC2 hle e1 e2 e3 bx1
          go_upto_region 15 with (go_at_call 25; refine (HW.out.1 _).mono ?_; rintro e w7 ⟨⟨A7, d7, rfl, u7⟩, hb7⟩)
          replace c0 := cell_keep2 hb7 c0
          replace c1 := cell_keep2 hb7 c1
          replace p0 := cell_keep2 hb7 p0
          replace p1 := cell_keep2 hb7 p1
          have H7 := Lib.hid (H6.out.trans (hb7.mono H6.out.size))
          have hcw := HW.out.2 A7 d7 w7 (uat_e.2 u7)
          have q7 := u7.1
          have s7 := u7.2.1
          rw [worstL_len] at q7
          unfold maxLen at s7
          have HCW := Lib.hid hcw
          clear hb7 hcw u7
          go_upto_region 18 with (go_at_call 13; with_reducible refine HCW.out.mono ?_; rintro e w8 ⟨rfl, hb8⟩)
          replace c0 := cell_keep2 hb8 c0
          replace c1 := cell_keep2 hb8 c1
          replace p0 := cell_keep2 hb8 p0
          replace p1 := cell_keep2 hb8 p1
          have H8 := Lib.hid (H7.out.trans (hb8.mono H7.out.size))
          clear hb8
          have hmm : ((m : Int) == (m : Int)) = true := by simp
          go_wp2_with (go_at_call 12; refine (awake_ok _).mono ?_; rintro e w9 ⟨rfl, hb⟩; have HZ := Lib.hid (H8.out.trans (hb.mono H8.out.size)); clear hb)
          go_ret
          exact ⟨rfl, HZ.out⟩
        · have hW := fun V => (HE.out V).mono fun e w' hh => (And.intro (hh.1 hwe) hh.2.2 : e = Ending.returned (.tuple #[.slice none 0 0, .int .i64 (worstE h w x0 x1)]) ∧ Below V.heap.size V w')
          generalize worstE h w x0 x1 = we at *
          have hne : (we != 0) = true := by simp [hwe]
          have HW := Lib.hid hW
          clear hW hwe
          go_wp2_with (first | (go_at_call 25; refine (HW.out _).mono ?_; rintro e w7 ⟨rfl, hb7⟩; have H7 := Lib.hid (H6.out.trans (hb7.mono H6.out.size)); clear hb7) | (go_at_call 12; refine (awake_ok _).mono ?_; rintro e w9 ⟨rfl, hb⟩; have HZ := Lib.hid (H7.out.trans (hb.mono H7.out.size)); clear hb))
          go_ret
          exact ⟨rfl, HZ.out⟩
end Py
end Go.Proofs.Ytnkkhbmbbkmfhaa
