/- The program: the cost of a rule. -/
import Derived.Test.YtnkkhbmbbkmfhaaJA7
import Derived.Maps.RangeWalk
namespace Go.Proofs.Ytnkkhbmbbkmfhaa
open Go.RowKit Go.Sort Go.Lib
namespace Py

def gapSK (h w age : Int) (G : List PU) (k : Nat) : Int := ((G.take k).map (gapC h w age)).sum
theorem gapSK_0 (h w age : Int) (G : List PU) : gapSK h w age G 0 = 0 := rfl
theorem gapSK_next {G : List PU} {k : Nat} (hk : k < G.length) (h w age : Int) : gapSK h w age G (k + 1) = gapSK h w age G k + gapC h w age (use G k) := by
  unfold gapSK
  rw [take_next (use_get hk), sum_add1]
theorem gapSK_bd {h w age : Int} (hc : OkC h w) (ha : 0 ≤ age) {G : List PU} (hG : ∀ g, g ∈ G → OkG g) (k : Nat) (hk : k ≤ 200) : 0 ≤ gapSK h w age G k ∧ gapSK h w age G k ≤ 200200000000000 := by
  have := sum_bd (f := gapC h w age) (B := 1001000000000) (l := G.take k) fun x hx => gapC_bd hc ha (hG x (List.mem_of_mem_take hx))
  have hl : (G.take k).length ≤ 200 := by rw [List.length_take]; omega
  unfold gapSK
  omega
/-- What is left of the map is not yet counted. -/
def lft (left : Lit → Bool) (m : Mp) : Mp := fun p => if left (kz p) = true then none else m p
theorem lft_step {left : Lit → Bool} {m : Mp} {x c : Int} (hm : m x = some c) : lft (fun z => left z && !z.sameKey (kz x)) m = upd (lft left m) x (some c) := by
  funext p
  unfold lft upd
  by_cases e : p = x
  · rw [if_pos e, e]
    have : Lit.sameKey (kz x) (kz x) = true := by simp [Lit.sameKey]
    simp [this, hm]
  · rw [if_neg e]
    have : Lit.sameKey (kz p) (kz x) = false := by simp [Lit.sameKey, e]
    simp [this]
theorem lft_all {D : DataW Unit} {m : Mp} (h : MapIs D m) : lft (Maps.has D) m = no := by
  funext p
  unfold lft
  rw [h.has]
  cases m p <;> rfl
theorem lft_none {left : Lit → Bool} (h : ∀ kl, left kl = false) (m : Mp) : lft left m = m := by
  funext p; unfold lft; rw [h]; rfl
theorem tailC_bd2 {h w age : Int} (hc : OkC h w) (ha : 0 ≤ age) {L : List PU} (hL : OkL L) {p c : Int} (hm : lastF no L p = some c) : (0 ≤ p ∧ p < 1024) ∧ (0 ≤ endV L - c ∧ endV L - c ≤ 1000000000) ∧ 0 ≤ tailC h age (endV L) c ∧ tailC h age (endV L) c ≤ 1000000000000 := by
  have hm' := hm
  rw [← List.take_length (l := L)] at hm'
  obtain ⟨j, h1, h2, h3, h4⟩ := last_from L.length p c hm'
  have hu := hL.use h2
  have e1 := endV_ge (use_mem h2)
  have e2 := endV_le hL.ok
  have f0 := hu.f0; have ft := hu.ft
  rw [h4] at e1 ft
  refine ⟨by rw [← h3]; exact ⟨hu.p0, hu.p1⟩, by omega, ?_⟩
  exact tailC_bd hc ha e2 (by omega) e1
set_option maxRecDepth 100000 in
set_option maxHeartbeats 4000000 in
theorem cost_ok (t b : Nat) (A : Option Addr) (c : Nat) (L : List PU) (h w age : Int) (hL : OkL L) (hc : OkC h w) (ha : 0 ≤ age) (ha1 : age ≤ 1000000000) (W : World) (ht : TrAt W t A c L) (hage : W.cell? ⟨b, 0, none⟩ = some (.int .i64 age)) :
    Calls Try.prog 36 #[.pointer (some ⟨t, 0, none⟩), cbx h w, .agg #[agF b]] W fun e w' => e = .returned (.int .i64 (agedV L h w age)) ∧ Below W.heap.size W w' := by
  have hlen := hL.len
  have h0 := hc.h0; have h1 := hc.h1; have w0 := hc.w0; have w1 := hc.w1
  obtain ⟨k1, k2⟩ := two_boxes W #[.int .i64 h, .int .i64 w] #[agF b] 24 73
  have hbl : Below W.heap.size W ((W.alloc (.cells #[.int .i64 h, .int .i64 w] 24)).alloc (.cells #[agF b] 73)) := (below_box W _).alloc (by simp) _
  have ht2 := ht.below hbl
  have hage2 := cell_keep2 hbl hage
  have hall := aged_pages hL h w age
  have HC := Lib.hid (And.intro hL (And.intro hc hall))
  clear hL hc hall ht hage
  go_enter Try.func36, Try.ntmps36
  go_upto_region 1 with (fail)
  generalize (W.alloc (.cells #[.int .i64 h, .int .i64 w] 24)).alloc (.cells #[agF b] 73) = V at *
  obtain ⟨B, d, mb, n, D, e1, e2, e3, e4, e5⟩ := ht2.ex
  have x0 : V.cell? ⟨W.heap.size, 0, none⟩ = some (.int .i64 h) := by rw [cell_of_row _ _ _ _ _ _ k1]; rfl
  have x1 : V.cell? ⟨W.heap.size, 1, none⟩ = some (.int .i64 w) := by rw [cell_of_row _ _ _ _ _ _ k1]; rfl
  have r0 : V.cell? ⟨W.heap.size + 1, 0, none⟩ = some (agF b) := by rw [cell_of_row _ _ _ _ _ _ k2]; rfl
  have t1 : V.cell? ⟨t, 1, none⟩ = some (.slice B (gapsV L).length d) := by rw [cell_of_row _ _ _ _ _ _ e1]; rfl
  have t2 : V.cell? ⟨t, 2, none⟩ = some (.map (some mb)) := by rw [cell_of_row _ _ _ _ _ _ e1]; rfl
  have t3 : V.cell? ⟨t, 3, none⟩ = some (.int .i64 (endV L)) := by rw [cell_of_row _ _ _ _ _ _ e1]; rfl
  have hml : ∀ (q : Nat) (ty : TypeId), (Builtin.len_ #[82] ty #[.map (some mb)]).run Try.prog (V.drewN q) = .ok (.int .i64 (firsts L)) (V.drewN q) := fun q ty => by
    have := (show MapAt (V.drewN q) mb n D from e3).len Try.underlying82 ty
    rw [e5] at this; exact this
  have hfl := firsts_le L
  have hgl := gapsV_len L
  have hgs : ∀ i, i < (gapsV L).length → OkG (use (gapsV L) i) := fun i hi => use_okG HC.out.1 hi
  have hgb := fun k (hk : k ≤ 200) => gapSK_bd HC.out.2.1 ha (G := gapsV L) (fun g hg => ok_gaps HC.out.1 hg) k hk
  have hgn := fun k (hk : k < (gapsV L).length) => gapSK_next hk h w age
  have hgz : gapSK h w age (gapsV L) 0 = 0 := rfl
  have hga : ((gapsV L).map (gapC h w age)).sum = gapSK h w age (gapsV L) (gapsV L).length := by unfold gapSK; rw [List.take_length]
  have htl := fun p cc (hm : lastF no L p = some cc) => tailC_bd2 HC.out.2.1 ha HC.out.1 hm
  have hall := HC.out.2.2
  rw [hga] at hall
  generalize firsts L = fi at *
  generalize endV L = en at *
  generalize gapsV L = G at *
  generalize lastF no L = lm at *
  obtain ⟨fw, hfw⟩ : ∃ fw, fw = (fi : Int) * w := ⟨_, rfl⟩
  have hfb : 0 ≤ fw ∧ fw ≤ 200000000000 := by rw [hfw]; have := mul_bd (a := (fi : Int)) (b := w) (A := 200) (B := 1000000000) (by omega) w0 (by omega) w1; omega
  rw [← hfw] at hall
  have q1 : (fi : Int) * w = fw := hfw.symm
  have HE := Lib.hid (And.intro hbl (And.intro e2 (And.intro e3 (And.intro e4 (And.intro htl hall)))))
  have HG := Lib.hid (And.intro hgs (And.intro hgb (And.intro hgn hgz)))
  clear hbl ht2 e1 e2 e3 e4 e5 htl hall hgs hgb hgn hgz hga hfw k1 k2
  go_quiet (fail)
  obtain ⟨V2, hV2⟩ : ∃ V2, V2 = V.drewN nq := ⟨_, rfl⟩
  rw [← hV2]
  have hbv : Below W.heap.size W V2 := by rw [hV2]; exact below_drewN HE.out.1 _
  have e2 : EAt eu 3 V2 B d G := by rw [hV2]; exact HE.out.2.1
  have e3 : MapAt V2 mb n D := by rw [hV2]; exact HE.out.2.2.1
  replace x0 : V2.cell? ⟨W.heap.size, 0, none⟩ = some (.int .i64 h) := by rw [hV2]; exact x0
  replace x1 : V2.cell? ⟨W.heap.size, 1, none⟩ = some (.int .i64 w) := by rw [hV2]; exact x1
  replace r0 : V2.cell? ⟨W.heap.size + 1, 0, none⟩ = some (agF b) := by rw [hV2]; exact r0
  replace t1 : V2.cell? ⟨t, 1, none⟩ = some (.slice B G.length d) := by rw [hV2]; exact t1
  replace t2 : V2.cell? ⟨t, 2, none⟩ = some (.map (some mb)) := by rw [hV2]; exact t2
  replace t3 : V2.cell? ⟨t, 3, none⟩ = some (.int .i64 en) := by rw [hV2]; exact t3
  replace hage2 : V2.cell? ⟨b, 0, none⟩ = some (.int .i64 age) := by rw [hV2]; exact hage2
  have HV := Lib.hid (And.intro hbv (And.intro e2 (And.intro e3 (And.intro x0 (And.intro x1 (And.intro r0 (And.intro t2 (And.intro t3 hage2))))))))
  clear hV2 hbv e2 e3 hml x0 x1 r0 t2 t3 hage2
  go_upto_region 3 with (fail)
  go_loopw [7, 27] (fun x i wr => ∃ (k : Nat), k ≤ G.length ∧ i = .int .i64 k ∧ x = .int .i64 (fw + gapSK h w age G k) ∧ Below V2.heap.size V2 wr) (fun _ i _ => G.length - (intOf i).toNat)
  case atStart => exact ⟨0, Nat.zero_le _, rfl, by rw [HG.out.2.2.2, Int.add_zero], Below.refl _ _⟩
  case round =>
    obtain ⟨k, hk, rfl, rfl, hbw⟩ := hrel
    have y0 := cell_keep2 hbw HV.out.2.2.2.1
    have y1 := cell_keep2 hbw HV.out.2.2.2.2.1
    have s0 := cell_keep2 hbw HV.out.2.2.2.2.2.1
    have ag0 := cell_keep2 hbw HV.out.2.2.2.2.2.2.2.2
    by_cases hlt : k < G.length
    · have hX := (uat_e.2 HV.out.2.1).below hbw (Nat.le_refl _)
      have hok := HG.out.1 k hlt
      have hnx := HG.out.2.2.1 k hlt
      obtain ⟨gs0, gs1⟩ := HG.out.2.1 k (by omega)
      obtain ⟨g, o, rfl, hg, c0, c1, c2⟩ := hX.at hlt
      have gf0 := hok.f0; have gft := hok.ft; have gt1 := hok.t1
      unfold gapC at hnx
      generalize use G k = u at *
      generalize gapSK h w age G k = gs at *
      obtain ⟨gp, gf, gt⟩ := u
      dsimp only at c0 c1 c2 hnx gf0 gft gt1
      obtain ⟨lf, hlf⟩ : ∃ lf, lf = gt - gf := ⟨_, rfl⟩
      rw [← hlf] at hnx
      have hlf2 : gt - gf = lf := hlf.symm
      obtain ⟨he, hhe⟩ : ∃ he, he = min age lf := ⟨_, rfl⟩
      obtain ⟨x, hx⟩ : ∃ x, x = he * h := ⟨_, rfl⟩
      have hxb := mul_bd (a := he) (b := h) (A := 1000000000) (B := 1000) (by omega) h0 (by omega) h1
      rw [← hx] at hxb
      have q3 : he * h = x := hx.symm
      have hnx2 : gapSK h w age G (k + 1) = gs + x + (if he < lf then w else 0) := by
        rw [hnx, hx]
        by_cases hle : lf ≤ age
        · rw [if_pos hle, if_neg (by omega), show he = lf by omega, Int.add_zero]
        · rw [if_neg hle, if_pos (by omega), show he = age by omega, Int.add_assoc]
      have hheb : 0 ≤ he ∧ he ≤ 1000000000 := by omega
      have hff : ∀ U : World, Below wr.heap.size wr U → Calls Try.prog 55 #[.int .i64 lf, .pointer (some ⟨b, 0, none⟩)] U fun e w' => e = .returned (.int .i64 he) ∧ w' = U := fun U hU => by
        rw [hhe]; exact agedF_ok age lf b U (cell_keep2 hU ag0)
      have HR := Lib.hid (And.intro hbw (And.intro hnx2 hff))
      clear hX hok hnx hlf hhe hx hbw hnx2 hff ag0
      go_upto_region 5 with (fail)
      obtain ⟨V5, hV5⟩ : ∃ V5, V5 = wr.alloc (.cells #[.int .i64 gp, .int .i64 gf, .int .i64 gt] 66) := ⟨_, rfl⟩
      rw [← hV5]
      obtain ⟨ub, hub⟩ : ∃ ub, ub = wr.heap.size := ⟨_, rfl⟩
      rw [← hub]
      have hbx : V5.heap[ub]? = some (.cells #[.int .i64 gp, .int .i64 gf, .int .i64 gt] 66 (0, 0)) := by rw [hV5, hub, heapAlloc, if_pos rfl]
      have hb5 : Below wr.heap.size wr V5 := by rw [hV5]; exact below_box _ _
      obtain ⟨u0, u1, u2⟩ := three_at hbx
      replace y0 := cell_keep2 hb5 y0
      replace y1 := cell_keep2 hb5 y1
      replace s0 := cell_keep2 hb5 s0
      have H5 := Lib.hid (And.intro hb5 (HR.out.1.trans (hb5.mono HR.out.1.size)))
      clear hV5 hub hbx hb5 c0 c1 c2
      by_cases hl : he < lf
      · have hnx3 := HR.out.2.1.trans (by rw [if_pos hl])
        have HN := Lib.hid hnx3
        clear hnx3
        go_wp2_with (go_at_call 55; refine (HR.out.2.2 _ H5.out.1).mono ?_; rintro e v5 ⟨rfl, rfl⟩)
        go_roundw
        case rel => exact ⟨k + 1, by omega, by go_num, by rw [HN.out]; congr 1; omega, H5.out.2⟩
        case measure => simp [intOf]; omega
      · have hnx3 := HR.out.2.1.trans (by rw [if_neg hl])
        have HN := Lib.hid hnx3
        clear hnx3
        go_wp2_with (go_at_call 55; refine (HR.out.2.2 _ H5.out.1).mono ?_; rintro e v5 ⟨rfl, rfl⟩)
        go_roundw
        case rel => exact ⟨k + 1, by omega, by go_num, by rw [HN.out]; congr 1; omega, H5.out.2⟩
        case measure => simp [intOf]; omega
    · obtain rfl : k = G.length := by omega
      obtain ⟨V8, hV8⟩ : ∃ V8, V8 = wr := ⟨_, rfl⟩
      subst hV8
      have t2 := cell_keep2 hbw HV.out.2.2.2.2.2.2.1
      have t3 := cell_keep2 hbw HV.out.2.2.2.2.2.2.2.1
      have e3 : MapAt V8 mb n D := HV.out.2.2.1.kept (⟨hbw.os, hbw.tape, hbw.output, hbw.size, fun i hi _ => hbw.block i hi⟩ : V2.grownBy V8 none) (by simp)
      obtain ⟨gs0, gs1⟩ := HG.out.2.1 G.length (by omega)
      have HW := Lib.hid (And.intro (HV.out.1.trans (hbw.mono HV.out.1.size)) (And.intro y0 (And.intro s0 (And.intro t3 ag0))))
      clear hbw y0 y1 s0 t3 ag0
      obtain ⟨bs, hbs⟩ : ∃ bs, bs = fw + gapSK h w age G G.length := ⟨_, rfl⟩
      have HBS := Lib.hid (And.intro hbs HE.out.2.2.2.2.2)
      have bs0 : 0 ≤ bs ∧ bs ≤ 200400000000000 := by omega
      rw [← hbs]
      clear hbs gs0 gs1
      have hsl : lft (Maps.has D) lm = no := lft_all HE.out.2.2.2.1
      have hpz : pageS no (tailC h age en) 1024 = 0 := pageS_no _ _
      have hsb : ∀ left : Lit → Bool, 0 ≤ pageS (lft left lm) (tailC h age en) 1024 ∧ pageS (lft left lm) (tailC h age en) 1024 ≤ 1024000000000000 := fun left => by
        have := pageS_bd (m := lft left lm) (ψ := tailC h age en) (B := 1000000000000) (by omega) (fun p cc hm => by
          unfold lft at hm
          split at hm
          · cases hm
          · exact (HE.out.2.2.2.2.1 p cc hm).2.2) 1024
        omega
      have HP := Lib.hid (And.intro hsl (And.intro hpz hsb))
      clear hsl hpz hsb
      go_wp2_with (first | (at_range; refine wpList_range_own _ rfl _ 82 rfl 3 2 lawI Try.underlying82 _ mb n D rfl e3 ?_; intro w9 hrg0 hg0 hs0))
      go_frame
      have H9 := Lib.hid (And.intro hrg0 (And.intro hg0 hs0))
      clear hrg0 hg0 hs0 e3
      go_loopw [7] (fun x wx => ∃ (left : Lit → Bool) (cnt : Nat), wx.ranges Try.prog 3 (plainElem Try.prog 2) mb V8.heap.size n D left cnt ∧ x = .int .i64 (bs + pageS (lft left lm) (tailC h age en) 1024) ∧ Below V8.heap.size V8 wx) (fun _ wx => wx.rangeLeft mb V8.heap.size)
      case atStart => exact ⟨_, _, H9.out.1, by rw [HP.out.1, HP.out.2.1, Int.add_zero], ⟨H9.out.2.1.os, H9.out.2.1.tape, H9.out.2.1.output, H9.out.2.1.size, fun i hi => H9.out.2.1.block i hi (by simp)⟩⟩
      case round =>
        obtain ⟨left, cnt, hrg, rfl, hbx⟩ := hrel
        go_wp2_with (first | (at_next; refine wpList_next_ranges_ii _ rfl _ rfl 3 2 .i64 .i64 lawI Try.underlying3 Try.underlying2 mb V8.heap.size n D left cnt rfl hrg ?_ ?_))
        · intro hc0 hl0
          have hres : bs + pageS (lft left lm) (tailC h age en) 1024 = agedV L h w age := by
            rw [lft_none hl0, HBS.out.2, HBS.out.1]
          have HF := Lib.hid (And.intro hres (HW.out.1.trans (hbx.mono HW.out.1.size)))
          clear hrg hbx hres
          go_wp2
          go_ret
          exact ⟨by rw [HF.out.1]; rfl, HF.out.2⟩
        · intro x cc w1' cnt1 hwx hwc hlx hat hrg1 hlt hg1 hs1 hen
          have hhas : Maps.has D (kz x) = true := Maps.has_true_of_atKey hat
          obtain ⟨c2, hc2⟩ : ∃ c2, lm x = some c2 := by
            rw [HE.out.2.2.2.1.has] at hhas
            cases e : lm x with
            | none => rw [e] at hhas; cases hhas
            | some z => exact ⟨z, rfl⟩
          obtain rfl : c2 = cc := by
            have := (HE.out.2.2.2.1.at_ x c2 hc2 (kd 0)).symm.trans (hat (kd 0))
            exact (Lit.int.inj (DataW.lit.inj this)).2
          obtain ⟨⟨p0, p1⟩, ⟨el0, el1⟩, tl0, tl1⟩ := HE.out.2.2.2.2.1 x c2 hc2
          have hno : lft left lm x = none := by unfold lft; rw [if_pos hlx]
          have hstep : pageS (lft (fun z => left z && !z.sameKey (kz x)) lm) (tailC h age en) 1024 = pageS (lft left lm) (tailC h age en) 1024 + tailC h age en c2 := by
            rw [lft_step hc2, pageS_put _ p0 p1 hno]
          obtain ⟨ps0, ps1⟩ := HP.out.2.2 left
          have hb1 : Below V8.heap.size V8 w1' := hbx.trans ⟨hg1.os, hg1.tape, hg1.output, by rw [hs1]; exact Nat.le_refl _, fun i hi => hg1.block i (Nat.lt_of_lt_of_le hi hbx.size) (by intro e; injection e with e; omega)⟩
          have hleft := hrg.left_eq
          have hleft1 := hrg1.left_eq
          have y0 := cell_keep2 hb1 HW.out.2.1
          have s0 := cell_keep2 hb1 HW.out.2.2.1
          have t3 := cell_keep2 hb1 HW.out.2.2.2.1
          obtain ⟨lf, hlf⟩ : ∃ lf, lf = en - c2 := ⟨_, rfl⟩
          rw [← hlf] at el0 el1
          have hlf2 : en - c2 = lf := hlf.symm
          obtain ⟨he, hhe⟩ : ∃ he, he = min age lf := ⟨_, rfl⟩
          have hheb : 0 ≤ he ∧ he ≤ 1000000000 := by omega
          obtain ⟨x9, hx9⟩ : ∃ x9, x9 = he * h := ⟨_, rfl⟩
          have htc : tailC h age en c2 = x9 := by rw [hx9, hhe, hlf]; rfl
          rw [htc] at hstep tl0 tl1
          have q3 : he * h = x9 := hx9.symm
          have hff : ∀ q, Calls Try.prog 55 #[.int .i64 lf, .pointer (some ⟨b, 0, none⟩)] (w1'.drewN q) fun e w' => e = .returned (.int .i64 he) ∧ w' = w1'.drewN q := fun q => by
            rw [hhe]; exact agedF_ok age lf b _ (cell_keep2 hb1 HW.out.2.2.2.2)
          have HF := Lib.hid (And.intro hff (And.intro hrg1 (And.intro hb1 (And.intro hstep (And.intro hleft (And.intro hleft1 hlt))))))
          clear hrg hbx hg1 hs1 hrg1 hb1 hat hhas hc2 hno hstep htc hlf hhe hx9 hff hwx hwc hleft hleft1 hlt hlx
          generalize pageS (lft left lm) (tailC h age en) 1024 = ps at *
          go_upto_region 14 with (fail)
          go_quiet ((go_at_call 55; with_reducible exact Calls.quiet_of_same (HF.out.1 _)))
          go_wp2_with (fail)
          have hrgq := HF.out.2.1.kept (⟨rfl, rfl, rfl, Nat.le_refl _, fun _ _ _ => rfl⟩ : w1'.grownBy (w1'.drewN nq) none) (by simp) (by simp)
          go_roundw
          case rel => exact ⟨_, cnt1, hrgq, by rw [HF.out.2.2.2.1]; congr 1; omega, below_drewN HF.out.2.2.1 _⟩
          case measure => rw [hrgq.left_eq, HF.out.2.2.2.2.1]; exact HF.out.2.2.2.2.2.2
end Py
end Go.Proofs.Ytnkkhbmbbkmfhaa
