/- The specification: lay. Slices that are built, as steps with letters for the world. -/
import Derived.Test.YtjgakcpjphdicaaK4
import Derived.Test.YtjgakcpjphdicaaK8
import Derived.Test.YtjgakcpjphdicaaK7
import Derived.Deep.RegionHeld3
import Derived.Maps.AppendAt
namespace Go.Proofs.Ytjgakcpjphdicaa
open Go.RowKit
namespace Of

theorem bool_row : (Try.prog.info? 4).map (fun i => (i.zero, i.size, i.bytes)) = some (some (.bool false), 1, 1) := by kernel_rfl
theorem make_bools (w : World) (z : Nat) (hz : z ≤ 100000) : (Instr.makeSlice 72 (.int .i64 (z : Int)) (.int .i64 (z : Int))).run Try.prog w = .ok (.slice (some ⟨w.heap.size, 0, none⟩) z z) (w.alloc (.cells (Array.replicate z (.bool false)) 4)) := by
  obtain ⟨i0, hi, h0, h1, h2⟩ := info_parts bool_row
  have := run_make (P := Try.prog) w 72 4 i0 (.bool false) Try.underlying72 hi h0 .i64 .i64 z z (by omega) (Int.le_refl _) (by rw [h2]; omega) (by omega)
  rw [this]
  have hm : madeCells (Value.bool false).cells (z * i0.size) = Array.replicate z (.bool false) := by
    rw [h1, Nat.mul_one]
    apply Array.ext
    · simp [size_madeCells]
    · intro j h3 h4
      simp [madeCells, Value.cells]
      rw [Nat.mod_one]; rfl
  simp only [Int.toNat_natCast]
  rw [hm]

/-- While the specification lays: its two rows. -/
structure LayR (w wr : World) (L : List OB) (ga : Nat) (o : List Nat) : Prop where
  a : RowI 2 wr ga (lays L o).A
  b : RowB 4 wr (ga + 1) (marks L.length o)
  below : Below ga w wr
theorem LayR.step {w wr w' : World} {L : List OB} {ga : Nat} {o : List Nat} (h : LayR w wr L ga o) (hb : Below wr.heap.size wr w') : LayR w w' L ga o :=
  ⟨h.a.keep (hb.block _ h.a.lt), h.b.keep (hb.block _ h.b.lt), h.below.trans (hb.mono (by have := h.a.lt; omega))⟩

set_option maxRecDepth 100000 in
set_option maxHeartbeats 4000000 in
theorem layR_ok (w : World) (lA : Option Addr) (lc : Nat) (L : List OB) (oA : Option Addr) (oc : Nat) (o : List Nat) (hl : OBAt w lA lc L) (ho : IAt w oA oc (zs o)) (hL : OkL L) (hO : Ord L.length o) :
    Calls Try.prog 37 #[.slice lA L.length lc, .slice oA o.length oc] w fun e w' => ∃ ga, e = .returned (.tuple #[.slice (some ⟨ga, 0, none⟩) L.length L.length, .int .i64 (lays L o).T]) ∧ RowI 2 w' ga (lays L o).A ∧ w.heap.size ≤ ga ∧ Below w.heap.size w w' := by
  have hlen := hL.1
  have hcl := hl.1
  have hcm := hl.2.1
  have hol := ord_len hO
  have hoc := ho.1
  rw [List.length_map] at hoc
  have hom := ho.2.1
  unfold maxLen at hcm hom
  have hmk := make_row w 24 2 L.length L.length Try.underlying24 i64_row (by omega) (Nat.le_refl _)
  have hmb := make_bools (w.alloc (.cells (Array.replicate L.length (.int .i64 0)) 2)) L.length (by omega)
  have hr0 := row_made w 2 L.length
  have hb0 := below_box w (.cells (Array.replicate L.length (.int .i64 0)) 2)
  have hs0 : (w.alloc (.cells (Array.replicate L.length (.int .i64 0)) 2)).heap.size = w.heap.size + 1 := by simp
  have HH := Lib.hid (And.intro hl (And.intro ho (And.intro hL hO)))
  have H0 := Lib.hid (And.intro hr0 (And.intro hb0 hs0))
  clear hl ho hL hO hr0 hb0 hs0
  go_enter Try.func37, Try.ntmps37
  go_upto_region 3 with (fail)
  generalize w.alloc (.cells (Array.replicate L.length (.int .i64 0)) 2) = W0 at *
  clear hmk hmb
  obtain ⟨ga, hga⟩ : ∃ z, z = w.heap.size := ⟨_, rfl⟩
  have hsz0 : W0.heap.size = ga + 1 := by rw [hga]; exact H0.out.2.2
  rw [← hga] at H0 ⊢
  have HZ := Lib.hid hga
  clear hga
  have hbx : Below W0.heap.size W0 (W0.alloc (.cells (Array.replicate L.length (.bool false)) 4)) := below_box _ _
  have hx : (W0.alloc (.cells (Array.replicate L.length (.bool false)) 4)).heap[ga + 1]? = some (.cells (Array.replicate L.length (.bool false)) 4 (0, 0)) := by rw [heapAlloc, if_pos hsz0.symm]
  generalize W0.alloc (.cells (Array.replicate L.length (.bool false)) 4) = W1 at *
  have hst : LayR w W1 L ga [] := ⟨by
      have := H0.out.1.keep (w' := W1) (hbx.block ga (by omega))
      unfold lays st0; rw [List.foldl_nil]; exact this, ⟨_, hx, by rw [marks_nil]; simp⟩, H0.out.2.1.trans (hbx.mono (by omega))⟩
  have H1 := Lib.hid hst
  clear hbx hx hst hsz0
  go_wp2_with (fail)
  go_loopw [8, 9] (fun top i wr => ∃ k : Nat, k ≤ o.length ∧ i = .int .i64 k ∧ top = .int .i64 (lays L (o.take k)).T ∧ LayR w wr L ga (o.take k)) (fun _ i _ => o.length - (intOf i).toNat)
  case atStart => exact ⟨0, Nat.zero_le _, rfl, rfl, H1.out⟩
  case round =>
    obtain ⟨k, hk, rfl, rfl, hS⟩ := hrel
    by_cases hlt : k < o.length
    · obtain ⟨i, hi⟩ : ∃ i, o[k]? = some i := ⟨_, List.getElem?_eq_getElem hlt⟩
      obtain ⟨hil, hin⟩ := ord_next HH.out.2.2.2 hi
      have hOt := ord_take (k := k) HH.out.2.2.2
      have hgood := good HH.out.2.2.1 hOt
      have hotl : (o.take k).length = k := by rw [List.length_take]; omega
      have hTk := hgood.bd
      rw [lays_S, hotl] at hTk
      have hT0 := hgood.t0
      have hbdA := lays_bd HH.out.2.2.1 hOt
      have hbi := HH.out.2.2.1.blk i
      have hinL : ∀ x, x ∈ o.take k → x < L.length := hOt.2
      have hlx : lays L (o.take (k + 1)) = (lays L (o.take k)).next L i := by rw [take_next hi, lays_snoc]
      have hAx : (lays L (o.take (k + 1))).A = (lays L (o.take k)).A.set i (fit L (lays L (o.take k)).A (o.take k) (blk L i)) := by rw [hlx]; unfold St.next; rw [lays_S]
      have hTx : (lays L (o.take (k + 1))).T = max (lays L (o.take k)).T (fit L (lays L (o.take k)).A (o.take k) (blk L i) + (blk L i).s) := by rw [hlx]; unfold St.next; rw [lays_S]
      have hMx := marks_set (o := o.take k) hil
      rw [← take_next hi] at hMx
      have hAl := lays_len L (o.take k)
      have hfb : ∀ p, freeB L (lays L (o.take k)).A (marks L.length (o.take k)) (blk L i) p = free L (lays L (o.take k)).A (o.take k) (blk L i) p := fun p =>
        freeB_is (fun x => ⟨fun hx => ⟨hinL x hx, by rw [marks_at (hinL x hx)]; simp [hx]⟩, fun ⟨h1, h2⟩ => by rw [marks_at h1] at h2; simpa using h2⟩) _ p
      have hmk : ∀ x, x < L.length → (marks L.length (o.take k)).getD x false = decide (x ∈ o.take k) := fun x hx => marks_at hx
      obtain ⟨og, oo2, rfl, hog, ox⟩ := iat_nat HH.out.2.1 hi
      have hbw := hS.below
      have ox := (hbw.cell (p := ⟨og, oo2 + k, none⟩) (by have := HZ.out; show og < ga; omega)).trans ox
      have hfree : ∀ (W : World) (p : Int), LayR w W L ga (o.take k) → 0 ≤ p → p ≤ 34900000 → Calls Try.prog 63 #[.slice lA L.length lc, .slice (some ⟨ga, 0, none⟩) L.length L.length, .slice (some ⟨ga + 1, 0, none⟩) L.length L.length, .int .i64 (i : Int), .int .i64 p] W
          fun e w' => e = .returned (.bool (free L (lays L (o.take k)).A (o.take k) (blk L i) p)) ∧ Below W.heap.size W w' := fun W p hW hp0 hp1 => by
        have := freeR_ok W lA lc L ga _ (ga + 1) _ i p (HH.out.1.below hW.below (by have := HZ.out; omega)) hW.a hW.b HH.out.2.2.1 hAl (marks_len _ _) hil (fun x _ => by have := hbdA x; omega) hp0 (by omega)
        rwa [hfb] at this
      have HF := Lib.hid hfree
      have HX := Lib.hid (And.intro hAx (And.intro hTx (And.intro hMx (And.intro hbdA (And.intro hbi (And.intro hinL hmk))))))
      have HS := Lib.hid hS
      have HI := Lib.hid hi
      have HAL := Lib.hid hAl
      clear hfree hAx hTx hMx hbdA hbi hinL hfb hmk hS hi hbw hlx hOt hgood hotl hin hAl
      generalize hAg : (lays L (o.take k)).A = A at *
      generalize hTg : (lays L (o.take k)).T = T at *
      generalize hog' : o.take k = o1 at *
      generalize hbb : blk L i = b at *
      have HG := Lib.hid (And.intro hAg (And.intro hTg hog'))
      have HBB := Lib.hid hbb
      clear hAg hTg hog' hbb
      have hs1 := HX.out.2.2.2.2.1.s1
      have hs2 := HX.out.2.2.2.2.1.s2
      have hab := isPow_bd HX.out.2.2.2.2.1.a0
      obtain ⟨s, a, f, u⟩ := b
      dsimp only at hs1 hs2 hab
      go_upto_region 9 with (go_at_call 63; refine (HF.out _ 0 HS.out (by omega) (by omega)).mono ?_; rintro e w2 ⟨rfl, hb2⟩; have HB2 := Lib.hid hb2; clear hb2)
      have HR2 := Lib.hid (HS.out.step HB2.out)
      have HIV := Lib.hid (inv0 L A o1 ⟨s, a, f, u⟩)
      generalize free L A o1 ⟨s, a, f, u⟩ 0 = fd0 at *
      go_wp2_with (fail)
      go_loopw [11, 12, 13] (fun best found kk wr2 => ∃ (j : Nat) (bs : Int) (fd : Bool), j ≤ L.length ∧ kk = .int .i64 j ∧ best = .int .i64 bs ∧ found = .bool fd ∧ Inv L A o1 ⟨s, a, f, u⟩ j bs fd ∧ LayR w wr2 L ga o1) (fun _ _ kk _ => L.length - (intOf kk).toNat)
      case atStart => exact ⟨0, 0, fd0, Nat.zero_le _, rfl, rfl, rfl, HIV.out, HR2.out⟩
      case round =>
        obtain ⟨j, bs, fd, hj, rfl, rfl, rfl, hinv, hS2⟩ := hrel
        have hbb := hinv.bd HX.out.2.2.2.2.1 HH.out.2.2.1 HX.out.2.2.2.1
        have HS2 := Lib.hid hS2
        by_cases hjl : j < L.length
        · by_cases hex : fd = true ∧ bs = 0
          · obtain ⟨rfl, hbs⟩ := hex
            have hfit : bs = fit L A o1 ⟨s, a, f, u⟩ := by
              subst hbs
              exact hinv.zero HX.out.2.2.2.2.1 HH.out.2.2.1 HX.out.2.2.2.1 HX.out.2.2.2.2.2.1
            have hz : (bs == 0) = true := by simp [hbs]
            clear hinv hS2 hbs
            have HFT := Lib.hid hfit
            clear hfit
            have hiA : i < A.length := by rw [HAL.out]; exact hil
            have ha1 := HS2.out.a.frozen i
            have ha2 := HS2.out.a.cell (j := i) (by rw [lays_len]; exact hil)
            have hb1 := HS2.out.b.frozen i
            have hb2 := HS2.out.b.cell (j := i) (by rw [marks_len]; exact hil)
            have hset : LayR w (((wr.setCell ⟨ga, i, none⟩ (.int .i64 bs)).setCell ⟨ga + 1, i, none⟩ (.bool true))) L ga (o.take (k + 1)) := by
              have h1 := HS2.out
              refine ⟨?_, ?_, ?_⟩
              · rw [HX.out.1, ← HFT.out]
                have := h1.a.set i bs
                rw [HG.out.1] at this
                exact this.keep (setCell_far _ _ _ _ (by show ga ≠ ga + 1; omega))
              · rw [← HX.out.2.2.1]
                have := (h1.b.keep (w' := wr.setCell ⟨ga, i, none⟩ (.int .i64 bs)) (setCell_far _ _ _ _ (by show ga + 1 ≠ ga; omega))).set i true
                exact this
              · exact (h1.below.setCell (Nat.le_refl _) _).setCell (by show ga ≤ ga + 1; omega) _
            have HSET := Lib.hid hset
            have hsum : IntKind.i64.wrap (bs + s) = bs + s := IntWalk.i64_in _ (by omega)
            obtain ⟨g, oo, rfl, hg, d0, _, _, _⟩ := HH.out.1.at hil
            rw [HBB.out] at d0
            have hgw : g < ga := by have := HZ.out; omega
            have d0 : wr.cell? ⟨g, oo + i * 4, none⟩ = some (.int .i64 s) := (HS2.out.below.cell (p := ⟨g, oo + i * 4, none⟩) (by show g < ga; omega)).trans d0
            have hne1 : g ≠ ga := by omega
            have hne2 : g ≠ ga + 1 := by omega
            clear hset
            go_wp2
            go_roundw
            case rel => exact ⟨k + 1, by omega, by go_num, by rw [HX.out.2.1, ← HFT.out], by first | exact HSET.out | exact HSET.out.step (below_drew (Below.refl _ _))⟩
            case measure => simp [intOf]; omega

          · have yb := hS2.b.cell (j := j) (by rw [marks_len]; exact hjl)
            rw [HX.out.2.2.2.2.2.2 j hjl] at yb
            have ya := hS2.a.cell (j := j) (by rw [lays_len]; exact hjl)
            rw [HG.out.1] at ya
            obtain ⟨g, oo, rfl, hg, y0, _, _, _⟩ := HH.out.1.at hjl
            obtain ⟨g', oo', hgo, _, z0, z1, _, _⟩ := HH.out.1.at hil
            injection hgo with hgo; injection hgo with hg1 hg2 _
            subst hg1; subst hg2
            rw [HBB.out] at z1
            have hbel := HS2.out.below
            have hgz : g < ga := by have := HZ.out; omega
            have y0 := (hbel.cell (p := ⟨g, oo + j * 4, none⟩) (by show g < ga; omega)).trans y0
            have z1 := (hbel.cell (p := ⟨g, oo + i * 4 + 1, none⟩) (by show g < ga; omega)).trans z1
            have hj1 := (HH.out.2.2.1.blk j).s1
            have hj2 := (HH.out.2.2.1.blk j).s2
            have hax := HX.out.2.2.2.1 j
            have hupb := up_le (x := addr A j + (blk L j).s) hab.1
            have hinvk := fun h => hinv.keep (k := j) h
            have hinvt := fun h1 h2 h3 => hinv.take (k := j) h1 h2 h3
            have hinvs := fun h => hinv.skip (k := j) h
            have hupd : up (addr A j + (blk L j).s) a = (addr A j + (blk L j).s + a - 1) / a * a := rfl
            have HIV := Lib.hid (And.intro hinvk (And.intro hinvt hinvs))
            clear hinvk hinvt hinvs hinv hS2 hbel z0
            dsimp only at HIV
            generalize hpv : up (addr A j + (blk L j).s) a = pv at *
            generalize addr A j = ax at *
            generalize (blk L j).s = xs at *
            have hp0 : 0 ≤ pv := by omega
            have hp1 : pv ≤ 34900000 := by omega
            have hzc : fd = true → (bs == 0) = false := fun e => by simp; intro e2; exact hex ⟨e, e2⟩
            have HZC := Lib.hid hzc
            clear hex hzc
            cases hm : decide (j ∈ o1) with
            | false =>
              rw [hm] at yb
              have hmo : j ∉ o1 := by simpa using hm
              have HMO := Lib.hid hmo
              clear hm hmo hupd
              cases fd with
              | false =>
                go_wp2
                go_roundw
                case rel => exact ⟨j + 1, bs, false, by omega, by go_num, rfl, rfl, HIV.out.2.2 HMO.out, HS2.out⟩
                case measure => simp [intOf]; omega
              | true =>
                have hz := HZC.out rfl
                go_wp2
                go_roundw
                case rel => exact ⟨j + 1, bs, true, by omega, by go_num, rfl, rfl, HIV.out.2.2 HMO.out, HS2.out⟩
                case measure => simp [intOf]; omega
            | true =>
              rw [hm] at yb
              have hmo : j ∈ o1 := by simpa using hm
              have HMO := Lib.hid hmo
              clear hm hmo
              obtain ⟨qq, hqq⟩ : ∃ qq, qq = (ax + xs + a - 1) / a := ⟨_, rfl⟩
              have hqa : qq * a = pv := by rw [hqq]; exact hupd.symm
              have hq0 : 0 ≤ qq := by rw [hqq]; exact Int.ediv_nonneg (by omega) (by omega)
              have hq1 : qq ≤ 34900000 := by
                have h1 : qq * 1 ≤ qq * a := Int.mul_le_mul_of_nonneg_left hab.1 hq0
                omega
              have q1 : IntKind.i64.wrap (ax + xs) = ax + xs := IntWalk.i64_in _ (by omega)
              have q2 : IntKind.i64.wrap (ax + xs + a) = ax + xs + a := IntWalk.i64_in _ (by omega)
              have q3 : IntKind.i64.wrap (ax + xs + a - 1) = ax + xs + a - 1 := IntWalk.i64_in _ (by omega)
              have q5 : IntKind.i64.wrap qq = qq := IntWalk.i64_in _ (by omega)
              have q6 : IntKind.i64.wrap (qq * a) = pv := by rw [hqa]; exact IntWalk.i64_in _ (by omega)
              have ha0 : a ≠ 0 := by omega
              have hnum : 0 ≤ ax + xs + a - 1 := by omega
              have q4 : (ax + xs + a - 1).tdiv a = qq := by rw [hqq]; exact Int.tdiv_eq_ediv_of_nonneg hnum
              have q4' := hqq.symm
              clear hqq hupd
              have hcall := fun (W : World) (hW : Below wr.heap.size wr W) => HF.out W pv (HS2.out.step hW) hp0 hp1
              have HF' := Lib.hid hcall
              clear hcall
              cases fd with
              | false =>
                go_upto_region 13 with (fail)
                go_quiet (fail)
                clear q1 q2 q3 q4 q4' q5 q6 hqa ha0 hnum
                have hbq : Below wr.heap.size wr (wr.drewN nq) := below_drewN (Below.refl _ _) _
                have HBQ := Lib.hid hbq
                clear hbq
                cases hfr : free L A o1 ⟨s, a, f, u⟩ pv with
                | false =>
                  rw [hfr] at HF'
                  have hinv2 := HIV.out.1 (.inr hfr)
                  have HINV := Lib.hid hinv2
                  clear hinv2 hfr
                  go_wp2_with (go_at_call 63; refine (HF'.out _ HBQ.out).mono ?_; rintro e w5 ⟨rfl, hb5⟩; have HB5 := Lib.hid (HBQ.out.trans hb5); clear hb5)
                  go_roundw
                  case rel => exact ⟨j + 1, bs, false, by omega, by go_num, rfl, rfl, HINV.out, HS2.out.step HB5.out⟩
                  case measure => simp [intOf]; omega
                | true =>
                  rw [hfr] at HF'
                  have hinv2 := HIV.out.2.1 HMO.out (.inl rfl) hfr
                  have HINV := Lib.hid hinv2
                  clear hinv2 hfr
                  go_wp2_with (go_at_call 63; refine (HF'.out _ HBQ.out).mono ?_; rintro e w5 ⟨rfl, hb5⟩; have HB5 := Lib.hid (HBQ.out.trans hb5); clear hb5)
                  go_roundw
                  case rel => exact ⟨j + 1, pv, true, by omega, by go_num, rfl, rfl, HINV.out, HS2.out.step HB5.out⟩
                  case measure => simp [intOf]; omega
              | true =>
                have hz := HZC.out rfl
                by_cases hlp : pv < bs
                · go_upto_region 13 with (fail)
                  go_quiet (fail)
                  clear q1 q2 q3 q4 q4' q5 q6 hqa ha0 hnum
                  have hbq : Below wr.heap.size wr (wr.drewN nq) := below_drewN (Below.refl _ _) _
                  have HBQ := Lib.hid hbq
                  clear hbq
                  cases hfr : free L A o1 ⟨s, a, f, u⟩ pv with
                  | false =>
                    rw [hfr] at HF'
                    have hinv2 := HIV.out.1 (.inr hfr)
                    have HINV := Lib.hid hinv2
                    clear hinv2 hfr
                    go_wp2_with (go_at_call 63; refine (HF'.out _ HBQ.out).mono ?_; rintro e w5 ⟨rfl, hb5⟩; have HB5 := Lib.hid (HBQ.out.trans hb5); clear hb5)
                    go_roundw
                    case rel => exact ⟨j + 1, bs, true, by omega, by go_num, rfl, rfl, HINV.out, HS2.out.step HB5.out⟩
                    case measure => simp [intOf]; omega
                  | true =>
                    rw [hfr] at HF'
                    have hinv2 := HIV.out.2.1 HMO.out (.inr hlp) hfr
                    have HINV := Lib.hid hinv2
                    clear hinv2 hfr
                    go_wp2_with (go_at_call 63; refine (HF'.out _ HBQ.out).mono ?_; rintro e w5 ⟨rfl, hb5⟩; have HB5 := Lib.hid (HBQ.out.trans hb5); clear hb5)
                    go_roundw
                    case rel => exact ⟨j + 1, pv, true, by omega, by go_num, rfl, rfl, HINV.out, HS2.out.step HB5.out⟩
                    case measure => simp [intOf]; omega
                · have hinv2 := HIV.out.1 (.inl ⟨rfl, by omega⟩)
                  have HINV := Lib.hid hinv2
                  clear hinv2
                  go_upto_region 13 with (fail)
                  go_quiet (fail)
                  clear q1 q2 q3 q4 q4' q5 q6 hqa ha0 hnum
                  have hbq : Below wr.heap.size wr (wr.drewN nq) := below_drewN (Below.refl _ _) _
                  have HBQ := Lib.hid hbq
                  clear hbq
                  go_wp2
                  go_roundw
                  case rel => exact ⟨j + 1, bs, true, by omega, by go_num, rfl, rfl, HINV.out, HS2.out.step HBQ.out⟩
                  case measure => simp [intOf]; omega
        · obtain rfl : j = L.length := by omega
          have hfit : bs = fit L A o1 ⟨s, a, f, u⟩ := hinv.all HX.out.2.2.2.2.1 HH.out.2.2.1 HX.out.2.2.2.1 HX.out.2.2.2.2.2.1
          clear hinv hS2
          have HFT := Lib.hid hfit
          clear hfit
          have hiA : i < A.length := by rw [HAL.out]; exact hil
          have ha1 := HS2.out.a.frozen i
          have ha2 := HS2.out.a.cell (j := i) (by rw [lays_len]; exact hil)
          have hb1 := HS2.out.b.frozen i
          have hb2 := HS2.out.b.cell (j := i) (by rw [marks_len]; exact hil)
          have hset : LayR w (((wr.setCell ⟨ga, i, none⟩ (.int .i64 bs)).setCell ⟨ga + 1, i, none⟩ (.bool true))) L ga (o.take (k + 1)) := by
            have h1 := HS2.out
            refine ⟨?_, ?_, ?_⟩
            · rw [HX.out.1, ← HFT.out]
              have := h1.a.set i bs
              rw [HG.out.1] at this
              exact this.keep (setCell_far _ _ _ _ (by show ga ≠ ga + 1; omega))
            · rw [← HX.out.2.2.1]
              have := (h1.b.keep (w' := wr.setCell ⟨ga, i, none⟩ (.int .i64 bs)) (setCell_far _ _ _ _ (by show ga + 1 ≠ ga; omega))).set i true
              exact this
            · exact (h1.below.setCell (Nat.le_refl _) _).setCell (by show ga ≤ ga + 1; omega) _
          have HSET := Lib.hid hset
          have hsum : IntKind.i64.wrap (bs + s) = bs + s := IntWalk.i64_in _ (by omega)
          obtain ⟨g, oo, rfl, hg, d0, _, _, _⟩ := HH.out.1.at hil
          rw [HBB.out] at d0
          have hgw : g < ga := by have := HZ.out; omega
          have d0 : wr.cell? ⟨g, oo + i * 4, none⟩ = some (.int .i64 s) := (HS2.out.below.cell (p := ⟨g, oo + i * 4, none⟩) (by show g < ga; omega)).trans d0
          have hne1 : g ≠ ga := by omega
          have hne2 : g ≠ ga + 1 := by omega
          clear hset
          go_wp2
          go_roundw
          case rel => exact ⟨k + 1, by omega, by go_num, by rw [HX.out.2.1, ← HFT.out], by first | exact HSET.out | exact HSET.out.step (below_drew (Below.refl _ _))⟩
          case measure => simp [intOf]; omega

    · obtain rfl : k = o.length := by omega
      rw [List.take_length] at *
      have HF := Lib.hid hS
      clear hS
      go_wp2
      go_ret2
      exact ⟨ga, rfl, HF.out.a, Nat.le_of_eq HZ.out.symm, by rw [← HZ.out]; exact HF.out.below⟩
end Of
end Go.Proofs.Ytjgakcpjphdicaa
namespace Go.Proofs.Ytjgakcpjphdicaa
open Go.RowKit
namespace Of

theorem run_build0 (w : World) : (Instr.buildSlice 25 0 #[]).run Try.prog w = .ok (.slice (some ⟨w.heap.size, 0, none⟩) 0 0) (w.alloc (.cells #[] 3)) := by kernel_rfl
theorem run_build1 (w : World) (i : Int) : (Instr.buildSlice 25 1 #[(0, .int .i64 i)]).run Try.prog w = .ok (.slice (some ⟨w.heap.size, 0, none⟩) 1 1) (w.alloc (.cells #[.int .i64 i] 3)) := by kernel_rfl

theorem wp_build0 {w : World} {o : Oper} {a : Act} {K : Act → World → Prop} {Q : Exit → Act → World → Prop} (ho : o.op = .buildSlice 25 0 #[])
    (h : ∀ p W', OwnI W' w.heap.size 3 (some ⟨p, 0, none⟩) 0 [] → Below w.heap.size w W' → K (a.put o.dst (.slice (some ⟨p, 0, none⟩) 0 0)) W') : Oper.wp Try.prog o a w K Q := by
  unfold Oper.wp
  simp only [execOp, ho, Sem.run_bind, Sem.run_pure, Result.andThen_ok, List.map_toArray, List.map_nil, run_build0]
  exact h _ _ ⟨rfl, .inr ⟨w.heap.size, 0, #[], rfl, Nat.le_refl _, by rw [heapAlloc, if_pos rfl], Nat.le_refl _, Nat.zero_le _, rfl, rfl⟩⟩ (below_box w _)
theorem wp_build1 {w : World} {o : Oper} {a : Act} {K : Act → World → Prop} {Q : Exit → Act → World → Prop} (x : Operand) (i : Int) (ho : o.op = .buildSlice 25 1 #[(0, x)]) (hx : a.eval x = .int .i64 i)
    (h : ∀ p W', IAt W' (some ⟨p, 0, none⟩) 1 [i] → w.heap.size ≤ p → Below w.heap.size w W' → K (a.put o.dst (.slice (some ⟨p, 0, none⟩) 1 1)) W') : Oper.wp Try.prog o a w K Q := by
  unfold Oper.wp
  simp only [execOp, ho, Sem.run_bind, Sem.run_pure, Result.andThen_ok, List.map_toArray, List.map_cons, List.map_nil, hx, run_build1]
  refine h _ _ ⟨Nat.le_refl _, by unfold maxLen; decide, fun q y hy => ⟨w.heap.size, 0, rfl, by simp, ?_⟩⟩ (Nat.le_refl _) (below_box w _)
  have hq : q = 0 := by have := (List.getElem?_eq_some_iff.1 hy).1; simp at this; omega
  subst hq
  simp at hy
  subst hy
  exact (one_cell (show (w.alloc (.cells #[.int .i64 i] 3)).heap[w.heap.size]? = some (.cells #[.int .i64 i] 3 (0, 0)) from by rw [heapAlloc, if_pos rfl])).1
theorem below_on {n : Nat} {w v v' : World} (h : Below n w v) (hb : Below v.heap.size v v') (hn : n ≤ w.heap.size := by exact Nat.le_refl _) : Below n w v' := h.trans (hb.mono (Nat.le_trans hn h.size))
/-- A row of one's own that lies above. -/
theorem own_below {w w' : World} {B T c : Nat} {A : Option Addr} {M : List Int} (h : OwnI w B T A c M) (hb : Below w.heap.size w w') : OwnI w' B T A c M := row_below h hb
/-- A row of one's own, and a row with one number beside it. -/
structure Two (n : Nat) (V : World) (A : Option Addr) (c : Nat) (X : List Int) (p : Nat) (i : Int) : Prop where
  row : OwnI V n 3 A c X
  one : IAt V (some ⟨p, 0, none⟩) 1 [i]
  ne : A.map (·.block) ≠ some p
  lt : p < V.heap.size
theorem one_lt {V : World} {p : Nat} {i : Int} (h : IAt V (some ⟨p, 0, none⟩) 1 [i]) : p < V.heap.size := h.block (by simp)
theorem Two.of_row {n : Nat} {V V' : World} {A : Option Addr} {c p : Nat} {X : List Int} {i : Int} (h : OwnI V n 3 A c X) (h1 : IAt V' (some ⟨p, 0, none⟩) 1 [i]) (hp : V.heap.size ≤ p) (hb : Below V.heap.size V V') : Two n V' A c X p i :=
  ⟨row_below h hb, h1, fun e => by have := (OwnI.at h).2 p e; omega, one_lt h1⟩
theorem Two.of_one {n : Nat} {V V' : World} {A : Option Addr} {c p : Nat} {X : List Int} {i : Int} (h1 : IAt V (some ⟨p, 0, none⟩) 1 [i]) (h : OwnI V' V.heap.size 3 A c X) (hb : Below V.heap.size V V') (hn : n ≤ V.heap.size) : Two n V' A c X p i :=
  ⟨row_low h hn, h1.below hb (Nat.le_refl _), fun e => by have := (OwnI.at h).2 p e; have := one_lt h1; omega, by have := one_lt h1; have := hb.size; omega⟩

theorem own_from {w v W : World} {T c : Nat} {A : Option Addr} {M : List Int} (h : OwnI W v.heap.size T A c M) (hS : Below w.heap.size w v) : OwnI W w.heap.size T A c M := row_low h hS.size
theorem Two.of_one' {w V V' : World} {A : Option Addr} {c p : Nat} {X : List Int} {i : Int} (h1 : IAt V (some ⟨p, 0, none⟩) 1 [i]) (h : OwnI V' V.heap.size 3 A c X) (hb : Below V.heap.size V V') (hS : Below w.heap.size w V) : Two w.heap.size V' A c X p i := Two.of_one h1 h hb hS.size
abbrev c0 : Obj := .cells #[] 3
abbrev c1 (i : Int) : Obj := .cells #[.int .i64 i] 3
theorem one_new (w : World) (i : Int) : IAt (w.alloc (c1 i)) (some ⟨w.heap.size, 0, none⟩) 1 [i] := by
  refine ⟨Nat.le_refl _, by unfold maxLen; omega, fun q y hy => ⟨w.heap.size, 0, rfl, by simp, ?_⟩⟩
  have hq : q = 0 := by have := (List.getElem?_eq_some_iff.1 hy).1; simp at this; omega
  subst hq
  simp at hy
  subst hy
  exact (one_cell (show (w.alloc (c1 i)).heap[w.heap.size]? = some (.cells #[.int .i64 i] 3 (0, 0)) from by rw [heapAlloc, if_pos rfl])).1
theorem own_new (w : World) : OwnI (w.alloc c0) w.heap.size 3 (some ⟨w.heap.size, 0, none⟩) 0 [] :=
  ⟨rfl, .inr ⟨w.heap.size, 0, #[], rfl, Nat.le_refl _, by rw [heapAlloc, if_pos rfl], Nat.le_refl _, Nat.zero_le _, rfl, rfl⟩⟩
theorem two_a (w : World) (i : Int) : Two w.heap.size ((w.alloc c0).alloc (c1 i)) (some ⟨w.heap.size, 0, none⟩) 0 [] (w.heap.size + 1) i := by
  have hs : (w.alloc c0).heap.size = w.heap.size + 1 := by simp
  have h1 := one_new (w.alloc c0) i
  rw [hs] at h1
  exact Two.of_row (own_new w) h1 (by rw [hs]; exact Nat.le_refl _) (below_box _ _)
theorem two_b (w : World) (i : Int) : Two w.heap.size ((w.alloc (c1 i)).alloc c0) (some ⟨w.heap.size + 1, 0, none⟩) 0 [] w.heap.size i := by
  have hs : (w.alloc (c1 i)).heap.size = w.heap.size + 1 := by simp
  have h1 := own_new (w.alloc (c1 i))
  rw [hs] at h1
  refine Two.of_one (one_new w i) (by rw [hs]; exact h1) (below_box _ _) (by rw [hs]; omega)
theorem two_c {w w4 : World} {A : Option Addr} {c : Nat} {X : List Int} (i : Int) (h : OwnI w4 w.heap.size 3 A c X) : Two w.heap.size (w4.alloc (c1 i)) A c X w4.heap.size i :=
  Two.of_row h (one_new w4 i) (Nat.le_refl _) (below_box _ _)
theorem Two.drew {n : Nat} {V : World} {A : Option Addr} {c p : Nat} {X : List Int} {i : Int} (h : Two n V A c X p i) : Two n V.drew A c X p i := ⟨h.row, h.one, h.ne, h.lt⟩
set_option maxRecDepth 100000 in
/-- Appending, with the place of the result. -/
theorem run_append_at (w : World) (ty : TypeId) (base : Nat) (A0 : Option Addr) (c0 : Nat) (X : List Int) (hown : OwnI w base 3 A0 c0 X)
    (A : Option Addr) (c : Nat) (M : List Int) (hM : IAt w A c M) (hn : A = none → c = 0) (hlen : X.length + M.length ≤ 1000000) (hbase : base ≤ w.heap.size) :
    ∃ A' c' w', (Builtin.append_ #[25, 25] ty #[.slice A0 X.length c0, .slice A M.length c]).run Try.prog w = .ok (.slice A' (X ++ M).length c') w' ∧ OwnI w' base 3 A' c' (X ++ M) ∧ w.grownBy w' (Value.slice A0 X.length c0).ownBlock ∧ (A'.map (·.block) = A0.map (·.block) ∨ A'.map (·.block) = some w.heap.size) := by
  obtain ⟨i0, hi0, hz0, hz2, hz3⟩ := info_parts int_row
  cases A with
  | none =>
    obtain rfl := hn rfl
    have hM0 : M = [] := List.length_eq_zero_iff.1 (by have := hM.1; omega)
    subst hM0
    have hrun := run_append_owned_none (P := Try.prog) (w := w) base 25 ty 3 i0 1 Try.underlying25 hi0 _ X.length (ci X) hown
    rw [List.append_nil]
    exact ⟨A0, c0, w, hrun, hown, grown_refl _ _, .inl rfl⟩
  | some ad =>
    obtain ⟨v', w', hr, h2, h3, _, h5⟩ := run_append_own_at (P := Try.prog) (w := w) base 25 ty 3 i0 (.int .i64 0) 1 8 Try.underlying25 hi0 hz0 hz2 hz3 rfl (by omega) _ X.length (ci X) hown ad M.length c (ci M) (by rw [ci_len]; omega) (i_addr hM rfl) (ci_one M) (by unfold maxLen; omega) (by omega) hbase
    rw [← List.length_append, ← ci_add] at h2
    obtain ⟨A', c', rfl⟩ := row_own h2
    refine ⟨A', c', w', hr, h2, h3, ?_⟩
    cases A' with
    | none =>
      rcases h5 with h5 | h5
      · left
        cases A0 with
        | none => rfl
        | some a => cases h5
      · cases h5
    | some b =>
      rcases h5 with h5 | h5
      · left
        cases A0 with
        | none => cases h5
        | some a => exact h5
      · right; exact h5

section
variable {w : World} {ops : Array Oper} {o : Oper} {a : Act} {K : Act → World → Prop} {Q : Exit → Act → World → Prop} {E : Prop}
set_option maxRecDepth 100000 in
/-- Appending beside a row with one number. -/
theorem step_two (hgd : o.guard = none) (s x : Operand) (ho : o.op = .call { callee := .builtin .append, args := #[s, x], argTypes := #[25, 25] })
    (n : Nat) (A0 : Option Addr) (c0 : Nat) (X : List Int) (p : Nat) (i : Int) (hs : a.eval s = .slice A0 X.length c0) (ht : Two n w A0 c0 X p i)
    (A : Option Addr) (c : Nat) (M : List Int) (hx : a.eval x = .slice A M.length c) (hM : IAt w A c M) (hn : A = none → c = 0) (hlen : X.length + M.length ≤ 1000000) (hb : n ≤ w.heap.size)
    (h : ∀ A' c' w', Two n w' A' c' (X ++ M) p i → Below n w w' → K (a.put o.dst (.slice A' (X ++ M).length c')) w') :
    if Region.wanted o (yielded ops a.tmps) = true then Oper.wp Try.prog o a w K Q else E := by
  obtain ⟨A', c', w', hrun, h1, h2, h3⟩ := run_append_at w o.type n A0 c0 X ht.row A c M hM hn hlen hb
  have hob : ∀ g, (Value.slice A0 X.length c0).ownBlock = some g → A0.map (·.block) = some g := fun g e => by cases A0 with | none => cases e | some a => exact e
  have hbel : Below n w w' := below_grown h2 hb fun g e => ((OwnI.at ht.row).2 g (hob g e)).1
  have hpb : w'.heap[p]? = w.heap[p]? := h2.block p ht.lt fun e => ht.ne (hob p e.symm)
  refine step_of hgd (wp_append_run Try.underlying25 int_row s x ho _ _ _ hs hx w' hrun (h A' c' w' ⟨h1, ht.one.keep h2.size fun g e _ => ?_, fun e => ?_, Nat.lt_of_lt_of_le ht.lt h2.size⟩ hbel))
  · injection e with e
    have : p = g := e
    subst this; exact hpb
  · rcases h3 with h3 | h3
    · exact ht.ne (h3.symm.trans e)
    · rw [h3] at e; injection e with e; have := ht.lt; omega
set_option maxRecDepth 100000 in
/-- Appending to a row of one's own. -/
theorem step_own (hgd : o.guard = none) (s x : Operand) (ho : o.op = .call { callee := .builtin .append, args := #[s, x], argTypes := #[25, 25] })
    (n : Nat) (A0 : Option Addr) (c0 : Nat) (X : List Int) (hs : a.eval s = .slice A0 X.length c0) (ht : OwnI w n 3 A0 c0 X)
    (A : Option Addr) (c : Nat) (M : List Int) (hx : a.eval x = .slice A M.length c) (hM : IAt w A c M) (hn : A = none → c = 0) (hlen : X.length + M.length ≤ 1000000) (hb : n ≤ w.heap.size)
    (h : ∀ A' c' w', OwnI w' n 3 A' c' (X ++ M) → Below n w w' → K (a.put o.dst (.slice A' (X ++ M).length c')) w') :
    if Region.wanted o (yielded ops a.tmps) = true then Oper.wp Try.prog o a w K Q else E := by
  obtain ⟨A', c', w', hrun, h1, h2, _⟩ := run_append_at w o.type n A0 c0 X ht A c M hM hn hlen hb
  have hbel : Below n w w' := below_grown h2 hb fun g e => ((OwnI.at ht).2 g (by cases A0 with | none => cases e | some a => exact e)).1
  exact step_of hgd (wp_append_run Try.underlying25 int_row s x ho _ _ _ hs hx w' hrun (h A' c' w' h1 hbel))
end
set_option maxRecDepth 100000 in
/-- Appending to a row of one's own, where the order is that of the text. -/
theorem wpList_own {w : World} {ops : Array Oper} {rest : List Oper} {o : Oper} {a : Act} {Q : Exit → Act → World → Prop} (hgd : o.guard = none) (s x : Operand) (ho : o.op = .call { callee := .builtin .append, args := #[s, x], argTypes := #[25, 25] })
    (n : Nat) (A0 : Option Addr) (c0 : Nat) (X : List Int) (hs : a.eval s = .slice A0 X.length c0) (ht : OwnI w n 3 A0 c0 X)
    (A : Option Addr) (c : Nat) (M : List Int) (hx : a.eval x = .slice A M.length c) (hM : IAt w A c M) (hn : A = none → c = 0) (hlen : X.length + M.length ≤ 1000000) (hb : n ≤ w.heap.size)
    (h : ∀ A' c' w', OwnI w' n 3 A' c' (X ++ M) → (∀ a, A0 = some a → ∃ a', A' = some a') → Below n w w' → wpList Try.prog ops Q rest (a.put o.dst (.slice A' (X ++ M).length c')) w') : wpList Try.prog ops Q (o :: rest) a w := by
  obtain ⟨A', c', w', hrun, h1, h2, h3⟩ := run_append_at w o.type n A0 c0 X ht A c M hM hn hlen hb
  have hbel : Below n w w' := below_grown h2 hb fun g e => ((OwnI.at ht).2 g (by cases A0 with | none => cases e | some a => exact e)).1
  refine wpList_plain hgd fun _ hK => wp_append_run Try.underlying25 int_row s x ho _ _ _ hs hx w' hrun (hK _ _ (h A' c' w' h1 (fun a e => ?_) hbel))
  subst e
  cases A' with
  | none => rcases h3 with h3 | h3 <;> cases h3
  | some a' => exact ⟨a', rfl⟩
end Of
end Go.Proofs.Ytjgakcpjphdicaa
