/- Check. Valid. -/
import Derived.Test.YtjgakcpjphdicaaK17
import Derived.Test.YtjgakcpjphdicaaK4
import Derived.Test.YtjgakcpjphdicaaK5
namespace Go.Proofs.Ytjgakcpjphdicaa
open Go.RowKit
namespace Of
set_option maxRecDepth 100000 in
set_option maxHeartbeats 4000000 in
theorem check_ok (A : Option Addr) (c : Nat) (L : List OB) (w : World) (h : OBAt w A c L) :
    Calls Try.prog 27 #[.slice A L.length c] w fun e w' => e = .returned (.int .i64 (checkV L)) ∧ Below w.heap.size w w' := by
  have hcap := h.2.1
  have hlc := h.1
  unfold maxLen at hcap
  have HX := Lib.hid h
  clear h
  by_cases hL : 500 < L.length
  · have hv : checkV L = 3 := by unfold checkV; rw [if_pos hL]
    have HV := Lib.hid hv
    have e500 : (500 : Int) < (L.length : Int) := by omega
    clear hv
    go_enter Try.func27, Try.ntmps27
    go_wp2
    go_ret
    exact ⟨by rw [HV.out]; rfl, Below.refl _ _⟩
  · have hv : checkV L = if L.all okB then 0 else 7 := by unfold checkV; rw [if_neg hL]
    have HV := Lib.hid hv
    have e500 : ¬ (500 : Int) < (L.length : Int) := by omega
    clear hv
    go_enter Try.func27, Try.ntmps27
    go_wp2_with (fail)
    go_loopw [10] (fun i wr => ∃ k : Nat, k ≤ L.length ∧ i = .int .i64 k ∧ L.all okB = (L.drop k).all okB ∧ Below w.heap.size w wr) (fun i _ => L.length - (intOf i).toNat)
    case atStart => exact ⟨0, Nat.zero_le _, rfl, rfl, Below.refl _ _⟩
    case round =>
      obtain ⟨k, hk, rfl, hall, hb⟩ := hrel
      by_cases hlt : k < L.length
      · have hZ := HX.out.below hb (Nat.le_refl _)
        obtain ⟨g, o, rfl, hg, d0, d1, d2, d3⟩ := hZ.at hlt
        have hd : L.drop k = blk L k :: L.drop (k + 1) := by
          rw [List.drop_eq_getElem_cons hlt]
          congr 1
          unfold blk
          rw [List.getD_eq_getElem?_getD, List.getElem?_eq_getElem hlt]; rfl
        rw [hd, List.all_cons] at hall
        generalize hbk : blk L k = b at *
        have hok : okB b = (decide (1 ≤ b.s) && decide (b.s ≤ 65536) && isPow b.a && decide (0 ≤ b.f) && decide (b.f < b.t) && decide (b.t ≤ 1000)) := rfl
        have hbb : Below w.heap.size w (wr.alloc (.cells #[.int .i64 b.s, .int .i64 b.a, .int .i64 b.f, .int .i64 b.t] 42)) := hb.alloc hb.size _
        obtain ⟨s, a, f, t⟩ := b
        dsimp only at d0 d1 d2 d3 hok hbb
        have hN : ∀ m : Nat, a = m → m ≤ 4096 → Calls Try.prog 54 #[.int .u64 (m : Int)] (wr.alloc (.cells #[.int .i64 s, .int .i64 a, .int .i64 f, .int .i64 t] 42)) fun e w' => e = .returned (.int .i64 (oc (m : Int))) ∧ wr.alloc (.cells #[.int .i64 s, .int .i64 a, .int .i64 f, .int .i64 t] 42) = w' := fun m _ hm => ones_ok m hm _
        have hbad : okB ⟨s, a, f, t⟩ = false → checkV L = 7 := fun e => by rw [HV.out, hall, e]; rfl
        have hgood : okB ⟨s, a, f, t⟩ = true → L.all okB = (L.drop (k + 1)).all okB := fun e => by rw [hall, e, Bool.true_and]
        have HB := Lib.hid hbad
        have HG := Lib.hid hgood
        have HH := Lib.hid hbb
        have HN := Lib.hid hN
        have hsz := hb.size
        clear hall hbb hN hbk hZ hb hd hbad hgood
        by_cases h0 : s < 1
        · have hf : okB ⟨s, a, f, t⟩ = false := by rw [hok]; simp; omega
          clear hok
          go_wp2
          go_ret
          exact ⟨by rw [HB.out hf]; rfl, HH.out⟩
        by_cases h1 : 65536 < s
        · have hf : okB ⟨s, a, f, t⟩ = false := by rw [hok]; simp; omega
          clear hok
          go_wp2
          go_ret
          exact ⟨by rw [HB.out hf]; rfl, HH.out⟩
        by_cases h2 : a < 1
        · have hf : okB ⟨s, a, f, t⟩ = false := by
              have hnp : isPow a = false := by
                cases e : isPow a with
                | false => rfl
                | true => have := isPow_bd e; omega
              rw [hok, hnp]; simp
          clear hok
          go_wp2
          go_ret
          exact ⟨by rw [HB.out hf]; rfl, HH.out⟩
        by_cases h3 : 4096 < a
        · have hf : okB ⟨s, a, f, t⟩ = false := by
              have hnp : isPow a = false := by
                cases e : isPow a with
                | false => rfl
                | true => have := isPow_bd e; omega
              rw [hok, hnp]; simp
          clear hok
          go_wp2
          go_ret
          exact ⟨by rw [HB.out hf]; rfl, HH.out⟩
        obtain ⟨m, rfl⟩ := Int.eq_ofNat_of_zero_le (show 0 ≤ a by omega)
        have hm : m ≤ 4096 := by omega
        have hu : IntKind.u64.wrap (m : Int) = (m : Int) := by simp [IntKind.wrap, IntKind.bits, IntKind.signed]; omega
        have hpw := oc_ok m hm
        cases hp : isPow (m : Int) with
        | false =>
          have hf : okB ⟨s, (m : Int), f, t⟩ = false := by rw [hok, hp]; simp
          rw [hp] at hpw
          have hpn : (oc (m : Int) != 1) = true := by simp [bne, hpw]
          clear hok hp
          go_wp2_with (go_at_call 54; refine (HN.out m rfl hm).mono ?_; rintro e w' ⟨rfl, rfl⟩)
          go_ret
          exact ⟨by rw [HB.out hf]; rfl, HH.out⟩
        | true =>
          rw [hp] at hpw hok
          have hpn : (oc (m : Int) != 1) = false := by simp [bne, hpw]
          clear hp
          by_cases h5 : f < 0
          · have hf : okB ⟨s, (m : Int), f, t⟩ = false := by rw [hok]; simp; omega
            clear hok
            go_wp2_with (go_at_call 54; refine (HN.out m rfl hm).mono ?_; rintro e w' ⟨rfl, rfl⟩)
            go_ret
            exact ⟨by rw [HB.out hf]; rfl, HH.out⟩
          by_cases h6 : t ≤ f
          · have hf : okB ⟨s, (m : Int), f, t⟩ = false := by rw [hok]; simp; omega
            clear hok
            go_wp2_with (go_at_call 54; refine (HN.out m rfl hm).mono ?_; rintro e w' ⟨rfl, rfl⟩)
            go_ret
            exact ⟨by rw [HB.out hf]; rfl, HH.out⟩
          by_cases h7 : 1000 < t
          · have hf : okB ⟨s, (m : Int), f, t⟩ = false := by rw [hok]; simp; omega
            clear hok
            go_wp2_with (go_at_call 54; refine (HN.out m rfl hm).mono ?_; rintro e w' ⟨rfl, rfl⟩)
            go_ret
            exact ⟨by rw [HB.out hf]; rfl, HH.out⟩
          have hf : okB ⟨s, (m : Int), f, t⟩ = true := by rw [hok]; simp; omega
          clear hok
          go_wp2_with (go_at_call 54; refine (HN.out m rfl hm).mono ?_; rintro e w' ⟨rfl, rfl⟩)
          go_roundw
          case rel => exact ⟨k + 1, by omega, by go_num, HG.out hf, HH.out⟩
          case measure => simp [intOf]; omega
      · obtain rfl : k = L.length := by omega
        have HH := Lib.hid (And.intro hall hb)
        clear hall hb
        go_wp2
        go_ret
        refine ⟨?_, HH.out.2⟩
        rw [HV.out, HH.out.1, List.drop_length]; rfl
end Of
end Go.Proofs.Ytjgakcpjphdicaa
namespace Go.Proofs.Ytjgakcpjphdicaa
open Go.RowKit Go.Sort
namespace Of

set_option maxHeartbeats 400000 in
theorem meet_grown (x y : OB) (w : World) : Calls Try.prog 44 #[ob x, ob y] w fun e w' => e = .returned (.bool (meet x y)) ∧ ∃ q os', w' = grow (w.drewN q) os' := by
  have hb := alloc2_grow w (.cells #[.int .i64 x.s, .int .i64 x.a, .int .i64 x.f, .int .i64 x.t] 42) (.cells #[.int .i64 y.s, .int .i64 y.a, .int .i64 y.f, .int .i64 y.t] 42)
  have H := Lib.hid hb
  clear hb
  unfold meet
  by_cases h : x.f < y.t
  · go_enter Try.func44, Try.ntmps44
    go_wp2
    go_ret
    exact ⟨by simp [h], 0, _, H.out⟩
  · go_enter Try.func44, Try.ntmps44
    go_wp2
    go_ret
    exact ⟨by rw [decide_eq_false (show ¬ x.f < y.t by omega)]; rfl, 0, _, H.out⟩

/-- While Valid looks at the blocks in their order. -/
structure VS (w wr : World) (bp gr : Nat) (lA : Option Addr) (lc : Nat) (L : List OB) (A : Option Addr) (c : Nat) (M : List Int) (o : List Nat) : Prop where
  l : OBAt wr lA lc L
  m : IAt wr A c M
  p : wr.cell? ⟨bp, 0, none⟩ = some (.slice A M.length c)
  r : RowI 3 wr gr (zs o)
  below : Below w.heap.size w wr
theorem OBAt.grow {w w' : World} {A : Option Addr} {c gr : Nat} {L : List OB} (h : OBAt w A c L) (hg : Grow1 gr w w') (hw : ∀ g o, A = some ⟨g, o, none⟩ → 0 < L.length → g ≠ gr) : OBAt w' A c L := by
  refine ⟨h.1, h.2.1, fun j x hx => ?_⟩
  obtain ⟨g, o, hA, hgl, h1, h2, h3, h4⟩ := h.2.2 j x hx
  have hp : 0 < L.length := by have := (List.getElem?_eq_some_iff.1 hx).1; omega
  have e := hg.block g hgl (hw g o hA hp)
  exact ⟨g, o, hA, Nat.lt_of_lt_of_le hgl hg.size, (World.cell?_of_block (a := ⟨g, _, none⟩) e).trans h1, (World.cell?_of_block (a := ⟨g, _, none⟩) e).trans h2, (World.cell?_of_block (a := ⟨g, _, none⟩) e).trans h3, (World.cell?_of_block (a := ⟨g, _, none⟩) e).trans h4⟩
theorem IAt.grow {w w' : World} {A : Option Addr} {c gr : Nat} {M : List Int} (h : IAt w A c M) (hg : Grow1 gr w w') (hw : ∀ g o, A = some ⟨g, o, none⟩ → 0 < M.length → g ≠ gr) : IAt w' A c M := by
  refine ⟨h.1, h.2.1, fun j x hx => ?_⟩
  obtain ⟨g, o, hA, hgl, h1⟩ := h.2.2 j x hx
  have hp : 0 < M.length := by have := (List.getElem?_eq_some_iff.1 hx).1; omega
  exact ⟨g, o, hA, Nat.lt_of_lt_of_le hgl hg.size, (World.cell?_of_block (a := ⟨g, _, none⟩) (hg.block g hgl (hw g o hA hp))).trans h1⟩
theorem VS.step {w wr w' : World} {bp gr lc c : Nat} {lA A : Option Addr} {L : List OB} {M : List Int} {o : List Nat} (h : VS w wr bp gr lA lc L A c M o) (hb : Below wr.heap.size wr w') : VS w w' bp gr lA lc L A c M o :=
  ⟨h.l.below hb (Nat.le_refl _), h.m.below hb (Nat.le_refl _), cell_keep2 hb h.p, h.r.keep (hb.block _ h.r.lt), h.below.trans (hb.mono h.below.size)⟩

attribute [local irreducible] wpQuiet
set_option maxRecDepth 100000 in
set_option maxHeartbeats 4000000 in
theorem Valid_ok (w : World) (lA : Option Addr) (lc : Nat) (L : List OB) (A : Option Addr) (c : Nat) (M : List Int) (hl : OBAt w lA lc L) (hm : IAt w A c M) (hML : M.length ≤ 100000) :
    Calls Try.prog 16 #[.slice lA L.length lc, .slice A M.length c] w fun e w' => e = .returned (.tuple #[.bool (validRes L M).1, .int .i64 (validRes L M).2.1, .int .i64 (validRes L M).2.2]) ∧ Below w.heap.size w w' := by
  have hb0 := below_box w (.cells #[.slice A M.length c] 24)
  have hl0 := hl.below hb0 (Nat.le_refl _)
  have hm0 := hm.below hb0 (Nat.le_refl _)
  have c0 := (one_cell (show (w.alloc (.cells #[.slice A M.length c] 24)).heap[w.heap.size]? = some (.cells #[.slice A M.length c] 24 (0, 0)) by rw [heapAlloc, if_pos rfl])).1
  have hcap := hl.2.1
  have hlc := hl.1
  have hmc := hm.1
  have hmcap := hm.2.1
  unfold maxLen at hcap hmcap
  have hck := check_ok lA lc L _ hl0
  have H0 := Lib.hid (And.intro hb0 (And.intro hl0 hm0))
  clear hb0 hl0 hm0 hl hm
  unfold validRes
  rcases checkV_cases L with hv | hv | hv
  · have hL := (checkV_ok L).1 hv
    rw [hv] at hck
    rw [hv, if_neg (by simp)]
    have HC := Lib.hid hck
    have HL := Lib.hid hL
    have hlen := hL.1
    clear hck hL hv
    by_cases hne : M.length = L.length
    · have hbne : ((M.length : Int) != (L.length : Int)) = false := by simp; omega
      have HNE := Lib.hid hne
      clear hne
      cases hfar : M.any farB with
      | true =>
        rw [if_pos (.inr rfl)]
        go_enter Try.func16, Try.ntmps16
        go_upto_region 1 with (fail)
        obtain ⟨W0, hW0⟩ : ∃ W0, W0 = w.alloc (.cells #[.slice A M.length c] 24) := ⟨_, rfl⟩
        rw [← hW0] at H0 c0 HC ⊢
        clear hW0
        go_upto_region 4 with (go_at_call 27; refine HC.out.mono ?_; rintro e w1 ⟨rfl, hb1⟩; have HB1 := Lib.hid hb1; clear hb1)
        have c1 := cell_keep2 HB1.out c0
        have hcf := contF_ok w1 A c M (H0.out.2.2.below HB1.out (Nat.le_refl _)) hML
        rw [hfar] at hcf
        have HCF := Lib.hid hcf
        clear hcf c0 hfar
        go_wp2_with (go_at_call 38; refine HCF.out.mono ?_; rintro e w2 ⟨rfl, q, rfl⟩)
        go_ret3
        exact ⟨rfl, H0.out.1.trans ((below_drewN HB1.out _).mono H0.out.1.size)⟩
      | false =>
        rw [if_neg (by rintro (h | h) <;> first | exact h HNE.out | (cases h))]
        have HFB := Lib.hid hfar
        go_enter Try.func16, Try.ntmps16
        go_upto_region 1 with (fail)
        obtain ⟨W0, hW0⟩ : ∃ W0, W0 = w.alloc (.cells #[.slice A M.length c] 24) := ⟨_, rfl⟩
        rw [← hW0] at H0 c0 HC ⊢
        have hs0 : W0.heap.size = w.heap.size + 1 := by rw [hW0]; simp
        clear hW0
        obtain ⟨bp, hbp⟩ : ∃ z, z = w.heap.size := ⟨_, rfl⟩
        rw [← hbp] at H0 c0 hs0 ⊢
        have HZ := Lib.hid (And.intro hbp hs0)
        clear hbp hs0
        go_upto_region 4 with (go_at_call 27; refine HC.out.mono ?_; rintro e w1 ⟨rfl, hb1⟩; have HB1 := Lib.hid hb1; clear hb1)
        have c1 := cell_keep2 HB1.out c0
        have hcf := contF_ok w1 A c M (H0.out.2.2.below HB1.out (Nat.le_refl _)) hML
        rw [hfar] at hcf
        have HCF := Lib.hid hcf
        have hnum := fun W => numbers_ok L.length (by omega) W
        have HN := Lib.hid hnum
        clear hcf c0 hfar hnum
        go_upto_region 7 with (first
          | (go_at_call 38; refine HCF.out.mono ?_; rintro e w2 ⟨rfl, q, rfl⟩)
          | (go_at_call 40; refine (HN.out _).mono ?_; rintro e w3 ⟨gr, rfl, hr, hgr, hb3⟩; have H3 := Lib.hid (And.intro hr (And.intro hgr hb3)); clear hr hgr hb3))
        have hb13 : Below w1.heap.size w1 w3 := (below_drewN (Below.refl w1.heap.size w1) q).trans H3.out.2.2
        have hb03 : Below bp w w3 := H0.out.1.trans ((HB1.out.trans (hb13.mono HB1.out.size)).mono (by have := HZ.out.2; omega))
        have c3 := cell_keep2 hb13 c1
        have hm3 := H0.out.2.2.below (HB1.out.trans (hb13.mono HB1.out.size)) (Nat.le_refl _)
        have hl3 := H0.out.2.1.below (HB1.out.trans (hb13.mono HB1.out.size)) (Nat.le_refl _)
        have hgr1 : w1.heap.size ≤ gr := H3.out.2.1
        have hbp1 : bp < w1.heap.size := by have := HB1.out.size; have := HZ.out.2; omega
        have hsrt := vsort_ok w3 bp gr L.length c A M c3 hm3 H3.out.1 HNE.out.symm (by omega) (by omega) (fun h0 g hg => by
          obtain ⟨g', o', e1, e2⟩ := (H0.out.2.2.below HB1.out (Nat.le_refl _)).head (by rw [HNE.out]; exact h0)
          rw [e1] at hg
          injection hg with hg
          have : g' = g := hg
          omega)
        have HSR := Lib.hid hsrt
        have H5 := Lib.hid (And.intro hb03 (And.intro hm3 (And.intro hl3 (And.intro hgr1 c3))))
        clear hsrt hb13 hb03 c1 hm3 hl3
        go_upto_region 8 with (go_at_call 41; refine HSR.out.mono ?_; rintro e w4 ⟨rfl, o, ho1, ho2, ho3, ho4⟩; have HO := Lib.hid (And.intro ho1 (And.intro ho2 (And.intro ho3 ho4))); clear ho1 ho2 ho3 ho4)
        have hvs : VS w w4 bp gr lA lc L A c M o := by
          refine ⟨H5.out.2.2.1.grow HO.out.2.2.2 fun g oo e h0 => ?_, H5.out.2.1.grow HO.out.2.2.2 fun g oo e h0 => ?_, ?_, HO.out.2.2.1, ?_⟩
          · obtain ⟨g', o', e1, e2⟩ := (H0.out.2.1.below HB1.out (Nat.le_refl _)).head h0
            rw [e1] at e; injection e with e; injection e with e _
            have := H5.out.2.2.2.1; omega
          · obtain ⟨g', o', e1, e2⟩ := (H0.out.2.2.below HB1.out (Nat.le_refl _)).head h0
            rw [e1] at e; injection e with e; injection e with e _
            have := H5.out.2.2.2.1; omega
          · have := HO.out.2.2.2.block bp (World.block_lt_of_cell? w3 (a := ⟨bp, 0, none⟩) H5.out.2.2.2.2) (by have := H5.out.2.2.2.1; omega)
            exact (World.cell?_of_block (a := ⟨bp, 0, none⟩) this).trans H5.out.2.2.2.2
          · rw [← HZ.out.1]
            have hg := HO.out.2.2.2
            exact ⟨hg.os.trans H5.out.1.os, hg.tape.trans H5.out.1.tape, hg.output.trans H5.out.1.output, Nat.le_trans H5.out.1.size hg.size, fun k hk => (hg.block k (by have := H5.out.1.size; have := HZ.out.1; omega) (by have := H5.out.2.2.2.1; omega)).trans (H5.out.1.block k hk)⟩
        have hol : o.length = L.length := by have := HO.out.1.length_eq; rw [this, List.length_range]
        have hpv : pv L M [] o = isLay L M := pv_isLay HL.out HO.out.1 HO.out.2.1
        have hmem : ∀ i, i ∈ o ↔ i < L.length := fun i => by rw [HO.out.1.mem_iff, List.mem_range]
        have htop : topF L M o = topF L M (List.range L.length) := topF_perm fun i => HO.out.1.mem_iff
        have HV := Lib.hid hvs
        have HOL := Lib.hid (And.intro hol (And.intro hpv (And.intro hmem htop)))
        clear hvs hol hpv hmem htop c3
        go_wp2_with (fail)
        go_loopw [9, 36] (fun top i wr => ∃ k : Nat, k ≤ L.length ∧ i = .int .i64 k ∧ top = .int .i64 (topF L M (o.take k)) ∧ pv L M [] o = pv L M (o.take k) (o.drop k) ∧ VS w wr bp gr lA lc L A c M o) (fun _ i _ => L.length - (intOf i).toNat)
        case atStart => exact ⟨0, Nat.zero_le _, rfl, rfl, rfl, HV.out⟩
        case round =>
          obtain ⟨k, hk, rfl, rfl, hpk, hvs⟩ := hrel
          by_cases hlt : k < L.length
          · obtain ⟨i, hi⟩ : ∃ i, o[k]? = some i := ⟨_, List.getElem?_eq_getElem (by rw [HOL.out.1]; exact hlt)⟩
            have hil : i < L.length := (HOL.out.2.2.1 i).1 (List.mem_of_getElem? hi)
            obtain ⟨g, oo, rfl, hgl, y0, y1, y2, y3⟩ := hvs.l.at hil
            obtain ⟨gm, om, rfl, hgm, ym⟩ := hvs.m.at (j := i) (by rw [HNE.out]; exact hil)
            have yp := hvs.p
            have yo := hvs.r.cell (j := k) (by rw [List.length_map, HOL.out.1]; exact hlt)
            have hok : addr (zs o) k = (i : Int) := by unfold addr; rw [List.getD_eq_getElem?_getD, zs_get hi]; rfl
            rw [hok] at yo
            have hbi := HL.out.blk i
            have ha1 := isPow_bd hbi.a0
            have hfi := far_bd HFB.out i
            have hmask := mask_bits (addr M i) (blk L i).a hfi.1 hfi.2 hbi.a0
            have hoa : okAt L M i = (addr M i % (blk L i).a == 0) := by unfold okAt; rw [Bool.eq_iff_iff, decide_eq_true_eq, beq_iff_eq]
            have hdr : o.drop k = i :: o.drop (k + 1) := by
              rw [List.drop_eq_getElem_cons (by rw [HOL.out.1]; exact hlt)]; congr 1
              rw [List.getElem?_eq_getElem (by rw [HOL.out.1]; exact hlt)] at hi; injection hi
            rw [hdr, pv] at hpk
            have htk : o.take (k + 1) = o.take k ++ [i] := take_next hi
            have htop : topF L M (o.take (k + 1)) = max (topF L M (o.take k)) (addr M i + (blk L i).s) := by rw [htk, topF_snoc]
            rw [← htk] at hpk
            have htb := topF_bd HL.out HFB.out (o.take k)
            have hs1 := hbi.s1
            have hs2 := hbi.s2
            have hotl : (o.take k).length = k := by rw [List.length_take, HOL.out.1]; omega
            have HT := Lib.hid (And.intro hpk (And.intro htop (And.intro hotl hi)))
            have HVS := Lib.hid hvs
            have hnm : M.length = L.length := HNE.out
            have hiM : i < M.length := by rw [hnm]; exact hil
            clear hpk htop hotl hi hdr htk hok hbi hvs hnm
            have q1 : IntKind.i64.wrap ((blk L i).a - 1) = (blk L i).a - 1 := IntWalk.i64_in _ (by omega)
            generalize hbb : blk L i = b at *
            have HBB := Lib.hid hbb
            clear hbb
            obtain ⟨s, a, f, u⟩ := b
            dsimp only at y0 y1 y2 y3 ha1 hmask hoa hs1 hs2 q1 HT
            generalize hmi : addr M i = x at *
            have HMI := Lib.hid hmi
            clear hmi
            generalize hrr : x % a = rr at *
            clear hrr
            cases hoo : okAt L M i with
            | false =>
              rw [hoo] at hoa HT
              have hne0 : (rr != 0) = true := by rw [bne, ← hoa]; rfl
              have hz : isLay L M = false := by rw [← HOL.out.2.1, HT.out.1]; rfl
              have HZZ := Lib.hid hz
              clear hoo hoa hz
              go_upto_region 12 with (fail)
              go_quiet (fail)
              go_wp2
              go_ret3
              exact ⟨by unfold validV; rw [HZZ.out]; rfl, below_drewN HVS.out.below _⟩
            | true =>
              rw [hoo] at hoa HT
              have hne0 : (rr != 0) = false := by rw [bne, ← hoa]; rfl
              clear hoo hoa
              go_upto_region 12 with (fail)
              go_quiet (fail)
              have hv5 := HVS.out.step (below_drewN (Below.refl wr.heap.size wr) nq)
              have HV5 := Lib.hid hv5
              clear hv5 y0 y1 y2 y3 ym yp yo hmask q1
              generalize wr.drewN nq = w5 at *
              have ek : (k : Int) ≤ (L.length : Int) := by omega
              go_wp2_with (fail)
              go_loopw [57] (fun jj wr => ∃ j : Nat, j ≤ k ∧ jj = .int .i64 j ∧ ((o.take k).all fun y => !hit L M i y) = (((o.take k).drop j).all fun y => !hit L M i y) ∧ VS w wr bp gr (some ⟨g, oo, none⟩) lc L (some ⟨gm, om, none⟩) c M o) (fun jj _ => k - (intOf jj).toNat)
              case atStart => exact ⟨0, Nat.zero_le _, rfl, rfl, HV5.out⟩
              case round =>
                obtain ⟨j, hj, rfl, hall, hv⟩ := hrel
                by_cases hjk : j < k
                · obtain ⟨y, hy⟩ : ∃ y, o[j]? = some y := ⟨_, List.getElem?_eq_getElem (by rw [HOL.out.1]; omega)⟩
                  have hyl : y < L.length := (HOL.out.2.2.1 y).1 (List.mem_of_getElem? hy)
                  have hgl5 := World.block_lt_of_cell? wr (a := ⟨bp, 0, none⟩) hv.p
                  obtain ⟨g2, oo2, e, hgl2, y0, y1, y2, y3⟩ := hv.l.at hyl
                  injection e with e; injection e with e1 e2 _
                  subst e1; subst e2
                  obtain ⟨g2, oo2, e, hgl2', z0, z1, z2, z3⟩ := hv.l.at hil
                  injection e with e; injection e with e1 e2 _
                  subst e1; subst e2
                  obtain ⟨g2, oo2, e, hgm2, ym⟩ := hv.m.at (j := y) (by rw [HNE.out]; exact hyl)
                  injection e with e; injection e with e1 e2 _
                  subst e1; subst e2
                  obtain ⟨g2, oo2, e, hgm2', zm⟩ := hv.m.at (j := i) hiM
                  injection e with e; injection e with e1 e2 _
                  subst e1; subst e2
                  have yp := hv.p
                  have yo := hv.r.cell (j := j) (by rw [List.length_map, HOL.out.1]; omega)
                  have hok : addr (zs o) j = (y : Int) := by unfold addr; rw [List.getD_eq_getElem?_getD, zs_get hy]; rfl
                  rw [hok] at yo
                  rw [HBB.out] at z0 z1 z2 z3
                  rw [HMI.out] at zm
                  have hby := HL.out.blk y
                  have ys1 := hby.s1
                  have ys2 := hby.s2
                  have hfy := far_bd HFB.out y
                  have hdr2 : (o.take k).drop j = y :: (o.take k).drop (j + 1) := by
                    rw [List.drop_eq_getElem_cons (by rw [HT.out.2.2.1]; exact hjk)]; congr 1
                    rw [List.getElem_take]
                    rw [List.getElem?_eq_getElem (by rw [HOL.out.1]; omega)] at hy; injection hy
                  rw [hdr2, List.all_cons] at hall
                  have hhit : hit L M i y = (meet ⟨s, a, f, u⟩ (blk L y) && decide (x < addr M y + (blk L y).s)) := by unfold hit; rw [HBB.out, HMI.out]
                  have hmt := fun W => meet_grown ⟨s, a, f, u⟩ (blk L y) W
                  have hyM : y < M.length := by rw [HNE.out]; exact hyl
                  generalize blk L y = by_ at *
                  generalize addr M y = mx at *
                  obtain ⟨ks, ka, kf, ku⟩ := by_
                  dsimp only [ob] at y0 y1 y2 y3 z0 z1 z2 z3 ys1 ys2 hmt hhit
                  have X0 := fun n os => cell_grown hgl2 y0 n os
                  have X1 := fun n os => cell_grown hgl2 y1 n os
                  have X2 := fun n os => cell_grown hgl2 y2 n os
                  have X3 := fun n os => cell_grown hgl2 y3 n os
                  have Z0 := fun n os => cell_grown hgl2 z0 n os
                  have Z1 := fun n os => cell_grown hgl2 z1 n os
                  have Z2 := fun n os => cell_grown hgl2 z2 n os
                  have Z3 := fun n os => cell_grown hgl2 z3 n os
                  have YM := fun n os => cell_grown hgm2 ym n os
                  have ZM := fun n os => cell_grown hgm2 zm n os
                  have YP := fun n os => cell_grown hgl5 yp n os
                  have hdone : ∀ n os, VS w (grow (wr.drewN n) os) bp gr (some ⟨g, oo, none⟩) lc L (some ⟨gm, om, none⟩) c M o := fun n os => hv.step (grown_below n os (Nat.le_refl _))
                  have HD := Lib.hid hdone
                  have HAL := Lib.hid (And.intro hall hhit)
                  have HM := Lib.hid hmt
                  have q2 : IntKind.i64.wrap (mx + ks) = mx + ks := IntWalk.i64_in _ (by omega)
                  have mixed : Try.prog.follows .mixedOrders = true := by kernel_rfl
                  clear hdone hall hhit hmt y0 y1 y2 y3 z0 z1 z2 z3 ym zm yp hv hdr2 hok hby hy
                  cases hme : meet ⟨s, a, f, u⟩ ⟨ks, ka, kf, ku⟩ with
                  | false =>
                    rw [hme] at HM
                    have hh : hit L M i y = false := by rw [HAL.out.2, hme]; rfl
                    have HH := Lib.hid hh
                    clear hh hme
                    go_upto_region 17 with (fail)
                    go_quiet_grown ((go_at_call 44; exact Calls.grown_of (HM.out _)))
                    go_wp2
                    go_roundw
                    case rel => exact ⟨j + 1, by omega, by go_num, by rw [HAL.out.1, HH.out]; rfl, HD.out _ _⟩
                    case measure => simp [intOf]; omega
                  | true =>
                    rw [hme] at HM
                    by_cases hxm : x < mx + ks
                    · have hh : hit L M i y = true := by rw [HAL.out.2, hme, decide_eq_true hxm]; rfl
                      have hz : isLay L M = false := by rw [← HOL.out.2.1, HT.out.1, HAL.out.1, hh]; simp
                      have HZZ := Lib.hid hz
                      clear hh hz hme
                      go_upto_region 17 with (fail)
                      go_quiet_grown ((go_at_call 44; exact Calls.grown_of (HM.out _)))
                      go_wp2
                      go_ret3
                      exact ⟨by unfold validV; rw [HZZ.out]; rfl, (HD.out _ _).below⟩
                    · have hh : hit L M i y = false := by rw [HAL.out.2, hme, decide_eq_false hxm]; rfl
                      have HH := Lib.hid hh
                      have hxm' : mx + ks ≤ x := by omega
                      have hxd : decide (x < mx + ks) = false := decide_eq_false hxm
                      clear hh hme
                      go_upto_region 17 with (fail)
                      go_quiet_grown ((go_at_call 44; exact Calls.grown_of (HM.out _)))
                      go_wp2
                      go_roundw
                      case rel => exact ⟨j + 1, by omega, by go_num, by rw [HAL.out.1, HH.out]; rfl, HD.out _ _⟩
                      case measure => simp [intOf]; omega
                · obtain rfl : j = k := by omega
                  rw [List.drop_eq_nil_of_le (by rw [HT.out.2.2.1]; exact Nat.le_refl _)] at hall
                  obtain ⟨g2, oo2, e, hgl2', z0, z1, z2, z3⟩ := hv.l.at hil
                  injection e with e; injection e with e1 e2 _
                  subst e1; subst e2
                  obtain ⟨g2, oo2, e, hgm2', zm⟩ := hv.m.at (j := i) hiM
                  injection e with e; injection e with e1 e2 _
                  subst e1; subst e2
                  have yp := hv.p
                  rw [HBB.out] at z0
                  rw [HMI.out] at zm
                  have htp := HT.out.2.1
                  generalize topF L M (o.take j) = tp at *
                  have q2 : IntKind.i64.wrap (x + s) = x + s := IntWalk.i64_in _ (by omega)
                  have hnx : pv L M [] o = pv L M (o.take (j + 1)) (o.drop (j + 1)) := by
                    have h1 := HT.out.1
                    rw [h1]
                    show (true && ((o.take j).all fun y => !hit L M i y) && _) = _
                    rw [hall]; rfl
                  have HNX := Lib.hid (And.intro hnx (And.intro htp hv))
                  clear hnx htp hv hall z1 z2 z3
                  go_upto_region 20 with (fail)
                  go_region
                  go_wp2
                  go_roundw
                  case rel => exact ⟨j + 1, by omega, by go_num, by rw [HNX.out.2.1], HNX.out.1, by first | exact HNX.out.2.2 | exact HNX.out.2.2.step (below_drew (Below.refl _ _))⟩
                  case measure => simp [intOf]; omega
          · obtain rfl : k = L.length := by omega
            have hto : o.take L.length = o := by rw [← HOL.out.1, List.take_length]
            have hdo : o.drop L.length = [] := by rw [← HOL.out.1, List.drop_length]
            rw [hto, hdo] at hpk
            rw [hto]
            have hres : isLay L M = true := by rw [← HOL.out.2.1, hpk]; rfl
            have HR := Lib.hid (And.intro hres hvs)
            clear hpk hvs hto hdo hres
            go_wp2
            go_ret3
            exact ⟨by unfold validV; rw [if_pos HR.out.1, HOL.out.2.2.2]; rfl, HR.out.2.below⟩
    · rw [if_pos (.inl hne)]
      have hbne : ((M.length : Int) != (L.length : Int)) = true := by simp; omega
      clear hne
      go_enter Try.func16, Try.ntmps16
      go_upto_region 1 with (fail)
      obtain ⟨W0, hW0⟩ : ∃ W0, W0 = w.alloc (.cells #[.slice A M.length c] 24) := ⟨_, rfl⟩
      rw [← hW0] at H0 c0 HC ⊢
      clear hW0
      go_upto_region 4 with (go_at_call 27; refine HC.out.mono ?_; rintro e w1 ⟨rfl, hb1⟩; have HB1 := Lib.hid hb1; clear hb1)
      have c1 := cell_keep2 HB1.out c0
      clear c0
      go_wp2
      go_ret3
      exact ⟨rfl, H0.out.1.trans (HB1.out.mono H0.out.1.size)⟩
  all_goals
    rw [hv] at hck
    rw [hv, if_pos (by simp)]
    have HC := Lib.hid hck
    clear hck hv
    go_enter Try.func16, Try.ntmps16
    go_upto_region 1 with (fail)
    obtain ⟨W0, hW0⟩ : ∃ W0, W0 = w.alloc (.cells #[.slice A M.length c] 24) := ⟨_, rfl⟩
    rw [← hW0] at H0 c0 HC ⊢
    clear hW0
    go_wp2_with (go_at_call 27; refine HC.out.mono ?_; rintro e w1 ⟨rfl, hb1⟩; have HB1 := Lib.hid hb1; clear hb1)
    go_ret3
    exact ⟨rfl, H0.out.1.trans (HB1.out.mono H0.out.1.size)⟩
end Of
end Go.Proofs.Ytjgakcpjphdicaa
