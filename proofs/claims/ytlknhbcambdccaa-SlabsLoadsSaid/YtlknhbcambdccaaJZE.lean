/- Valid of the reference. -/
import Derived.Test.YtlknhbcambdccaaJZD
import Derived.Test.YtlknhbcambdccaaJYQ
import Derived.Deep.RegionWith
namespace Go.Proofs.Ytlknhbcambdccaa
open Go.RowKit
namespace Sl
open Bu

/-- Owner of the reference, of any page. -/
theorem ownerR_any (w : World) (N : Nat) (A : Option Addr) (c : Nat) (L : List Blk) (page : Int) (o : Nat) (h : BlkAt w A c L) (hS : St N L) :
    Calls Try.prog 90 #[sv N A L.length c, .int .i64 page] w fun e w' => (∃ pp oo er : Int, e = .returned (.tuple #[.agg #[.int .i64 pp, .int .i64 oo], .int .i64 er]) ∧ ((er = 0 ∧ pp = page ∧ oo = (o : Int)) ↔ (0 ≤ page ∧ (page.toNat, o) ∈ L))) ∧ Below w.heap.size w w' := by
  by_cases hp : page < 0 ∨ ((2 ^ N : Nat) : Int) ≤ page
  · refine (ownerR_bad w N A c L page hS.n10 hp).mono ?_
    rintro e w' ⟨he, hb⟩
    refine ⟨⟨0, 0, 7, he, ⟨fun h => by omega, fun ⟨h1, h2⟩ => ?_⟩⟩, hb⟩
    exfalso
    have h3 := (hS.inb _ h2)
    have h4 : page.toNat + 2 ^ o ≤ 2 ^ N := h3.2.2
    have := pow_pos2 o
    omega
  · obtain ⟨p, rfl⟩ := Int.eq_ofNat_of_zero_le (show 0 ≤ page by omega)
    have hp2 : p < 2 ^ N := by omega
    refine (ownerR_ok w N A c L p hS.n10 h (st_le hS) hp2).mono ?_
    rintro e w' ⟨he, hb⟩
    refine ⟨?_, hb⟩
    cases ho : ownerB L p with
    | none =>
      rw [ho] at he
      refine ⟨0, 0, 4, he, ⟨fun h => by omega, fun ⟨_, h2⟩ => ?_⟩⟩
      rw [Int.toNat_natCast] at h2
      exact absurd ⟨Nat.le_refl _, (by have := pow_pos2 o; show p < p + 2 ^ o; omega)⟩ (ownerB_none ho h2)
    | some x =>
      rw [ho] at he
      obtain ⟨g1, g2, g3⟩ := ownerB_some ho
      refine ⟨(x.1 : Int), (x.2 : Int), 0, he, ⟨fun ⟨_, h1, h2⟩ => ⟨by omega, ?_⟩, fun ⟨_, h2⟩ => ?_⟩⟩
      · have e1 : x.1 = p := by omega
        have e2 : x.2 = o := by omega
        rw [Int.toNat_natCast, ← e1, ← e2]; exact g1
      · rw [Int.toNat_natCast] at h2
        have h3 := ownerB_of hS (p := p) h2 (Nat.le_refl _) (by have := pow_pos2 o; show p < p + 2 ^ o; omega)
        rw [ho] at h3
        injection h3 with h3
        rw [h3]
        exact ⟨rfl, rfl, rfl⟩

/-- What Valid returns. -/
def ValR (o cap kp : Nat) (L : List Blk) (l : List (Int × List Bool)) (e : Ending) : Prop := ∃ bv : Bool, e = .returned (.bool bv) ∧ (bv = true ↔ (OkX L o cap l ∧ emptyS (loadS l) ≤ kp))

set_option maxRecDepth 100000 in
set_option maxHeartbeats 8000000 in
theorem validR_ok (w : World) (N s o kp : Nat) (L : List Blk) (A : Option Addr) (c : Nat) (A2 : Option Addr) (c2 : Nat) (l : List (Int × List Bool)) (h8 : 8 ≤ s) (h4 : o ≤ 4) (hB : BlkAt w A c L) (hS : St N L) (h : SbAt 0 w A2 c2 l) (hl64 : ∀ x ∈ l, -9223372036854775808 ≤ x.1 ∧ x.1 < 9223372036854775808) :
    Calls Try.prog 68 #[sv N A L.length c, stv (s : Int) (o : Int) (kp : Int) A2 l.length c2] w fun e w' => ValR o (capa s o) kp L l e ∧ Below w.heap.size w w' := by
  obtain ⟨n, hn⟩ : ∃ n, n = l.length := ⟨_, rfl⟩
  obtain ⟨q0, hq0⟩ : ∃ q, q = L.length := ⟨_, rfl⟩
  obtain ⟨W1, hW1⟩ : ∃ W1, W1 = (w.alloc (.cells #[.int .i64 (N : Int), .slice A q0 c] 46)).alloc (.cells #[.int .i64 (s : Int), .int .i64 (o : Int), .int .i64 (kp : Int), .slice A2 n c2] 69) := ⟨_, rfl⟩
  have hb1 : Below w.heap.size w W1 := by rw [hW1]; exact (below_box w _).alloc (by simp) _
  have hs1 : W1.heap.size = w.heap.size + 2 := by rw [hW1]; simp
  have hA1 : W1.heap[w.heap.size]? = some (.cells #[.int .i64 (N : Int), .slice A q0 c] 46 (0, 0)) := by
    rw [hW1, alloc_old _ _ _ (by simp), heapAlloc, if_pos rfl]
  obtain ⟨B, hBe⟩ : ∃ B, B = w.heap.size + 1 := ⟨_, rfl⟩
  have hB1 : W1.heap[B]? = some (.cells #[.int .i64 (s : Int), .int .i64 (o : Int), .int .i64 (kp : Int), .slice A2 n c2] 69 (0, 0)) := by
    rw [hW1, hBe, heapAlloc, if_pos (by simp)]
  obtain ⟨a0, a1, _, _⟩ := Bu.two_cells hA1
  obtain ⟨b0, b1, b2, b3⟩ := four_at hB1
  have hln := h.1
  have hlm := h.2.1
  unfold maxLen at hlm
  have hcap := fun W => (capacityR_ok W s o h8 h4).mono (R' := fun e w' => e = .returned (.int .i64 ((capa s o : Nat) : Int)) ∧ w' = W) fun _ _ ⟨he, hw⟩ => ⟨he, hw.symm⟩
  obtain ⟨cp, hcp⟩ : ∃ cp, cp = capa s o := ⟨_, rfl⟩
  rw [← hcp] at hcap ⊢
  have HCap := Lib.hid hcap
  have HX := Lib.hid (And.intro (h.below hb1) (And.intro hn (And.intro hb1 (And.intro hs1 (And.intro hA1 (And.intro hB1 (And.intro (hB.below hb1) (And.intro hS (And.intro hl64 (And.intro hq0 hBe))))))))))
  have HW := Lib.hid hW1
  have HB := Lib.hid hBe
  have hwW : w.heap.size < W1.heap.size := by omega
  have hBW : B < W1.heap.size := by omega
  rw [← hn] at hln ⊢
  rw [← hq0]
  clear h hn hb1 hs1 hA1 hB1 hB hS hl64 hq0 hW1 hBe hcap hcp
  go_enter Try.func68, Try.ntmps68
  go_wp2_with (fail)
  rw [← HW.out, ← HB.out]
  go_loopw [5] (fun i wr => ∃ k : Nat, k ≤ n ∧ i = .int .i64 (k : Int) ∧ OkX L o cp (l.take k) ∧ Below W1.heap.size W1 wr) (fun i _ => n - (intOf i).toNat)
  case atStart => exact ⟨0, Nat.zero_le _, rfl, (fun i x hx => by simp at hx), Below.refl _ _⟩
  case round =>
    obtain ⟨k, hk, rfl, hok, hb⟩ := hrel
    have e0 : (0 : Int) ≤ (k : Int) := by omega
    replace a0 := (hb.cell (p := ⟨w.heap.size, 0, none⟩) hwW).trans a0
    replace a1 := (hb.cell (p := ⟨w.heap.size, 1, none⟩) hwW).trans a1
    replace b0 := (hb.cell (p := ⟨B, 0, none⟩) hBW).trans b0
    replace b1 := (hb.cell (p := ⟨B, 1, none⟩) hBW).trans b1
    replace b2 := (hb.cell (p := ⟨B, 2, none⟩) hBW).trans b2
    replace b3 := (hb.cell (p := ⟨B, 3, none⟩) hBW).trans b3
    by_cases hlt : k < n
    · have e1 : (k : Int) < (n : Int) := by omega
      have hkk : IntKind.i64.wrap ((k : Int) + 1) = ((k + 1 : Nat) : Int) := by rw [IntWalk.i64_in _ (by omega)]; rfl
      obtain ⟨⟨pg, us⟩, hx⟩ : ∃ x, l[k]? = some x := ⟨_, List.getElem?_eq_getElem (by have := HX.out.2.1; omega)⟩
      obtain ⟨g1, o1, U1, cu1, rfl, hg1, d0, d1, hU1⟩ := sb_at HX.out.1 hx
      dsimp only at d0 d1 hU1
      replace d0 := (hb.cell (p := ⟨g1, o1 + k * 2, none⟩) hg1).trans d0
      replace d1 := (hb.cell (p := ⟨g1, o1 + k * 2 + 1, none⟩) hg1).trans d1
      have hpr : 0 < k → wr.cell? ⟨g1, o1 + (k - 1) * 2, none⟩ = some (.int .i64 (lastOf l k)) := by
        intro hk0
        obtain ⟨y, hy⟩ : ∃ y, l[k - 1]? = some y := ⟨_, List.getElem?_eq_getElem (by have := HX.out.2.1; omega)⟩
        obtain ⟨g2, o2, U2, cu2, e2, hg2, d2, _⟩ := sb_at HX.out.1 hy
        injection e2 with e2; injection e2 with e2 e3
        subst e2; subst e3
        have := (hb.cell (p := ⟨g1, o1 + (k - 1) * 2, none⟩) hg2).trans d2
        unfold lastOf
        rw [if_neg (by omega), hy]
        exact this
      have hbs := hb.size
      obtain ⟨q, hq⟩ : ∃ q, q = us.length := ⟨_, rfl⟩
      have hm1 := hU1.1
      have hx1 := hU1.2.1
      unfold maxLen at hx1
      rw [← hq] at d1 hm1
      obtain ⟨X, hX⟩ : ∃ X, X = wr.heap.size := ⟨_, rfl⟩
      obtain ⟨W3, hW3⟩ : ∃ W3, W3 = wr.alloc (.cells #[.int .i64 pg, .slice U1 q cu1] 90) := ⟨_, rfl⟩
      have hb3 : Below wr.heap.size wr W3 := by rw [hW3]; exact below_box wr _
      have hx3 : W3.heap[X]? = some (.cells #[.int .i64 pg, .slice U1 q cu1] 90 (0, 0)) := by rw [hW3, hX, heapAlloc, if_pos rfl]
      have hbr3 : Below W1.heap.size W1 W3 := hb.trans (hb3.mono hb.size)
      have hBr := HX.out.2.2.2.2.2.2.1.keep hbr3.size (fun g _ hg => hbr3.block g hg)
      have HO := Lib.hid (fun m => ownerR_any (W3.drewN m) N A c L pg o (hBr.below (below_drew W3 m)) HX.out.2.2.2.2.2.2.2.1)
      have HW3 := Lib.hid (And.intro hW3 hX)
      have HJ := Lib.hid (And.intro hok (And.intro hb (And.intro hx (And.intro hq (And.intro hb3 (And.intro hx3 (And.intro hbr3 hpr)))))))
      obtain ⟨lst, hlst⟩ : ∃ lst, lst = lastOf l k := ⟨_, rfl⟩
      clear hok hb hx hq hb3 hx3 hbr3 hW3 hX hBr hU1 hpr
      go_wp2_with (fail)
      rw [← HW3.out.1, ← HW3.out.2]
      have hXl : X < W3.heap.size := lt_of_heap HJ.out.2.2.2.2.2.1
      obtain ⟨x0, x1, _, _⟩ := Bu.two_cells HJ.out.2.2.2.2.2.1
      have hB3 : B < wr.heap.size := by omega
      have hw3 : w.heap.size < wr.heap.size := by omega
      have hg3 : g1 < wr.heap.size := by omega
      replace a0 := (HJ.out.2.2.2.2.1.cell (p := ⟨w.heap.size, 0, none⟩) hw3).trans a0
      replace a1 := (HJ.out.2.2.2.2.1.cell (p := ⟨w.heap.size, 1, none⟩) hw3).trans a1
      replace b0 := (HJ.out.2.2.2.2.1.cell (p := ⟨B, 0, none⟩) hB3).trans b0
      replace b1 := (HJ.out.2.2.2.2.1.cell (p := ⟨B, 1, none⟩) hB3).trans b1
      replace b3 := (HJ.out.2.2.2.2.1.cell (p := ⟨B, 3, none⟩) hB3).trans b3
      have hprev : 0 < k → W3.cell? ⟨g1, o1 + (k - 1) * 2, none⟩ = some (.int .i64 lst) := fun h => by rw [hlst]; exact (HJ.out.2.2.2.2.1.cell (p := ⟨g1, o1 + (k - 1) * 2, none⟩) hg3).trans (HJ.out.2.2.2.2.2.2.2 h)
      have HP := Lib.hid (And.intro hprev hlst)
      clear hprev hlst d0 d1
      go_upto_region 5 with (fail)
      go_cut [45] from 21 to 63 (fun v wx => (∃ d, wx = W3.drewN d) ∧ ∃ bv : Bool, v = .bool bv ∧ (bv = false ↔ ((k = 0 ∨ lst < pg) ∧ q = cp)))
      case first =>
        by_cases hk0 : k = 0
        · have hkz : decide (0 < k) = false := decide_eq_false (by omega)
          have HK := Lib.hid hk0
          clear hk0
          by_cases h4 : q = cp
          · have h4b : ((q : Int) != (cp : Int)) = false := by rw [h4]; simp
            have HQ := Lib.hid h4
            clear h4
            go_quiet ((go_at_call 64; exact Calls.quiet_of_same (HCap.out _)))
            go_wp2_with (fail)
            go_meet
            exact ⟨⟨_, rfl⟩, false, rfl, ⟨fun _ => ⟨.inl HK.out, HQ.out⟩, fun _ => rfl⟩⟩
          · have h4b : ((q : Int) != (cp : Int)) = true := by simp; omega
            have HQ := Lib.hid h4
            clear h4
            go_quiet ((go_at_call 64; exact Calls.quiet_of_same (HCap.out _)))
            go_wp2_with (fail)
            go_meet
            exact ⟨⟨_, rfl⟩, true, rfl, ⟨(fun h => by cases h), fun h => absurd h.2 HQ.out⟩⟩
        · have hkz : decide (0 < k) = true := decide_eq_true (by omega)
          have hpv := HP.out.1 (by omega)
          have hk1 : IntKind.i64.wrap ((k : Int) - 1) = ((k - 1 : Nat) : Int) := by rw [IntWalk.i64_in _ (by omega)]; omega
          have hk2 : (0 : Int) ≤ ((k - 1 : Nat) : Int) := by omega
          have hk3 : ((k - 1 : Nat) : Int) < (n : Int) := by omega
          have HK := Lib.hid hk0
          clear hk0
          by_cases h3 : pg ≤ lst
          · have h3b : decide (pg ≤ lst) = true := decide_eq_true h3
            go_quiet ((go_at_call 64; exact Calls.quiet_of_same (HCap.out _)))
            go_wp2_with (fail)
            go_meet
            exact ⟨⟨_, rfl⟩, true, rfl, ⟨(fun h => by cases h), fun h => h.1.elim (fun h => absurd h HK.out) (fun h => by omega)⟩⟩
          · have h3b : decide (pg ≤ lst) = false := decide_eq_false h3
            by_cases h4 : q = cp
            · have h4b : ((q : Int) != (cp : Int)) = false := by rw [h4]; simp
              have HQ := Lib.hid h4
              clear h4
              go_quiet ((go_at_call 64; exact Calls.quiet_of_same (HCap.out _)))
              go_wp2_with (fail)
              go_meet
              exact ⟨⟨_, rfl⟩, false, rfl, ⟨fun _ => ⟨.inr (by omega), HQ.out⟩, fun _ => rfl⟩⟩
            · have h4b : ((q : Int) != (cp : Int)) = true := by simp; omega
              have HQ := Lib.hid h4
              clear h4
              go_quiet ((go_at_call 64; exact Calls.quiet_of_same (HCap.out _)))
              go_wp2_with (fail)
              go_meet
              exact ⟨⟨_, rfl⟩, true, rfl, ⟨(fun h => by cases h), fun h => absurd h.2 HQ.out⟩⟩
      case rest =>
        obtain ⟨⟨dd, hwc⟩, bv, rfl, hbv⟩ := hcut
        cases bv with
        | true =>
          have hbad : ¬ ((k = 0 ∨ lst < pg) ∧ q = cp) := fun h => by have := hbv.2 h; cases this
          have HV := Lib.hid (And.intro hwc hbad)
          clear hwc hbv hbad
          go_wp2_with (fail)
          go_ret
          refine ⟨⟨false, rfl, ⟨(fun h => by cases h), fun h => ?_⟩⟩, ?_⟩
          · exfalso
            have hg := h.1 k _ HJ.out.2.2.1
            refine HV.out.2 ⟨.inr ?_, ?_⟩
            · rw [HP.out.2]; exact hg.2.2.1
            · rw [HJ.out.2.2.2.1]; exact hg.2.2.2
          · rw [HV.out.1]
            exact below_drewN (below_step HX.out.2.2.1 HJ.out.2.2.2.2.2.2.1 (Nat.le_refl _)) _
        | false =>
          have hgood := hbv.1 rfl
          have hO := HO.out dd
          rw [← hwc] at hO
          have hbc : Below W1.heap.size W1 wc := by rw [hwc]; exact below_drewN HJ.out.2.2.2.2.2.2.1 _
          have hxc : wc.heap[X]? = some (.cells #[.int .i64 pg, .slice U1 q cu1] 90 (0, 0)) := by rw [hwc]; exact HJ.out.2.2.2.2.2.1
          replace a0 : wc.cell? ⟨w.heap.size, 0, none⟩ = some (.int .i64 (N : Int)) := by rw [hwc]; exact a0
          replace a1 : wc.cell? ⟨w.heap.size, 1, none⟩ = some (.slice A q0 c) := by rw [hwc]; exact a1
          replace x0 : wc.cell? ⟨X, 0, none⟩ = some (.int .i64 pg) := by rw [hwc]; exact x0
          rw [← HX.out.2.2.2.2.2.2.2.2.2.1] at hO
          have HOc := Lib.hid hO
          have HV := Lib.hid (And.intro hgood (And.intro hbc hxc))
          have hXc : X < wc.heap.size := lt_of_heap hxc
          clear hwc hbv hgood hO hbc hxc b0 b1 b3 x1
          go_wp2_with (go_at_call 90; fail)
          refine HOc.out.mono ?_
          rintro _ W6 ⟨⟨pp, oo, er, rfl, hiff⟩, hb6⟩
          go_upto_region 8 with (fail)
          obtain ⟨Y, hY⟩ : ∃ Y, Y = W6.heap.size := ⟨_, rfl⟩
          obtain ⟨W7, hW7⟩ : ∃ W7, W7 = W6.alloc (.cells #[.int .i64 pp, .int .i64 oo] 126) := ⟨_, rfl⟩
          have hb7 : Below W6.heap.size W6 W7 := by rw [hW7]; exact below_box W6 _
          have hy7 : W7.heap[Y]? = some (.cells #[.int .i64 pp, .int .i64 oo] 126 (0, 0)) := by rw [hW7, hY, heapAlloc, if_pos rfl]
          rw [← hW7, ← hY]
          have hbc7 : Below wc.heap.size wc W7 := hb6.trans (hb7.mono hb6.size)
          have hx7 := (hbc7.block X hXc).trans HV.out.2.2
          have hb17 : Below W1.heap.size W1 W7 := HV.out.2.1.trans (hbc7.mono HV.out.2.1.size)
          have hBc7 := (hb17.block B hBW).trans HX.out.2.2.2.2.2.1
          obtain ⟨x70, _, _, _⟩ := Bu.two_cells hx7
          obtain ⟨y70, y71, _, _⟩ := Bu.two_cells hy7
          obtain ⟨_, b71, _, _⟩ := four_at hBc7
          have hne := fun W => run_blk_neq W pp oo pg (o : Int)
          have H7 := Lib.hid (And.intro hiff hb17)
          clear hiff hb6 hb7 hW7 hY hy7 hbc7 hx7 hb17 hBc7 a0 a1 x0
          have hnot : ¬ (er = 0 ∧ pp = pg ∧ oo = (o : Int)) → ¬ OkX L o cp l := fun h hk => h (H7.out.1.2 ⟨(hk k _ HJ.out.2.2.1).1, (hk k _ HJ.out.2.2.1).2.1⟩)
          have HN := Lib.hid hnot
          clear hnot
          by_cases h1 : er = 0
          · subst h1
            by_cases h2 : pp = pg ∧ oo = (o : Int)
            · obtain ⟨rfl, rfl⟩ := h2
              have hg2 := H7.out.1.1 ⟨rfl, rfl, rfl⟩
              have hne2 : ∀ W : World, (binOp .neq 126 (.agg #[.int .i64 pp, .int .i64 (o : Int)]) (.agg #[.int .i64 pp, .int .i64 (o : Int)])).run Try.prog W = .ok (.bool false) W := fun W => by rw [hne W]; simp
              have hgx : GoodX L o cp (lastOf l k) (pp, us) := ⟨hg2.1, hg2.2, by
                rcases HV.out.1.1 with h | h
                · rw [h]; unfold lastOf; rw [if_pos rfl]; show (-1 : Int) < pp; have := hg2.1; omega
                · rw [← HP.out.2]; exact h, by rw [← HJ.out.2.2.2.1]; exact HV.out.1.2⟩
              have hokn := okX_snoc HJ.out.1 HJ.out.2.2.1 hgx
              have HG := Lib.hid hokn
              clear hg2 hne hgx hokn
              go_wp2_with (fail)
              go_roundw
              case rel => exact ⟨k + 1, by omega, by go_num, HG.out, H7.out.2⟩
              case measure => simp [intOf]; omega
            · have hne2 : ∀ W : World, (binOp .neq 126 (.agg #[.int .i64 pp, .int .i64 oo]) (.agg #[.int .i64 pg, .int .i64 (o : Int)])).run Try.prog W = .ok (.bool true) W := fun W => by
                rw [hne W]
                have : (pp == pg && oo == (o : Int)) = false := by
                  rw [Bool.and_eq_false_iff]
                  by_cases e : pp = pg
                  · exact .inr (by rw [beq_eq_false_iff_ne]; exact fun e2 => h2 ⟨e, e2⟩)
                  · exact .inl (by rw [beq_eq_false_iff_ne]; exact e)
                rw [this]; rfl
              have HH := Lib.hid h2
              clear h2 hne
              go_wp2_with (fail)
              go_ret
              exact ⟨⟨false, rfl, ⟨(fun h => by cases h), fun h => absurd h.1 (HN.out (fun e => HH.out e.2))⟩⟩, below_step HX.out.2.2.1 H7.out.2 (Nat.le_refl _)⟩
          · have h1b : (er != 0) = true := by rw [bne_iff_ne]; exact h1
            have HH := Lib.hid h1
            clear h1 hne
            go_wp2_with (fail)
            go_ret
            exact ⟨⟨false, rfl, ⟨(fun h => by cases h), fun h => absurd h.1 (HN.out (fun e => HH.out e.1))⟩⟩, below_step HX.out.2.2.1 H7.out.2 (Nat.le_refl _)⟩
    · obtain rfl : k = n := by omega
      have e1 : ¬ ((k : Nat) : Int) < (k : Int) := by omega
      have hall : l.take k = l := by rw [HX.out.2.1, List.take_length]
      rw [hall] at hok
      obtain ⟨E, hE⟩ : ∃ E, E = emptyS (loadS l) := ⟨_, rfl⟩
      have hem := emptyR_ok (World.drew wr) (s : Int) (o : Int) (kp : Int) A2 c2 l ((HX.out.1.below hb).below (below_drew wr 1))
      rw [← hE, ← HX.out.2.1] at hem
      have HE := Lib.hid hem
      have hBwr : B < wr.heap.size := by have := hb.size; omega
      have HJ := Lib.hid (And.intro hok (And.intro hb (And.intro hE hall)))
      clear hok hb hE hall hem
      go_wp2_with (fail)
      go_region_with (go_at_call 83; refine HE.out.mono ?_; rintro _ W8 ⟨rfl, hb8⟩; have b2' : W8.cell? ⟨B, 2, none⟩ = some (.int .i64 (kp : Int)) := (hb8.cell (p := ⟨B, 2, none⟩) hBwr).trans b2; have H8 := Lib.hid hb8; clear hb8)
      all_goals
        go_wp2_with (fail)
        go_ret
        refine ⟨⟨decide (E ≤ kp), ?_, ?_⟩, ?_⟩
        · first | rfl | exact congrArg (fun x => Ending.returned (.bool x)) (by simp)
        · rw [decide_eq_true_eq, HJ.out.2.2.1]; exact ⟨fun h => ⟨HJ.out.1, h⟩, fun h => h.2⟩
        · exact below_step' (below_step HX.out.2.2.1 HJ.out.2.1 (Nat.le_refl _)) H8.out (Nat.le_refl _)
end Sl
end Go.Proofs.Ytlknhbcambdccaa
