/- Same of two saved states that are equal. -/
import Derived.Test.YtlknhbcambdccaaJYK
namespace Go.Proofs.Ytlknhbcambdccaa
open Go.RowKit
namespace Sl
open Bu

theorem two_first (w : World) (x y : Array Value × TypeId) (_ : Unit) : ((w.alloc (.cells x.1 x.2)).alloc (.cells y.1 y.2)).drew.heap[w.heap.size]? = some (.cells x.1 x.2 (0, 0)) := by
  show ((w.alloc _).alloc _).heap[w.heap.size]? = _
  rw [alloc_old _ _ _ (by simp), heapAlloc, if_pos rfl]
theorem two_second (w : World) (x y : Array Value × TypeId) (_ : Unit) : ((w.alloc (.cells x.1 x.2)).alloc (.cells y.1 y.2)).drew.heap[w.heap.size + 1]? = some (.cells y.1 y.2 (0, 0)) := by
  show ((w.alloc _).alloc _).heap[w.heap.size + 1]? = _
  rw [heapAlloc, if_pos (by simp)]
theorem two_below (w : World) (o1 o2 : Obj) (_ : Unit) : Below w.heap.size w ((w.alloc o1).alloc o2).drew := ((below_box w o1).alloc (by simp) o2).drew

set_option maxRecDepth 100000 in
set_option maxHeartbeats 8000000 in
theorem sameS_ok (w : World) (s o kp : Int) (A A' : Option Addr) (c c' : Nat) (l : List (Int × List Bool)) (h1 : SbAt 0 w A c l) (h2 : SbAt 0 w A' c' l) :
    Calls Try.prog 28 #[stv s o kp A l.length c, stv s o kp A' l.length c'] w fun e w' => e = .returned (.bool true) ∧ Below w.heap.size w w' := by
  obtain ⟨W1, hW1⟩ : ∃ W1, W1 = (w.alloc (.cells #[.int .i64 s, .int .i64 o, .int .i64 kp, .slice A l.length c] 69)).alloc (.cells #[.int .i64 s, .int .i64 o, .int .i64 kp, .slice A' l.length c'] 69) := ⟨_, rfl⟩
  have hb1 : Below w.heap.size w W1 := by rw [hW1]; exact (below_box w _).alloc (by simp) _
  have hs1 : W1.heap.size = w.heap.size + 2 := by rw [hW1]; simp
  have hA1 : W1.heap[w.heap.size]? = some (.cells #[.int .i64 s, .int .i64 o, .int .i64 kp, .slice A l.length c] 69 (0, 0)) := by
    rw [hW1, alloc_old _ _ _ (by simp), heapAlloc, if_pos rfl]
  have hB1 : W1.heap[w.heap.size + 1]? = some (.cells #[.int .i64 s, .int .i64 o, .int .i64 kp, .slice A' l.length c'] 69 (0, 0)) := by
    rw [hW1, heapAlloc, if_pos (by simp)]
  obtain ⟨B, hB⟩ : ∃ B, B = w.heap.size + 1 := ⟨_, rfl⟩
  rw [← hB] at hB1
  obtain ⟨a0, a1, a2, a3⟩ := four_at hA1
  obtain ⟨b0, b1, b2, b3⟩ := four_at hB1
  have hl1 := h1.1
  have hl2 := h2.1
  have hc1 := h1.2.1
  have hc2 := h2.2.1
  unfold maxLen at hc1 hc2
  obtain ⟨n, hn⟩ : ∃ n, n = l.length := ⟨_, rfl⟩
  have HX := Lib.hid (And.intro hb1 (And.intro hs1 (And.intro hA1 (And.intro hB1 (And.intro (h1.below hb1) (And.intro (h2.below hb1) (And.intro hB hn)))))))
  rw [← hn] at hW1
  have HW := Lib.hid hW1
  rw [← hn] at hl1 hl2 a3 b3 ⊢
  have HB := Lib.hid hB
  clear h1 h2 hb1 hs1 hA1 hB1 hW1 hB hn
  go_enter Try.func28, Try.ntmps28
  go_wp2_with (fail)
  rw [← HW.out, ← HB.out]
  go_loopw [5] (fun i wr => ∃ k : Nat, k ≤ n ∧ i = .int .i64 (k : Int) ∧ Below W1.heap.size W1 wr) (fun i _ => n - (intOf i).toNat)
  case atStart => exact ⟨0, Nat.zero_le _, rfl, Below.refl _ _⟩
  case round =>
    obtain ⟨k, hk, rfl, hb⟩ := hrel
    have e0 : (0 : Int) ≤ (k : Int) := by omega
    have hBs : B < W1.heap.size := by have := HX.out.2.1; have := HB.out; omega
    have hAs : w.heap.size < W1.heap.size := by have := HX.out.2.1; omega
    replace a3 := (hb.cell (p := ⟨w.heap.size, 3, none⟩) hAs).trans a3
    replace b3 := (hb.cell (p := ⟨B, 3, none⟩) hBs).trans b3
    by_cases hlt : k < n
    · have e1 : (k : Int) < (n : Int) := by omega
      have hkk : IntKind.i64.wrap ((k : Int) + 1) = ((k + 1 : Nat) : Int) := by rw [IntWalk.i64_in _ (by omega)]; rfl
      obtain ⟨⟨pg, us⟩, hx⟩ : ∃ x, l[k]? = some x := ⟨_, List.getElem?_eq_getElem (by have := HX.out.2.2.2.2.2.2.2; omega)⟩
      obtain ⟨g1, o1, U1, cu1, rfl, _, hg1, d0, d1, hU1⟩ := (HX.out.2.2.2.2.1).2.2 k _ hx
      obtain ⟨g2, o2, U2, cu2, rfl, _, hg2, f0, f1, hU2⟩ := (HX.out.2.2.2.2.2.1).2.2 k _ hx
      dsimp only at d0 d1 f0 f1 hU1 hU2
      replace d0 := (hb.cell (p := ⟨g1, o1 + k * 2, none⟩) hg1).trans d0
      replace d1 := (hb.cell (p := ⟨g1, o1 + k * 2 + 1, none⟩) hg1).trans d1
      replace f0 := (hb.cell (p := ⟨g2, o2 + k * 2, none⟩) hg2).trans f0
      replace f1 := (hb.cell (p := ⟨g2, o2 + k * 2 + 1, none⟩) hg2).trans f1
      have hm1 := hU1.1
      have hm2 := hU2.1
      have hx1 := hU1.2.1
      have hx2 := Nat.le_trans hU2.1 hU2.2.1
      unfold maxLen at hx1 hx2
      obtain ⟨q, hq⟩ : ∃ q, q = us.length := ⟨_, rfl⟩
      rw [← hq] at d1 f1 hm1 hm2 hx2
      have hbs := hb.size
      have z1 : g1 < wr.heap.size := by omega
      have z2 : g2 < wr.heap.size := by omega
      have z3 : B < wr.heap.size := by omega
      have z4 : w.heap.size < wr.heap.size := by omega
      have y1 : g1 < wr.heap.size + 1 := by omega
      have y2 : g2 < wr.heap.size + 1 := by omega
      have y3 : B < wr.heap.size + 1 := by omega
      have y4 : w.heap.size < wr.heap.size + 1 := by omega
      have HJ := Lib.hid (And.intro hb (And.intro hU1 (And.intro hU2 hq)))
      clear hb hx hU1 hU2 hq
      go_upto_region 6 with (fail)
      go_cut [6, 7] from 43 to 54 (fun u v wx => ∃ b6 b7, u = .pointer (some ⟨b6, 0, none⟩) ∧ v = .pointer (some ⟨b7, 0, none⟩) ∧ wx.heap[b6]? = some (.cells #[.int .i64 pg, .slice U1 q cu1] 90 (0, 0)) ∧ wx.heap[b7]? = some (.cells #[.int .i64 pg, .slice U2 q cu2] 90 (0, 0)) ∧ Below wr.heap.size wr wx)
      case first =>
        go_region
        all_goals
          go_wp2_with (fail)
          go_meet
          refine ⟨_, _, rfl, rfl, ?_, ?_, ?_⟩
          all_goals first | exact two_first wr (_, _) (_, _) () | exact two_second wr (_, _) (_, _) () | exact two_below _ _ _ ()
      case rest =>
        obtain ⟨b6, b7, rfl, rfl, hc6, hc7, hbc⟩ := hcut
        obtain ⟨x0, x1, -, -⟩ := Bu.two_cells hc6
        obtain ⟨y0, y1, -, -⟩ := Bu.two_cells hc7
        have HC := Lib.hid (And.intro hc6 (And.intro hc7 hbc))
        clear hc6 hc7 hbc
        go_wp2_with (fail)
        go_loopw [8] (fun i wx => ∃ t : Nat, t ≤ q ∧ i = .int .i64 (t : Int) ∧ ∃ d, wx = wc.drewN d) (fun i _ => q - (intOf i).toNat)
        case atStart => exact ⟨0, Nat.zero_le _, rfl, 0, rfl⟩
        case round =>
          obtain ⟨t, ht, rfl, d, hwx⟩ := hrel
          have e2 : (0 : Int) ≤ (t : Int) := by omega
          replace x1 : wr.cell? ⟨b6, 1, none⟩ = some (.slice U1 q cu1) := by rw [hwx]; exact x1
          replace y1 : wr.cell? ⟨b7, 1, none⟩ = some (.slice U2 q cu2) := by rw [hwx]; exact y1
          by_cases hlt2 : t < q
          · have e3 : (t : Int) < (q : Int) := by omega
            have htt : IntKind.i64.wrap ((t : Int) + 1) = ((t + 1 : Nat) : Int) := by rw [IntWalk.i64_in _ (by omega)]; rfl
            obtain ⟨v, hv⟩ : ∃ v, us[t]? = some v := ⟨_, List.getElem?_eq_getElem (by have := HJ.out.2.2.2; omega)⟩
            obtain ⟨gu, ou, rfl, _, hgu, p0⟩ := HJ.out.2.1.2.2 t v hv
            obtain ⟨gv, ov, rfl, _, hgv, p1⟩ := HJ.out.2.2.1.2.2 t v hv
            have hb12 : Below W1.heap.size W1 wc := HJ.out.1.trans (HC.out.2.2.mono HJ.out.1.size)
            replace p0 : wr.cell? ⟨gu, ou + t, none⟩ = some (.bool v) := by rw [hwx]; exact (hb12.cell (p := ⟨gu, ou + t, none⟩) hgu).trans p0
            replace p1 : wr.cell? ⟨gv, ov + t, none⟩ = some (.bool v) := by rw [hwx]; exact (hb12.cell (p := ⟨gv, ov + t, none⟩) hgv).trans p1
            have HR := Lib.hid hwx
            have hvv : (v != v) = false := by cases v <;> rfl
            clear hwx hv hb12
            go_wp2_with (fail)
            go_quiet (fail)
            go_wp2
            go_roundw
            case rel => exact ⟨t + 1, by omega, by go_num, _, by rw [HR.out]; exact World.drewN_drewN ..⟩
            case measure => simp [intOf]; omega
          · obtain rfl : t = q := by omega
            have e3 : ¬ ((t : Nat) : Int) < (t : Int) := by omega
            have HR := Lib.hid hwx
            clear hwx
            go_wp2
            go_roundw
            case rel => exact ⟨k + 1, by omega, by go_num, by rw [HR.out]; exact below_drewN (HJ.out.1.trans (HC.out.2.2.mono HJ.out.1.size)) _⟩
            case measure => simp [intOf]; omega
    · obtain rfl : k = n := by omega
      have e1 : ¬ ((k : Nat) : Int) < (k : Int) := by omega
      have HJ := Lib.hid hb
      clear hb
      go_wp2
      go_ret
      exact ⟨rfl, below_step HX.out.1 HJ.out (Nat.le_refl _)⟩
end Sl
end Go.Proofs.Ytlknhbcambdccaa
