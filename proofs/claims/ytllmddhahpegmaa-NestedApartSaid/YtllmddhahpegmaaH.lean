/- The walk of Owner's search. -/
import Derived.Test.YtllmddhahpegmaaG
namespace Go.Proofs.Ytllmddhahpegmaa
open Go.RowKit
namespace Ne

set_option maxRecDepth 100000 in
set_option maxHeartbeats 1000000 in
theorem owner_in (w : World) (own : Nat → Option Nat) (t g cap : Nat) (cs : Array Value) (M : Tr) (y : Int) (r : Node) (h : TreeAt w own t g cap cs M) (hg : Good M) (hr : M[0]? = some (some r)) (hra : r.a = 0) (hy0 : 0 ≤ y) (hy1 : y < r.s) :
    Calls Try.prog 14 #[.pointer (some ⟨t, 0, none⟩), .int .i64 y] w fun e w' => (∃ k i, e = .returned (.tuple #[.int .i64 (k : Nat), .int .i64 i, .int .i64 0]) ∧ Owns M y k i) ∧ Below w.heap.size w w' := by
  obtain ⟨d, D, hd, hrk⟩ := hg.rank
  have hp := hg.pos
  have hm := hg.len
  have hlen := h.len
  have hmost := h.most
  unfold maxLen at hmost
  have hT : w.cell? ⟨t, 0, none⟩ = some (.slice (some ⟨g, 0, none⟩) M.length cap) := by simp [World.cell?, h.top]
  have htl := lt_of_heap h.top
  have hgl := lt_of_heap h.row
  obtain ⟨v, hv, b, iv, rfl, hob, hbh, hil⟩ := h.node _ _ hr
  have hN : w.cell? ⟨g, 0, none⟩ = some (.pointer (some ⟨b, 0, none⟩)) := by rw [cell_of_row w g _ cs _ _ h.row, hv]
  obtain ⟨c0, c1, c2, c3, c4, _⟩ := nodeOpen hbh
  have hbl := lt_of_heap hbh
  have HM := fun w2 (hw : w2.cell? ⟨t, 0, none⟩ = some (.slice (some ⟨g, 0, none⟩) M.length cap)) => made_ok w2 t _ _ _ hp hw
  have HMM := Lib.hid HM
  have HH := Lib.hid (And.intro h (And.intro hg (And.intro hr hra)))
  have hd0 : decide (y < 0) = false := by simp; omega
  have HRK := Lib.hid (And.intro hd hrk)
  clear h hg hr hbh hil hv hob HM hd hrk hra
  go_enter Try.func14, Try.ntmps14
  go_wp2_with (go_at_call 29; refine (HMM.out _ (by rw [World.cell?_alloc_lt _ _ _ htl]; exact hT)).mono ?_; rintro e w' ⟨rfl, rfl⟩)
  go_quiet (fail)
  go_wp2_with fail
  have hB0 : Below w.heap.size w ((w.alloc (.cells #[.int .i64 y] 2)).drewN nq) := below_drewN ((Below.refl _ _).alloc (Nat.le_refl _) _) _
  have hbox : ((w.alloc (.cells #[.int .i64 y] 2)).drewN nq).cell? ⟨w.heap.size, 0, none⟩ = some (.int .i64 y) := by
    show (w.alloc _).cell? _ = _
    rw [World.cell?_alloc_at _ _ _ _ rfl]; rfl
  have hsz : w.heap.size < ((w.alloc (.cells #[.int .i64 y] 2)).drewN nq).heap.size := by simp
  generalize ((w.alloc (.cells #[.int .i64 y] 2)).drewN nq) = W1 at *
  have hB0 := Lib.hid hB0
  go_loopw [4, 7, 8] (fun s l i wr => ∃ (k : Nat) (n : Node), s = .int .i64 k ∧ M[k]? = some (some n) ∧ n.a ≤ y ∧ y < n.a + n.s ∧ Below W1.heap.size W1 wr) (fun s _ _ _ => D - d (intOf s).toNat)
  case atStart => exact ⟨0, r, rfl, HH.out.2.2.1, by rw [HH.out.2.2.2]; omega, by rw [HH.out.2.2.2]; omega, Below.refl _ _⟩
  case round =>
    obtain ⟨k, n, rfl, hk, ha, hs, hb⟩ := hrel
    have hTr : TreeAt wr own t g cap cs M := HH.out.1.same fun k _ hk' => ⟨(hb.block k (Nat.lt_of_lt_of_le hk' hB0.out.size)).trans (hB0.out.block k hk'), rfl⟩
    have hok := HH.out.2.1.node k n hk
    obtain ⟨v, hv, b2, iv2, rfl, hob2, hbh2, hil2⟩ := hTr.node _ _ hk
    obtain ⟨A2, cc2, rfl⟩ := itemsLen hil2
    have r1 : wr.cell? ⟨t, 0, none⟩ = some (.slice (some ⟨g, 0, none⟩) M.length cap) := by simp [World.cell?, hTr.top]
    have r2 : wr.cell? ⟨g, k, none⟩ = some (.pointer (some ⟨b2, 0, none⟩)) := by rw [cell_of_row wr g _ cs _ _ hTr.row, hv]
    obtain ⟨_, _, _, r3, _, _⟩ := nodeOpen hbh2
    have hkl : k < M.length := (List.getElem?_eq_some_iff.1 hk).1
    have rb : wr.cell? ⟨w.heap.size, 0, none⟩ = some (.int .i64 y) := (hb.cell (p := ⟨w.heap.size, 0, none⟩) hsz).trans hbox
    have rbl : w.heap.size < wr.heap.size := Nat.lt_of_lt_of_le hsz hb.size
    have HI := Lib.hid (indexFunc_35 (.pointer (some ⟨w.heap.size, 0, none⟩)) (hasByte y) n.l A2 cc2 wr hok.len hil2.1 (fun x hx w2 h2 => by
      have := small_of hok x hx
      exact hasByte_ok w2 w.heap.size x y ((h2.cell (p := ⟨w.heap.size, 0, none⟩) rbl).trans rb) this.1 this.2.1 this.2.2))
    have HIt := Lib.hid (rowCells hil2.1)
    have HK := Lib.hid (And.intro hk (And.intro hok (And.intro ha hs)))
    have hll := hok.len
    clear hk hok ha hs hv hob2 hbh2 hil2 hTr
    by_cases hi : 0 ≤ fidx (hasByte y) n.l
    · obtain ⟨j, x, hj, hjl, hx, hpx⟩ := fidx_at hi
      rw [hj] at HI
      obtain ⟨g', rfl, hg', k1, k2, k3⟩ := HIt.out.2.2 j x hx
      have hcap := HIt.out.1
      have hcm := HIt.out.2.1
      unfold maxLen at hcm
      have HX := Lib.hid (And.intro hj (And.intro hx hpx))
      clear hj hx hpx hi
      generalize hL : n.l.length = L at *
      clear hL
      by_cases hc : x.c < 0
      · go_wp2_with (go_at_call 34; refine HI.out.mono ?_; rintro e w3 ⟨rfl, hb3⟩; have k3 : w3.cell? ⟨g', j * 3 + 2, none⟩ = some (.int .i64 x.c) := (hb3.cell (p := ⟨g', j * 3 + 2, none⟩) hg').trans k3)
        go_ret3
        refine ⟨⟨k, j, rfl, n, HK.out.1, HK.out.2.2.1, HK.out.2.2.2, HX.out.1.symm, ?_⟩, hB0.out.trans ((hb.trans (hb3.mono hb.size)).mono hB0.out.size)⟩
        intro x' _ hx'
        rw [Int.toNat_natCast, HX.out.2.1] at hx'
        injection hx' with hx'
        rw [← hx']; exact hc
      · go_wp2_with (go_at_call 34; refine HI.out.mono ?_; rintro e w3 ⟨rfl, hb3⟩; have k3 : w3.cell? ⟨g', j * 3 + 2, none⟩ = some (.int .i64 x.c) := (hb3.cell (p := ⟨g', j * 3 + 2, none⟩) hg').trans k3)
        have hc0 : 0 ≤ x.c := by omega
        have hxm := List.mem_of_getElem? HX.out.2.1
        obtain ⟨q, hq, q1, q2, q3⟩ := HK.out.2.1.kid x hxm hc0
        have hdd := HRK.out.2 k n HK.out.1 x hxm hc0
        have hdD := HRK.out.1 x.c.toNat
        have hby := HX.out.2.2
        simp only [hasByte, Bool.and_eq_true, decide_eq_true_eq] at hby
        go_roundw
        case rel => exact ⟨x.c.toNat, q, by rw [Int.toNat_of_nonneg hc0], hq, by omega, by omega, hb.trans (hb3.mono hb.size)⟩
        case measure => simp only [intOf, Int.toNat_natCast]; omega
    · have hj := fidx_lt hi
      rw [hj] at HI
      have HX := Lib.hid hj
      clear hj hi
      generalize hL : n.l.length = L at *
      clear hL
      go_wp2_with (go_at_call 34; refine HI.out.mono ?_; rintro e w3 ⟨rfl, hb3⟩)
      go_ret3
      refine ⟨⟨k, -1, rfl, n, HK.out.1, HK.out.2.2.1, HK.out.2.2.2, HX.out.symm, ?_⟩, hB0.out.trans ((hb.trans (hb3.mono hb.size)).mono hB0.out.size)⟩
      intro x' h0
      omega
end Ne
end Go.Proofs.Ytllmddhahpegmaa
