/- Same: equal states are the same. -/
import Derived.Test.YtllmddhahpegmaaS
import Derived.Deep.RegionHeld3
import Derived.Deep.CutRange
namespace Go.Proofs.Ytllmddhahpegmaa
open Go.RowKit
namespace Ne

set_option maxRecDepth 100000 in
theorem same_ok (w : World) (K K' : Nat → Prop) (A B : Option Addr) (c c' : Nat) (s : List SN) (hA : StK K w A c s) (hB : StK K' w B c' s) :
    Calls Try.prog 23 #[.agg #[.slice A s.length c], .agg #[.slice B s.length c']] w fun e w' => e = .returned (.bool true) ∧ Below w.heap.size w w' := by
  obtain ⟨ha1, ha2, hA3⟩ := hA
  obtain ⟨hb1, hb2, hB3⟩ := hB
  have HA := Lib.hid hA3
  have HB := Lib.hid hB3
  clear hA3 hB3
  unfold maxLen at ha2 hb2
  generalize hn : s.length = n at *
  have HN := Lib.hid hn
  clear hn
  go_enter Try.func23, Try.ntmps23
  go_wp2_with fail
  have hb0 : Below w.heap.size w ((w.alloc (.cells #[.slice A n c] 28)).alloc (.cells #[.slice B n c'] 28)) := ((Below.refl _ _).alloc (Nat.le_refl _) _).alloc (by simp) _
  have r2 : ((w.alloc (.cells #[.slice A n c] 28)).alloc (.cells #[.slice B n c'] 28)).cell? ⟨w.heap.size, 0, none⟩ = some (.slice A n c) := by
    rw [World.cell?_alloc_lt _ _ _ (by simp), World.cell?_alloc_at _ _ _ _ rfl]; rfl
  have r3 : ((w.alloc (.cells #[.slice A n c] 28)).alloc (.cells #[.slice B n c'] 28)).cell? ⟨w.heap.size + 1, 0, none⟩ = some (.slice B n c') := by
    rw [World.cell?_alloc_at _ _ _ _ (by simp)]; rfl
  have hsz : ((w.alloc (.cells #[.slice A n c] 28)).alloc (.cells #[.slice B n c'] 28)).heap.size = w.heap.size + 2 := by simp
  generalize ((w.alloc (.cells #[.slice A n c] 28)).alloc (.cells #[.slice B n c'] 28)) = W1 at *
  have HW := Lib.hid hb0
  clear hb0
  go_loopw [5, 6, 7, 8] (fun i _ _ _ wr => ∃ j : Nat, j ≤ n ∧ i = .int .i64 j ∧ Below W1.heap.size W1 wr) (fun i _ _ _ _ => n - (intOf i).toNat)
  case atStart => exact ⟨0, Nat.zero_le _, rfl, Below.refl _ _⟩
  case round =>
    obtain ⟨j, hj, rfl, hb⟩ := hrel
    have y2 : wr.cell? ⟨w.heap.size, 0, none⟩ = some (.slice A n c) := (hb.cell (p := ⟨w.heap.size, 0, none⟩) (show w.heap.size < W1.heap.size by omega)).trans r2
    have y3 : wr.cell? ⟨w.heap.size + 1, 0, none⟩ = some (.slice B n c') := (hb.cell (p := ⟨w.heap.size + 1, 0, none⟩) (show w.heap.size + 1 < W1.heap.size by omega)).trans r3
    by_cases hjl : j < n
    · obtain ⟨x, hx⟩ : ∃ x, s[j]? = some x := ⟨_, List.getElem?_eq_getElem (by have := HN.out; omega)⟩
      obtain ⟨ga, oa, A2, cA, rfl, _, ⟨cura, hcura⟩, p0, p1, p2, p3, p4, hRA⟩ := HA.out j x hx
      obtain ⟨gb, ob, B2, cB, rfl, _, ⟨curb, hcurb⟩, q0, q1, q2, q3, q4, hRB⟩ := HB.out j x hx
      have hga := lt_of_heap hcura
      have hgb := lt_of_heap hcurb
      have hbw : Below w.heap.size w wr := HW.out.trans (hb.mono (by omega))
      have p0 := (hbw.cell (p := ⟨ga, _, none⟩) hga).trans p0
      have p1 := (hbw.cell (p := ⟨ga, _, none⟩) hga).trans p1
      have p2 := (hbw.cell (p := ⟨ga, _, none⟩) hga).trans p2
      have p3 := (hbw.cell (p := ⟨ga, _, none⟩) hga).trans p3
      have p4 := (hbw.cell (p := ⟨ga, _, none⟩) hga).trans p4
      have q0 := (hbw.cell (p := ⟨gb, _, none⟩) hgb).trans q0
      have q1 := (hbw.cell (p := ⟨gb, _, none⟩) hgb).trans q1
      have q2 := (hbw.cell (p := ⟨gb, _, none⟩) hgb).trans q2
      have q3 := (hbw.cell (p := ⟨gb, _, none⟩) hgb).trans q3
      have q4 := (hbw.cell (p := ⟨gb, _, none⟩) hgb).trans q4
      have hbs := hb.size
      have HI := Lib.hid (And.intro hb (And.intro hbw (And.intro hRA hRB)))
      clear hb hbw hRA hRB hcura hcurb hx
      generalize x.p = xp at *
      generalize x.a = xa at *
      generalize x.s = xs at *
      generalize x.cl = xc at *
      have n2 := World.new_ne wr _ y2
      have n3 := World.new_ne wr _ y3
      have np := World.new_ne wr _ p0
      have nq := World.new_ne wr _ q0
      have hwsz : w.heap.size < wr.heap.size := by omega
      have hwsz1 : w.heap.size + 1 < wr.heap.size := by omega
      have hgaw : ga < wr.heap.size := by omega
      have hgbw : gb < wr.heap.size := by omega
      go_upto_region 6 with (fail)
      go_cut [6, 7] from 16 to 85 (fun u v wx => ∃ g1 g2, u = .pointer (some ⟨g1, 0, none⟩) ∧ v = .pointer (some ⟨g2, 0, none⟩) ∧ Below wr.heap.size wr wx ∧ g1 < wx.heap.size ∧ g2 < wx.heap.size ∧
        wx.cell? ⟨g1, 0, none⟩ = some (.int .i64 xp) ∧ wx.cell? ⟨g1, 1, none⟩ = some (.int .i64 xa) ∧ wx.cell? ⟨g1, 2, none⟩ = some (.int .i64 xs) ∧ wx.cell? ⟨g1, 3, none⟩ = some (.slice A2 x.l.length cA) ∧ wx.cell? ⟨g1, 4, none⟩ = some (.bool xc) ∧
        wx.cell? ⟨g2, 0, none⟩ = some (.int .i64 xp) ∧ wx.cell? ⟨g2, 1, none⟩ = some (.int .i64 xa) ∧ wx.cell? ⟨g2, 2, none⟩ = some (.int .i64 xs) ∧ wx.cell? ⟨g2, 3, none⟩ = some (.slice B2 x.l.length cB) ∧ wx.cell? ⟨g2, 4, none⟩ = some (.bool xc))
      case first =>
        go_region_held3 (fun w' => w'.cell? ⟨w.heap.size, 0, none⟩ = some (.slice (some ⟨ga, oa, none⟩) n c) ∧ w'.cell? ⟨w.heap.size + 1, 0, none⟩ = some (.slice (some ⟨gb, ob, none⟩) n c') ∧
          w'.cell? ⟨ga, oa + j * 5, none⟩ = some (.int .i64 xp) ∧ w'.cell? ⟨ga, oa + j * 5 + 1, none⟩ = some (.int .i64 xa) ∧ w'.cell? ⟨ga, oa + j * 5 + 2, none⟩ = some (.int .i64 xs) ∧ w'.cell? ⟨ga, oa + j * 5 + 3, none⟩ = some (.slice A2 x.l.length cA) ∧ w'.cell? ⟨ga, oa + j * 5 + 4, none⟩ = some (.bool xc) ∧
          w'.cell? ⟨gb, ob + j * 5, none⟩ = some (.int .i64 xp) ∧ w'.cell? ⟨gb, ob + j * 5 + 1, none⟩ = some (.int .i64 xa) ∧ w'.cell? ⟨gb, ob + j * 5 + 2, none⟩ = some (.int .i64 xs) ∧ w'.cell? ⟨gb, ob + j * 5 + 3, none⟩ = some (.slice B2 x.l.length cB) ∧ w'.cell? ⟨gb, ob + j * 5 + 4, none⟩ = some (.bool xc)) (go_keep) (fail)
        all_goals (go_wp2_with fail)
        all_goals go_meet
        all_goals
          refine ⟨_, _, rfl, rfl, ?_, by simp <;> omega, by simp <;> omega, ?_, ?_, ?_, ?_, ?_, ?_, ?_, ?_, ?_, ?_⟩
          · first
              | exact (((Below.refl _ _).alloc (Nat.le_refl _) _).alloc (by simp) _).drew
              | exact (((Below.refl _ _).drew.alloc (Nat.le_refl _) _).alloc (by simp) _)
          all_goals first
            | (rw [World.cell?_drew, World.cell?_alloc_lt _ _ _ (by simp), World.cell?_alloc_at _ _ _ _ rfl]; rfl)
            | (rw [World.cell?_drew, World.cell?_alloc_at _ _ _ _ (by simp)]; rfl)
      case rest =>
        obtain ⟨g1, g2, rfl, rfl, hbx, hg1, hg2, a0, a1, a2, a3, a4, b0, b1, b2, b3, b4⟩ := hcut
        have HX := Lib.hid hbx
        have hbxs := hbx.size
        clear hbx p0 p1 p2 p3 p4 q0 q1 q2 q3 q4 y2 y3 n2 n3 np nq r2 r3
        go_wp2_with fail
        have hRl := HI.out.2.2.1.1
        have hRm := HI.out.2.2.1.2.1
        have hRl' := HI.out.2.2.2.1
        have hRm' := HI.out.2.2.2.2.1
        unfold maxLen at hRm hRm'
        go_loopw [8] (fun i wr' => ∃ j' : Nat, j' ≤ x.l.length ∧ i = .int .i64 j' ∧ Below wc.heap.size wc wr') (fun i _ => x.l.length - (intOf i).toNat)
        case atStart => exact ⟨0, Nat.zero_le _, rfl, Below.refl _ _⟩
        case round =>
          obtain ⟨j', hj', rfl, hb'⟩ := hrel
          have a3 := (hb'.cell (p := ⟨g1, _, none⟩) hg1).trans a3
          have b3 := (hb'.cell (p := ⟨g2, _, none⟩) hg2).trans b3
          by_cases hjl' : j' < x.l.length
          · obtain ⟨y, hy⟩ : ∃ y, x.l[j']? = some y := ⟨_, List.getElem?_eq_getElem hjl'⟩
            obtain ⟨g3, o3, rfl, _, ⟨cu3, hcu3⟩, e0, e1, e2⟩ := HI.out.2.2.1.2.2 j' y hy
            obtain ⟨g4, o4, rfl, _, ⟨cu4, hcu4⟩, f0, f1, f2⟩ := HI.out.2.2.2.2.2 j' y hy
            have hg3 := lt_of_heap hcu3
            have hg4 := lt_of_heap hcu4
            have hbz : Below w.heap.size w wr := HI.out.2.1.trans ((HX.out.trans (hb'.mono (by omega))).mono (by omega))
            have e0 := (hbz.cell (p := ⟨g3, _, none⟩) hg3).trans e0
            have e1 := (hbz.cell (p := ⟨g3, _, none⟩) hg3).trans e1
            have e2 := (hbz.cell (p := ⟨g3, _, none⟩) hg3).trans e2
            have f0 := (hbz.cell (p := ⟨g4, _, none⟩) hg4).trans f0
            have f1 := (hbz.cell (p := ⟨g4, _, none⟩) hg4).trans f1
            have f2 := (hbz.cell (p := ⟨g4, _, none⟩) hg4).trans f2
            have HQ := Lib.hid hb'
            clear hbz hb' hcu3 hcu4 hy
            generalize y.a = ya at *
            generalize y.s = ys at *
            generalize y.c = yc at *
            go_wp2_with fail
            go_quiet (fail)
            go_wp2
            go_roundw
            case rel => exact ⟨j' + 1, by omega, by go_num, below_drewN HQ.out _⟩
            case measure => simp [intOf]; omega
          · obtain rfl : j' = x.l.length := by omega
            go_wp2
            go_roundw
            case rel => exact ⟨j + 1, by omega, by go_num, HI.out.1.trans ((HX.out.trans (hb'.mono (by omega))).mono (by omega))⟩
            case measure => simp [intOf]; omega
    · obtain rfl : j = n := by omega
      go_wp2
      go_ret
      exact ⟨rfl, HW.out.trans (hb.mono (by omega))⟩
end Ne
end Go.Proofs.Ytllmddhahpegmaa
