/- begin of the law. -/
import Derived.Test.YtlknhbcambdccaaK36
namespace Go.Proofs.Ytlknhbcambdccaa
open Go.RowKit
namespace Sl
open Bu

theorem run_nil_cache (w : World) (p : Option Addr) : (binOp .eql 22 (.pointer p) (.pointer none)).run Try.prog w = .ok (.bool p.isNone) w := run_eql_ptr_nil Try.prog w 22 _ p Try.underlying22

/-- A new world of the law. -/
theorem begin_duo {w0 W3 W4 W5 W6 : World} {x b c r s o kp N : Nat} {own own2 : Own?} {q : List RS} (hb3 : Below w0.heap.size w0 W3) (hbw : w0.heap.size ≤ b) (hxw : w0.heap.size ≤ x) (hxb : x ≠ b)
    (hx3 : W3.heap[x]? = some (.cells #[.pointer (some ⟨b, 0, none⟩), .pointer none, .int .i64 (N : Int), .slice none 0 0, .pointer none, .slice none 0 0] 72 (0, 0)))
    (hH : Held W4 own c b ⟨s, o, kp, []⟩ N []) (ho : ∀ z, z < W3.heap.size → z ≠ b → own z = none) (hb4 : Below W3.heap.size W3 W4) (hb5 : Below W4.heap.size W4 W5)
    (hq : q.map (·.1) = []) (hR : RefAt W5 own2 r ⟨x, 2, none⟩ s o kp q) (hf : Fresh own2 W5) (ho2 : ∀ z, z < W4.heap.size → own2 z = none)
    (h6 : W6 = (W5.setCell ⟨x, 1, none⟩ (.pointer (some ⟨c, 0, none⟩))).setCell ⟨x, 4, none⟩ (.pointer (some ⟨r, 0, none⟩))) : Wld w0 x b r N W6 := by
  have hs3 := hb3.size
  have hs4 := hb4.size
  have hs5 := hb5.size
  have hxl := lt_of_heap hx3
  have hox : own x = none := ho x hxl hxb
  have hox2 : own2 x = none := ho2 x (by omega)
  have hs6 : W6.heap.size = W5.heap.size := by rw [h6, setCell_size, setCell_size]
  have hx5 := (hb5.block x (by omega)).trans ((hb4.block x hxl).trans hx3)
  refine ⟨c, own, own2, ⟨s, o, kp, []⟩, [], q, none, 0, [], none, 0, { prog := ⟨?_, ?_, fun z hz => ho z (by omega) (by omega)⟩, ref := ?_, refq := hq, fr2 := fun k hk => by rw [hs6]; exact hf k hk, out2 := fun z hz => ho2 z (by omega), dis := fun z hz => ho2 z (hH.fresh z hz), wrld := ?_, xnew := ⟨hxw, hox, hox2⟩, st := ⟨⟨Nat.zero_le _, Nat.zero_le _, fun j x hx => by simp at hx⟩, fun h => absurd rfl h⟩, oth := ⟨⟨Nat.zero_le _, Nat.zero_le _, fun j x hx => by simp at hx⟩, fun _ => rfl, (fun g hg => by cases hg)⟩, sub := (fun z hz => by cases hz), nd := List.nodup_nil, oo := World.ownsRow_nil _ _ _ _ }⟩
  · rw [h6]; exact ((hH.below hb5).setx hox _).setx hox _
  · rw [h6]; exact ((((hb3.trans (hb4.mono hs3)).trans (hb5.mono (by omega))).setCell (p := ⟨x, 1, none⟩) hxw _).setCell (p := ⟨x, 4, none⟩) hxw _)
  · refine hR.same (by rw [hs6]; exact Nat.le_refl _) fun k hk _ => ⟨?_, rfl⟩
    have hkx : k ≠ x := fun e => hk (by rw [e]; exact hox2)
    rw [h6]; exact (setCell_far _ _ _ _ hkx).trans (setCell_far _ _ _ _ hkx)
  · rw [h6]; exact setCell_at _ _ 4 _ _ _ (setCell_at _ _ 1 _ _ _ hx5)

set_option maxRecDepth 100000 in
set_option maxHeartbeats 8000000 in
theorem begin_ok (w : World) (P : Nat) (hP : P < 256) (s o kp : Int) :
    Calls Try.prog 25 #[.agg #[.int .u8 (P : Int), .int .i64 s, .int .i64 o, .int .i64 kp]] w fun e w' => (∃ x b r N, e = .returned (.tuple #[.pointer (some ⟨x, 0, none⟩), .bool true]) ∧ Wld w x b r N w') ∨ (e = .returned (.tuple #[.pointer none, .bool true]) ∧ Below w.heap.size w w') := by
  obtain ⟨N, hN⟩ : ∃ N, P % 8 = N := ⟨_, rfl⟩
  have hN8 : N < 8 := by omega
  obtain ⟨W1, hW1⟩ : ∃ W1, W1 = w.alloc (.cells #[.int .u8 (P : Int), .int .i64 s, .int .i64 o, .int .i64 kp] 42) := ⟨_, rfl⟩
  have hb1 : Below w.heap.size w W1 := by rw [hW1]; exact below_box w _
  have hs1 : W1.heap.size = w.heap.size + 1 := by rw [hW1]; simp
  have hg1 : W1.heap[w.heap.size]? = some (.cells #[.int .u8 (P : Int), .int .i64 s, .int .i64 o, .int .i64 kp] 42 (0, 0)) := by rw [hW1, heapAlloc, if_pos rfl]
  obtain ⟨g0, g1, g2, g3⟩ := four_at hg1
  have hki : (P : Int) % 8 = (N : Int) := by omega
  have hk64 : IntKind.i64.wrap (N : Int) = (N : Int) := IntWalk.i64_in _ (by omega)
  have eP : (0 : Int) ≤ (P : Int) := by omega
  have eP2 : (P : Int) < 256 := by omega
  have HNw := Lib.hid (newL_ok W1 N (by omega))
  have HX := Lib.hid (And.intro hb1 (And.intro hs1 hg1))
  have HW := Lib.hid hW1
  have hgl : w.heap.size < W1.heap.size := by omega
  clear hb1 hs1 hg1 hW1 hN hP
  go_enter Try.func25, Try.ntmps25
  go_upto_region 1 with (fail)
  rw [← HW.out]
  go_wp2_with (go_at_call 15; fail)
  refine HNw.out.mono ?_
  rintro _ W2 ⟨rfl, hB2, hb2⟩
  obtain ⟨b, hb⟩ : ∃ b, b = W1.heap.size := ⟨_, rfl⟩
  rw [← hb] at hB2 ⊢
  have hs2 := hb2.size
  have hbl := hB2.lt
  replace g0 := (hb2.cell (p := ⟨w.heap.size, 0, none⟩) hgl).trans g0
  replace g1 := (hb2.cell (p := ⟨w.heap.size, 1, none⟩) hgl).trans g1
  replace g2 := (hb2.cell (p := ⟨w.heap.size, 2, none⟩) hgl).trans g2
  replace g3 := (hb2.cell (p := ⟨w.heap.size, 3, none⟩) hgl).trans g3
  have H2 := Lib.hid (And.intro hB2 (And.intro hb2 hb))
  clear hB2 hb2 hb
  go_upto_region 6 with (fail)
  obtain ⟨x, hx⟩ : ∃ x, x = W2.heap.size := ⟨_, rfl⟩
  obtain ⟨W3, hW3⟩ : ∃ W3, W3 = W2.alloc (.cells #[.pointer (some ⟨b, 0, none⟩), .pointer none, .int .i64 (N : Int), .slice none 0 0, .pointer none, .slice none 0 0] 72) := ⟨_, rfl⟩
  have hb3 : Below W2.heap.size W2 W3 := by rw [hW3]; exact below_box W2 _
  have hs3 : W3.heap.size = W2.heap.size + 1 := by rw [hW3]; simp
  have hx3 : W3.heap[x]? = some (.cells #[.pointer (some ⟨b, 0, none⟩), .pointer none, .int .i64 (N : Int), .slice none 0 0, .pointer none, .slice none 0 0] 72 (0, 0)) := by rw [hW3, hx, heapAlloc, if_pos rfl]
  rw [← hW3, ← hx]
  have hgl2 : w.heap.size < W2.heap.size := by omega
  have hgl3 : w.heap.size < W3.heap.size := by omega
  have hxl3 : x < W3.heap.size := lt_of_heap hx3
  replace g1 := (hb3.cell (p := ⟨w.heap.size, 1, none⟩) hgl2).trans g1
  replace g2 := (hb3.cell (p := ⟨w.heap.size, 2, none⟩) hgl2).trans g2
  replace g3 := (hb3.cell (p := ⟨w.heap.size, 3, none⟩) hgl2).trans g3
  have hB3 : BuL W3 b N [] := H2.out.1.keep (hb3.block b hbl)
  have H3 := Lib.hid (And.intro hb3 (And.intro hs3 (And.intro hx3 (And.intro hx hB3))))
  have hnil := run_nil_cache
  clear hb3 hs3 hx3 hx hB3 hW3 g0
  by_cases hsz : sizesB s o kp = true
  · have hC := newC_ok W3 b N [] s o kp H3.out.2.2.2.2
    have HC := Lib.hid hC
    have HZ := Lib.hid hsz
    clear hC hsz
    go_wp2_with (go_at_call 16; fail)
    refine HC.out.mono ?_
    intro e4 W4 hnew
    unfold NewC at hnew
    rw [if_pos HZ.out] at hnew
    obtain ⟨c, s', o', k', own, rfl, rfl, rfl, rfl, hH, hown, hcb, hb4⟩ := hnew
    have g1 := (hb4.cell (p := ⟨w.heap.size, 1, none⟩) hgl3).trans g1
    have g2 := (hb4.cell (p := ⟨w.heap.size, 2, none⟩) hgl3).trans g2
    have g3 := (hb4.cell (p := ⟨w.heap.size, 3, none⟩) hgl3).trans g3
    have hx4 := (hb4.block x hxl3).trans H3.out.2.2.1
    have hs4 := hb4.size
    have hgl4 : w.heap.size < W4.heap.size := by omega
    have hR := newR_yes (World.drew W4) ⟨x, 2, none⟩ (s' : Int) (o' : Int) (k' : Int) HZ.out
    have HR := Lib.hid hR
    have H4 := Lib.hid (And.intro hH (And.intro hown (And.intro hb4 hx4)))
    clear hH hown hb4 hx4 hR
    go_upto_region 7 with (fail)
    go_region_held3 (fun w' => w'.cell? ⟨w.heap.size, 1, none⟩ = some (.int .i64 (s' : Int)) ∧ w'.cell? ⟨w.heap.size, 2, none⟩ = some (.int .i64 (o' : Int)) ∧ w'.cell? ⟨w.heap.size, 3, none⟩ = some (.int .i64 (k' : Int))) (first | exact ⟨g1, g2, g3⟩ | exact ⟨y1, y2, y3⟩) ((go_at_call 52; refine HR.out.mono ?_; rintro _ W5 ⟨⟨s2, o2, k2, es, eo, ek, r, own2, q, rfl, hq, hR5, hf5, ho5, hr5⟩, hb5⟩; have y1 : W5.cell? ⟨w.heap.size, 1, none⟩ = some (.int .i64 (s' : Int)) := (hb5.cell (p := ⟨w.heap.size, 1, none⟩) hgl4).trans g1; have y2 : W5.cell? ⟨w.heap.size, 2, none⟩ = some (.int .i64 (o' : Int)) := (hb5.cell (p := ⟨w.heap.size, 2, none⟩) hgl4).trans g2; have y3 : W5.cell? ⟨w.heap.size, 3, none⟩ = some (.int .i64 (k' : Int)) := (hb5.cell (p := ⟨w.heap.size, 3, none⟩) hgl4).trans g3; obtain rfl : s2 = s' := (by omega); obtain rfl : o2 = o' := (by omega); obtain rfl : k2 = k' := (by omega); have hx5 := (hb5.block x (by show x < W4.heap.size; omega)).trans H4.out.2.2.2; obtain ⟨_, u1, _, _, u4, _⟩ := six_cells hx5; have uf1 : W5.frozen? ⟨x, 1, none⟩ = false := frozen_of_plain hx5 1; have uf4 : W5.frozen? ⟨x, 4, none⟩ = false := frozen_of_plain hx5 4; have H5 := Lib.hid (And.intro hq (And.intro hR5 (And.intro hf5 (And.intro ho5 (And.intro hr5 hb5))))); clear hq hR5 hf5 ho5 hr5 hb5 hx5 es eo ek))
    go_wp2_with (fail)
    go_ret2
    obtain ⟨hH, hown, hb4, hx4⟩ := H4.out
    obtain ⟨hq, hR5, hf5, ho5, hr5, hb5⟩ := H5.out
    have hbx : b = W1.heap.size := H2.out.2.2
    have hxx : x = W2.heap.size := H3.out.2.2.2.1
    refine .inl ⟨x, b, r, N, rfl, begin_duo (below_step (below_step HX.out.1 H2.out.2.1 (Nat.le_refl _)) H3.out.1 (Nat.le_refl _)) (by omega) (by omega) (by omega) H3.out.2.2.1 hH hown hb4 (W5 := W5) ⟨hb5.os, hb5.tape, hb5.output, hb5.size, hb5.block⟩ hq hR5 hf5 (fun z hz => ho5 z hz) rfl⟩
  · have hsz2 : sizesB s o kp = false := by simpa using hsz
    have HC := Lib.hid (Mine.bad H3.out.2.2.2.2 hsz2)
    have HZ := Lib.hid hsz2
    clear hsz hsz2
    go_wp2_with (go_at_call 16; fail)
    refine HC.out.mono ?_
    rintro _ W4 ⟨rfl, hb4⟩
    have g1 := (hb4.cell (p := ⟨w.heap.size, 1, none⟩) hgl3).trans g1
    have g2 := (hb4.cell (p := ⟨w.heap.size, 2, none⟩) hgl3).trans g2
    have g3 := (hb4.cell (p := ⟨w.heap.size, 3, none⟩) hgl3).trans g3
    have hx4 := (hb4.block x hxl3).trans H3.out.2.2.1
    have hs4 := hb4.size
    have hgl4 : w.heap.size < W4.heap.size := by omega
    have HR := Lib.hid (newR_no (World.drew W4) ⟨x, 2, none⟩ s o kp HZ.out)
    have H4 := Lib.hid (And.intro hb4 hx4)
    clear hb4 hx4
    go_upto_region 7 with (fail)
    go_region_held3 (fun w' => w'.cell? ⟨w.heap.size, 1, none⟩ = some (.int .i64 s) ∧ w'.cell? ⟨w.heap.size, 2, none⟩ = some (.int .i64 o) ∧ w'.cell? ⟨w.heap.size, 3, none⟩ = some (.int .i64 kp)) (first | exact ⟨g1, g2, g3⟩ | exact ⟨y1, y2, y3⟩) ((go_at_call 52; refine HR.out.mono ?_; rintro _ W5 ⟨rfl, hb5⟩; have y1 : W5.cell? ⟨w.heap.size, 1, none⟩ = some (.int .i64 s) := (hb5.cell (p := ⟨w.heap.size, 1, none⟩) hgl4).trans g1; have y2 : W5.cell? ⟨w.heap.size, 2, none⟩ = some (.int .i64 o) := (hb5.cell (p := ⟨w.heap.size, 2, none⟩) hgl4).trans g2; have y3 : W5.cell? ⟨w.heap.size, 3, none⟩ = some (.int .i64 kp) := (hb5.cell (p := ⟨w.heap.size, 3, none⟩) hgl4).trans g3; have hx5 := (hb5.block x (by show x < W4.heap.size; omega)).trans H4.out.2; obtain ⟨_, u1, _, _, u4, _⟩ := six_cells hx5; have uf1 : W5.frozen? ⟨x, 1, none⟩ = false := frozen_of_plain hx5 1; have uf4 : W5.frozen? ⟨x, 4, none⟩ = false := frozen_of_plain hx5 4; have H5 := Lib.hid hb5; clear hb5 hx5))
    go_wp2_with (fail)
    go_ret2
    have hbx : b = W1.heap.size := H2.out.2.2
    have hxx : x = W2.heap.size := H3.out.2.2.2.1
    have hs1 := HX.out.2.1
    have hb45 : Below W4.heap.size W4 W5 := ⟨H5.out.os, H5.out.tape, H5.out.output, H5.out.size, H5.out.block⟩
    have hbw5 := below_step (below_step (below_step (below_step HX.out.1 H2.out.2.1 (Nat.le_refl _)) H3.out.1 (Nat.le_refl _)) H4.out.1 (Nat.le_refl _)) hb45 (Nat.le_refl _)
    exact .inr ⟨rfl, (hbw5.setCell (p := ⟨x, 1, none⟩) (by show w.heap.size ≤ x; omega) _).setCell (p := ⟨x, 4, none⟩) (by show w.heap.size ≤ x; omega) _⟩
end Sl
end Go.Proofs.Ytlknhbcambdccaa
