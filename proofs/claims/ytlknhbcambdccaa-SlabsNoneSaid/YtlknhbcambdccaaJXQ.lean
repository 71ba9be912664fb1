/- SlabsKnown: the walk. -/
import Derived.Test.YtlknhbcambdccaaJXP
namespace Go.Proofs.Ytlknhbcambdccaa
open Go.RowKit
namespace Sl
open Bu

def kn1 : List Slb := [⟨0, [true, false]⟩, ⟨1, [true, true]⟩]
def kn2 : List Slb := [⟨0, [true, false]⟩, ⟨1, [false, true]⟩]
def kn3 : List Slb := [⟨0, [true, false]⟩]
abbrev KC (l : List Slb) : Ca := ⟨24, 0, 0, l⟩
theorem knA : freeC (KC shS3) (exL 3) 24 = (0, kn1, exL 3) := by kernel_rfl
theorem knB : freeC (KC kn1) (exL 3) 24 = (9, kn1, exL 3) := by kernel_rfl
theorem knC : freeC (KC kn1) (exL 3) 48 = (4, kn1, exL 3) := by kernel_rfl
theorem knD : freeC (KC kn1) (exL 3) 1 = (4, kn1, exL 3) := by kernel_rfl
theorem knO1 : ownerC (KC kn1) 90 = some (88, true) := by kernel_rfl
theorem knO2 : ownerC (KC kn1) 30 = some (24, false) := by kernel_rfl
theorem knO3 : ownerC (KC kn1) 50 = none := by kernel_rfl
theorem knE : freeC (KC kn1) (exL 3) 64 = (0, kn2, exL 3) := by kernel_rfl
theorem knF : freeC (KC kn2) (exL 3) 88 = (0, kn3, [(0, 0)]) := by kernel_rfl
theorem kn12 : sizesB 12 0 0 = false := by kernel_rfl
theorem kn72 : sizesB 72 0 0 = false := by kernel_rfl
theorem kn_view : viewS kn3 = [.int .i64 0, .int .i64 1] := by kernel_rfl

theorem row_at {w : World} {B e s u n cap i : Nat} {xs : List Value} {v : Value} (h : w.ownsRow B e s (.slice (some ⟨u, 0, none⟩) n cap) n xs) (hi : xs[i]? = some v) : w.cell? ⟨u, i, none⟩ = some v := by
  rcases h.2 with ⟨hv, _⟩ | ⟨g, cp, cur, hv, _, hg, _, _, _, hx⟩
  · cases hv
  · injection hv with h1
    injection h1 with h1; injection h1 with h1
    subst h1
    rw [cell_of_row _ _ _ _ _ _ hg]
    rw [← hx, List.getElem?_take] at hi
    split at hi
    · rw [← Array.getElem?_toList]; exact hi
    · cases hi
theorem row_capsA {w : World} {B e s u n cap : Nat} {xs : List Value} (h : w.ownsRow B e s (.slice (some ⟨u, 0, none⟩) n cap) n xs) : n ≤ cap ∧ cap ≤ maxLen ∧ u < w.heap.size ∧ B ≤ u := by
  rcases h.2 with ⟨hv, _⟩ | ⟨g, cp, cur, hv, hB, hg, h1, h2, _⟩
  · cases hv
  · injection hv with e1 e2 e3
    injection e1 with e1; injection e1 with e1
    subst e1; subst e3
    exact ⟨h1, h2, lt_of_heap hg, hB⟩
theorem row_some {w : World} {B e s n cap : Nat} {A : Option Addr} {xs : List Value} (h : w.ownsRow B e s (.slice A n cap) n xs) (hn : 1 ≤ n) : ∃ g, A = some ⟨g, 0, none⟩ := by
  rcases h.2 with ⟨_, h0⟩ | ⟨g, cp, cur, hv, _⟩
  · omega
  · injection hv with hv; exact ⟨g, hv⟩

set_option maxRecDepth 100000 in
set_option maxHeartbeats 8000000 in
theorem known_walk (w : World) : Calls Try.prog 3 #[] w fun e w' => e = .returned (.bool true) ∧ Below w.heap.size w w' := by
  have HE := Lib.hid (example_ok w)
  have hq : ∀ (w : World) (p : Option Addr), (binOp .eql 22 (.pointer p) (.pointer none)).run Try.prog w = .ok (.bool p.isNone) w := fun w p => run_eql_ptr_nil Try.prog w 22 _ p Try.underlying22
  have hqs : ∀ w : World, (binOp .eql 39 (.agg #[.int .i64 0, .int .i64 1]) (.agg #[.int .i64 0, .int .i64 1])).run Try.prog w = .ok (.bool true) w := fun w => by kernel_rfl
  go_enter Try.func3, Try.ntmps3
  go_wp2_with (go_at_call 10; fail)
  refine HE.out.mono ?_
  rintro e W1 ⟨own1, c, b, rfl, hM1⟩
  have H2 := Lib.hid (hM1.free (at_ := 0) (by decide) (by decide) shF)
  clear hM1 HE
  go_wp2_with (go_at_call 11; fail)
  refine H2.out.mono ?_
  rintro _ W2 ⟨rfl, hM2, -⟩
  have H3 := Lib.hid (hM2.alloc shA)
  clear hM2 H2
  go_wp2_with (go_at_call 12; fail)
  refine H3.out.mono ?_
  rintro _ W3 ⟨rfl, own3, hM3, -⟩
  have H4 := Lib.hid (hM3.alloc shB)
  clear hM3 H3
  go_wp2_with (go_at_call 12; fail)
  refine H4.out.mono ?_
  rintro _ W4 ⟨rfl, own4, hM4, -⟩
  have H5 := Lib.hid (hM4.free (at_ := 24) (by decide) (by decide) knA)
  clear hM4 H4
  go_wp2_with (go_at_call 11; fail)
  refine H5.out.mono ?_
  rintro _ W5 ⟨rfl, hM5, -⟩
  have H6 := Lib.hid (hM5.free (at_ := 24) (by decide) (by decide) knB)
  clear hM5 H5
  go_wp2_with (go_at_call 11; fail)
  refine H6.out.mono ?_
  rintro _ W6 ⟨rfl, hM6, -⟩
  have H7 := Lib.hid (hM6.free (at_ := 48) (by decide) (by decide) knC)
  clear hM6 H6
  go_wp2_with (go_at_call 11; fail)
  refine H7.out.mono ?_
  rintro _ W7 ⟨rfl, hM7, -⟩
  have H8 := Lib.hid (hM7.free (at_ := 1) (by decide) (by decide) knD)
  clear hM7 H7
  go_wp2_with (go_at_call 11; fail)
  refine H8.out.mono ?_
  rintro _ W8 ⟨rfl, hM8, -⟩
  have H9 := Lib.hid (hM8.owner (at_ := 90) (by decide) (by decide) knO1)
  clear hM8 H8
  go_wp2_with (go_at_call 13; fail)
  refine H9.out.mono ?_
  rintro _ W9 ⟨rfl, hM9, -⟩
  simp only [ownerV]
  have H10 := Lib.hid (hM9.owner (at_ := 30) (by decide) (by decide) knO2)
  clear hM9 H9
  go_wp2_with (go_at_call 13; fail)
  refine H10.out.mono ?_
  rintro _ W10 ⟨rfl, hM10, -⟩
  simp only [ownerV]
  have H11 := Lib.hid (hM10.owner (at_ := 50) (by decide) (by decide) knO3)
  clear hM10 H10
  go_wp2_with (go_at_call 13; fail)
  refine H11.out.mono ?_
  rintro _ W11 ⟨rfl, hM11, -⟩
  simp only [ownerV]
  have H12 := Lib.hid (hM11.free (at_ := 64) (by decide) (by decide) knE)
  clear hM11 H11
  go_wp2_with (go_at_call 11; fail)
  refine H12.out.mono ?_
  rintro _ W12 ⟨rfl, hM12, -⟩
  have H13 := Lib.hid (hM12.free (at_ := 88) (by decide) (by decide) knF)
  clear hM12 H12
  go_wp2_with (go_at_call 11; fail)
  refine H13.out.mono ?_
  rintro _ W13 ⟨rfl, hM13, -⟩
  have H14 := Lib.hid hM13.slabs
  clear hM13 H13
  go_wp2_with (go_at_call 14; fail)
  refine H14.out.mono ?_
  rintro _ W14 ⟨⟨A, cp, rfl, hr⟩, hM, -⟩
  obtain ⟨g, rfl⟩ := row_some hr (by decide)
  have hr0 := row_at hr (i := 0) (v := .int .i64 0) (by rw [kn_view]; rfl)
  have hr1 := row_at hr (i := 1) (v := .int .i64 1) (by rw [kn_view]; rfl)
  have hgl := (row_capsA hr).2.2.1
  have HB := Lib.hid (And.intro hM.below (And.intro hr0 (And.intro hr1 hgl)))
  have hcp := (row_capsA hr).1
  have hcp2 := (row_capsA hr).2.1
  have HN := Lib.hid (newL_ok W14 3 (by decide))
  clear hM hr hr0 hr1 hgl H14
  have hln : kn3.length = 1 := rfl
  rw [show ({ size := 24, order := 0, keep := 0, sl := kn3 } : Ca).sl.length = 1 from rfl] at hcp
  go_wp2_with (go_at_call 15; fail)
  refine HN.out.mono ?_
  rintro _ W15 ⟨rfl, hB, hb⟩
  have HN2 := Lib.hid (Mine.bad (size := 12) (order := 0) (keep := 0) hB kn12)
  have HB2 := Lib.hid (And.intro hB hb)
  clear hB hb HN
  go_wp2_with (go_at_call 16; fail)
  refine HN2.out.mono ?_
  rintro _ W16 ⟨rfl, hb⟩
  have hB := HB2.out.1.keep (hb.block _ HB2.out.1.lt)
  have HN3 := Lib.hid (Mine.bad (size := 72) (order := 0) (keep := 0) hB kn72)
  have HB3 := Lib.hid hb
  clear hB hb HN2
  go_wp2_with (go_at_call 16; fail)
  refine HN3.out.mono ?_
  rintro _ W17 ⟨rfl, hb⟩
  have hbb : Below W14.heap.size W14 W17 := by
    have h1 := HB2.out.2
    have h2 := HB3.out.mono h1.size
    have h3 := hb.mono (Nat.le_trans h1.size HB3.out.size)
    exact (h1.trans h2).trans h3
  have r0 : W17.cell? ⟨g, 0, none⟩ = some (.int .i64 0) := (hbb.cell (p := ⟨g, 0, none⟩) HB.out.2.2.2).trans HB.out.2.1
  have r1 : W17.cell? ⟨g, 1, none⟩ = some (.int .i64 1) := (hbb.cell (p := ⟨g, 1, none⟩) HB.out.2.2.2).trans HB.out.2.2.1
  have HS := Lib.hid (shown_ok W17)
  have HB4 := Lib.hid hbb
  clear hb hbb HN3
  go_wp2_with (go_at_call 17; fail)
  refine HS.out.mono ?_
  rintro _ W18 ⟨rfl, hb⟩
  have h0 := HB.out.1
  have hf := (h0.trans (HB4.out.mono h0.size)).trans (hb.mono (Nat.le_trans h0.size HB4.out.size))
  have HF := Lib.hid hf
  clear hf h0 hb
  go_wp2
  go_ret
  exact ⟨rfl, HF.out⟩
end Sl
end Go.Proofs.Ytlknhbcambdccaa
