/- The examples of the document: example, shown. The examples of the document: shown. SlabsKnown: the walk. Slices of addresses: parts of them, and how they are appended. -/
import Derived.Test.YtlknhbcambdccaaK24
import Derived.Test.YtlknhbcambdccaaK21
import Derived.Deep.RegionLaw
namespace Go.Proofs.Ytlknhbcambdccaa
open Go.RowKit
namespace Sl
open Bu

def exS : Nat → List Slb
  | 0 => []
  | 1 => [⟨0, [true, false]⟩]
  | 2 => [⟨0, [true, true]⟩]
  | _ => [⟨0, [true, true]⟩, ⟨1, [true, false]⟩]
def exL : Nat → List Blk
  | 0 => []
  | 1 => [(0, 0)]
  | 2 => [(0, 0)]
  | _ => [(0, 0), (1, 0)]
def exA : Nat → Nat
  | 0 => 0
  | 1 => 24
  | _ => 64
def exC (k : Nat) : Ca := ⟨24, 0, 0, exS k⟩
theorem ex0 : allocC (exC 0) 3 (exL 0) = some (0, exS 1, exL 1) := by kernel_rfl
theorem ex1 : allocC (exC 1) 3 (exL 1) = some (24, exS 2, exL 2) := by kernel_rfl
theorem ex2 : allocC (exC 2) 3 (exL 2) = some (64, exS 3, exL 3) := by kernel_rfl
theorem ex_step : ∀ k, k < 3 → allocC (exC k) 3 (exL k) = some (exA k, exS (k + 1), exL (k + 1))
  | 0, _ => ex0
  | 1, _ => ex1
  | 2, _ => ex2
theorem ex_sizes : sizesB 24 0 0 = true := by kernel_rfl

theorem three_new (W : World) (x y z : Value) (T : TypeId) : (W.alloc (.cells #[x, y, z] T)).heap[W.heap.size]? = some (.cells #[x, y, z] T (0, 0)) := by rw [heapAlloc, if_pos rfl]

/-- What example leaves. -/
def ExR (w : World) (e : Ending) (w' : World) : Prop := ∃ own c b, e = .returned (.pointer (some ⟨c, 0, none⟩)) ∧ Mine w own c b (exC 3) 3 (exL 3) w'

set_option maxRecDepth 100000 in
set_option maxHeartbeats 4000000 in
theorem example_ok (w : World) : Calls Try.prog 10 #[] w fun e w' => ExR w e w' := by
  have HN := Lib.hid (newL_ok w 3 (by decide))
  have HC := Lib.hid (fun (W : World) (h1 : BuL W w.heap.size 3 []) (h2 : Below w.heap.size w W) => Mine.new (size := 24) (order := 0) (keep := 0) h1 h2 (Nat.le_refl _) ex_sizes)
  go_enter Try.func10, Try.ntmps10
  go_wp2_with (go_at_call 15; fail)
  refine HN.out.mono ?_
  rintro e W1 ⟨rfl, hB1, hb1⟩
  have HC1 := Lib.hid (HC.out W1 hB1 hb1)
  clear hB1 hb1
  go_wp2_with (go_at_call 16; fail)
  refine HC1.out.mono ?_
  rintro e W2 ⟨c, s, o, k, own, hs, ho, hk, rfl, hM⟩
  have hM2 : Mine w own c w.heap.size (exC 0) 3 (exL 0) W2 := by
    have e1 : s = 24 := by omega
    have e2 : o = 0 := by omega
    have e3 : k = 0 := by omega
    subst e1; subst e2; subst e3
    exact hM
  have HM := Lib.hid hM2
  clear hs ho hk hM hM2 HC1 HN HC
  go_wp2_with (fail)
  obtain ⟨W3, hW3⟩ : ∃ W3, W3 = W2.alloc (.cells #[.int .i64 0, .int .i64 24, .int .i64 64] 96) := ⟨_, rfl⟩
  have hb3 : Below W2.heap.size W2 W3 := by rw [hW3]; exact below_box _ _
  have hM3 := HM.out.step hb3
  have hn3 : own W2.heap.size = none := by
    refine Classical.byContradiction fun hn => ?_
    have := HM.out.held.fresh _ hn
    omega
  have ha3 : W3.heap[W2.heap.size]? = some (.cells #[.int .i64 0, .int .i64 24, .int .i64 64] 96 (0, 0)) := by rw [hW3]; exact three_new _ _ _ _ _
  generalize W2.heap.size = na at *
  rw [← hW3]
  have H3 := Lib.hid (And.intro hM3 (And.intro hn3 ha3))
  clear hW3 hb3 hM3 hn3 ha3
  go_loopw [6] (fun i wr => ∃ (k : Nat) (own : Own?), k ≤ 3 ∧ i = .int .i64 (k : Int) ∧ Mine w own c w.heap.size (exC k) 3 (exL k) wr ∧ own na = none ∧ wr.heap[na]? = some (.cells #[.int .i64 0, .int .i64 24, .int .i64 64] 96 (0, 0))) (fun i _ => 3 - (intOf i).toNat)
  case atStart => exact ⟨0, own, by omega, rfl, H3.out.1, H3.out.2.1, H3.out.2.2⟩
  case round =>
    obtain ⟨k, own, hk, rfl, hM, hna, har⟩ := hrel
    have e0 : (0 : Int) ≤ (k : Int) := by omega
    by_cases hlt : k < 3
    · have e1 : (k : Int) < 3 := by omega
      have hkk : IntKind.i64.wrap ((k : Int) + 1) = ((k + 1 : Nat) : Int) := by rw [IntWalk.i64_in _ (by omega)]; rfl
      have hal := hM.alloc (ex_step k hlt)
      have hcell : ∀ W : World, W.heap[na]? = some (.cells #[.int .i64 0, .int .i64 24, .int .i64 64] 96 (0, 0)) → W.cell? ⟨na, k, none⟩ = some (.int .i64 (exA k : Int)) := fun W hW => by
        rw [cell_of_row _ _ _ _ _ _ hW]
        match k, hlt with
        | 0, _ => rfl
        | 1, _ => rfl
        | 2, _ => rfl
      obtain ⟨ak, hak⟩ : ∃ ak, ak = exA k := ⟨_, rfl⟩
      rw [← hak] at hal hcell
      have HA := Lib.hid (And.intro hal (And.intro hcell (And.intro hna (And.intro har (lt_of_heap har)))))
      clear hal hcell hna har hM hak
      go_wp2_with (go_at_call 12; fail)
      refine HA.out.1.mono ?_
      rintro e W4 ⟨rfl, own', hM, hK⟩
      have har : W4.heap[na]? = _ := (hK.block na HA.out.2.2.2.2 HA.out.2.2.1).trans HA.out.2.2.2.1
      have hcl := HA.out.2.1 W4 har
      have H4 := Lib.hid (And.intro hM (And.intro ((hK.same na HA.out.2.2.2.2).trans HA.out.2.2.1) har))
      clear hM hK har
      go_wp2
      go_roundw
      case rel => exact ⟨k + 1, own', by omega, by go_num, H4.out.1, H4.out.2.1, H4.out.2.2⟩
      case measure => simp [intOf]; omega
    · obtain rfl : k = 3 := by omega
      have HM3 := Lib.hid hM
      clear hM hna har
      go_wp2
      go_ret
      exact ⟨own, c, w.heap.size, rfl, HM3.out⟩
end Sl
end Go.Proofs.Ytlknhbcambdccaa
namespace Go.Proofs.Ytlknhbcambdccaa
open Go.RowKit
namespace Sl
open Bu

def shS1 : List Slb := [⟨0, [false, true]⟩, ⟨1, [true, false]⟩]
def shS3 : List Slb := [⟨0, [true, true]⟩, ⟨1, [true, true]⟩]
theorem shF : freeC (exC 3) (exL 3) 0 = (0, shS1, exL 3) := by kernel_rfl
theorem shA : allocC { exC 3 with sl := shS1 } 3 (exL 3) = some (0, exS 3, exL 3) := by kernel_rfl
theorem shB : allocC { ({ exC 3 with sl := shS1 } : Ca) with sl := exS 3 } 3 (exL 3) = some (88, shS3, exL 3) := by kernel_rfl
theorem shC : freeC { exC 3 with sl := shS3 } (exL 3) 48 = (4, shS3, exL 3) := by kernel_rfl

set_option maxRecDepth 100000 in
set_option maxHeartbeats 4000000 in
theorem shown_ok (w : World) : Calls Try.prog 17 #[] w fun e w' => e = .returned (.bool true) ∧ Below w.heap.size w w' := by
  have HE := Lib.hid (example_ok w)
  have hq : ∀ (w : World) (p : Option Addr), (binOp .eql 22 (.pointer p) (.pointer none)).run Try.prog w = .ok (.bool p.isNone) w := fun w p => run_eql_ptr_nil Try.prog w 22 _ p Try.underlying22
  go_enter Try.func17, Try.ntmps17
  go_wp2_with (go_at_call 10; fail)
  refine HE.out.mono ?_
  rintro e W1 ⟨own1, c, b, rfl, hM1⟩
  have H1 := Lib.hid (hM1.free (by decide) (by decide) shF)
  clear hM1 HE
  go_wp2_with (go_at_call 11; fail)
  refine H1.out.mono ?_
  rintro e W2 ⟨rfl, hM2, -⟩
  have H2 := Lib.hid (hM2.alloc shA)
  clear hM2 H1
  go_wp2_with (go_at_call 12; fail)
  refine H2.out.mono ?_
  rintro e W3 ⟨rfl, own3, hM3, -⟩
  have H3 := Lib.hid (hM3.alloc shB)
  clear hM3 H2
  go_wp2_with (go_at_call 12; fail)
  refine H3.out.mono ?_
  rintro e W4 ⟨rfl, own4, hM4, -⟩
  have H4 := Lib.hid (hM4.free (at_ := 48) (by decide) (by decide) shC)
  clear hM4 H3
  go_wp2_with (go_at_call 11; fail)
  refine H4.out.mono ?_
  rintro e W5 ⟨rfl, hM5, -⟩
  have H5 := Lib.hid hM5.below
  clear hM5 H4
  go_wp2
  go_ret
  exact ⟨rfl, H5.out⟩
end Sl
end Go.Proofs.Ytlknhbcambdccaa
namespace Go.Proofs.Ytlknhbcambdccaa
open Go.RowKit
namespace Sl
open Bu

def kn1 : List Slb := [⟨0, [true, false]⟩, ⟨1, [true, true]⟩]
def kn2 : List Slb := [⟨0, [true, false]⟩, ⟨1, [false, true]⟩]
def kn3 : List Slb := [⟨0, [true, false]⟩]
abbrev KC (l : List Slb) : Ca := ⟨24, 0, 0, l⟩
theorem knA : freeC (KC shS3) (exL 3) 24 = (0, kn1, exL 3) := by kernel_rfl
theorem knB : freeC (KC kn1) (exL 3) 24 = (9, kn1, exL 3) := by kernel_rfl
theorem knC : freeC (KC kn1) (exL 3) 48 = (4, kn1, exL 3) := by kernel_rfl
theorem knD : freeC (KC kn1) (exL 3) 1 = (4, kn1, exL 3) := by kernel_rfl
theorem knO1 : ownerC (KC kn1) 90 = some (88, true) := by kernel_rfl
theorem knO2 : ownerC (KC kn1) 30 = some (24, false) := by kernel_rfl
theorem knO3 : ownerC (KC kn1) 50 = none := by kernel_rfl
theorem knE : freeC (KC kn1) (exL 3) 64 = (0, kn2, exL 3) := by kernel_rfl
theorem knF : freeC (KC kn2) (exL 3) 88 = (0, kn3, [(0, 0)]) := by kernel_rfl
theorem kn12 : sizesB 12 0 0 = false := by kernel_rfl
theorem kn72 : sizesB 72 0 0 = false := by kernel_rfl
theorem kn_view : viewS kn3 = [.int .i64 0, .int .i64 1] := by kernel_rfl

theorem row_at {w : World} {B e s u n cap i : Nat} {xs : List Value} {v : Value} (h : w.ownsRow B e s (.slice (some ⟨u, 0, none⟩) n cap) n xs) (hi : xs[i]? = some v) : w.cell? ⟨u, i, none⟩ = some v := by
  rcases h.2 with ⟨hv, _⟩ | ⟨g, cp, cur, hv, _, hg, _, _, _, hx⟩
  · cases hv
  · injection hv with h1
    injection h1 with h1; injection h1 with h1
    subst h1
    rw [cell_of_row _ _ _ _ _ _ hg]
    rw [← hx, List.getElem?_take] at hi
    split at hi
    · rw [← Array.getElem?_toList]; exact hi
    · cases hi
theorem row_capsA {w : World} {B e s u n cap : Nat} {xs : List Value} (h : w.ownsRow B e s (.slice (some ⟨u, 0, none⟩) n cap) n xs) : n ≤ cap ∧ cap ≤ maxLen ∧ u < w.heap.size ∧ B ≤ u := by
  rcases h.2 with ⟨hv, _⟩ | ⟨g, cp, cur, hv, hB, hg, h1, h2, _⟩
  · cases hv
  · injection hv with e1 e2 e3
    injection e1 with e1; injection e1 with e1
    subst e1; subst e3
    exact ⟨h1, h2, lt_of_heap hg, hB⟩
theorem row_some {w : World} {B e s n cap : Nat} {A : Option Addr} {xs : List Value} (h : w.ownsRow B e s (.slice A n cap) n xs) (hn : 1 ≤ n) : ∃ g, A = some ⟨g, 0, none⟩ := by
  rcases h.2 with ⟨_, h0⟩ | ⟨g, cp, cur, hv, _⟩
  · omega
  · injection hv with hv; exact ⟨g, hv⟩

set_option maxRecDepth 100000 in
set_option maxHeartbeats 8000000 in
theorem known_walk (w : World) : Calls Try.prog 3 #[] w fun e w' => e = .returned (.bool true) ∧ Below w.heap.size w w' := by
  have HE := Lib.hid (example_ok w)
  have hq : ∀ (w : World) (p : Option Addr), (binOp .eql 22 (.pointer p) (.pointer none)).run Try.prog w = .ok (.bool p.isNone) w := fun w p => run_eql_ptr_nil Try.prog w 22 _ p Try.underlying22
  have hqs : ∀ w : World, (binOp .eql 39 (.agg #[.int .i64 0, .int .i64 1]) (.agg #[.int .i64 0, .int .i64 1])).run Try.prog w = .ok (.bool true) w := fun w => by kernel_rfl
  go_enter Try.func3, Try.ntmps3
  go_wp2_with (go_at_call 10; fail)
  refine HE.out.mono ?_
  rintro e W1 ⟨own1, c, b, rfl, hM1⟩
  have H2 := Lib.hid (hM1.free (at_ := 0) (by decide) (by decide) shF)
  clear hM1 HE
  go_wp2_with (go_at_call 11; fail)
  refine H2.out.mono ?_
  rintro _ W2 ⟨rfl, hM2, -⟩
  have H3 := Lib.hid (hM2.alloc shA)
  clear hM2 H2
  go_wp2_with (go_at_call 12; fail)
  refine H3.out.mono ?_
  rintro _ W3 ⟨rfl, own3, hM3, -⟩
  have H4 := Lib.hid (hM3.alloc shB)
  clear hM3 H3
  go_wp2_with (go_at_call 12; fail)
  refine H4.out.mono ?_
  rintro _ W4 ⟨rfl, own4, hM4, -⟩
  have H5 := Lib.hid (hM4.free (at_ := 24) (by decide) (by decide) knA)
  clear hM4 H4
  go_wp2_with (go_at_call 11; fail)
  refine H5.out.mono ?_
  rintro _ W5 ⟨rfl, hM5, -⟩
  have H6 := Lib.hid (hM5.free (at_ := 24) (by decide) (by decide) knB)
  clear hM5 H5
  go_wp2_with (go_at_call 11; fail)
  refine H6.out.mono ?_
  rintro _ W6 ⟨rfl, hM6, -⟩
  have H7 := Lib.hid (hM6.free (at_ := 48) (by decide) (by decide) knC)
  clear hM6 H6
  go_wp2_with (go_at_call 11; fail)
  refine H7.out.mono ?_
  rintro _ W7 ⟨rfl, hM7, -⟩
  have H8 := Lib.hid (hM7.free (at_ := 1) (by decide) (by decide) knD)
  clear hM7 H7
  go_wp2_with (go_at_call 11; fail)
  refine H8.out.mono ?_
  rintro _ W8 ⟨rfl, hM8, -⟩
  have H9 := Lib.hid (hM8.owner (at_ := 90) (by decide) (by decide) knO1)
  clear hM8 H8
  go_wp2_with (go_at_call 13; fail)
  refine H9.out.mono ?_
  rintro _ W9 ⟨rfl, hM9, -⟩
  simp only [ownerV]
  have H10 := Lib.hid (hM9.owner (at_ := 30) (by decide) (by decide) knO2)
  clear hM9 H9
  go_wp2_with (go_at_call 13; fail)
  refine H10.out.mono ?_
  rintro _ W10 ⟨rfl, hM10, -⟩
  simp only [ownerV]
  have H11 := Lib.hid (hM10.owner (at_ := 50) (by decide) (by decide) knO3)
  clear hM10 H10
  go_wp2_with (go_at_call 13; fail)
  refine H11.out.mono ?_
  rintro _ W11 ⟨rfl, hM11, -⟩
  simp only [ownerV]
  have H12 := Lib.hid (hM11.free (at_ := 64) (by decide) (by decide) knE)
  clear hM11 H11
  go_wp2_with (go_at_call 11; fail)
  refine H12.out.mono ?_
  rintro _ W12 ⟨rfl, hM12, -⟩
  have H13 := Lib.hid (hM12.free (at_ := 88) (by decide) (by decide) knF)
  clear hM12 H12
  go_wp2_with (go_at_call 11; fail)
  refine H13.out.mono ?_
  rintro _ W13 ⟨rfl, hM13, -⟩
  have H14 := Lib.hid hM13.slabs
  clear hM13 H13
  go_wp2_with (go_at_call 14; fail)
  refine H14.out.mono ?_
  rintro _ W14 ⟨⟨A, cp, rfl, hr⟩, hM, -⟩
  obtain ⟨g, rfl⟩ := row_some hr (by decide)
  have hr0 := row_at hr (i := 0) (v := .int .i64 0) (by rw [kn_view]; rfl)
  have hr1 := row_at hr (i := 1) (v := .int .i64 1) (by rw [kn_view]; rfl)
  have hgl := (row_capsA hr).2.2.1
  have HB := Lib.hid (And.intro hM.below (And.intro hr0 (And.intro hr1 hgl)))
  have hcp := (row_capsA hr).1
  have hcp2 := (row_capsA hr).2.1
  have HN := Lib.hid (newL_ok W14 3 (by decide))
  clear hM hr hr0 hr1 hgl H14
  have hln : kn3.length = 1 := rfl
  rw [show ({ size := 24, order := 0, keep := 0, sl := kn3 } : Ca).sl.length = 1 from rfl] at hcp
  go_wp2_with (go_at_call 15; fail)
  refine HN.out.mono ?_
  rintro _ W15 ⟨rfl, hB, hb⟩
  have HN2 := Lib.hid (Mine.bad (size := 12) (order := 0) (keep := 0) hB kn12)
  have HB2 := Lib.hid (And.intro hB hb)
  clear hB hb HN
  go_wp2_with (go_at_call 16; fail)
  refine HN2.out.mono ?_
  rintro _ W16 ⟨rfl, hb⟩
  have hB := HB2.out.1.keep (hb.block _ HB2.out.1.lt)
  have HN3 := Lib.hid (Mine.bad (size := 72) (order := 0) (keep := 0) hB kn72)
  have HB3 := Lib.hid hb
  clear hB hb HN2
  go_wp2_with (go_at_call 16; fail)
  refine HN3.out.mono ?_
  rintro _ W17 ⟨rfl, hb⟩
  have hbb : Below W14.heap.size W14 W17 := by
    have h1 := HB2.out.2
    have h2 := HB3.out.mono h1.size
    have h3 := hb.mono (Nat.le_trans h1.size HB3.out.size)
    exact (h1.trans h2).trans h3
  have r0 : W17.cell? ⟨g, 0, none⟩ = some (.int .i64 0) := (hbb.cell (p := ⟨g, 0, none⟩) HB.out.2.2.2).trans HB.out.2.1
  have r1 : W17.cell? ⟨g, 1, none⟩ = some (.int .i64 1) := (hbb.cell (p := ⟨g, 1, none⟩) HB.out.2.2.2).trans HB.out.2.2.1
  have HS := Lib.hid (shown_ok W17)
  have HB4 := Lib.hid hbb
  clear hb hbb HN3
  go_wp2_with (go_at_call 17; fail)
  refine HS.out.mono ?_
  rintro _ W18 ⟨rfl, hb⟩
  have h0 := HB.out.1
  have hf := (h0.trans (HB4.out.mono h0.size)).trans (hb.mono (Nat.le_trans h0.size HB4.out.size))
  have HF := Lib.hid hf
  clear hf h0 hb
  go_wp2
  go_ret
  exact ⟨rfl, HF.out⟩
end Sl
end Go.Proofs.Ytlknhbcambdccaa
namespace Go.Proofs.Ytlknhbcambdccaa
open Go.RowKit
namespace Sl
open Bu

/-- A slice of addresses that lies somewhere. -/
structure I64At (w : World) (A : Option Addr) (c : Nat) (M : List Nat) : Prop where
  len : M.length ≤ c
  cap : c ≤ maxLen
  at_ : ∀ (j x : Nat), M[j]? = some x → ∃ g o, A = some ⟨g, o, none⟩ ∧ g < w.heap.size ∧ w.cell? ⟨g, o + j, none⟩ = some (.int .i64 (x : Int))
abbrev Own64 (w : World) (B : Nat) (A : Option Addr) (c : Nat) (M : List Nat) : Prop := w.ownsRow B 2 1 (.slice A M.length c) M.length (n64 M)

theorem n64_len (M : List Nat) : (n64 M).length = M.length := List.length_map _
theorem n64_get {M : List Nat} {j x : Nat} (h : M[j]? = some x) : (n64 M)[j]? = some (.int .i64 (x : Int)) := by unfold n64; rw [List.getElem?_map, h]; rfl
theorem own64_at {w : World} {B c : Nat} {A : Option Addr} {M : List Nat} (h : Own64 w B A c M) : I64At w A c M := by
  rcases h.2 with ⟨hv, h0⟩ | ⟨g, cp, cur, hv, _, hg, h1, h2, _⟩
  · injection hv with e1 e2 e3
    refine ⟨by omega, by unfold maxLen; omega, fun j x hx => ?_⟩
    have := (List.getElem?_eq_some_iff.1 hx).1; omega
  · injection hv with e1 e2 e3
    subst e1; subst e3
    exact ⟨h1, h2, fun j x hx => ⟨g, 0, rfl, lt_of_heap hg, by rw [Nat.zero_add]; exact row_at h (n64_get hx)⟩⟩
theorem I64At.below {w w' : World} {A : Option Addr} {c : Nat} {M : List Nat} (h : I64At w A c M) (hb : Below w.heap.size w w') : I64At w' A c M :=
  ⟨h.len, h.cap, fun j x hx => by
    obtain ⟨g, o, h1, h2, h3⟩ := h.at_ j x hx
    exact ⟨g, o, h1, Nat.lt_of_lt_of_le h2 hb.size, (hb.cell (p := ⟨g, o + j, none⟩) h2).trans h3⟩⟩
theorem I64At.take {w : World} {A : Option Addr} {c k : Nat} {M : List Nat} (h : I64At w A c M) : I64At w A c (M.take k) :=
  ⟨by have := h.len; simp; omega, h.cap, fun j x hx => by
    rw [List.getElem?_take] at hx
    split at hx
    · exact h.at_ j x hx
    · cases hx⟩
theorem I64At.drop {w : World} {g o c k : Nat} {M : List Nat} (h : I64At w (some ⟨g, o, none⟩) c M) (hk : k ≤ M.length) : I64At w (some ⟨g, o + k, none⟩) (c - k) (M.drop k) := by
  have h1 := h.len
  have h2 := h.cap
  refine ⟨by simp; omega, by omega, fun j x hx => ?_⟩
  rw [List.getElem?_drop] at hx
  obtain ⟨g', o', hA, hg, d⟩ := h.at_ _ x hx
  injection hA with hA; injection hA with e1 e2
  subst e1; subst e2
  exact ⟨g, o + k, rfl, hg, by rw [Nat.add_assoc]; exact d⟩

theorem i64_addr {w : World} {A : Option Addr} {ad : Addr} {c : Nat} {M : List Nat} (h : I64At w A c M) (hA : A = some ad) : ∀ j u, (n64 M)[j]? = some u → w.cell? (ad.add j) = some u := by
  intro j u hu
  have hj : j < M.length := by have := (List.getElem?_eq_some_iff.1 hu).1; rwa [n64_len] at this
  obtain ⟨x, hx⟩ : ∃ x, M[j]? = some x := ⟨_, List.getElem?_eq_getElem hj⟩
  rw [n64_get hx] at hu
  injection hu with hu
  obtain ⟨g, o, h1, _, h3⟩ := h.at_ j x hx
  rw [hA] at h1
  injection h1 with h1
  rw [h1, ← hu]
  have e : (⟨g, o, none⟩ : Addr).add j = ⟨g, o + j, none⟩ := by simp [Addr.add]
  rw [e]
  exact h3

set_option maxRecDepth 100000 in
theorem run_append_i64 (w : World) (ty : TypeId) (base : Nat) (v : Value) (X : List Nat) (hown : w.ownsRow base 2 1 v X.length (n64 X))
    (A : Option Addr) (c : Nat) (M : List Nat) (hM : I64At w A c M) (hn : A = none → c = 0) (hlen : X.length + M.length ≤ 1000000) (hbase : base ≤ w.heap.size) :
    ∃ A' c' w', (Builtin.append_ #[48, 48] ty #[v, .slice A M.length c]).run Try.prog w = .ok (.slice A' (X ++ M).length c') w' ∧ Own64 w' base A' c' (X ++ M) ∧ w.grownBy w' v.ownBlock := by
  obtain ⟨i0, z0, hi0, hz0, hz1, hz2, hz3⟩ := info_open i64_info
  have hcl : n64 (X ++ M) = n64 X ++ n64 M := by simp [n64]
  cases A with
  | none =>
    obtain rfl := hn rfl
    have hM0 : M = [] := List.length_eq_zero_iff.1 (by have := hM.len; omega)
    subst hM0
    have hrun := run_append_owned_none (P := Try.prog) (w := w) base 48 ty 2 i0 1 Try.underlying48 hi0 v X.length (n64 X) hown
    obtain ⟨A', c', rfl⟩ := own_row hown
    rw [List.append_nil]
    exact ⟨A', c', w, hrun, hown, grown_refl _ _⟩
  | some ad =>
    obtain ⟨v', w', hr, h2, h3, _⟩ := run_append_own (P := Try.prog) w base 48 ty 2 i0 z0 1 8 Try.underlying48 hi0 hz0 hz1 hz2 hz3 (by omega) v X.length (n64 X) hown ad M.length c (n64 M) (by rw [n64_len]; omega) (i64_addr hM rfl) (fun u hu => by
      unfold n64 at hu
      obtain ⟨x, _, rfl⟩ := List.mem_map.1 hu
      rfl) (by unfold maxLen; omega) (by omega) hbase
    rw [← List.length_append, ← hcl] at h2
    obtain ⟨A', c', rfl⟩ := own_row h2
    exact ⟨A', c', w', hr, h2, h3⟩

theorem step_append_i64 {w : World} {ops : Array Oper} {o : Oper} {a : Act} {K : Act → World → Prop} {Q : Exit → Act → World → Prop} {E : Prop} (hgd : o.guard = none) (s x : Operand)
    (ho : o.op = .call { callee := .builtin .append, args := #[s, x], argTypes := #[48, 48] })
    (base : Nat) (v : Value) (X : List Nat) (hs : a.eval s = v) (hown : w.ownsRow base 2 1 v X.length (n64 X))
    (A : Option Addr) (c : Nat) (M : List Nat) (hx : a.eval x = .slice A M.length c) (hM : I64At w A c M) (hn : A = none → c = 0) (hlen : X.length + M.length ≤ 1000000) (hbase : base ≤ w.heap.size)
    (h : ∀ A' c' w', Own64 w' base A' c' (X ++ M) → w.grownBy w' v.ownBlock → K (a.put o.dst (.slice A' (X ++ M).length c')) w') :
    if Region.wanted o (yielded ops a.tmps) = true then Oper.wp Try.prog o a w K Q else E := by
  have hw : Region.wanted o (yielded ops a.tmps) = true := by simp [Region.wanted, hgd]
  rw [if_pos hw]
  obtain ⟨A', c', w', hrun, h1, h2⟩ := run_append_i64 w o.type base v X hown A c M hM hn hlen hbase
  unfold Oper.wp
  simp only [execOp, ho, resolve, invoke, builtin, Sem.run_bind, Sem.run_pure, Result.andThen_ok, List.map_toArray, List.map_cons, List.map_nil, hs, hx, hrun]
  exact h A' c' w' h1 h2

theorem row_empty64 (w : World) (B : Nat) (hB : B ≤ w.heap.size) : ((w.alloc (.cells #[] 2)).drew).ownsRow B 2 1 (.slice (some ⟨w.heap.size, 0, none⟩) 0 0) 0 (n64 []) := by
  refine ⟨rfl, .inr ⟨w.heap.size, 0, #[], rfl, hB, ?_, Nat.le_refl _, by unfold maxLen; omega, rfl, rfl⟩⟩
  show (w.alloc _).heap[w.heap.size]? = _
  rw [heapAlloc, if_pos rfl]

theorem own64_some {w : World} {B c : Nat} {A : Option Addr} {M : List Nat} (h : Own64 w B A c M) (hp : 0 < M.length) : ∃ g, A = some ⟨g, 0, none⟩ ∧ B ≤ g ∧ g < w.heap.size := by
  rcases h.2 with ⟨_, h0⟩ | ⟨g, cap, cur, hv, hB, hg, _⟩
  · omega
  · injection hv with h1 h2 h3
    exact ⟨g, h1, hB, lt_of_heap hg⟩
theorem own64_low {w : World} {B B' c : Nat} {A : Option Addr} {M : List Nat} (h : Own64 w B A c M) (hB : B' ≤ B) : Own64 w B' A c M := row_low h hB
end Sl
end Go.Proofs.Ytlknhbcambdccaa
