/- DERIVED: THE SHELF's CONTRACTS AT THIS DUMP, IN PLAIN WORDS (tools/lay-plain.mjs out of 'YtjgakcpjphdicaaShBin0.lean', which tools/lay-shelf.mjs wrote): THE SAME DECLARATIONS UNDER THE SAME NAMES: 'import', 'namespace', 'open', 'def', 'theorem' AND NOTHING ELSE: no command of the shelf's: FOR A HAND-IN. Each laying: the table of numbers ('.._ren') and one theorem, a field a fact of the dump's own or the kernel's comparison; each contract: ONE APPLICATION. Compare, the search for a place. -/
import Derived.Shelf.SlLaysG2
import Derived.Shelf.SlCmpFuncs.BinarySearchFunc
import Derived.Ground.SlsgProg
import Derived.Test.YtjgakcpjphdicaaProg
import Derived.Test.YtjgakcpjphdicaaK5
namespace Go.Proofs
open Go.Shelf
def Try.binS_ren : Go.Shelf.Ren := ⟨fun | 14 => 76 | n => n, fun | 22 => 25 | 24 => 3 | 29 => 2 | 32 => 100 | 3 => 3 | 4 => 4 | 35 => 92 | 0 => 0 | n => n, fun | n => n⟩
theorem Try.binS : Go.Proofs.SlLaysG2.n14 Try.prog Try.binS_ren := {
  mixed := by kernel_rfl
  f14 := ⟨Try.f76.name, by decide, Try.func76.trans (congrArg some (by kernel_rfl))⟩
  t0 := Try.underlying0
  a0 := Try.isAgg0
  z0 := Try.sizeOf0
  v0 := Try.zeroValue0
  t3 := Try.underlying3
  a3 := Try.isAgg3
  z3 := Try.sizeOf3
  v3 := Try.zeroValue3
  t4 := Try.underlying4
  a4 := Try.isAgg4
  z4 := Try.sizeOf4
  v4 := Try.zeroValue4
  t22 := Try.underlying25
  a22 := Try.isAgg25
  z22 := Try.sizeOf25
  v22 := Try.zeroValue25
  a24 := Try.isAgg3
  z24 := Try.sizeOf3
  a29 := Try.isAgg2
  z29 := Try.sizeOf2
  t32 := Try.underlying100
  a32 := Try.isAgg100
  z32 := Try.sizeOf100
  v32 := Try.zeroValue100
  t35 := Try.underlying92
  a35 := Try.isAgg92
  z35 := Try.sizeOf92
  v35 := Try.zeroValue92 }
end Go.Proofs
namespace Go.Proofs.Ytjgakcpjphdicaa
open Go.Shelf Go.RowKit Go.Lib Go.Sort
namespace Of

/-- What Compare says. -/
def cmpV (a b : Int) : Int := if a < b then -1 else if b < a then 1 else 0
theorem nan64_ok (x : Int) (w : World) : Calls Try.prog 67 #[.int .i64 x] w fun e w' => e = .returned (.bool false) ∧ w = w' := by
  go_enter Try.func67, Try.ntmps67
  go_wp2
  go_ret
  exact ⟨by simp, rfl⟩
theorem nan_ok (x : Int) (w : World) : Calls Try.prog 70 #[.int .i64 x] w fun e w' => e = .returned (.bool false) ∧ w = w' := by
  go_enter Try.func70, Try.ntmps70
  go_wp2
  go_ret
  exact ⟨by simp, rfl⟩
set_option maxHeartbeats 1000000 in
theorem cmp64_ok (a b : Int) (w : World) : Calls Try.prog 43 #[.int .i64 a, .int .i64 b] w fun e w' => e = .returned (.int .i64 (cmpV a b)) ∧ w = w' := by
  unfold cmpV
  by_cases h : a < b
  · rw [if_pos h]
    go_enter Try.func43, Try.ntmps43
    go_wp2_with (go_at_call 67; refine (nan64_ok _ _).mono ?_; rintro e w' ⟨rfl, rfl⟩)
    go_ret
    exact ⟨rfl, rfl⟩
  · rw [if_neg h]
    by_cases h2 : b < a
    · rw [if_pos h2]
      go_enter Try.func43, Try.ntmps43
      go_wp2_with (go_at_call 67; refine (nan64_ok _ _).mono ?_; rintro e w' ⟨rfl, rfl⟩)
      go_ret
      exact ⟨rfl, rfl⟩
    · rw [if_neg h2]
      go_enter Try.func43, Try.ntmps43
      go_wp2_with (go_at_call 67; refine (nan64_ok _ _).mono ?_; rintro e w' ⟨rfl, rfl⟩)
      go_ret
      exact ⟨rfl, rfl⟩
set_option maxHeartbeats 1000000 in
theorem cmpI_ok (a b : Int) (w : World) : Calls Try.prog 52 #[.int .i64 a, .int .i64 b] w fun e w' => e = .returned (.int .i64 (cmpV a b)) ∧ w = w' := by
  unfold cmpV
  by_cases h : a < b
  · rw [if_pos h]
    go_enter Try.func52, Try.ntmps52
    go_wp2_with (go_at_call 70; refine (nan_ok _ _).mono ?_; rintro e w' ⟨rfl, rfl⟩)
    go_ret
    exact ⟨rfl, rfl⟩
  · rw [if_neg h]
    by_cases h2 : b < a
    · rw [if_pos h2]
      go_enter Try.func52, Try.ntmps52
      go_wp2_with (go_at_call 70; refine (nan_ok _ _).mono ?_; rintro e w' ⟨rfl, rfl⟩)
      go_ret
      exact ⟨rfl, rfl⟩
    · rw [if_neg h2]
      go_enter Try.func52, Try.ntmps52
      go_wp2_with (go_at_call 70; refine (nan_ok _ _).mono ?_; rintro e w' ⟨rfl, rfl⟩)
      go_ret
      exact ⟨rfl, rfl⟩

/-- The closure of add. -/
theorem addc_ok (w : World) (bx bp lc ga ic : Nat) (lA iA : Option Addr) (L : List OB) (A : List Int) (n : Nat) (x : Nat) (v : Int)
    (hp : w.cell? ⟨bp, 0, none⟩ = some (.pointer (some ⟨bx, 0, none⟩))) (hb : w.cell? ⟨bx, 1, none⟩ = some (.slice (some ⟨ga, 0, none⟩) A.length A.length)) (hA : RowI 2 w ga A) (hx : x < A.length) :
    Calls Try.prog 77 #[.int .i64 (x : Int), .int .i64 v, .pointer (some ⟨bp, 0, none⟩)] w fun e w' => e = .returned (.int .i64 (cmpV (addr A x) v)) ∧ w = w' := by
  have hc := hA.cell hx
  clear hA
  generalize addr A x = a at *
  go_enter Try.func77, Try.ntmps77
  go_wp2_with (go_at_call 43; refine (cmp64_ok _ _ _).mono ?_; rintro e w' ⟨rfl, rfl⟩)
  go_ret
  exact ⟨rfl, rfl⟩
end Of
end Go.Proofs.Ytjgakcpjphdicaa
