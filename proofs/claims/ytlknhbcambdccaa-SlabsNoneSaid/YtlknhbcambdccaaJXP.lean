/- The examples of the document: shown. -/
import Derived.Test.YtlknhbcambdccaaJXO
namespace Go.Proofs.Ytlknhbcambdccaa
open Go.RowKit
namespace Sl
open Bu

def shS1 : List Slb := [⟨0, [false, true]⟩, ⟨1, [true, false]⟩]
def shS3 : List Slb := [⟨0, [true, true]⟩, ⟨1, [true, true]⟩]
theorem shF : freeC (exC 3) (exL 3) 0 = (0, shS1, exL 3) := by kernel_rfl
theorem shA : allocC { exC 3 with sl := shS1 } 3 (exL 3) = some (0, exS 3, exL 3) := by kernel_rfl
theorem shB : allocC { ({ exC 3 with sl := shS1 } : Ca) with sl := exS 3 } 3 (exL 3) = some (88, shS3, exL 3) := by kernel_rfl
theorem shC : freeC { exC 3 with sl := shS3 } (exL 3) 48 = (4, shS3, exL 3) := by kernel_rfl

set_option maxRecDepth 100000 in
set_option maxHeartbeats 4000000 in
theorem shown_ok (w : World) : Calls Try.prog 17 #[] w fun e w' => e = .returned (.bool true) ∧ Below w.heap.size w w' := by
  have HE := Lib.hid (example_ok w)
  have hq : ∀ (w : World) (p : Option Addr), (binOp .eql 22 (.pointer p) (.pointer none)).run Try.prog w = .ok (.bool p.isNone) w := fun w p => run_eql_ptr_nil Try.prog w 22 _ p Try.underlying22
  go_enter Try.func17, Try.ntmps17
  go_wp2_with (go_at_call 10; fail)
  refine HE.out.mono ?_
  rintro e W1 ⟨own1, c, b, rfl, hM1⟩
  have H1 := Lib.hid (hM1.free (by decide) (by decide) shF)
  clear hM1 HE
  go_wp2_with (go_at_call 11; fail)
  refine H1.out.mono ?_
  rintro e W2 ⟨rfl, hM2, -⟩
  have H2 := Lib.hid (hM2.alloc shA)
  clear hM2 H1
  go_wp2_with (go_at_call 12; fail)
  refine H2.out.mono ?_
  rintro e W3 ⟨rfl, own3, hM3, -⟩
  have H3 := Lib.hid (hM3.alloc shB)
  clear hM3 H2
  go_wp2_with (go_at_call 12; fail)
  refine H3.out.mono ?_
  rintro e W4 ⟨rfl, own4, hM4, -⟩
  have H4 := Lib.hid (hM4.free (at_ := 48) (by decide) (by decide) shC)
  clear hM4 H3
  go_wp2_with (go_at_call 11; fail)
  refine H4.out.mono ?_
  rintro e W5 ⟨rfl, hM5, -⟩
  have H5 := Lib.hid hM5.below
  clear hM5 H4
  go_wp2
  go_ret
  exact ⟨rfl, H5.out⟩
end Sl
end Go.Proofs.Ytlknhbcambdccaa
