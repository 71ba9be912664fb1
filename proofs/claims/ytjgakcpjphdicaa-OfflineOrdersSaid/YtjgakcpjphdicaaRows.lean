/-
  No cell of these rows narrows 'for every input' (looked for: loops, veiled, ifaces, maps, wideKeys, modest, calm, conditions, laid).
  DERIVED. THE GIVEN ROWS OF THIS SEAT. 8 by the template 'for every input the law returns true; each argument reads behind the call as it read before'; 0 by the template 'total and deterministic' (their statements: YtjgakcpjphdicaaTotals.lean).
  GIVEN WITH THE SEED: the statements are not yours to turn. If you find one false, say at which input.
  Laid BY PROGRAM, IN A SANDBOX (cutbox-rows.mjs): the forced cells as the released guide's own fill.sh prints them over the translation ee48df2ac2c38b2f… (all of the seat's roots in one cut). By AI agents, Wed Nov 11 2026. No macro, syntax, notation, axiom, sorry.
-/
import Derived.Test.YtjgakcpjphdicaaChecked
import GoSem.Claim
import GoSem.ClaimJoined
import GoSem.ClaimMapViews
import Derived.JoinedTies
import Derived.KernelRfl
namespace Go.Proofs.Ytjgakcpjphdicaa
/- THE CELL 'sum', in the pinned program and in every row, IS THE sha256 OF THE DUMP (.gsa) THAT YtjgakcpjphdicaaProg.lean LOADS. Nothing in Lean hashes anything: it is a label: what it is worth is what the hold of that sum in a sandbox is worth. -/
noncomputable def Try.pinned : Pinned := { name := "ytjgakcpjphdicaa", sum := "ee48df2ac2c38b2f6daff99bc5a9a17439508ee59a1d4358f2889ee59dd6b14b", checked := Try.checked }
namespace Rows
def none {H : Type} : Left H := { results := [], args := [] }

/-- 'polderlaw33.OfflineBest': WHATEVER THE INPUT: true; the input reads as it did. -/
def offlineBestSpec : ChangeSpec := { name := "offlineBest", fn := fun _ => fun
  | [d] => { results := [.lit (.bool true)], args := [d] }
  | _ => none }
def offlineBestRow : OpenClaim := { program := "ytjgakcpjphdicaa", sum := "ee48df2ac2c38b2f6daff99bc5a9a17439508ee59a1d4358f2889ee59dd6b14b", func := "polder/polderlaw33.OfflineBest", spec := "offlineBest", unfollowed := true, recurses := true, apart := false }
def OfflineBestSaid : Prop := offlineBestRow.holds Try.pinned (OpenSpec.ofChange offlineBestSpec)

/-- ITS FALSE NEIGHBOUR: 'it returns false'. Refute it at one input. -/
def offlineBestWrong : ChangeSpec := { name := "offlineBest", fn := fun _ => fun
  | [d] => { results := [.lit (.bool false)], args := [d] }
  | _ => none }
def OfflineBestWrongFalsely : Prop := offlineBestRow.holds Try.pinned (OpenSpec.ofChange offlineBestWrong)

/-- 'polderlaw33.OfflineValid': WHATEVER THE INPUT: true; the input reads as it did. -/
def offlineValidSpec : ChangeSpec := { name := "offlineValid", fn := fun _ => fun
  | [d1, d2] => { results := [.lit (.bool true)], args := [d1, d2] }
  | _ => none }
def offlineValidRow : OpenClaim := { program := "ytjgakcpjphdicaa", sum := "ee48df2ac2c38b2f6daff99bc5a9a17439508ee59a1d4358f2889ee59dd6b14b", func := "polder/polderlaw33.OfflineValid", spec := "offlineValid", unfollowed := true, recurses := true, apart := false }
def OfflineValidSaid : Prop := offlineValidRow.holds Try.pinned (OpenSpec.ofChange offlineValidSpec)

/-- ITS FALSE NEIGHBOUR: 'it returns false'. Refute it at one input. -/
def offlineValidWrong : ChangeSpec := { name := "offlineValid", fn := fun _ => fun
  | [d1, d2] => { results := [.lit (.bool false)], args := [d1, d2] }
  | _ => none }
def OfflineValidWrongFalsely : Prop := offlineValidRow.holds Try.pinned (OpenSpec.ofChange offlineValidWrong)

/-- 'polderlaw33.OfflineLeast': WHATEVER THE INPUT: true; the input reads as it did. -/
def offlineLeastSpec : ChangeSpec := { name := "offlineLeast", fn := fun _ => fun
  | [d1, d2] => { results := [.lit (.bool true)], args := [d1, d2] }
  | _ => none }
def offlineLeastRow : OpenClaim := { program := "ytjgakcpjphdicaa", sum := "ee48df2ac2c38b2f6daff99bc5a9a17439508ee59a1d4358f2889ee59dd6b14b", func := "polder/polderlaw33.OfflineLeast", spec := "offlineLeast", unfollowed := true, recurses := true, apart := false }
def OfflineLeastSaid : Prop := offlineLeastRow.holds Try.pinned (OpenSpec.ofChange offlineLeastSpec)

/-- ITS FALSE NEIGHBOUR: 'it returns false'. Refute it at one input. -/
def offlineLeastWrong : ChangeSpec := { name := "offlineLeast", fn := fun _ => fun
  | [d1, d2] => { results := [.lit (.bool false)], args := [d1, d2] }
  | _ => none }
def OfflineLeastWrongFalsely : Prop := offlineLeastRow.holds Try.pinned (OpenSpec.ofChange offlineLeastWrong)

/-- 'polderlaw33.OfflineFewer': WHATEVER THE INPUT: true; the input reads as it did. -/
def offlineFewerSpec : ChangeSpec := { name := "offlineFewer", fn := fun _ => fun
  | [d1, d2] => { results := [.lit (.bool true)], args := [d1, d2] }
  | _ => none }
def offlineFewerRow : OpenClaim := { program := "ytjgakcpjphdicaa", sum := "ee48df2ac2c38b2f6daff99bc5a9a17439508ee59a1d4358f2889ee59dd6b14b", func := "polder/polderlaw33.OfflineFewer", spec := "offlineFewer", unfollowed := true, recurses := true, apart := false }
def OfflineFewerSaid : Prop := offlineFewerRow.holds Try.pinned (OpenSpec.ofChange offlineFewerSpec)

/-- ITS FALSE NEIGHBOUR: 'it returns false'. Refute it at one input. -/
def offlineFewerWrong : ChangeSpec := { name := "offlineFewer", fn := fun _ => fun
  | [d1, d2] => { results := [.lit (.bool false)], args := [d1, d2] }
  | _ => none }
def OfflineFewerWrongFalsely : Prop := offlineFewerRow.holds Try.pinned (OpenSpec.ofChange offlineFewerWrong)

/-- 'polderlaw33.OfflinePeak': WHATEVER THE INPUT: true; the input reads as it did. -/
def offlinePeakSpec : ChangeSpec := { name := "offlinePeak", fn := fun _ => fun
  | [d1, d2] => { results := [.lit (.bool true)], args := [d1, d2] }
  | _ => none }
def offlinePeakRow : OpenClaim := { program := "ytjgakcpjphdicaa", sum := "ee48df2ac2c38b2f6daff99bc5a9a17439508ee59a1d4358f2889ee59dd6b14b", func := "polder/polderlaw33.OfflinePeak", spec := "offlinePeak", unfollowed := true, recurses := true, apart := false }
def OfflinePeakSaid : Prop := offlinePeakRow.holds Try.pinned (OpenSpec.ofChange offlinePeakSpec)

/-- ITS FALSE NEIGHBOUR: 'it returns false'. Refute it at one input. -/
def offlinePeakWrong : ChangeSpec := { name := "offlinePeak", fn := fun _ => fun
  | [d1, d2] => { results := [.lit (.bool false)], args := [d1, d2] }
  | _ => none }
def OfflinePeakWrongFalsely : Prop := offlinePeakRow.holds Try.pinned (OpenSpec.ofChange offlinePeakWrong)

/-- 'polderlaw33.OfflineLoads': WHATEVER THE INPUT: true; the input reads as it did. -/
def offlineLoadsSpec : ChangeSpec := { name := "offlineLoads", fn := fun _ => fun
  | [d] => { results := [.lit (.bool true)], args := [d] }
  | _ => none }
def offlineLoadsRow : OpenClaim := { program := "ytjgakcpjphdicaa", sum := "ee48df2ac2c38b2f6daff99bc5a9a17439508ee59a1d4358f2889ee59dd6b14b", func := "polder/polderlaw33.OfflineLoads", spec := "offlineLoads", unfollowed := true, recurses := true, apart := false }
def OfflineLoadsSaid : Prop := offlineLoadsRow.holds Try.pinned (OpenSpec.ofChange offlineLoadsSpec)

/-- ITS FALSE NEIGHBOUR: 'it returns false'. Refute it at one input. -/
def offlineLoadsWrong : ChangeSpec := { name := "offlineLoads", fn := fun _ => fun
  | [d] => { results := [.lit (.bool false)], args := [d] }
  | _ => none }
def OfflineLoadsWrongFalsely : Prop := offlineLoadsRow.holds Try.pinned (OpenSpec.ofChange offlineLoadsWrong)

/-- 'polderlaw33.OfflineLays': WHATEVER THE INPUT: true; the input reads as it did. -/
def offlineLaysSpec : ChangeSpec := { name := "offlineLays", fn := fun _ => fun
  | [d1, d2] => { results := [.lit (.bool true)], args := [d1, d2] }
  | _ => none }
def offlineLaysRow : OpenClaim := { program := "ytjgakcpjphdicaa", sum := "ee48df2ac2c38b2f6daff99bc5a9a17439508ee59a1d4358f2889ee59dd6b14b", func := "polder/polderlaw33.OfflineLays", spec := "offlineLays", unfollowed := true, recurses := true, apart := false }
def OfflineLaysSaid : Prop := offlineLaysRow.holds Try.pinned (OpenSpec.ofChange offlineLaysSpec)

/-- ITS FALSE NEIGHBOUR: 'it returns false'. Refute it at one input. -/
def offlineLaysWrong : ChangeSpec := { name := "offlineLays", fn := fun _ => fun
  | [d1, d2] => { results := [.lit (.bool false)], args := [d1, d2] }
  | _ => none }
def OfflineLaysWrongFalsely : Prop := offlineLaysRow.holds Try.pinned (OpenSpec.ofChange offlineLaysWrong)

/-- 'polderlaw33.OfflineOrders': WHATEVER THE INPUT: true; the input reads as it did. -/
def offlineOrdersSpec : ChangeSpec := { name := "offlineOrders", fn := fun _ => fun
  | [d1, d2] => { results := [.lit (.bool true)], args := [d1, d2] }
  | _ => none }
def offlineOrdersRow : OpenClaim := { program := "ytjgakcpjphdicaa", sum := "ee48df2ac2c38b2f6daff99bc5a9a17439508ee59a1d4358f2889ee59dd6b14b", func := "polder/polderlaw33.OfflineOrders", spec := "offlineOrders", unfollowed := true, recurses := true, apart := false }
def OfflineOrdersSaid : Prop := offlineOrdersRow.holds Try.pinned (OpenSpec.ofChange offlineOrdersSpec)

/-- ITS FALSE NEIGHBOUR: 'it returns false'. Refute it at one input. -/
def offlineOrdersWrong : ChangeSpec := { name := "offlineOrders", fn := fun _ => fun
  | [d1, d2] => { results := [.lit (.bool false)], args := [d1, d2] }
  | _ => none }
def OfflineOrdersWrongFalsely : Prop := offlineOrdersRow.holds Try.pinned (OpenSpec.ofChange offlineOrdersWrong)

/- THE SECOND FORM. 'bulk': how many values and letters a reading holds, each counted each time it is reached (what is shared counts as often as it is met; a slice's spare places count too). A statement '..UptoSaid' is the law's where the arguments, and the package variables that the reading takes, are together of bulk at most 1048576: NARROWER than '..Said'. Prove '..Said' where nothing that the law and all that it calls make is longer than what came in: it says more and counts as full. Else prove '..UptoSaid'. A law counts once. -/
mutual
def uptoBulk {H : Type} : DataW H → Nat
  | .lit (.string bytes) => bytes.length + 1
  | .lit _ => 1
  | .nil => 1
  | .ptr d => uptoBulk d + 1
  | .slice elems spare => uptoBulkAll elems + uptoBulkAll spare + 1
  | .agg parts => uptoBulkAll parts + 1
  | .iface _ d => uptoBulk d + 1
  | .map entries => uptoBulkEntries entries + 1
  | .held _ => 1
def uptoBulkAll {H : Type} : List (DataW H) → Nat
  | [] => 0
  | d :: r => uptoBulk d + uptoBulkAll r
def uptoBulkEntries {H : Type} : List (Lit × DataW H) → Nat
  | [] => 0
  | x :: r => uptoBulkEntry x + uptoBulkEntries r
def uptoBulkEntry {H : Type} : Lit × DataW H → Nat
  | (.string bytes, d) => bytes.length + uptoBulk d + 1
  | (_, d) => uptoBulk d + 1
 end
def uptoSmall : (H : Type) → List (DataW H) → Bool := fun _ ds => decide (uptoBulkAll ds ≤ 1048576)
def OpenSpec.upto (s : _root_.Go.ChangeSpec) : _root_.Go.OpenSpec := { _root_.Go.OpenSpec.ofChange s with cond := some uptoSmall }

/-- 'polderlaw33.OfflineBest', WHERE WHAT IT READS IS OF BULK AT MOST 1048576: true; the input reads as it did. -/
def offlineBestUptoRow : OpenClaim := { program := "ytjgakcpjphdicaa", sum := "ee48df2ac2c38b2f6daff99bc5a9a17439508ee59a1d4358f2889ee59dd6b14b", func := "polder/polderlaw33.OfflineBest", spec := "offlineBest", unfollowed := true, recurses := true, apart := false, narrowed := true }
def OfflineBestUptoSaid : Prop := offlineBestUptoRow.holds Try.pinned (OpenSpec.upto offlineBestSpec)

/-- 'polderlaw33.OfflineValid', WHERE WHAT IT READS IS OF BULK AT MOST 1048576: true; the input reads as it did. -/
def offlineValidUptoRow : OpenClaim := { program := "ytjgakcpjphdicaa", sum := "ee48df2ac2c38b2f6daff99bc5a9a17439508ee59a1d4358f2889ee59dd6b14b", func := "polder/polderlaw33.OfflineValid", spec := "offlineValid", unfollowed := true, recurses := true, apart := false, narrowed := true }
def OfflineValidUptoSaid : Prop := offlineValidUptoRow.holds Try.pinned (OpenSpec.upto offlineValidSpec)

/-- 'polderlaw33.OfflineLeast', WHERE WHAT IT READS IS OF BULK AT MOST 1048576: true; the input reads as it did. -/
def offlineLeastUptoRow : OpenClaim := { program := "ytjgakcpjphdicaa", sum := "ee48df2ac2c38b2f6daff99bc5a9a17439508ee59a1d4358f2889ee59dd6b14b", func := "polder/polderlaw33.OfflineLeast", spec := "offlineLeast", unfollowed := true, recurses := true, apart := false, narrowed := true }
def OfflineLeastUptoSaid : Prop := offlineLeastUptoRow.holds Try.pinned (OpenSpec.upto offlineLeastSpec)

/-- 'polderlaw33.OfflineFewer', WHERE WHAT IT READS IS OF BULK AT MOST 1048576: true; the input reads as it did. -/
def offlineFewerUptoRow : OpenClaim := { program := "ytjgakcpjphdicaa", sum := "ee48df2ac2c38b2f6daff99bc5a9a17439508ee59a1d4358f2889ee59dd6b14b", func := "polder/polderlaw33.OfflineFewer", spec := "offlineFewer", unfollowed := true, recurses := true, apart := false, narrowed := true }
def OfflineFewerUptoSaid : Prop := offlineFewerUptoRow.holds Try.pinned (OpenSpec.upto offlineFewerSpec)

/-- 'polderlaw33.OfflinePeak', WHERE WHAT IT READS IS OF BULK AT MOST 1048576: true; the input reads as it did. -/
def offlinePeakUptoRow : OpenClaim := { program := "ytjgakcpjphdicaa", sum := "ee48df2ac2c38b2f6daff99bc5a9a17439508ee59a1d4358f2889ee59dd6b14b", func := "polder/polderlaw33.OfflinePeak", spec := "offlinePeak", unfollowed := true, recurses := true, apart := false, narrowed := true }
def OfflinePeakUptoSaid : Prop := offlinePeakUptoRow.holds Try.pinned (OpenSpec.upto offlinePeakSpec)

/-- 'polderlaw33.OfflineLoads', WHERE WHAT IT READS IS OF BULK AT MOST 1048576: true; the input reads as it did. -/
def offlineLoadsUptoRow : OpenClaim := { program := "ytjgakcpjphdicaa", sum := "ee48df2ac2c38b2f6daff99bc5a9a17439508ee59a1d4358f2889ee59dd6b14b", func := "polder/polderlaw33.OfflineLoads", spec := "offlineLoads", unfollowed := true, recurses := true, apart := false, narrowed := true }
def OfflineLoadsUptoSaid : Prop := offlineLoadsUptoRow.holds Try.pinned (OpenSpec.upto offlineLoadsSpec)

/-- 'polderlaw33.OfflineLays', WHERE WHAT IT READS IS OF BULK AT MOST 1048576: true; the input reads as it did. -/
def offlineLaysUptoRow : OpenClaim := { program := "ytjgakcpjphdicaa", sum := "ee48df2ac2c38b2f6daff99bc5a9a17439508ee59a1d4358f2889ee59dd6b14b", func := "polder/polderlaw33.OfflineLays", spec := "offlineLays", unfollowed := true, recurses := true, apart := false, narrowed := true }
def OfflineLaysUptoSaid : Prop := offlineLaysUptoRow.holds Try.pinned (OpenSpec.upto offlineLaysSpec)

/-- 'polderlaw33.OfflineOrders', WHERE WHAT IT READS IS OF BULK AT MOST 1048576: true; the input reads as it did. -/
def offlineOrdersUptoRow : OpenClaim := { program := "ytjgakcpjphdicaa", sum := "ee48df2ac2c38b2f6daff99bc5a9a17439508ee59a1d4358f2889ee59dd6b14b", func := "polder/polderlaw33.OfflineOrders", spec := "offlineOrders", unfollowed := true, recurses := true, apart := false, narrowed := true }
def OfflineOrdersUptoSaid : Prop := offlineOrdersUptoRow.holds Try.pinned (OpenSpec.upto offlineOrdersSpec)

end Rows
end Go.Proofs.Ytjgakcpjphdicaa
