/-
  No cell of these rows narrows 'for every input' (looked for: loops, veiled, ifaces, maps, wideKeys, modest, calm, conditions, laid).
  DERIVED. THE GIVEN ROWS OF THIS SEAT. 8 by the template 'for every input the law returns true; each argument reads behind the call as it read before'; 0 by the template 'total and deterministic' (their statements: YtnkkhbmbbkmfhaaTotals.lean).
  GIVEN WITH THE SEED: the statements are not yours to turn. If you find one false, say at which input.
  Laid BY PROGRAM, IN A SANDBOX (cutbox-rows.mjs): the forced cells as the released guide's own fill.sh prints them over the translation 7b7aacb14e8d3331… (all of the seat's roots in one cut). By AI agents, Wed Nov 11 2026. No macro, syntax, notation, axiom, sorry.
-/
import Derived.Test.YtnkkhbmbbkmfhaaChecked
import GoSem.Claim
import GoSem.ClaimJoined
import GoSem.ClaimMapViews
import Derived.JoinedTies
import Derived.KernelRfl
namespace Go.Proofs.Ytnkkhbmbbkmfhaa
/- THE CELL 'sum', in the pinned program and in every row, IS THE sha256 OF THE DUMP (.gsa) THAT YtnkkhbmbbkmfhaaProg.lean LOADS. Nothing in Lean hashes anything: it is a label: what it is worth is what the hold of that sum in a sandbox is worth. -/
noncomputable def Try.pinned : Pinned := { name := "ytnkkhbmbbkmfhaa", sum := "7b7aacb14e8d33314a86dcc4e562666a44accdd91140330d354480a10bffc030", checked := Try.checked }
namespace Rows
def none {H : Type} : Left H := { results := [], args := [] }

/-- 'polderlaw31.PolicyCosts': WHATEVER THE INPUT: true; the input reads as it did. -/
def policyCostsSpec : ChangeSpec := { name := "policyCosts", fn := fun _ => fun
  | [d1, d2, d3] => { results := [.lit (.bool true)], args := [d1, d2, d3] }
  | _ => none }
def policyCostsRow : OpenClaim := { program := "ytnkkhbmbbkmfhaa", sum := "7b7aacb14e8d33314a86dcc4e562666a44accdd91140330d354480a10bffc030", func := "polder/polderlaw31.PolicyCosts", spec := "policyCosts", unfollowed := true, recurses := true, apart := false }
def PolicyCostsSaid : Prop := policyCostsRow.holds Try.pinned (OpenSpec.ofChange policyCostsSpec)

/-- ITS FALSE NEIGHBOUR: 'it returns false'. Refute it at one input. -/
def policyCostsWrong : ChangeSpec := { name := "policyCosts", fn := fun _ => fun
  | [d1, d2, d3] => { results := [.lit (.bool false)], args := [d1, d2, d3] }
  | _ => none }
def PolicyCostsWrongFalsely : Prop := policyCostsRow.holds Try.pinned (OpenSpec.ofChange policyCostsWrong)

/-- 'polderlaw31.PolicyTwice': WHATEVER THE INPUT: true; the input reads as it did. -/
def policyTwiceSpec : ChangeSpec := { name := "policyTwice", fn := fun _ => fun
  | [d1, d2] => { results := [.lit (.bool true)], args := [d1, d2] }
  | _ => none }
def policyTwiceRow : OpenClaim := { program := "ytnkkhbmbbkmfhaa", sum := "7b7aacb14e8d33314a86dcc4e562666a44accdd91140330d354480a10bffc030", func := "polder/polderlaw31.PolicyTwice", spec := "policyTwice", unfollowed := true, recurses := true, apart := false }
def PolicyTwiceSaid : Prop := policyTwiceRow.holds Try.pinned (OpenSpec.ofChange policyTwiceSpec)

/-- ITS FALSE NEIGHBOUR: 'it returns false'. Refute it at one input. -/
def policyTwiceWrong : ChangeSpec := { name := "policyTwice", fn := fun _ => fun
  | [d1, d2] => { results := [.lit (.bool false)], args := [d1, d2] }
  | _ => none }
def PolicyTwiceWrongFalsely : Prop := policyTwiceRow.holds Try.pinned (OpenSpec.ofChange policyTwiceWrong)

/-- 'polderlaw31.PolicyTuned': WHATEVER THE INPUT: true; the input reads as it did. -/
def policyTunedSpec : ChangeSpec := { name := "policyTuned", fn := fun _ => fun
  | [d1, d2, d3] => { results := [.lit (.bool true)], args := [d1, d2, d3] }
  | _ => none }
def policyTunedRow : OpenClaim := { program := "ytnkkhbmbbkmfhaa", sum := "7b7aacb14e8d33314a86dcc4e562666a44accdd91140330d354480a10bffc030", func := "polder/polderlaw31.PolicyTuned", spec := "policyTuned", unfollowed := true, recurses := true, apart := false }
def PolicyTunedSaid : Prop := policyTunedRow.holds Try.pinned (OpenSpec.ofChange policyTunedSpec)

/-- ITS FALSE NEIGHBOUR: 'it returns false'. Refute it at one input. -/
def policyTunedWrong : ChangeSpec := { name := "policyTuned", fn := fun _ => fun
  | [d1, d2, d3] => { results := [.lit (.bool false)], args := [d1, d2, d3] }
  | _ => none }
def PolicyTunedWrongFalsely : Prop := policyTunedRow.holds Try.pinned (OpenSpec.ofChange policyTunedWrong)

/-- 'polderlaw31.PolicyChecks': WHATEVER THE INPUT: true; the input reads as it did. -/
def policyChecksSpec : ChangeSpec := { name := "policyChecks", fn := fun _ => fun
  | [d] => { results := [.lit (.bool true)], args := [d] }
  | _ => none }
def policyChecksRow : OpenClaim := { program := "ytnkkhbmbbkmfhaa", sum := "7b7aacb14e8d33314a86dcc4e562666a44accdd91140330d354480a10bffc030", func := "polder/polderlaw31.PolicyChecks", spec := "policyChecks", unfollowed := true, recurses := true, apart := false }
def PolicyChecksSaid : Prop := policyChecksRow.holds Try.pinned (OpenSpec.ofChange policyChecksSpec)

/-- ITS FALSE NEIGHBOUR: 'it returns false'. Refute it at one input. -/
def policyChecksWrong : ChangeSpec := { name := "policyChecks", fn := fun _ => fun
  | [d] => { results := [.lit (.bool false)], args := [d] }
  | _ => none }
def PolicyChecksWrongFalsely : Prop := policyChecksRow.holds Try.pinned (OpenSpec.ofChange policyChecksWrong)

/-- 'polderlaw31.PolicyTunes': WHATEVER THE INPUT: true; the input reads as it did. -/
def policyTunesSpec : ChangeSpec := { name := "policyTunes", fn := fun _ => fun
  | [d1, d2, d3] => { results := [.lit (.bool true)], args := [d1, d2, d3] }
  | _ => none }
def policyTunesRow : OpenClaim := { program := "ytnkkhbmbbkmfhaa", sum := "7b7aacb14e8d33314a86dcc4e562666a44accdd91140330d354480a10bffc030", func := "polder/polderlaw31.PolicyTunes", spec := "policyTunes", unfollowed := true, recurses := true, apart := false }
def PolicyTunesSaid : Prop := policyTunesRow.holds Try.pinned (OpenSpec.ofChange policyTunesSpec)

/-- ITS FALSE NEIGHBOUR: 'it returns false'. Refute it at one input. -/
def policyTunesWrong : ChangeSpec := { name := "policyTunes", fn := fun _ => fun
  | [d1, d2, d3] => { results := [.lit (.bool false)], args := [d1, d2, d3] }
  | _ => none }
def PolicyTunesWrongFalsely : Prop := policyTunesRow.holds Try.pinned (OpenSpec.ofChange policyTunesWrong)

/-- 'polderlaw31.PolicyEnds': WHATEVER THE INPUT: true; the input reads as it did. -/
def policyEndsSpec : ChangeSpec := { name := "policyEnds", fn := fun _ => fun
  | [d1, d2, d3] => { results := [.lit (.bool true)], args := [d1, d2, d3] }
  | _ => none }
def policyEndsRow : OpenClaim := { program := "ytnkkhbmbbkmfhaa", sum := "7b7aacb14e8d33314a86dcc4e562666a44accdd91140330d354480a10bffc030", func := "polder/polderlaw31.PolicyEnds", spec := "policyEnds", unfollowed := true, recurses := true, apart := false }
def PolicyEndsSaid : Prop := policyEndsRow.holds Try.pinned (OpenSpec.ofChange policyEndsSpec)

/-- ITS FALSE NEIGHBOUR: 'it returns false'. Refute it at one input. -/
def policyEndsWrong : ChangeSpec := { name := "policyEnds", fn := fun _ => fun
  | [d1, d2, d3] => { results := [.lit (.bool false)], args := [d1, d2, d3] }
  | _ => none }
def PolicyEndsWrongFalsely : Prop := policyEndsRow.holds Try.pinned (OpenSpec.ofChange policyEndsWrong)

/-- 'polderlaw31.PolicyLimits': WHATEVER THE INPUT: true; the input reads as it did. -/
def policyLimitsSpec : ChangeSpec := { name := "policyLimits", fn := fun _ => fun
  | [d1, d2, d3] => { results := [.lit (.bool true)], args := [d1, d2, d3] }
  | _ => none }
def policyLimitsRow : OpenClaim := { program := "ytnkkhbmbbkmfhaa", sum := "7b7aacb14e8d33314a86dcc4e562666a44accdd91140330d354480a10bffc030", func := "polder/polderlaw31.PolicyLimits", spec := "policyLimits", unfollowed := true, recurses := true, apart := false }
def PolicyLimitsSaid : Prop := policyLimitsRow.holds Try.pinned (OpenSpec.ofChange policyLimitsSpec)

/-- ITS FALSE NEIGHBOUR: 'it returns false'. Refute it at one input. -/
def policyLimitsWrong : ChangeSpec := { name := "policyLimits", fn := fun _ => fun
  | [d1, d2, d3] => { results := [.lit (.bool false)], args := [d1, d2, d3] }
  | _ => none }
def PolicyLimitsWrongFalsely : Prop := policyLimitsRow.holds Try.pinned (OpenSpec.ofChange policyLimitsWrong)

/-- 'polderlaw31.PolicyBest': WHATEVER THE INPUT: true; the input reads as it did. -/
def policyBestSpec : ChangeSpec := { name := "policyBest", fn := fun _ => fun
  | [d1, d2, d3] => { results := [.lit (.bool true)], args := [d1, d2, d3] }
  | _ => none }
def policyBestRow : OpenClaim := { program := "ytnkkhbmbbkmfhaa", sum := "7b7aacb14e8d33314a86dcc4e562666a44accdd91140330d354480a10bffc030", func := "polder/polderlaw31.PolicyBest", spec := "policyBest", unfollowed := true, recurses := true, apart := false }
def PolicyBestSaid : Prop := policyBestRow.holds Try.pinned (OpenSpec.ofChange policyBestSpec)

/-- ITS FALSE NEIGHBOUR: 'it returns false'. Refute it at one input. -/
def policyBestWrong : ChangeSpec := { name := "policyBest", fn := fun _ => fun
  | [d1, d2, d3] => { results := [.lit (.bool false)], args := [d1, d2, d3] }
  | _ => none }
def PolicyBestWrongFalsely : Prop := policyBestRow.holds Try.pinned (OpenSpec.ofChange policyBestWrong)

/- THE SECOND FORM. 'bulk': how many values and letters a reading holds, each counted each time it is reached (what is shared counts as often as it is met; a slice's spare places count too). A statement '..UptoSaid' is the law's where the arguments, and the package variables that the reading takes, are together of bulk at most 1048576: NARROWER than '..Said'. Prove '..Said' where nothing that the law and all that it calls make is longer than what came in: it says more and counts as full. Else prove '..UptoSaid'. A law counts once. -/
mutual
def uptoBulk {H : Type} : DataW H → Nat
  | .lit (.string bytes) => bytes.length + 1
  | .lit _ => 1
  | .nil => 1
  | .ptr d => uptoBulk d + 1
  | .slice elems spare => uptoBulkAll elems + uptoBulkAll spare + 1
  | .agg parts => uptoBulkAll parts + 1
  | .iface _ d => uptoBulk d + 1
  | .map entries => uptoBulkEntries entries + 1
  | .held _ => 1
def uptoBulkAll {H : Type} : List (DataW H) → Nat
  | [] => 0
  | d :: r => uptoBulk d + uptoBulkAll r
def uptoBulkEntries {H : Type} : List (Lit × DataW H) → Nat
  | [] => 0
  | x :: r => uptoBulkEntry x + uptoBulkEntries r
def uptoBulkEntry {H : Type} : Lit × DataW H → Nat
  | (.string bytes, d) => bytes.length + uptoBulk d + 1
  | (_, d) => uptoBulk d + 1
 end
def uptoSmall : (H : Type) → List (DataW H) → Bool := fun _ ds => decide (uptoBulkAll ds ≤ 1048576)
def OpenSpec.upto (s : _root_.Go.ChangeSpec) : _root_.Go.OpenSpec := { _root_.Go.OpenSpec.ofChange s with cond := some uptoSmall }

/-- 'polderlaw31.PolicyCosts', WHERE WHAT IT READS IS OF BULK AT MOST 1048576: true; the input reads as it did. -/
def policyCostsUptoRow : OpenClaim := { program := "ytnkkhbmbbkmfhaa", sum := "7b7aacb14e8d33314a86dcc4e562666a44accdd91140330d354480a10bffc030", func := "polder/polderlaw31.PolicyCosts", spec := "policyCosts", unfollowed := true, recurses := true, apart := false, narrowed := true }
def PolicyCostsUptoSaid : Prop := policyCostsUptoRow.holds Try.pinned (OpenSpec.upto policyCostsSpec)

/-- 'polderlaw31.PolicyTwice', WHERE WHAT IT READS IS OF BULK AT MOST 1048576: true; the input reads as it did. -/
def policyTwiceUptoRow : OpenClaim := { program := "ytnkkhbmbbkmfhaa", sum := "7b7aacb14e8d33314a86dcc4e562666a44accdd91140330d354480a10bffc030", func := "polder/polderlaw31.PolicyTwice", spec := "policyTwice", unfollowed := true, recurses := true, apart := false, narrowed := true }
def PolicyTwiceUptoSaid : Prop := policyTwiceUptoRow.holds Try.pinned (OpenSpec.upto policyTwiceSpec)

/-- 'polderlaw31.PolicyTuned', WHERE WHAT IT READS IS OF BULK AT MOST 1048576: true; the input reads as it did. -/
def policyTunedUptoRow : OpenClaim := { program := "ytnkkhbmbbkmfhaa", sum := "7b7aacb14e8d33314a86dcc4e562666a44accdd91140330d354480a10bffc030", func := "polder/polderlaw31.PolicyTuned", spec := "policyTuned", unfollowed := true, recurses := true, apart := false, narrowed := true }
def PolicyTunedUptoSaid : Prop := policyTunedUptoRow.holds Try.pinned (OpenSpec.upto policyTunedSpec)

/-- 'polderlaw31.PolicyChecks', WHERE WHAT IT READS IS OF BULK AT MOST 1048576: true; the input reads as it did. -/
def policyChecksUptoRow : OpenClaim := { program := "ytnkkhbmbbkmfhaa", sum := "7b7aacb14e8d33314a86dcc4e562666a44accdd91140330d354480a10bffc030", func := "polder/polderlaw31.PolicyChecks", spec := "policyChecks", unfollowed := true, recurses := true, apart := false, narrowed := true }
def PolicyChecksUptoSaid : Prop := policyChecksUptoRow.holds Try.pinned (OpenSpec.upto policyChecksSpec)

/-- 'polderlaw31.PolicyTunes', WHERE WHAT IT READS IS OF BULK AT MOST 1048576: true; the input reads as it did. -/
def policyTunesUptoRow : OpenClaim := { program := "ytnkkhbmbbkmfhaa", sum := "7b7aacb14e8d33314a86dcc4e562666a44accdd91140330d354480a10bffc030", func := "polder/polderlaw31.PolicyTunes", spec := "policyTunes", unfollowed := true, recurses := true, apart := false, narrowed := true }
def PolicyTunesUptoSaid : Prop := policyTunesUptoRow.holds Try.pinned (OpenSpec.upto policyTunesSpec)

/-- 'polderlaw31.PolicyEnds', WHERE WHAT IT READS IS OF BULK AT MOST 1048576: true; the input reads as it did. -/
def policyEndsUptoRow : OpenClaim := { program := "ytnkkhbmbbkmfhaa", sum := "7b7aacb14e8d33314a86dcc4e562666a44accdd91140330d354480a10bffc030", func := "polder/polderlaw31.PolicyEnds", spec := "policyEnds", unfollowed := true, recurses := true, apart := false, narrowed := true }
def PolicyEndsUptoSaid : Prop := policyEndsUptoRow.holds Try.pinned (OpenSpec.upto policyEndsSpec)

/-- 'polderlaw31.PolicyLimits', WHERE WHAT IT READS IS OF BULK AT MOST 1048576: true; the input reads as it did. -/
def policyLimitsUptoRow : OpenClaim := { program := "ytnkkhbmbbkmfhaa", sum := "7b7aacb14e8d33314a86dcc4e562666a44accdd91140330d354480a10bffc030", func := "polder/polderlaw31.PolicyLimits", spec := "policyLimits", unfollowed := true, recurses := true, apart := false, narrowed := true }
def PolicyLimitsUptoSaid : Prop := policyLimitsUptoRow.holds Try.pinned (OpenSpec.upto policyLimitsSpec)

/-- 'polderlaw31.PolicyBest', WHERE WHAT IT READS IS OF BULK AT MOST 1048576: true; the input reads as it did. -/
def policyBestUptoRow : OpenClaim := { program := "ytnkkhbmbbkmfhaa", sum := "7b7aacb14e8d33314a86dcc4e562666a44accdd91140330d354480a10bffc030", func := "polder/polderlaw31.PolicyBest", spec := "policyBest", unfollowed := true, recurses := true, apart := false, narrowed := true }
def PolicyBestUptoSaid : Prop := policyBestUptoRow.holds Try.pinned (OpenSpec.upto policyBestSpec)

end Rows
end Go.Proofs.Ytnkkhbmbbkmfhaa
