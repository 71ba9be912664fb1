/-
  No cell of these rows narrows 'for every input' (looked for: loops, veiled, ifaces, maps, wideKeys, modest, calm, conditions, laid).
  DERIVED. THE GIVEN ROWS OF THIS SEAT. 7 by the template 'for every input the law returns true; each argument reads behind the call as it read before'; 0 by the template 'total and deterministic' (their statements: YtlknhbcambdccaaTotals.lean).
  GIVEN WITH THE SEED: the statements are not yours to turn. If you find one false, say at which input.
  Laid BY PROGRAM, IN A SANDBOX (cutbox-rows.mjs): the forced cells as the released guide's own fill.sh prints them over the translation 5c21530a4e83eda7… (all of the seat's roots in one cut). By AI agents, Wed Nov 11 2026. No macro, syntax, notation, axiom, sorry.
-/
import Derived.Test.YtlknhbcambdccaaChecked
import GoSem.Claim
import GoSem.ClaimJoined
import GoSem.ClaimMapViews
import Derived.JoinedTies
import Derived.KernelRfl
namespace Go.Proofs.Ytlknhbcambdccaa
/- THE CELL 'sum', in the pinned program and in every row, IS THE sha256 OF THE DUMP (.gsa) THAT YtlknhbcambdccaaProg.lean LOADS. Nothing in Lean hashes anything: it is a label: what it is worth is what the hold of that sum in a sandbox is worth. -/
noncomputable def Try.pinned : Pinned := { name := "ytlknhbcambdccaa", sum := "5c21530a4e83eda7104943f43a6daa6ded8a7d8698d14a73a7134d6175c0b500", checked := Try.checked }
namespace Rows
def none {H : Type} : Left H := { results := [], args := [] }

/-- 'polderlaw19.SlabsKnown': WHATEVER THE INPUT: true; the input reads as it did. -/
def slabsKnownSpec : ChangeSpec := { name := "slabsKnown", fn := fun _ => fun
  | [] => { results := [.lit (.bool true)], args := [] }
  | _ => none }
def slabsKnownRow : OpenClaim := { program := "ytlknhbcambdccaa", sum := "5c21530a4e83eda7104943f43a6daa6ded8a7d8698d14a73a7134d6175c0b500", func := "polder/polderlaw19.SlabsKnown", spec := "slabsKnown", unfollowed := true, recurses := true, apart := false }
def SlabsKnownSaid : Prop := slabsKnownRow.holds Try.pinned (OpenSpec.ofChange slabsKnownSpec)

/-- ITS FALSE NEIGHBOUR: 'it returns false'. Refute it at one input. -/
def slabsKnownWrong : ChangeSpec := { name := "slabsKnown", fn := fun _ => fun
  | [] => { results := [.lit (.bool false)], args := [] }
  | _ => none }
def SlabsKnownWrongFalsely : Prop := slabsKnownRow.holds Try.pinned (OpenSpec.ofChange slabsKnownWrong)

/-- 'polderlaw19.SlabsBack': WHATEVER THE INPUT: true; the input reads as it did. -/
def slabsBackSpec : ChangeSpec := { name := "slabsBack", fn := fun _ => fun
  | [d1, d2, d3] => { results := [.lit (.bool true)], args := [d1, d2, d3] }
  | _ => none }
def slabsBackRow : OpenClaim := { program := "ytlknhbcambdccaa", sum := "5c21530a4e83eda7104943f43a6daa6ded8a7d8698d14a73a7134d6175c0b500", func := "polder/polderlaw19.SlabsBack", spec := "slabsBack", unfollowed := true, recurses := true, apart := false }
def SlabsBackSaid : Prop := slabsBackRow.holds Try.pinned (OpenSpec.ofChange slabsBackSpec)

/-- ITS FALSE NEIGHBOUR: 'it returns false'. Refute it at one input. -/
def slabsBackWrong : ChangeSpec := { name := "slabsBack", fn := fun _ => fun
  | [d1, d2, d3] => { results := [.lit (.bool false)], args := [d1, d2, d3] }
  | _ => none }
def SlabsBackWrongFalsely : Prop := slabsBackRow.holds Try.pinned (OpenSpec.ofChange slabsBackWrong)

/-- 'polderlaw19.SlabsDisjoint': WHATEVER THE INPUT: true; the input reads as it did. -/
def slabsDisjointSpec : ChangeSpec := { name := "slabsDisjoint", fn := fun _ => fun
  | [d1, d2] => { results := [.lit (.bool true)], args := [d1, d2] }
  | _ => none }
def slabsDisjointRow : OpenClaim := { program := "ytlknhbcambdccaa", sum := "5c21530a4e83eda7104943f43a6daa6ded8a7d8698d14a73a7134d6175c0b500", func := "polder/polderlaw19.SlabsDisjoint", spec := "slabsDisjoint", unfollowed := true, recurses := true, apart := false }
def SlabsDisjointSaid : Prop := slabsDisjointRow.holds Try.pinned (OpenSpec.ofChange slabsDisjointSpec)

/-- ITS FALSE NEIGHBOUR: 'it returns false'. Refute it at one input. -/
def slabsDisjointWrong : ChangeSpec := { name := "slabsDisjoint", fn := fun _ => fun
  | [d1, d2] => { results := [.lit (.bool false)], args := [d1, d2] }
  | _ => none }
def SlabsDisjointWrongFalsely : Prop := slabsDisjointRow.holds Try.pinned (OpenSpec.ofChange slabsDisjointWrong)

/-- 'polderlaw19.SlabsRefuses': WHATEVER THE INPUT: true; the input reads as it did. -/
def slabsRefusesSpec : ChangeSpec := { name := "slabsRefuses", fn := fun _ => fun
  | [d1, d2, d3] => { results := [.lit (.bool true)], args := [d1, d2, d3] }
  | _ => none }
def slabsRefusesRow : OpenClaim := { program := "ytlknhbcambdccaa", sum := "5c21530a4e83eda7104943f43a6daa6ded8a7d8698d14a73a7134d6175c0b500", func := "polder/polderlaw19.SlabsRefuses", spec := "slabsRefuses", unfollowed := true, recurses := true, apart := false }
def SlabsRefusesSaid : Prop := slabsRefusesRow.holds Try.pinned (OpenSpec.ofChange slabsRefusesSpec)

/-- ITS FALSE NEIGHBOUR: 'it returns false'. Refute it at one input. -/
def slabsRefusesWrong : ChangeSpec := { name := "slabsRefuses", fn := fun _ => fun
  | [d1, d2, d3] => { results := [.lit (.bool false)], args := [d1, d2, d3] }
  | _ => none }
def SlabsRefusesWrongFalsely : Prop := slabsRefusesRow.holds Try.pinned (OpenSpec.ofChange slabsRefusesWrong)

/-- 'polderlaw19.SlabsNone': WHATEVER THE INPUT: true; the input reads as it did. -/
def slabsNoneSpec : ChangeSpec := { name := "slabsNone", fn := fun _ => fun
  | [d1, d2] => { results := [.lit (.bool true)], args := [d1, d2] }
  | _ => none }
def slabsNoneRow : OpenClaim := { program := "ytlknhbcambdccaa", sum := "5c21530a4e83eda7104943f43a6daa6ded8a7d8698d14a73a7134d6175c0b500", func := "polder/polderlaw19.SlabsNone", spec := "slabsNone", unfollowed := true, recurses := true, apart := false }
def SlabsNoneSaid : Prop := slabsNoneRow.holds Try.pinned (OpenSpec.ofChange slabsNoneSpec)

/-- ITS FALSE NEIGHBOUR: 'it returns false'. Refute it at one input. -/
def slabsNoneWrong : ChangeSpec := { name := "slabsNone", fn := fun _ => fun
  | [d1, d2] => { results := [.lit (.bool false)], args := [d1, d2] }
  | _ => none }
def SlabsNoneWrongFalsely : Prop := slabsNoneRow.holds Try.pinned (OpenSpec.ofChange slabsNoneWrong)

/-- 'polderlaw19.SlabsPlays': WHATEVER THE INPUT: true; the input reads as it did. -/
def slabsPlaysSpec : ChangeSpec := { name := "slabsPlays", fn := fun _ => fun
  | [d1, d2] => { results := [.lit (.bool true)], args := [d1, d2] }
  | _ => none }
def slabsPlaysRow : OpenClaim := { program := "ytlknhbcambdccaa", sum := "5c21530a4e83eda7104943f43a6daa6ded8a7d8698d14a73a7134d6175c0b500", func := "polder/polderlaw19.SlabsPlays", spec := "slabsPlays", unfollowed := true, recurses := true, apart := false }
def SlabsPlaysSaid : Prop := slabsPlaysRow.holds Try.pinned (OpenSpec.ofChange slabsPlaysSpec)

/-- ITS FALSE NEIGHBOUR: 'it returns false'. Refute it at one input. -/
def slabsPlaysWrong : ChangeSpec := { name := "slabsPlays", fn := fun _ => fun
  | [d1, d2] => { results := [.lit (.bool false)], args := [d1, d2] }
  | _ => none }
def SlabsPlaysWrongFalsely : Prop := slabsPlaysRow.holds Try.pinned (OpenSpec.ofChange slabsPlaysWrong)

/-- 'polderlaw19.SlabsLoads': WHATEVER THE INPUT: true; the input reads as it did. -/
def slabsLoadsSpec : ChangeSpec := { name := "slabsLoads", fn := fun _ => fun
  | [d1, d2] => { results := [.lit (.bool true)], args := [d1, d2] }
  | _ => none }
def slabsLoadsRow : OpenClaim := { program := "ytlknhbcambdccaa", sum := "5c21530a4e83eda7104943f43a6daa6ded8a7d8698d14a73a7134d6175c0b500", func := "polder/polderlaw19.SlabsLoads", spec := "slabsLoads", unfollowed := true, recurses := true, apart := false }
def SlabsLoadsSaid : Prop := slabsLoadsRow.holds Try.pinned (OpenSpec.ofChange slabsLoadsSpec)

/-- ITS FALSE NEIGHBOUR: 'it returns false'. Refute it at one input. -/
def slabsLoadsWrong : ChangeSpec := { name := "slabsLoads", fn := fun _ => fun
  | [d1, d2] => { results := [.lit (.bool false)], args := [d1, d2] }
  | _ => none }
def SlabsLoadsWrongFalsely : Prop := slabsLoadsRow.holds Try.pinned (OpenSpec.ofChange slabsLoadsWrong)

/- THE SECOND FORM. 'bulk': how many values and letters a reading holds, each counted each time it is reached (what is shared counts as often as it is met; a slice's spare places count too). A statement '..UptoSaid' is the law's where the arguments, and the package variables that the reading takes, are together of bulk at most 1048576: NARROWER than '..Said'. Prove '..Said' where nothing that the law and all that it calls make is longer than what came in: it says more and counts as full. Else prove '..UptoSaid'. A law counts once. -/
mutual
def uptoBulk {H : Type} : DataW H → Nat
  | .lit (.string bytes) => bytes.length + 1
  | .lit _ => 1
  | .nil => 1
  | .ptr d => uptoBulk d + 1
  | .slice elems spare => uptoBulkAll elems + uptoBulkAll spare + 1
  | .agg parts => uptoBulkAll parts + 1
  | .iface _ d => uptoBulk d + 1
  | .map entries => uptoBulkEntries entries + 1
  | .held _ => 1
def uptoBulkAll {H : Type} : List (DataW H) → Nat
  | [] => 0
  | d :: r => uptoBulk d + uptoBulkAll r
def uptoBulkEntries {H : Type} : List (Lit × DataW H) → Nat
  | [] => 0
  | x :: r => uptoBulkEntry x + uptoBulkEntries r
def uptoBulkEntry {H : Type} : Lit × DataW H → Nat
  | (.string bytes, d) => bytes.length + uptoBulk d + 1
  | (_, d) => uptoBulk d + 1
 end
def uptoSmall : (H : Type) → List (DataW H) → Bool := fun _ ds => decide (uptoBulkAll ds ≤ 1048576)
def OpenSpec.upto (s : _root_.Go.ChangeSpec) : _root_.Go.OpenSpec := { _root_.Go.OpenSpec.ofChange s with cond := some uptoSmall }

/-- 'polderlaw19.SlabsKnown', WHERE WHAT IT READS IS OF BULK AT MOST 1048576: true; the input reads as it did. -/
def slabsKnownUptoRow : OpenClaim := { program := "ytlknhbcambdccaa", sum := "5c21530a4e83eda7104943f43a6daa6ded8a7d8698d14a73a7134d6175c0b500", func := "polder/polderlaw19.SlabsKnown", spec := "slabsKnown", unfollowed := true, recurses := true, apart := false, narrowed := true }
def SlabsKnownUptoSaid : Prop := slabsKnownUptoRow.holds Try.pinned (OpenSpec.upto slabsKnownSpec)

/-- 'polderlaw19.SlabsBack', WHERE WHAT IT READS IS OF BULK AT MOST 1048576: true; the input reads as it did. -/
def slabsBackUptoRow : OpenClaim := { program := "ytlknhbcambdccaa", sum := "5c21530a4e83eda7104943f43a6daa6ded8a7d8698d14a73a7134d6175c0b500", func := "polder/polderlaw19.SlabsBack", spec := "slabsBack", unfollowed := true, recurses := true, apart := false, narrowed := true }
def SlabsBackUptoSaid : Prop := slabsBackUptoRow.holds Try.pinned (OpenSpec.upto slabsBackSpec)

/-- 'polderlaw19.SlabsDisjoint', WHERE WHAT IT READS IS OF BULK AT MOST 1048576: true; the input reads as it did. -/
def slabsDisjointUptoRow : OpenClaim := { program := "ytlknhbcambdccaa", sum := "5c21530a4e83eda7104943f43a6daa6ded8a7d8698d14a73a7134d6175c0b500", func := "polder/polderlaw19.SlabsDisjoint", spec := "slabsDisjoint", unfollowed := true, recurses := true, apart := false, narrowed := true }
def SlabsDisjointUptoSaid : Prop := slabsDisjointUptoRow.holds Try.pinned (OpenSpec.upto slabsDisjointSpec)

/-- 'polderlaw19.SlabsRefuses', WHERE WHAT IT READS IS OF BULK AT MOST 1048576: true; the input reads as it did. -/
def slabsRefusesUptoRow : OpenClaim := { program := "ytlknhbcambdccaa", sum := "5c21530a4e83eda7104943f43a6daa6ded8a7d8698d14a73a7134d6175c0b500", func := "polder/polderlaw19.SlabsRefuses", spec := "slabsRefuses", unfollowed := true, recurses := true, apart := false, narrowed := true }
def SlabsRefusesUptoSaid : Prop := slabsRefusesUptoRow.holds Try.pinned (OpenSpec.upto slabsRefusesSpec)

/-- 'polderlaw19.SlabsNone', WHERE WHAT IT READS IS OF BULK AT MOST 1048576: true; the input reads as it did. -/
def slabsNoneUptoRow : OpenClaim := { program := "ytlknhbcambdccaa", sum := "5c21530a4e83eda7104943f43a6daa6ded8a7d8698d14a73a7134d6175c0b500", func := "polder/polderlaw19.SlabsNone", spec := "slabsNone", unfollowed := true, recurses := true, apart := false, narrowed := true }
def SlabsNoneUptoSaid : Prop := slabsNoneUptoRow.holds Try.pinned (OpenSpec.upto slabsNoneSpec)

/-- 'polderlaw19.SlabsPlays', WHERE WHAT IT READS IS OF BULK AT MOST 1048576: true; the input reads as it did. -/
def slabsPlaysUptoRow : OpenClaim := { program := "ytlknhbcambdccaa", sum := "5c21530a4e83eda7104943f43a6daa6ded8a7d8698d14a73a7134d6175c0b500", func := "polder/polderlaw19.SlabsPlays", spec := "slabsPlays", unfollowed := true, recurses := true, apart := false, narrowed := true }
def SlabsPlaysUptoSaid : Prop := slabsPlaysUptoRow.holds Try.pinned (OpenSpec.upto slabsPlaysSpec)

/-- 'polderlaw19.SlabsLoads', WHERE WHAT IT READS IS OF BULK AT MOST 1048576: true; the input reads as it did. -/
def slabsLoadsUptoRow : OpenClaim := { program := "ytlknhbcambdccaa", sum := "5c21530a4e83eda7104943f43a6daa6ded8a7d8698d14a73a7134d6175c0b500", func := "polder/polderlaw19.SlabsLoads", spec := "slabsLoads", unfollowed := true, recurses := true, apart := false, narrowed := true }
def SlabsLoadsUptoSaid : Prop := slabsLoadsUptoRow.holds Try.pinned (OpenSpec.upto slabsLoadsSpec)

end Rows
end Go.Proofs.Ytlknhbcambdccaa
