/-
  No cell of these rows narrows 'for every input' (looked for: loops, veiled, ifaces, maps, wideKeys, modest, calm, conditions, laid).
  DERIVED. THE GIVEN ROWS OF THIS SEAT. 6 by the template 'for every input the law returns true; each argument reads behind the call as it read before'; 0 by the template 'total and deterministic' (their statements: YtllmddhahpegmaaTotals.lean).
  GIVEN WITH THE SEED: the statements are not yours to turn. If you find one false, say at which input.
  Laid BY PROGRAM, IN A SANDBOX (cutbox-rows.mjs): the forced cells as the released guide's own fill.sh prints them over the translation 8601f048ca2365ea… (all of the seat's roots in one cut). By AI agents, Wed Nov 11 2026. No macro, syntax, notation, axiom, sorry.
-/
import Derived.Test.YtllmddhahpegmaaChecked
import GoSem.Claim
import GoSem.ClaimJoined
import GoSem.ClaimMapViews
import Derived.JoinedTies
import Derived.KernelRfl
namespace Go.Proofs.Ytllmddhahpegmaa
/- THE CELL 'sum', in the pinned program and in every row, IS THE sha256 OF THE DUMP (.gsa) THAT YtllmddhahpegmaaProg.lean LOADS. Nothing in Lean hashes anything: it is a label: what it is worth is what the hold of that sum in a sandbox is worth. -/
noncomputable def Try.pinned : Pinned := { name := "ytllmddhahpegmaa", sum := "8601f048ca2365eacd62e72520f2f81e9888146590209e56f93ce994d5b20a88", checked := Try.checked }
namespace Rows
def none {H : Type} : Left H := { results := [], args := [] }

/-- 'polderlaw21.NestedApart': WHATEVER THE INPUT: true; the input reads as it did. -/
def nestedApartSpec : ChangeSpec := { name := "nestedApart", fn := fun _ => fun
  | [d1, d2] => { results := [.lit (.bool true)], args := [d1, d2] }
  | _ => none }
def nestedApartRow : OpenClaim := { program := "ytllmddhahpegmaa", sum := "8601f048ca2365eacd62e72520f2f81e9888146590209e56f93ce994d5b20a88", func := "polder/polderlaw21.NestedApart", spec := "nestedApart", unfollowed := true, recurses := true, apart := false }
def NestedApartSaid : Prop := nestedApartRow.holds Try.pinned (OpenSpec.ofChange nestedApartSpec)

/-- ITS FALSE NEIGHBOUR: 'it returns false'. Refute it at one input. -/
def nestedApartWrong : ChangeSpec := { name := "nestedApart", fn := fun _ => fun
  | [d1, d2] => { results := [.lit (.bool false)], args := [d1, d2] }
  | _ => none }
def NestedApartWrongFalsely : Prop := nestedApartRow.holds Try.pinned (OpenSpec.ofChange nestedApartWrong)

/-- 'polderlaw21.NestedKnown': WHATEVER THE INPUT: true; the input reads as it did. -/
def nestedKnownSpec : ChangeSpec := { name := "nestedKnown", fn := fun _ => fun
  | [] => { results := [.lit (.bool true)], args := [] }
  | _ => none }
def nestedKnownRow : OpenClaim := { program := "ytllmddhahpegmaa", sum := "8601f048ca2365eacd62e72520f2f81e9888146590209e56f93ce994d5b20a88", func := "polder/polderlaw21.NestedKnown", spec := "nestedKnown", unfollowed := true, recurses := true, apart := false }
def NestedKnownSaid : Prop := nestedKnownRow.holds Try.pinned (OpenSpec.ofChange nestedKnownSpec)

/-- ITS FALSE NEIGHBOUR: 'it returns false'. Refute it at one input. -/
def nestedKnownWrong : ChangeSpec := { name := "nestedKnown", fn := fun _ => fun
  | [] => { results := [.lit (.bool false)], args := [] }
  | _ => none }
def NestedKnownWrongFalsely : Prop := nestedKnownRow.holds Try.pinned (OpenSpec.ofChange nestedKnownWrong)

/-- 'polderlaw21.NestedRewinds': WHATEVER THE INPUT: true; the input reads as it did. -/
def nestedRewindsSpec : ChangeSpec := { name := "nestedRewinds", fn := fun _ => fun
  | [d1, d2, d3] => { results := [.lit (.bool true)], args := [d1, d2, d3] }
  | _ => none }
def nestedRewindsRow : OpenClaim := { program := "ytllmddhahpegmaa", sum := "8601f048ca2365eacd62e72520f2f81e9888146590209e56f93ce994d5b20a88", func := "polder/polderlaw21.NestedRewinds", spec := "nestedRewinds", unfollowed := true, recurses := true, apart := false }
def NestedRewindsSaid : Prop := nestedRewindsRow.holds Try.pinned (OpenSpec.ofChange nestedRewindsSpec)

/-- ITS FALSE NEIGHBOUR: 'it returns false'. Refute it at one input. -/
def nestedRewindsWrong : ChangeSpec := { name := "nestedRewinds", fn := fun _ => fun
  | [d1, d2, d3] => { results := [.lit (.bool false)], args := [d1, d2, d3] }
  | _ => none }
def NestedRewindsWrongFalsely : Prop := nestedRewindsRow.holds Try.pinned (OpenSpec.ofChange nestedRewindsWrong)

/-- 'polderlaw21.NestedRoom': WHATEVER THE INPUT: true; the input reads as it did. -/
def nestedRoomSpec : ChangeSpec := { name := "nestedRoom", fn := fun _ => fun
  | [d1, d2, d3] => { results := [.lit (.bool true)], args := [d1, d2, d3] }
  | _ => none }
def nestedRoomRow : OpenClaim := { program := "ytllmddhahpegmaa", sum := "8601f048ca2365eacd62e72520f2f81e9888146590209e56f93ce994d5b20a88", func := "polder/polderlaw21.NestedRoom", spec := "nestedRoom", unfollowed := true, recurses := true, apart := false }
def NestedRoomSaid : Prop := nestedRoomRow.holds Try.pinned (OpenSpec.ofChange nestedRoomSpec)

/-- ITS FALSE NEIGHBOUR: 'it returns false'. Refute it at one input. -/
def nestedRoomWrong : ChangeSpec := { name := "nestedRoom", fn := fun _ => fun
  | [d1, d2, d3] => { results := [.lit (.bool false)], args := [d1, d2, d3] }
  | _ => none }
def NestedRoomWrongFalsely : Prop := nestedRoomRow.holds Try.pinned (OpenSpec.ofChange nestedRoomWrong)

/-- 'polderlaw21.NestedEnds': WHATEVER THE INPUT: true; the input reads as it did. -/
def nestedEndsSpec : ChangeSpec := { name := "nestedEnds", fn := fun _ => fun
  | [d1, d2, d3] => { results := [.lit (.bool true)], args := [d1, d2, d3] }
  | _ => none }
def nestedEndsRow : OpenClaim := { program := "ytllmddhahpegmaa", sum := "8601f048ca2365eacd62e72520f2f81e9888146590209e56f93ce994d5b20a88", func := "polder/polderlaw21.NestedEnds", spec := "nestedEnds", unfollowed := true, recurses := true, apart := false }
def NestedEndsSaid : Prop := nestedEndsRow.holds Try.pinned (OpenSpec.ofChange nestedEndsSpec)

/-- ITS FALSE NEIGHBOUR: 'it returns false'. Refute it at one input. -/
def nestedEndsWrong : ChangeSpec := { name := "nestedEnds", fn := fun _ => fun
  | [d1, d2, d3] => { results := [.lit (.bool false)], args := [d1, d2, d3] }
  | _ => none }
def NestedEndsWrongFalsely : Prop := nestedEndsRow.holds Try.pinned (OpenSpec.ofChange nestedEndsWrong)

/-- 'polderlaw21.NestedPlays': WHATEVER THE INPUT: true; the input reads as it did. -/
def nestedPlaysSpec : ChangeSpec := { name := "nestedPlays", fn := fun _ => fun
  | [d1, d2] => { results := [.lit (.bool true)], args := [d1, d2] }
  | _ => none }
def nestedPlaysRow : OpenClaim := { program := "ytllmddhahpegmaa", sum := "8601f048ca2365eacd62e72520f2f81e9888146590209e56f93ce994d5b20a88", func := "polder/polderlaw21.NestedPlays", spec := "nestedPlays", unfollowed := true, recurses := true, apart := false }
def NestedPlaysSaid : Prop := nestedPlaysRow.holds Try.pinned (OpenSpec.ofChange nestedPlaysSpec)

/-- ITS FALSE NEIGHBOUR: 'it returns false'. Refute it at one input. -/
def nestedPlaysWrong : ChangeSpec := { name := "nestedPlays", fn := fun _ => fun
  | [d1, d2] => { results := [.lit (.bool false)], args := [d1, d2] }
  | _ => none }
def NestedPlaysWrongFalsely : Prop := nestedPlaysRow.holds Try.pinned (OpenSpec.ofChange nestedPlaysWrong)

/- THE SECOND FORM. 'bulk': how many values and letters a reading holds, each counted each time it is reached (what is shared counts as often as it is met; a slice's spare places count too). A statement '..UptoSaid' is the law's where the arguments, and the package variables that the reading takes, are together of bulk at most 1048576: NARROWER than '..Said'. Prove '..Said' where nothing that the law and all that it calls make is longer than what came in: it says more and counts as full. Else prove '..UptoSaid'. A law counts once. -/
mutual
def uptoBulk {H : Type} : DataW H → Nat
  | .lit (.string bytes) => bytes.length + 1
  | .lit _ => 1
  | .nil => 1
  | .ptr d => uptoBulk d + 1
  | .slice elems spare => uptoBulkAll elems + uptoBulkAll spare + 1
  | .agg parts => uptoBulkAll parts + 1
  | .iface _ d => uptoBulk d + 1
  | .map entries => uptoBulkEntries entries + 1
  | .held _ => 1
def uptoBulkAll {H : Type} : List (DataW H) → Nat
  | [] => 0
  | d :: r => uptoBulk d + uptoBulkAll r
def uptoBulkEntries {H : Type} : List (Lit × DataW H) → Nat
  | [] => 0
  | x :: r => uptoBulkEntry x + uptoBulkEntries r
def uptoBulkEntry {H : Type} : Lit × DataW H → Nat
  | (.string bytes, d) => bytes.length + uptoBulk d + 1
  | (_, d) => uptoBulk d + 1
 end
def uptoSmall : (H : Type) → List (DataW H) → Bool := fun _ ds => decide (uptoBulkAll ds ≤ 1048576)
def OpenSpec.upto (s : _root_.Go.ChangeSpec) : _root_.Go.OpenSpec := { _root_.Go.OpenSpec.ofChange s with cond := some uptoSmall }

/-- 'polderlaw21.NestedApart', WHERE WHAT IT READS IS OF BULK AT MOST 1048576: true; the input reads as it did. -/
def nestedApartUptoRow : OpenClaim := { program := "ytllmddhahpegmaa", sum := "8601f048ca2365eacd62e72520f2f81e9888146590209e56f93ce994d5b20a88", func := "polder/polderlaw21.NestedApart", spec := "nestedApart", unfollowed := true, recurses := true, apart := false, narrowed := true }
def NestedApartUptoSaid : Prop := nestedApartUptoRow.holds Try.pinned (OpenSpec.upto nestedApartSpec)

/-- 'polderlaw21.NestedKnown', WHERE WHAT IT READS IS OF BULK AT MOST 1048576: true; the input reads as it did. -/
def nestedKnownUptoRow : OpenClaim := { program := "ytllmddhahpegmaa", sum := "8601f048ca2365eacd62e72520f2f81e9888146590209e56f93ce994d5b20a88", func := "polder/polderlaw21.NestedKnown", spec := "nestedKnown", unfollowed := true, recurses := true, apart := false, narrowed := true }
def NestedKnownUptoSaid : Prop := nestedKnownUptoRow.holds Try.pinned (OpenSpec.upto nestedKnownSpec)

/-- 'polderlaw21.NestedRewinds', WHERE WHAT IT READS IS OF BULK AT MOST 1048576: true; the input reads as it did. -/
def nestedRewindsUptoRow : OpenClaim := { program := "ytllmddhahpegmaa", sum := "8601f048ca2365eacd62e72520f2f81e9888146590209e56f93ce994d5b20a88", func := "polder/polderlaw21.NestedRewinds", spec := "nestedRewinds", unfollowed := true, recurses := true, apart := false, narrowed := true }
def NestedRewindsUptoSaid : Prop := nestedRewindsUptoRow.holds Try.pinned (OpenSpec.upto nestedRewindsSpec)

/-- 'polderlaw21.NestedRoom', WHERE WHAT IT READS IS OF BULK AT MOST 1048576: true; the input reads as it did. -/
def nestedRoomUptoRow : OpenClaim := { program := "ytllmddhahpegmaa", sum := "8601f048ca2365eacd62e72520f2f81e9888146590209e56f93ce994d5b20a88", func := "polder/polderlaw21.NestedRoom", spec := "nestedRoom", unfollowed := true, recurses := true, apart := false, narrowed := true }
def NestedRoomUptoSaid : Prop := nestedRoomUptoRow.holds Try.pinned (OpenSpec.upto nestedRoomSpec)

/-- 'polderlaw21.NestedEnds', WHERE WHAT IT READS IS OF BULK AT MOST 1048576: true; the input reads as it did. -/
def nestedEndsUptoRow : OpenClaim := { program := "ytllmddhahpegmaa", sum := "8601f048ca2365eacd62e72520f2f81e9888146590209e56f93ce994d5b20a88", func := "polder/polderlaw21.NestedEnds", spec := "nestedEnds", unfollowed := true, recurses := true, apart := false, narrowed := true }
def NestedEndsUptoSaid : Prop := nestedEndsUptoRow.holds Try.pinned (OpenSpec.upto nestedEndsSpec)

/-- 'polderlaw21.NestedPlays', WHERE WHAT IT READS IS OF BULK AT MOST 1048576: true; the input reads as it did. -/
def nestedPlaysUptoRow : OpenClaim := { program := "ytllmddhahpegmaa", sum := "8601f048ca2365eacd62e72520f2f81e9888146590209e56f93ce994d5b20a88", func := "polder/polderlaw21.NestedPlays", spec := "nestedPlays", unfollowed := true, recurses := true, apart := false, narrowed := true }
def NestedPlaysUptoSaid : Prop := nestedPlaysUptoRow.holds Try.pinned (OpenSpec.upto nestedPlaysSpec)

end Rows
end Go.Proofs.Ytllmddhahpegmaa
