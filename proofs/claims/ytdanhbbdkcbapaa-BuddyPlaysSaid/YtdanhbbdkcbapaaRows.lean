/-
  No cell of these rows narrows 'for every input' (looked for: loops, veiled, ifaces, maps, wideKeys, modest, calm, conditions, laid).
  DERIVED. THE GIVEN ROWS OF THIS SEAT. 7 by the template 'for every input the law returns true; each argument reads behind the call as it read before'; 0 by the template 'total and deterministic' (their statements: YtdanhbbdkcbapaaTotals.lean).
  GIVEN WITH THE SEED: the statements are not yours to turn. If you find one false, say at which input.
  Laid BY PROGRAM, IN A SANDBOX (cutbox-rows.mjs): the forced cells as the released guide's own fill.sh prints them over the translation 65664e3a94f57836… (all of the seat's roots in one cut). By AI agents, Wed Nov 11 2026. No macro, syntax, notation, axiom, sorry.
-/
import Derived.Test.YtdanhbbdkcbapaaChecked
import GoSem.Claim
import GoSem.ClaimJoined
import GoSem.ClaimMapViews
import Derived.JoinedTies
import Derived.KernelRfl
namespace Go.Proofs.Ytdanhbbdkcbapaa
/- THE CELL 'sum', in the pinned program and in every row, IS THE sha256 OF THE DUMP (.gsa) THAT YtdanhbbdkcbapaaProg.lean LOADS. Nothing in Lean hashes anything: it is a label: what it is worth is what the hold of that sum in a sandbox is worth. -/
noncomputable def Try.pinned : Pinned := { name := "ytdanhbbdkcbapaa", sum := "65664e3a94f578361fea6168ea3f9bb4bbbf64ada46bcec4521d69e11ded599d", checked := Try.checked }
namespace Rows
def none {H : Type} : Left H := { results := [], args := [] }

/-- 'polderlaw08.BuddyExactly': WHATEVER THE INPUT: true; the input reads as it did. -/
def buddyExactlySpec : ChangeSpec := { name := "buddyExactly", fn := fun _ => fun
  | [d1, d2] => { results := [.lit (.bool true)], args := [d1, d2] }
  | _ => none }
def buddyExactlyRow : OpenClaim := { program := "ytdanhbbdkcbapaa", sum := "65664e3a94f578361fea6168ea3f9bb4bbbf64ada46bcec4521d69e11ded599d", func := "polder/polderlaw08.BuddyExactly", spec := "buddyExactly", unfollowed := true, recurses := true, apart := false }
def BuddyExactlySaid : Prop := buddyExactlyRow.holds Try.pinned (OpenSpec.ofChange buddyExactlySpec)

/-- ITS FALSE NEIGHBOUR: 'it returns false'. Refute it at one input. -/
def buddyExactlyWrong : ChangeSpec := { name := "buddyExactly", fn := fun _ => fun
  | [d1, d2] => { results := [.lit (.bool false)], args := [d1, d2] }
  | _ => none }
def BuddyExactlyWrongFalsely : Prop := buddyExactlyRow.holds Try.pinned (OpenSpec.ofChange buddyExactlyWrong)

/-- 'polderlaw08.BuddyRoom': WHATEVER THE INPUT: true; the input reads as it did. -/
def buddyRoomSpec : ChangeSpec := { name := "buddyRoom", fn := fun _ => fun
  | [d1, d2] => { results := [.lit (.bool true)], args := [d1, d2] }
  | _ => none }
def buddyRoomRow : OpenClaim := { program := "ytdanhbbdkcbapaa", sum := "65664e3a94f578361fea6168ea3f9bb4bbbf64ada46bcec4521d69e11ded599d", func := "polder/polderlaw08.BuddyRoom", spec := "buddyRoom", unfollowed := true, recurses := true, apart := false }
def BuddyRoomSaid : Prop := buddyRoomRow.holds Try.pinned (OpenSpec.ofChange buddyRoomSpec)

/-- ITS FALSE NEIGHBOUR: 'it returns false'. Refute it at one input. -/
def buddyRoomWrong : ChangeSpec := { name := "buddyRoom", fn := fun _ => fun
  | [d1, d2] => { results := [.lit (.bool false)], args := [d1, d2] }
  | _ => none }
def BuddyRoomWrongFalsely : Prop := buddyRoomRow.holds Try.pinned (OpenSpec.ofChange buddyRoomWrong)

/-- 'polderlaw08.BuddyLoads': WHATEVER THE INPUT: true; the input reads as it did. -/
def buddyLoadsSpec : ChangeSpec := { name := "buddyLoads", fn := fun _ => fun
  | [d] => { results := [.lit (.bool true)], args := [d] }
  | _ => none }
def buddyLoadsRow : OpenClaim := { program := "ytdanhbbdkcbapaa", sum := "65664e3a94f578361fea6168ea3f9bb4bbbf64ada46bcec4521d69e11ded599d", func := "polder/polderlaw08.BuddyLoads", spec := "buddyLoads", unfollowed := true, recurses := true, apart := false }
def BuddyLoadsSaid : Prop := buddyLoadsRow.holds Try.pinned (OpenSpec.ofChange buddyLoadsSpec)

/-- ITS FALSE NEIGHBOUR: 'it returns false'. Refute it at one input. -/
def buddyLoadsWrong : ChangeSpec := { name := "buddyLoads", fn := fun _ => fun
  | [d] => { results := [.lit (.bool false)], args := [d] }
  | _ => none }
def BuddyLoadsWrongFalsely : Prop := buddyLoadsRow.holds Try.pinned (OpenSpec.ofChange buddyLoadsWrong)

/-- 'polderlaw08.BuddyBack': WHATEVER THE INPUT: true; the input reads as it did. -/
def buddyBackSpec : ChangeSpec := { name := "buddyBack", fn := fun _ => fun
  | [d1, d2, d3] => { results := [.lit (.bool true)], args := [d1, d2, d3] }
  | _ => none }
def buddyBackRow : OpenClaim := { program := "ytdanhbbdkcbapaa", sum := "65664e3a94f578361fea6168ea3f9bb4bbbf64ada46bcec4521d69e11ded599d", func := "polder/polderlaw08.BuddyBack", spec := "buddyBack", unfollowed := true, recurses := true, apart := false }
def BuddyBackSaid : Prop := buddyBackRow.holds Try.pinned (OpenSpec.ofChange buddyBackSpec)

/-- ITS FALSE NEIGHBOUR: 'it returns false'. Refute it at one input. -/
def buddyBackWrong : ChangeSpec := { name := "buddyBack", fn := fun _ => fun
  | [d1, d2, d3] => { results := [.lit (.bool false)], args := [d1, d2, d3] }
  | _ => none }
def BuddyBackWrongFalsely : Prop := buddyBackRow.holds Try.pinned (OpenSpec.ofChange buddyBackWrong)

/-- 'polderlaw08.BuddyParts': WHATEVER THE INPUT: true; the input reads as it did. -/
def buddyPartsSpec : ChangeSpec := { name := "buddyParts", fn := fun _ => fun
  | [d1, d2] => { results := [.lit (.bool true)], args := [d1, d2] }
  | _ => none }
def buddyPartsRow : OpenClaim := { program := "ytdanhbbdkcbapaa", sum := "65664e3a94f578361fea6168ea3f9bb4bbbf64ada46bcec4521d69e11ded599d", func := "polder/polderlaw08.BuddyParts", spec := "buddyParts", unfollowed := true, recurses := true, apart := false }
def BuddyPartsSaid : Prop := buddyPartsRow.holds Try.pinned (OpenSpec.ofChange buddyPartsSpec)

/-- ITS FALSE NEIGHBOUR: 'it returns false'. Refute it at one input. -/
def buddyPartsWrong : ChangeSpec := { name := "buddyParts", fn := fun _ => fun
  | [d1, d2] => { results := [.lit (.bool false)], args := [d1, d2] }
  | _ => none }
def BuddyPartsWrongFalsely : Prop := buddyPartsRow.holds Try.pinned (OpenSpec.ofChange buddyPartsWrong)

/-- 'polderlaw08.BuddyNone': WHATEVER THE INPUT: true; the input reads as it did. -/
def buddyNoneSpec : ChangeSpec := { name := "buddyNone", fn := fun _ => fun
  | [d1, d2] => { results := [.lit (.bool true)], args := [d1, d2] }
  | _ => none }
def buddyNoneRow : OpenClaim := { program := "ytdanhbbdkcbapaa", sum := "65664e3a94f578361fea6168ea3f9bb4bbbf64ada46bcec4521d69e11ded599d", func := "polder/polderlaw08.BuddyNone", spec := "buddyNone", unfollowed := true, recurses := true, apart := false }
def BuddyNoneSaid : Prop := buddyNoneRow.holds Try.pinned (OpenSpec.ofChange buddyNoneSpec)

/-- ITS FALSE NEIGHBOUR: 'it returns false'. Refute it at one input. -/
def buddyNoneWrong : ChangeSpec := { name := "buddyNone", fn := fun _ => fun
  | [d1, d2] => { results := [.lit (.bool false)], args := [d1, d2] }
  | _ => none }
def BuddyNoneWrongFalsely : Prop := buddyNoneRow.holds Try.pinned (OpenSpec.ofChange buddyNoneWrong)

/-- 'polderlaw08.BuddyPlays': WHATEVER THE INPUT: true; the input reads as it did. -/
def buddyPlaysSpec : ChangeSpec := { name := "buddyPlays", fn := fun _ => fun
  | [d1, d2] => { results := [.lit (.bool true)], args := [d1, d2] }
  | _ => none }
def buddyPlaysRow : OpenClaim := { program := "ytdanhbbdkcbapaa", sum := "65664e3a94f578361fea6168ea3f9bb4bbbf64ada46bcec4521d69e11ded599d", func := "polder/polderlaw08.BuddyPlays", spec := "buddyPlays", unfollowed := true, recurses := true, apart := false }
def BuddyPlaysSaid : Prop := buddyPlaysRow.holds Try.pinned (OpenSpec.ofChange buddyPlaysSpec)

/-- ITS FALSE NEIGHBOUR: 'it returns false'. Refute it at one input. -/
def buddyPlaysWrong : ChangeSpec := { name := "buddyPlays", fn := fun _ => fun
  | [d1, d2] => { results := [.lit (.bool false)], args := [d1, d2] }
  | _ => none }
def BuddyPlaysWrongFalsely : Prop := buddyPlaysRow.holds Try.pinned (OpenSpec.ofChange buddyPlaysWrong)

/- THE SECOND FORM. 'bulk': how many values and letters a reading holds, each counted each time it is reached (what is shared counts as often as it is met; a slice's spare places count too). A statement '..UptoSaid' is the law's where the arguments, and the package variables that the reading takes, are together of bulk at most 1048576: NARROWER than '..Said'. Prove '..Said' where nothing that the law and all that it calls make is longer than what came in: it says more and counts as full. Else prove '..UptoSaid'. A law counts once. -/
mutual
def uptoBulk {H : Type} : DataW H → Nat
  | .lit (.string bytes) => bytes.length + 1
  | .lit _ => 1
  | .nil => 1
  | .ptr d => uptoBulk d + 1
  | .slice elems spare => uptoBulkAll elems + uptoBulkAll spare + 1
  | .agg parts => uptoBulkAll parts + 1
  | .iface _ d => uptoBulk d + 1
  | .map entries => uptoBulkEntries entries + 1
  | .held _ => 1
def uptoBulkAll {H : Type} : List (DataW H) → Nat
  | [] => 0
  | d :: r => uptoBulk d + uptoBulkAll r
def uptoBulkEntries {H : Type} : List (Lit × DataW H) → Nat
  | [] => 0
  | x :: r => uptoBulkEntry x + uptoBulkEntries r
def uptoBulkEntry {H : Type} : Lit × DataW H → Nat
  | (.string bytes, d) => bytes.length + uptoBulk d + 1
  | (_, d) => uptoBulk d + 1
 end
def uptoSmall : (H : Type) → List (DataW H) → Bool := fun _ ds => decide (uptoBulkAll ds ≤ 1048576)
def OpenSpec.upto (s : _root_.Go.ChangeSpec) : _root_.Go.OpenSpec := { _root_.Go.OpenSpec.ofChange s with cond := some uptoSmall }

/-- 'polderlaw08.BuddyExactly', WHERE WHAT IT READS IS OF BULK AT MOST 1048576: true; the input reads as it did. -/
def buddyExactlyUptoRow : OpenClaim := { program := "ytdanhbbdkcbapaa", sum := "65664e3a94f578361fea6168ea3f9bb4bbbf64ada46bcec4521d69e11ded599d", func := "polder/polderlaw08.BuddyExactly", spec := "buddyExactly", unfollowed := true, recurses := true, apart := false, narrowed := true }
def BuddyExactlyUptoSaid : Prop := buddyExactlyUptoRow.holds Try.pinned (OpenSpec.upto buddyExactlySpec)

/-- 'polderlaw08.BuddyRoom', WHERE WHAT IT READS IS OF BULK AT MOST 1048576: true; the input reads as it did. -/
def buddyRoomUptoRow : OpenClaim := { program := "ytdanhbbdkcbapaa", sum := "65664e3a94f578361fea6168ea3f9bb4bbbf64ada46bcec4521d69e11ded599d", func := "polder/polderlaw08.BuddyRoom", spec := "buddyRoom", unfollowed := true, recurses := true, apart := false, narrowed := true }
def BuddyRoomUptoSaid : Prop := buddyRoomUptoRow.holds Try.pinned (OpenSpec.upto buddyRoomSpec)

/-- 'polderlaw08.BuddyLoads', WHERE WHAT IT READS IS OF BULK AT MOST 1048576: true; the input reads as it did. -/
def buddyLoadsUptoRow : OpenClaim := { program := "ytdanhbbdkcbapaa", sum := "65664e3a94f578361fea6168ea3f9bb4bbbf64ada46bcec4521d69e11ded599d", func := "polder/polderlaw08.BuddyLoads", spec := "buddyLoads", unfollowed := true, recurses := true, apart := false, narrowed := true }
def BuddyLoadsUptoSaid : Prop := buddyLoadsUptoRow.holds Try.pinned (OpenSpec.upto buddyLoadsSpec)

/-- 'polderlaw08.BuddyBack', WHERE WHAT IT READS IS OF BULK AT MOST 1048576: true; the input reads as it did. -/
def buddyBackUptoRow : OpenClaim := { program := "ytdanhbbdkcbapaa", sum := "65664e3a94f578361fea6168ea3f9bb4bbbf64ada46bcec4521d69e11ded599d", func := "polder/polderlaw08.BuddyBack", spec := "buddyBack", unfollowed := true, recurses := true, apart := false, narrowed := true }
def BuddyBackUptoSaid : Prop := buddyBackUptoRow.holds Try.pinned (OpenSpec.upto buddyBackSpec)

/-- 'polderlaw08.BuddyParts', WHERE WHAT IT READS IS OF BULK AT MOST 1048576: true; the input reads as it did. -/
def buddyPartsUptoRow : OpenClaim := { program := "ytdanhbbdkcbapaa", sum := "65664e3a94f578361fea6168ea3f9bb4bbbf64ada46bcec4521d69e11ded599d", func := "polder/polderlaw08.BuddyParts", spec := "buddyParts", unfollowed := true, recurses := true, apart := false, narrowed := true }
def BuddyPartsUptoSaid : Prop := buddyPartsUptoRow.holds Try.pinned (OpenSpec.upto buddyPartsSpec)

/-- 'polderlaw08.BuddyNone', WHERE WHAT IT READS IS OF BULK AT MOST 1048576: true; the input reads as it did. -/
def buddyNoneUptoRow : OpenClaim := { program := "ytdanhbbdkcbapaa", sum := "65664e3a94f578361fea6168ea3f9bb4bbbf64ada46bcec4521d69e11ded599d", func := "polder/polderlaw08.BuddyNone", spec := "buddyNone", unfollowed := true, recurses := true, apart := false, narrowed := true }
def BuddyNoneUptoSaid : Prop := buddyNoneUptoRow.holds Try.pinned (OpenSpec.upto buddyNoneSpec)

/-- 'polderlaw08.BuddyPlays', WHERE WHAT IT READS IS OF BULK AT MOST 1048576: true; the input reads as it did. -/
def buddyPlaysUptoRow : OpenClaim := { program := "ytdanhbbdkcbapaa", sum := "65664e3a94f578361fea6168ea3f9bb4bbbf64ada46bcec4521d69e11ded599d", func := "polder/polderlaw08.BuddyPlays", spec := "buddyPlays", unfollowed := true, recurses := true, apart := false, narrowed := true }
def BuddyPlaysUptoSaid : Prop := buddyPlaysUptoRow.holds Try.pinned (OpenSpec.upto buddyPlaysSpec)

end Rows
end Go.Proofs.Ytdanhbbdkcbapaa
