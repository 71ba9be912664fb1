/-
  NARROWER THAN 'FOR EVERY INPUT', by the rows' own cells (each row's printed sentence says how): StatsAreas: laid · StatsEnvelopes: laid · StatsCovers: laid · StatsPeaks: laid · StatsParts: laid · StatsQuantiles: laid · StatsValues: laid · StatsKnown: laid.
  DERIVED. THE GIVEN ROWS OF THIS SEAT. 8 by the template 'for every input the law returns true; each argument reads behind the call as it read before'; 0 by the template 'total and deterministic' (their statements: YtionocafkaemiaaDoorTotals.lean).
  GIVEN WITH THE SEED: the statements are not yours to turn. If you find one false, say at which input.
  Laid BY PROGRAM, IN A SANDBOX (cutbox-rows.mjs): the forced cells as the released guide's own fill.sh prints them over the translation 518a696bce92c7be… (all of the seat's roots in one cut). By AI agents, Wed Nov 11 2026. No macro, syntax, notation, axiom, sorry.
-/
import Derived.Test.YtionocafkaemiaaDoorChecked
import GoSem.Claim
import GoSem.ClaimJoined
import GoSem.ClaimMapViews
import Derived.JoinedTies
import Derived.KernelRfl
namespace Go.Proofs.YtionocafkaemiaaDoor
/- THE CELL 'sum', in the pinned program and in every row, IS THE sha256 OF THE DUMP (.gsa) THAT YtionocafkaemiaaDoorProg.lean LOADS. Nothing in Lean hashes anything: it is a label: what it is worth is what the hold of that sum in a sandbox is worth. -/
noncomputable def Tryd.pinned : Pinned := { name := "ytionocafkaemiaadoor", sum := "518a696bce92c7bea5f564353ba5f9851ce13ab78e576f27b6f76d16373f5a2a", checked := Tryd.checked }
namespace Rows
def none {H : Type} : Left H := { results := [], args := [] }

/- WHAT THE LISTED PACKAGE-LEVEL VARIABLES READ AS WHEN THE CALL BEGINS. Each datum BY PROGRAM (the guide's laid-datum.mjs) off the statement by which the dump's own 'gosem.cut.vars' lays the variable. In a bare row this is a premise. The card (YtionocafkaemiaaDoorCards.lean) ties it to the program's text. -/
def laid_math_bits_deBruijn32tab {H : Type} : DataW H := .agg [.lit (.int .u8 0), .lit (.int .u8 1), .lit (.int .u8 28), .lit (.int .u8 2), .lit (.int .u8 29), .lit (.int .u8 14), .lit (.int .u8 24), .lit (.int .u8 3), .lit (.int .u8 30), .lit (.int .u8 22), .lit (.int .u8 20), .lit (.int .u8 15), .lit (.int .u8 25), .lit (.int .u8 17), .lit (.int .u8 4), .lit (.int .u8 8), .lit (.int .u8 31), .lit (.int .u8 27), .lit (.int .u8 13), .lit (.int .u8 23), .lit (.int .u8 21), .lit (.int .u8 19), .lit (.int .u8 16), .lit (.int .u8 7), .lit (.int .u8 26), .lit (.int .u8 12), .lit (.int .u8 18), .lit (.int .u8 6), .lit (.int .u8 11), .lit (.int .u8 5), .lit (.int .u8 10), .lit (.int .u8 9)]
def laid_math_bits_deBruijn64tab {H : Type} : DataW H := .agg [.lit (.int .u8 0), .lit (.int .u8 1), .lit (.int .u8 56), .lit (.int .u8 2), .lit (.int .u8 57), .lit (.int .u8 49), .lit (.int .u8 28), .lit (.int .u8 3), .lit (.int .u8 61), .lit (.int .u8 58), .lit (.int .u8 42), .lit (.int .u8 50), .lit (.int .u8 38), .lit (.int .u8 29), .lit (.int .u8 17), .lit (.int .u8 4), .lit (.int .u8 62), .lit (.int .u8 47), .lit (.int .u8 59), .lit (.int .u8 36), .lit (.int .u8 45), .lit (.int .u8 43), .lit (.int .u8 51), .lit (.int .u8 22), .lit (.int .u8 53), .lit (.int .u8 39), .lit (.int .u8 33), .lit (.int .u8 30), .lit (.int .u8 24), .lit (.int .u8 18), .lit (.int .u8 12), .lit (.int .u8 5), .lit (.int .u8 63), .lit (.int .u8 55), .lit (.int .u8 48), .lit (.int .u8 27), .lit (.int .u8 60), .lit (.int .u8 41), .lit (.int .u8 37), .lit (.int .u8 16), .lit (.int .u8 46), .lit (.int .u8 35), .lit (.int .u8 44), .lit (.int .u8 21), .lit (.int .u8 52), .lit (.int .u8 32), .lit (.int .u8 23), .lit (.int .u8 11), .lit (.int .u8 54), .lit (.int .u8 26), .lit (.int .u8 40), .lit (.int .u8 15), .lit (.int .u8 34), .lit (.int .u8 20), .lit (.int .u8 31), .lit (.int .u8 10), .lit (.int .u8 25), .lit (.int .u8 14), .lit (.int .u8 19), .lit (.int .u8 9), .lit (.int .u8 13), .lit (.int .u8 8), .lit (.int .u8 7), .lit (.int .u8 6)]
def laid_internal_strconv_uint64pow10 {H : Type} : DataW H := .agg [.lit (.int .u64 1), .lit (.int .u64 10), .lit (.int .u64 100), .lit (.int .u64 1000), .lit (.int .u64 10000), .lit (.int .u64 100000), .lit (.int .u64 1000000), .lit (.int .u64 10000000), .lit (.int .u64 100000000), .lit (.int .u64 1000000000), .lit (.int .u64 10000000000), .lit (.int .u64 100000000000), .lit (.int .u64 1000000000000), .lit (.int .u64 10000000000000), .lit (.int .u64 100000000000000), .lit (.int .u64 1000000000000000), .lit (.int .u64 10000000000000000), .lit (.int .u64 100000000000000000), .lit (.int .u64 1000000000000000000), .lit (.int .u64 10000000000000000000)]

/-- 'polderlaw30.StatsAreas': WHATEVER THE INPUT: true; the input reads as it did. -/
def statsAreasSpec : ChangeSpec := { name := "statsAreas", fn := fun _ => fun
  | [d1, d2, d3] => { results := [.lit (.bool true)], args := [d1, d2, d3] }
  | _ => none }
def statsAreasRow : OpenClaim := { program := "ytionocafkaemiaadoor", sum := "518a696bce92c7bea5f564353ba5f9851ce13ab78e576f27b6f76d16373f5a2a", func := "polder/polderlaw30.StatsAreas", spec := "statsAreas", inPlace := ["internal/abi.NoEscape", "math/bits.Add64"], unfollowed := true, recurses := true, named := ["math/bits.divideError", "math/bits.overflowError", "internal/strconv.uint64pow10", "math/bits.deBruijn32tab", "math/bits.deBruijn64tab"], apart := false, laid := [("math/bits.deBruijn32tab", laid_math_bits_deBruijn32tab), ("math/bits.deBruijn64tab", laid_math_bits_deBruijn64tab), ("internal/strconv.uint64pow10", laid_internal_strconv_uint64pow10)] }
def StatsAreasSaid : Prop := statsAreasRow.holds Tryd.pinned (OpenSpec.ofChange statsAreasSpec)

/-- ITS FALSE NEIGHBOUR: 'it returns false'. Refute it at one input. -/
def statsAreasWrong : ChangeSpec := { name := "statsAreas", fn := fun _ => fun
  | [d1, d2, d3] => { results := [.lit (.bool false)], args := [d1, d2, d3] }
  | _ => none }
def StatsAreasWrongFalsely : Prop := statsAreasRow.holds Tryd.pinned (OpenSpec.ofChange statsAreasWrong)

/-- 'polderlaw30.StatsEnvelopes': WHATEVER THE INPUT: true; the input reads as it did. -/
def statsEnvelopesSpec : ChangeSpec := { name := "statsEnvelopes", fn := fun _ => fun
  | [d1, d2, d3] => { results := [.lit (.bool true)], args := [d1, d2, d3] }
  | _ => none }
def statsEnvelopesRow : OpenClaim := { program := "ytionocafkaemiaadoor", sum := "518a696bce92c7bea5f564353ba5f9851ce13ab78e576f27b6f76d16373f5a2a", func := "polder/polderlaw30.StatsEnvelopes", spec := "statsEnvelopes", inPlace := ["internal/abi.NoEscape", "math/bits.Add64"], unfollowed := true, recurses := true, named := ["math/bits.divideError", "math/bits.overflowError", "internal/strconv.uint64pow10", "math/bits.deBruijn32tab", "math/bits.deBruijn64tab"], apart := false, laid := [("math/bits.deBruijn32tab", laid_math_bits_deBruijn32tab), ("math/bits.deBruijn64tab", laid_math_bits_deBruijn64tab), ("internal/strconv.uint64pow10", laid_internal_strconv_uint64pow10)] }
def StatsEnvelopesSaid : Prop := statsEnvelopesRow.holds Tryd.pinned (OpenSpec.ofChange statsEnvelopesSpec)

/-- ITS FALSE NEIGHBOUR: 'it returns false'. Refute it at one input. -/
def statsEnvelopesWrong : ChangeSpec := { name := "statsEnvelopes", fn := fun _ => fun
  | [d1, d2, d3] => { results := [.lit (.bool false)], args := [d1, d2, d3] }
  | _ => none }
def StatsEnvelopesWrongFalsely : Prop := statsEnvelopesRow.holds Tryd.pinned (OpenSpec.ofChange statsEnvelopesWrong)

/-- 'polderlaw30.StatsCovers': WHATEVER THE INPUT: true; the input reads as it did. -/
def statsCoversSpec : ChangeSpec := { name := "statsCovers", fn := fun _ => fun
  | [d1, d2] => { results := [.lit (.bool true)], args := [d1, d2] }
  | _ => none }
def statsCoversRow : OpenClaim := { program := "ytionocafkaemiaadoor", sum := "518a696bce92c7bea5f564353ba5f9851ce13ab78e576f27b6f76d16373f5a2a", func := "polder/polderlaw30.StatsCovers", spec := "statsCovers", inPlace := ["internal/abi.NoEscape", "math/bits.Add64"], unfollowed := true, recurses := true, named := ["math/bits.divideError", "math/bits.overflowError", "internal/strconv.uint64pow10", "math/bits.deBruijn32tab", "math/bits.deBruijn64tab"], apart := false, laid := [("math/bits.deBruijn32tab", laid_math_bits_deBruijn32tab), ("math/bits.deBruijn64tab", laid_math_bits_deBruijn64tab), ("internal/strconv.uint64pow10", laid_internal_strconv_uint64pow10)] }
def StatsCoversSaid : Prop := statsCoversRow.holds Tryd.pinned (OpenSpec.ofChange statsCoversSpec)

/-- ITS FALSE NEIGHBOUR: 'it returns false'. Refute it at one input. -/
def statsCoversWrong : ChangeSpec := { name := "statsCovers", fn := fun _ => fun
  | [d1, d2] => { results := [.lit (.bool false)], args := [d1, d2] }
  | _ => none }
def StatsCoversWrongFalsely : Prop := statsCoversRow.holds Tryd.pinned (OpenSpec.ofChange statsCoversWrong)

/-- 'polderlaw30.StatsPeaks': WHATEVER THE INPUT: true; the input reads as it did. -/
def statsPeaksSpec : ChangeSpec := { name := "statsPeaks", fn := fun _ => fun
  | [d1, d2, d3] => { results := [.lit (.bool true)], args := [d1, d2, d3] }
  | _ => none }
def statsPeaksRow : OpenClaim := { program := "ytionocafkaemiaadoor", sum := "518a696bce92c7bea5f564353ba5f9851ce13ab78e576f27b6f76d16373f5a2a", func := "polder/polderlaw30.StatsPeaks", spec := "statsPeaks", inPlace := ["internal/abi.NoEscape", "math/bits.Add64"], unfollowed := true, recurses := true, named := ["math/bits.divideError", "math/bits.overflowError", "internal/strconv.uint64pow10", "math/bits.deBruijn32tab", "math/bits.deBruijn64tab"], apart := false, laid := [("math/bits.deBruijn32tab", laid_math_bits_deBruijn32tab), ("math/bits.deBruijn64tab", laid_math_bits_deBruijn64tab), ("internal/strconv.uint64pow10", laid_internal_strconv_uint64pow10)] }
def StatsPeaksSaid : Prop := statsPeaksRow.holds Tryd.pinned (OpenSpec.ofChange statsPeaksSpec)

/-- ITS FALSE NEIGHBOUR: 'it returns false'. Refute it at one input. -/
def statsPeaksWrong : ChangeSpec := { name := "statsPeaks", fn := fun _ => fun
  | [d1, d2, d3] => { results := [.lit (.bool false)], args := [d1, d2, d3] }
  | _ => none }
def StatsPeaksWrongFalsely : Prop := statsPeaksRow.holds Tryd.pinned (OpenSpec.ofChange statsPeaksWrong)

/-- 'polderlaw30.StatsParts': WHATEVER THE INPUT: true; the input reads as it did. -/
def statsPartsSpec : ChangeSpec := { name := "statsParts", fn := fun _ => fun
  | [d1, d2, d3] => { results := [.lit (.bool true)], args := [d1, d2, d3] }
  | _ => none }
def statsPartsRow : OpenClaim := { program := "ytionocafkaemiaadoor", sum := "518a696bce92c7bea5f564353ba5f9851ce13ab78e576f27b6f76d16373f5a2a", func := "polder/polderlaw30.StatsParts", spec := "statsParts", inPlace := ["internal/abi.NoEscape", "math/bits.Add64"], unfollowed := true, recurses := true, named := ["math/bits.divideError", "math/bits.overflowError", "internal/strconv.uint64pow10", "math/bits.deBruijn32tab", "math/bits.deBruijn64tab"], apart := false, laid := [("math/bits.deBruijn32tab", laid_math_bits_deBruijn32tab), ("math/bits.deBruijn64tab", laid_math_bits_deBruijn64tab), ("internal/strconv.uint64pow10", laid_internal_strconv_uint64pow10)] }
def StatsPartsSaid : Prop := statsPartsRow.holds Tryd.pinned (OpenSpec.ofChange statsPartsSpec)

/-- ITS FALSE NEIGHBOUR: 'it returns false'. Refute it at one input. -/
def statsPartsWrong : ChangeSpec := { name := "statsParts", fn := fun _ => fun
  | [d1, d2, d3] => { results := [.lit (.bool false)], args := [d1, d2, d3] }
  | _ => none }
def StatsPartsWrongFalsely : Prop := statsPartsRow.holds Tryd.pinned (OpenSpec.ofChange statsPartsWrong)

/-- 'polderlaw30.StatsQuantiles': WHATEVER THE INPUT: true; the input reads as it did. -/
def statsQuantilesSpec : ChangeSpec := { name := "statsQuantiles", fn := fun _ => fun
  | [d1, d2, d3] => { results := [.lit (.bool true)], args := [d1, d2, d3] }
  | _ => none }
def statsQuantilesRow : OpenClaim := { program := "ytionocafkaemiaadoor", sum := "518a696bce92c7bea5f564353ba5f9851ce13ab78e576f27b6f76d16373f5a2a", func := "polder/polderlaw30.StatsQuantiles", spec := "statsQuantiles", inPlace := ["internal/abi.NoEscape", "math/bits.Add64"], unfollowed := true, recurses := true, named := ["math/bits.divideError", "math/bits.overflowError", "internal/strconv.uint64pow10", "math/bits.deBruijn32tab", "math/bits.deBruijn64tab"], apart := false, laid := [("math/bits.deBruijn32tab", laid_math_bits_deBruijn32tab), ("math/bits.deBruijn64tab", laid_math_bits_deBruijn64tab), ("internal/strconv.uint64pow10", laid_internal_strconv_uint64pow10)] }
def StatsQuantilesSaid : Prop := statsQuantilesRow.holds Tryd.pinned (OpenSpec.ofChange statsQuantilesSpec)

/-- ITS FALSE NEIGHBOUR: 'it returns false'. Refute it at one input. -/
def statsQuantilesWrong : ChangeSpec := { name := "statsQuantiles", fn := fun _ => fun
  | [d1, d2, d3] => { results := [.lit (.bool false)], args := [d1, d2, d3] }
  | _ => none }
def StatsQuantilesWrongFalsely : Prop := statsQuantilesRow.holds Tryd.pinned (OpenSpec.ofChange statsQuantilesWrong)

/-- 'polderlaw30.StatsValues': WHATEVER THE INPUT: true; the input reads as it did. -/
def statsValuesSpec : ChangeSpec := { name := "statsValues", fn := fun _ => fun
  | [d1, d2, d3] => { results := [.lit (.bool true)], args := [d1, d2, d3] }
  | _ => none }
def statsValuesRow : OpenClaim := { program := "ytionocafkaemiaadoor", sum := "518a696bce92c7bea5f564353ba5f9851ce13ab78e576f27b6f76d16373f5a2a", func := "polder/polderlaw30.StatsValues", spec := "statsValues", inPlace := ["internal/abi.NoEscape", "math/bits.Add64"], unfollowed := true, recurses := true, named := ["math/bits.divideError", "math/bits.overflowError", "internal/strconv.uint64pow10", "math/bits.deBruijn32tab", "math/bits.deBruijn64tab"], apart := false, laid := [("math/bits.deBruijn32tab", laid_math_bits_deBruijn32tab), ("math/bits.deBruijn64tab", laid_math_bits_deBruijn64tab), ("internal/strconv.uint64pow10", laid_internal_strconv_uint64pow10)] }
def StatsValuesSaid : Prop := statsValuesRow.holds Tryd.pinned (OpenSpec.ofChange statsValuesSpec)

/-- ITS FALSE NEIGHBOUR: 'it returns false'. Refute it at one input. -/
def statsValuesWrong : ChangeSpec := { name := "statsValues", fn := fun _ => fun
  | [d1, d2, d3] => { results := [.lit (.bool false)], args := [d1, d2, d3] }
  | _ => none }
def StatsValuesWrongFalsely : Prop := statsValuesRow.holds Tryd.pinned (OpenSpec.ofChange statsValuesWrong)

/-- 'polderlaw30.StatsKnown': WHATEVER THE INPUT: true; the input reads as it did. -/
def statsKnownSpec : ChangeSpec := { name := "statsKnown", fn := fun _ => fun
  | [] => { results := [.lit (.bool true)], args := [] }
  | _ => none }
def statsKnownRow : OpenClaim := { program := "ytionocafkaemiaadoor", sum := "518a696bce92c7bea5f564353ba5f9851ce13ab78e576f27b6f76d16373f5a2a", func := "polder/polderlaw30.StatsKnown", spec := "statsKnown", inPlace := ["internal/abi.NoEscape", "math/bits.Add64"], unfollowed := true, recurses := true, named := ["math/bits.divideError", "math/bits.overflowError", "internal/strconv.uint64pow10", "math/bits.deBruijn32tab", "math/bits.deBruijn64tab"], apart := false, laid := [("math/bits.deBruijn32tab", laid_math_bits_deBruijn32tab), ("math/bits.deBruijn64tab", laid_math_bits_deBruijn64tab), ("internal/strconv.uint64pow10", laid_internal_strconv_uint64pow10)] }
def StatsKnownSaid : Prop := statsKnownRow.holds Tryd.pinned (OpenSpec.ofChange statsKnownSpec)

/-- ITS FALSE NEIGHBOUR: 'it returns false'. Refute it at one input. -/
def statsKnownWrong : ChangeSpec := { name := "statsKnown", fn := fun _ => fun
  | [] => { results := [.lit (.bool false)], args := [] }
  | _ => none }
def StatsKnownWrongFalsely : Prop := statsKnownRow.holds Tryd.pinned (OpenSpec.ofChange statsKnownWrong)

/- THE SECOND FORM. 'bulk': how many values and letters a reading holds, each counted each time it is reached (what is shared counts as often as it is met; a slice's spare places count too). A statement '..UptoSaid' is the law's where the arguments, and the package variables that the reading takes, are together of bulk at most 1048576: NARROWER than '..Said'. Prove '..Said' where nothing that the law and all that it calls make is longer than what came in: it says more and counts as full. Else prove '..UptoSaid'. A law counts once. -/
mutual
def uptoBulk {H : Type} : DataW H → Nat
  | .lit (.string bytes) => bytes.length + 1
  | .lit _ => 1
  | .nil => 1
  | .ptr d => uptoBulk d + 1
  | .slice elems spare => uptoBulkAll elems + uptoBulkAll spare + 1
  | .agg parts => uptoBulkAll parts + 1
  | .iface _ d => uptoBulk d + 1
  | .map entries => uptoBulkEntries entries + 1
  | .held _ => 1
def uptoBulkAll {H : Type} : List (DataW H) → Nat
  | [] => 0
  | d :: r => uptoBulk d + uptoBulkAll r
def uptoBulkEntries {H : Type} : List (Lit × DataW H) → Nat
  | [] => 0
  | x :: r => uptoBulkEntry x + uptoBulkEntries r
def uptoBulkEntry {H : Type} : Lit × DataW H → Nat
  | (.string bytes, d) => bytes.length + uptoBulk d + 1
  | (_, d) => uptoBulk d + 1
 end
def uptoSmall : (H : Type) → List (DataW H) → Bool := fun _ ds => decide (uptoBulkAll ds ≤ 1048576)
def OpenSpec.upto (s : _root_.Go.ChangeSpec) : _root_.Go.OpenSpec := { _root_.Go.OpenSpec.ofChange s with cond := some uptoSmall }

/-- 'polderlaw30.StatsAreas', WHERE WHAT IT READS IS OF BULK AT MOST 1048576: true; the input reads as it did. -/
def statsAreasUptoRow : OpenClaim := { program := "ytionocafkaemiaadoor", sum := "518a696bce92c7bea5f564353ba5f9851ce13ab78e576f27b6f76d16373f5a2a", func := "polder/polderlaw30.StatsAreas", spec := "statsAreas", inPlace := ["internal/abi.NoEscape", "math/bits.Add64"], unfollowed := true, recurses := true, named := ["math/bits.divideError", "math/bits.overflowError", "internal/strconv.uint64pow10", "math/bits.deBruijn32tab", "math/bits.deBruijn64tab"], apart := false, laid := [("math/bits.deBruijn32tab", laid_math_bits_deBruijn32tab), ("math/bits.deBruijn64tab", laid_math_bits_deBruijn64tab), ("internal/strconv.uint64pow10", laid_internal_strconv_uint64pow10)], narrowed := true }
def StatsAreasUptoSaid : Prop := statsAreasUptoRow.holds Tryd.pinned (OpenSpec.upto statsAreasSpec)

/-- 'polderlaw30.StatsEnvelopes', WHERE WHAT IT READS IS OF BULK AT MOST 1048576: true; the input reads as it did. -/
def statsEnvelopesUptoRow : OpenClaim := { program := "ytionocafkaemiaadoor", sum := "518a696bce92c7bea5f564353ba5f9851ce13ab78e576f27b6f76d16373f5a2a", func := "polder/polderlaw30.StatsEnvelopes", spec := "statsEnvelopes", inPlace := ["internal/abi.NoEscape", "math/bits.Add64"], unfollowed := true, recurses := true, named := ["math/bits.divideError", "math/bits.overflowError", "internal/strconv.uint64pow10", "math/bits.deBruijn32tab", "math/bits.deBruijn64tab"], apart := false, laid := [("math/bits.deBruijn32tab", laid_math_bits_deBruijn32tab), ("math/bits.deBruijn64tab", laid_math_bits_deBruijn64tab), ("internal/strconv.uint64pow10", laid_internal_strconv_uint64pow10)], narrowed := true }
def StatsEnvelopesUptoSaid : Prop := statsEnvelopesUptoRow.holds Tryd.pinned (OpenSpec.upto statsEnvelopesSpec)

/-- 'polderlaw30.StatsCovers', WHERE WHAT IT READS IS OF BULK AT MOST 1048576: true; the input reads as it did. -/
def statsCoversUptoRow : OpenClaim := { program := "ytionocafkaemiaadoor", sum := "518a696bce92c7bea5f564353ba5f9851ce13ab78e576f27b6f76d16373f5a2a", func := "polder/polderlaw30.StatsCovers", spec := "statsCovers", inPlace := ["internal/abi.NoEscape", "math/bits.Add64"], unfollowed := true, recurses := true, named := ["math/bits.divideError", "math/bits.overflowError", "internal/strconv.uint64pow10", "math/bits.deBruijn32tab", "math/bits.deBruijn64tab"], apart := false, laid := [("math/bits.deBruijn32tab", laid_math_bits_deBruijn32tab), ("math/bits.deBruijn64tab", laid_math_bits_deBruijn64tab), ("internal/strconv.uint64pow10", laid_internal_strconv_uint64pow10)], narrowed := true }
def StatsCoversUptoSaid : Prop := statsCoversUptoRow.holds Tryd.pinned (OpenSpec.upto statsCoversSpec)

/-- 'polderlaw30.StatsPeaks', WHERE WHAT IT READS IS OF BULK AT MOST 1048576: true; the input reads as it did. -/
def statsPeaksUptoRow : OpenClaim := { program := "ytionocafkaemiaadoor", sum := "518a696bce92c7bea5f564353ba5f9851ce13ab78e576f27b6f76d16373f5a2a", func := "polder/polderlaw30.StatsPeaks", spec := "statsPeaks", inPlace := ["internal/abi.NoEscape", "math/bits.Add64"], unfollowed := true, recurses := true, named := ["math/bits.divideError", "math/bits.overflowError", "internal/strconv.uint64pow10", "math/bits.deBruijn32tab", "math/bits.deBruijn64tab"], apart := false, laid := [("math/bits.deBruijn32tab", laid_math_bits_deBruijn32tab), ("math/bits.deBruijn64tab", laid_math_bits_deBruijn64tab), ("internal/strconv.uint64pow10", laid_internal_strconv_uint64pow10)], narrowed := true }
def StatsPeaksUptoSaid : Prop := statsPeaksUptoRow.holds Tryd.pinned (OpenSpec.upto statsPeaksSpec)

/-- 'polderlaw30.StatsParts', WHERE WHAT IT READS IS OF BULK AT MOST 1048576: true; the input reads as it did. -/
def statsPartsUptoRow : OpenClaim := { program := "ytionocafkaemiaadoor", sum := "518a696bce92c7bea5f564353ba5f9851ce13ab78e576f27b6f76d16373f5a2a", func := "polder/polderlaw30.StatsParts", spec := "statsParts", inPlace := ["internal/abi.NoEscape", "math/bits.Add64"], unfollowed := true, recurses := true, named := ["math/bits.divideError", "math/bits.overflowError", "internal/strconv.uint64pow10", "math/bits.deBruijn32tab", "math/bits.deBruijn64tab"], apart := false, laid := [("math/bits.deBruijn32tab", laid_math_bits_deBruijn32tab), ("math/bits.deBruijn64tab", laid_math_bits_deBruijn64tab), ("internal/strconv.uint64pow10", laid_internal_strconv_uint64pow10)], narrowed := true }
def StatsPartsUptoSaid : Prop := statsPartsUptoRow.holds Tryd.pinned (OpenSpec.upto statsPartsSpec)

/-- 'polderlaw30.StatsQuantiles', WHERE WHAT IT READS IS OF BULK AT MOST 1048576: true; the input reads as it did. -/
def statsQuantilesUptoRow : OpenClaim := { program := "ytionocafkaemiaadoor", sum := "518a696bce92c7bea5f564353ba5f9851ce13ab78e576f27b6f76d16373f5a2a", func := "polder/polderlaw30.StatsQuantiles", spec := "statsQuantiles", inPlace := ["internal/abi.NoEscape", "math/bits.Add64"], unfollowed := true, recurses := true, named := ["math/bits.divideError", "math/bits.overflowError", "internal/strconv.uint64pow10", "math/bits.deBruijn32tab", "math/bits.deBruijn64tab"], apart := false, laid := [("math/bits.deBruijn32tab", laid_math_bits_deBruijn32tab), ("math/bits.deBruijn64tab", laid_math_bits_deBruijn64tab), ("internal/strconv.uint64pow10", laid_internal_strconv_uint64pow10)], narrowed := true }
def StatsQuantilesUptoSaid : Prop := statsQuantilesUptoRow.holds Tryd.pinned (OpenSpec.upto statsQuantilesSpec)

/-- 'polderlaw30.StatsValues', WHERE WHAT IT READS IS OF BULK AT MOST 1048576: true; the input reads as it did. -/
def statsValuesUptoRow : OpenClaim := { program := "ytionocafkaemiaadoor", sum := "518a696bce92c7bea5f564353ba5f9851ce13ab78e576f27b6f76d16373f5a2a", func := "polder/polderlaw30.StatsValues", spec := "statsValues", inPlace := ["internal/abi.NoEscape", "math/bits.Add64"], unfollowed := true, recurses := true, named := ["math/bits.divideError", "math/bits.overflowError", "internal/strconv.uint64pow10", "math/bits.deBruijn32tab", "math/bits.deBruijn64tab"], apart := false, laid := [("math/bits.deBruijn32tab", laid_math_bits_deBruijn32tab), ("math/bits.deBruijn64tab", laid_math_bits_deBruijn64tab), ("internal/strconv.uint64pow10", laid_internal_strconv_uint64pow10)], narrowed := true }
def StatsValuesUptoSaid : Prop := statsValuesUptoRow.holds Tryd.pinned (OpenSpec.upto statsValuesSpec)

/-- 'polderlaw30.StatsKnown', WHERE WHAT IT READS IS OF BULK AT MOST 1048576: true; the input reads as it did. -/
def statsKnownUptoRow : OpenClaim := { program := "ytionocafkaemiaadoor", sum := "518a696bce92c7bea5f564353ba5f9851ce13ab78e576f27b6f76d16373f5a2a", func := "polder/polderlaw30.StatsKnown", spec := "statsKnown", inPlace := ["internal/abi.NoEscape", "math/bits.Add64"], unfollowed := true, recurses := true, named := ["math/bits.divideError", "math/bits.overflowError", "internal/strconv.uint64pow10", "math/bits.deBruijn32tab", "math/bits.deBruijn64tab"], apart := false, laid := [("math/bits.deBruijn32tab", laid_math_bits_deBruijn32tab), ("math/bits.deBruijn64tab", laid_math_bits_deBruijn64tab), ("internal/strconv.uint64pow10", laid_internal_strconv_uint64pow10)], narrowed := true }
def StatsKnownUptoSaid : Prop := statsKnownUptoRow.holds Tryd.pinned (OpenSpec.upto statsKnownSpec)

end Rows
end Go.Proofs.YtionocafkaemiaaDoor
