/-
  DERIVED. GIVEN WITH THE SEED: THE CARDS: each row of YtionocafkaemiaaDoorRows.lean that lists a variable, with what it lists TIED to the program's text (the seventh form; the later family's looks); each row that meets fmt, with fmt's text TOLD by the authors' own Lean function (tested against real Go, not proved from fmt's source: count such statements apart). THE CARD IS WHAT COUNTS. Prove the row's statement (the work); the ties are given (YtionocafkaemiaaDoorTie.lean); close each card by the builder's one call (the guide's Derived/Test/ToyasCard.lean, 'card_holds'). Laid BY PROGRAM, IN A SANDBOX (cutbox-door.mjs). By AI agents, Wed Nov 11 2026. No macro, syntax, notation, axiom, sorry.
-/
import Derived.Test.YtionocafkaemiaaDoorRows
import GoSem.ClaimSeven
namespace Go.Proofs.YtionocafkaemiaaDoor
namespace Rows

/-- THE TIED CARD OF 'polderlaw30.StatsAreas'. -/
def statsAreasCard : Claim7 := { stood := { row := statsAreasRow, standIns := [], harness := (true, "1392b5611c0b99f61f5250f8bca83c31309c083dd2e7e998c4e254e6942e3d55"), looks := false }, kinds := [], alts := [], laidByText := true, laidKinds := [.data, .data, .data], laidTests := true, laidLooks := .later }
def StatsAreasCardSaid : Prop := Claim7.holds Tryd.pinned (.plain (OpenSpec.ofChange statsAreasSpec)) statsAreasCard

/-- THE TIED CARD OF 'polderlaw30.StatsEnvelopes'. -/
def statsEnvelopesCard : Claim7 := { stood := { row := statsEnvelopesRow, standIns := [], harness := (true, "1392b5611c0b99f61f5250f8bca83c31309c083dd2e7e998c4e254e6942e3d55"), looks := false }, kinds := [], alts := [], laidByText := true, laidKinds := [.data, .data, .data], laidTests := true, laidLooks := .later }
def StatsEnvelopesCardSaid : Prop := Claim7.holds Tryd.pinned (.plain (OpenSpec.ofChange statsEnvelopesSpec)) statsEnvelopesCard

/-- THE TIED CARD OF 'polderlaw30.StatsCovers'. -/
def statsCoversCard : Claim7 := { stood := { row := statsCoversRow, standIns := [], harness := (true, "1392b5611c0b99f61f5250f8bca83c31309c083dd2e7e998c4e254e6942e3d55"), looks := false }, kinds := [], alts := [], laidByText := true, laidKinds := [.data, .data, .data], laidTests := true, laidLooks := .later }
def StatsCoversCardSaid : Prop := Claim7.holds Tryd.pinned (.plain (OpenSpec.ofChange statsCoversSpec)) statsCoversCard

/-- THE TIED CARD OF 'polderlaw30.StatsPeaks'. -/
def statsPeaksCard : Claim7 := { stood := { row := statsPeaksRow, standIns := [], harness := (true, "1392b5611c0b99f61f5250f8bca83c31309c083dd2e7e998c4e254e6942e3d55"), looks := false }, kinds := [], alts := [], laidByText := true, laidKinds := [.data, .data, .data], laidTests := true, laidLooks := .later }
def StatsPeaksCardSaid : Prop := Claim7.holds Tryd.pinned (.plain (OpenSpec.ofChange statsPeaksSpec)) statsPeaksCard

/-- THE TIED CARD OF 'polderlaw30.StatsParts'. -/
def statsPartsCard : Claim7 := { stood := { row := statsPartsRow, standIns := [], harness := (true, "1392b5611c0b99f61f5250f8bca83c31309c083dd2e7e998c4e254e6942e3d55"), looks := false }, kinds := [], alts := [], laidByText := true, laidKinds := [.data, .data, .data], laidTests := true, laidLooks := .later }
def StatsPartsCardSaid : Prop := Claim7.holds Tryd.pinned (.plain (OpenSpec.ofChange statsPartsSpec)) statsPartsCard

/-- THE TIED CARD OF 'polderlaw30.StatsQuantiles'. -/
def statsQuantilesCard : Claim7 := { stood := { row := statsQuantilesRow, standIns := [], harness := (true, "1392b5611c0b99f61f5250f8bca83c31309c083dd2e7e998c4e254e6942e3d55"), looks := false }, kinds := [], alts := [], laidByText := true, laidKinds := [.data, .data, .data], laidTests := true, laidLooks := .later }
def StatsQuantilesCardSaid : Prop := Claim7.holds Tryd.pinned (.plain (OpenSpec.ofChange statsQuantilesSpec)) statsQuantilesCard

/-- THE TIED CARD OF 'polderlaw30.StatsValues'. -/
def statsValuesCard : Claim7 := { stood := { row := statsValuesRow, standIns := [], harness := (true, "1392b5611c0b99f61f5250f8bca83c31309c083dd2e7e998c4e254e6942e3d55"), looks := false }, kinds := [], alts := [], laidByText := true, laidKinds := [.data, .data, .data], laidTests := true, laidLooks := .later }
def StatsValuesCardSaid : Prop := Claim7.holds Tryd.pinned (.plain (OpenSpec.ofChange statsValuesSpec)) statsValuesCard

/-- THE TIED CARD OF 'polderlaw30.StatsKnown'. -/
def statsKnownCard : Claim7 := { stood := { row := statsKnownRow, standIns := [], harness := (true, "1392b5611c0b99f61f5250f8bca83c31309c083dd2e7e998c4e254e6942e3d55"), looks := false }, kinds := [], alts := [], laidByText := true, laidKinds := [.data, .data, .data], laidTests := true, laidLooks := .later }
def StatsKnownCardSaid : Prop := Claim7.holds Tryd.pinned (.plain (OpenSpec.ofChange statsKnownSpec)) statsKnownCard

/-- THE SECOND FORM's CARD OF 'polderlaw30.StatsAreas'. -/
def statsAreasUptoCard : Claim7 := { stood := { row := statsAreasUptoRow, standIns := [], harness := (true, "1392b5611c0b99f61f5250f8bca83c31309c083dd2e7e998c4e254e6942e3d55"), looks := false }, kinds := [], alts := [], laidByText := true, laidKinds := [.data, .data, .data], laidTests := true, laidLooks := .later }
def StatsAreasUptoCardSaid : Prop := Claim7.holds Tryd.pinned (.plain (OpenSpec.upto statsAreasSpec)) statsAreasUptoCard

/-- THE SECOND FORM's CARD OF 'polderlaw30.StatsEnvelopes'. -/
def statsEnvelopesUptoCard : Claim7 := { stood := { row := statsEnvelopesUptoRow, standIns := [], harness := (true, "1392b5611c0b99f61f5250f8bca83c31309c083dd2e7e998c4e254e6942e3d55"), looks := false }, kinds := [], alts := [], laidByText := true, laidKinds := [.data, .data, .data], laidTests := true, laidLooks := .later }
def StatsEnvelopesUptoCardSaid : Prop := Claim7.holds Tryd.pinned (.plain (OpenSpec.upto statsEnvelopesSpec)) statsEnvelopesUptoCard

/-- THE SECOND FORM's CARD OF 'polderlaw30.StatsCovers'. -/
def statsCoversUptoCard : Claim7 := { stood := { row := statsCoversUptoRow, standIns := [], harness := (true, "1392b5611c0b99f61f5250f8bca83c31309c083dd2e7e998c4e254e6942e3d55"), looks := false }, kinds := [], alts := [], laidByText := true, laidKinds := [.data, .data, .data], laidTests := true, laidLooks := .later }
def StatsCoversUptoCardSaid : Prop := Claim7.holds Tryd.pinned (.plain (OpenSpec.upto statsCoversSpec)) statsCoversUptoCard

/-- THE SECOND FORM's CARD OF 'polderlaw30.StatsPeaks'. -/
def statsPeaksUptoCard : Claim7 := { stood := { row := statsPeaksUptoRow, standIns := [], harness := (true, "1392b5611c0b99f61f5250f8bca83c31309c083dd2e7e998c4e254e6942e3d55"), looks := false }, kinds := [], alts := [], laidByText := true, laidKinds := [.data, .data, .data], laidTests := true, laidLooks := .later }
def StatsPeaksUptoCardSaid : Prop := Claim7.holds Tryd.pinned (.plain (OpenSpec.upto statsPeaksSpec)) statsPeaksUptoCard

/-- THE SECOND FORM's CARD OF 'polderlaw30.StatsParts'. -/
def statsPartsUptoCard : Claim7 := { stood := { row := statsPartsUptoRow, standIns := [], harness := (true, "1392b5611c0b99f61f5250f8bca83c31309c083dd2e7e998c4e254e6942e3d55"), looks := false }, kinds := [], alts := [], laidByText := true, laidKinds := [.data, .data, .data], laidTests := true, laidLooks := .later }
def StatsPartsUptoCardSaid : Prop := Claim7.holds Tryd.pinned (.plain (OpenSpec.upto statsPartsSpec)) statsPartsUptoCard

/-- THE SECOND FORM's CARD OF 'polderlaw30.StatsQuantiles'. -/
def statsQuantilesUptoCard : Claim7 := { stood := { row := statsQuantilesUptoRow, standIns := [], harness := (true, "1392b5611c0b99f61f5250f8bca83c31309c083dd2e7e998c4e254e6942e3d55"), looks := false }, kinds := [], alts := [], laidByText := true, laidKinds := [.data, .data, .data], laidTests := true, laidLooks := .later }
def StatsQuantilesUptoCardSaid : Prop := Claim7.holds Tryd.pinned (.plain (OpenSpec.upto statsQuantilesSpec)) statsQuantilesUptoCard

/-- THE SECOND FORM's CARD OF 'polderlaw30.StatsValues'. -/
def statsValuesUptoCard : Claim7 := { stood := { row := statsValuesUptoRow, standIns := [], harness := (true, "1392b5611c0b99f61f5250f8bca83c31309c083dd2e7e998c4e254e6942e3d55"), looks := false }, kinds := [], alts := [], laidByText := true, laidKinds := [.data, .data, .data], laidTests := true, laidLooks := .later }
def StatsValuesUptoCardSaid : Prop := Claim7.holds Tryd.pinned (.plain (OpenSpec.upto statsValuesSpec)) statsValuesUptoCard

/-- THE SECOND FORM's CARD OF 'polderlaw30.StatsKnown'. -/
def statsKnownUptoCard : Claim7 := { stood := { row := statsKnownUptoRow, standIns := [], harness := (true, "1392b5611c0b99f61f5250f8bca83c31309c083dd2e7e998c4e254e6942e3d55"), looks := false }, kinds := [], alts := [], laidByText := true, laidKinds := [.data, .data, .data], laidTests := true, laidLooks := .later }
def StatsKnownUptoCardSaid : Prop := Claim7.holds Tryd.pinned (.plain (OpenSpec.upto statsKnownSpec)) statsKnownUptoCard
end Rows
end Go.Proofs.YtionocafkaemiaaDoor
