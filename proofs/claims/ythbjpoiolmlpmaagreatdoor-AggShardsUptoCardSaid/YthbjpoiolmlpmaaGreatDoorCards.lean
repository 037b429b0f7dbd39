/-
  DERIVED. GIVEN WITH THE SEED: THE CARDS: each row of YthbjpoiolmlpmaaGreatDoorRows.lean that lists a variable, with what it lists TIED to the program's text (the seventh form; the later family's looks); each row that meets fmt, with fmt's text TOLD by the authors' own Lean function (tested against real Go, not proved from fmt's source: count such statements apart). THE CARD IS WHAT COUNTS. Prove the row's statement (the work); the ties are given (YthbjpoiolmlpmaaGreatDoorTie.lean); close each card by the builder's one call (the guide's Derived/Test/ToyasCard.lean, 'card_holds'). Laid BY PROGRAM, IN A SANDBOX (cutbox-door.mjs). By AI agents, Wed Nov 11 2026. No macro, syntax, notation, axiom, sorry.
-/
import Derived.Test.YthbjpoiolmlpmaaGreatDoorRows
import GoSem.ClaimSeven
namespace Go.Proofs.YthbjpoiolmlpmaaGreatDoor
namespace Rows

/-- THE TIED CARD OF 'tumblerlaw08.AggOrders'. -/
def aggOrdersCard : Claim7 := { stood := { row := aggOrdersRow, standIns := [], harness := (true, "865d065c08d2acdf50b5d57583eb0c68527f9211cd5474237cceed0b5fe5d286"), looks := false }, kinds := [], alts := [], laidByText := true, laidKinds := [.data, .pinned], laidTests := true, laidLooks := .later }
def AggOrdersCardSaid : Prop := Claim7.holds Tryz.pinned (.plain (OpenSpec.ofChange aggOrdersSpec)) aggOrdersCard

/-- THE TIED CARD OF 'tumblerlaw08.AggSums'. -/
def aggSumsCard : Claim7 := { stood := { row := aggSumsRow, standIns := [], harness := (true, "865d065c08d2acdf50b5d57583eb0c68527f9211cd5474237cceed0b5fe5d286"), looks := false }, kinds := [], alts := [], laidByText := true, laidKinds := [.data, .pinned], laidTests := true, laidLooks := .later }
def AggSumsCardSaid : Prop := Claim7.holds Tryz.pinned (.plain (OpenSpec.ofChange aggSumsSpec)) aggSumsCard

/-- THE TIED CARD OF 'tumblerlaw08.AggOnce'. -/
def aggOnceCard : Claim7 := { stood := { row := aggOnceRow, standIns := [], harness := (true, "865d065c08d2acdf50b5d57583eb0c68527f9211cd5474237cceed0b5fe5d286"), looks := false }, kinds := [], alts := [], laidByText := true, laidKinds := [.data, .pinned], laidTests := true, laidLooks := .later }
def AggOnceCardSaid : Prop := Claim7.holds Tryz.pinned (.plain (OpenSpec.ofChange aggOnceSpec)) aggOnceCard

/-- THE TIED CARD OF 'tumblerlaw08.AggOwn'. -/
def aggOwnCard : Claim7 := { stood := { row := aggOwnRow, standIns := [], harness := (true, "865d065c08d2acdf50b5d57583eb0c68527f9211cd5474237cceed0b5fe5d286"), looks := false }, kinds := [], alts := [], laidByText := true, laidKinds := [.data, .pinned], laidTests := true, laidLooks := .later }
def AggOwnCardSaid : Prop := Claim7.holds Tryz.pinned (.plain (OpenSpec.ofChange aggOwnSpec)) aggOwnCard

/-- THE TIED CARD OF 'tumblerlaw08.AggPlays'. -/
def aggPlaysCard : Claim7 := { stood := { row := aggPlaysRow, standIns := [], harness := (true, "865d065c08d2acdf50b5d57583eb0c68527f9211cd5474237cceed0b5fe5d286"), looks := false }, kinds := [], alts := [], laidByText := true, laidKinds := [.data, .pinned], laidTests := true, laidLooks := .later }
def AggPlaysCardSaid : Prop := Claim7.holds Tryz.pinned (.plain (OpenSpec.ofChange aggPlaysSpec)) aggPlaysCard

/-- THE TIED CARD OF 'tumblerlaw08.AggNils'. -/
def aggNilsCard : Claim7 := { stood := { row := aggNilsRow, standIns := [], harness := (true, "865d065c08d2acdf50b5d57583eb0c68527f9211cd5474237cceed0b5fe5d286"), looks := false }, kinds := [], alts := [], laidByText := true, laidKinds := [.data, .pinned], laidTests := true, laidLooks := .later }
def AggNilsCardSaid : Prop := Claim7.holds Tryz.pinned (.plain (OpenSpec.ofChange aggNilsSpec)) aggNilsCard

/-- THE TIED CARD OF 'tumblerlaw08.AggGauges'. -/
def aggGaugesCard : Claim7 := { stood := { row := aggGaugesRow, standIns := [], harness := (true, "865d065c08d2acdf50b5d57583eb0c68527f9211cd5474237cceed0b5fe5d286"), looks := false }, kinds := [], alts := [], laidByText := true, laidKinds := [.data, .pinned], laidTests := true, laidLooks := .later }
def AggGaugesCardSaid : Prop := Claim7.holds Tryz.pinned (.plain (OpenSpec.ofChange aggGaugesSpec)) aggGaugesCard

/-- THE TIED CARD OF 'tumblerlaw08.AggSamples'. -/
def aggSamplesCard : Claim7 := { stood := { row := aggSamplesRow, standIns := [], harness := (true, "865d065c08d2acdf50b5d57583eb0c68527f9211cd5474237cceed0b5fe5d286"), looks := false }, kinds := [], alts := [], laidByText := true, laidKinds := [.data, .pinned], laidTests := true, laidLooks := .later }
def AggSamplesCardSaid : Prop := Claim7.holds Tryz.pinned (.plain (OpenSpec.ofChange aggSamplesSpec)) aggSamplesCard

/-- THE TIED CARD OF 'tumblerlaw08.AggShards'. -/
def aggShardsCard : Claim7 := { stood := { row := aggShardsRow, standIns := [], harness := (true, "865d065c08d2acdf50b5d57583eb0c68527f9211cd5474237cceed0b5fe5d286"), looks := false }, kinds := [], alts := [], laidByText := true, laidKinds := [.data, .pinned], laidTests := true, laidLooks := .later }
def AggShardsCardSaid : Prop := Claim7.holds Tryz.pinned (.plain (OpenSpec.ofChange aggShardsSpec)) aggShardsCard

/-- THE SECOND FORM's CARD OF 'tumblerlaw08.AggOrders'. -/
def aggOrdersUptoCard : Claim7 := { stood := { row := aggOrdersUptoRow, standIns := [], harness := (true, "865d065c08d2acdf50b5d57583eb0c68527f9211cd5474237cceed0b5fe5d286"), looks := false }, kinds := [], alts := [], laidByText := true, laidKinds := [.data, .pinned], laidTests := true, laidLooks := .later }
def AggOrdersUptoCardSaid : Prop := Claim7.holds Tryz.pinned (.plain (OpenSpec.upto aggOrdersSpec)) aggOrdersUptoCard

/-- THE SECOND FORM's CARD OF 'tumblerlaw08.AggSums'. -/
def aggSumsUptoCard : Claim7 := { stood := { row := aggSumsUptoRow, standIns := [], harness := (true, "865d065c08d2acdf50b5d57583eb0c68527f9211cd5474237cceed0b5fe5d286"), looks := false }, kinds := [], alts := [], laidByText := true, laidKinds := [.data, .pinned], laidTests := true, laidLooks := .later }
def AggSumsUptoCardSaid : Prop := Claim7.holds Tryz.pinned (.plain (OpenSpec.upto aggSumsSpec)) aggSumsUptoCard

/-- THE SECOND FORM's CARD OF 'tumblerlaw08.AggOnce'. -/
def aggOnceUptoCard : Claim7 := { stood := { row := aggOnceUptoRow, standIns := [], harness := (true, "865d065c08d2acdf50b5d57583eb0c68527f9211cd5474237cceed0b5fe5d286"), looks := false }, kinds := [], alts := [], laidByText := true, laidKinds := [.data, .pinned], laidTests := true, laidLooks := .later }
def AggOnceUptoCardSaid : Prop := Claim7.holds Tryz.pinned (.plain (OpenSpec.upto aggOnceSpec)) aggOnceUptoCard

/-- THE SECOND FORM's CARD OF 'tumblerlaw08.AggOwn'. -/
def aggOwnUptoCard : Claim7 := { stood := { row := aggOwnUptoRow, standIns := [], harness := (true, "865d065c08d2acdf50b5d57583eb0c68527f9211cd5474237cceed0b5fe5d286"), looks := false }, kinds := [], alts := [], laidByText := true, laidKinds := [.data, .pinned], laidTests := true, laidLooks := .later }
def AggOwnUptoCardSaid : Prop := Claim7.holds Tryz.pinned (.plain (OpenSpec.upto aggOwnSpec)) aggOwnUptoCard

/-- THE SECOND FORM's CARD OF 'tumblerlaw08.AggPlays'. -/
def aggPlaysUptoCard : Claim7 := { stood := { row := aggPlaysUptoRow, standIns := [], harness := (true, "865d065c08d2acdf50b5d57583eb0c68527f9211cd5474237cceed0b5fe5d286"), looks := false }, kinds := [], alts := [], laidByText := true, laidKinds := [.data, .pinned], laidTests := true, laidLooks := .later }
def AggPlaysUptoCardSaid : Prop := Claim7.holds Tryz.pinned (.plain (OpenSpec.upto aggPlaysSpec)) aggPlaysUptoCard

/-- THE SECOND FORM's CARD OF 'tumblerlaw08.AggNils'. -/
def aggNilsUptoCard : Claim7 := { stood := { row := aggNilsUptoRow, standIns := [], harness := (true, "865d065c08d2acdf50b5d57583eb0c68527f9211cd5474237cceed0b5fe5d286"), looks := false }, kinds := [], alts := [], laidByText := true, laidKinds := [.data, .pinned], laidTests := true, laidLooks := .later }
def AggNilsUptoCardSaid : Prop := Claim7.holds Tryz.pinned (.plain (OpenSpec.upto aggNilsSpec)) aggNilsUptoCard

/-- THE SECOND FORM's CARD OF 'tumblerlaw08.AggGauges'. -/
def aggGaugesUptoCard : Claim7 := { stood := { row := aggGaugesUptoRow, standIns := [], harness := (true, "865d065c08d2acdf50b5d57583eb0c68527f9211cd5474237cceed0b5fe5d286"), looks := false }, kinds := [], alts := [], laidByText := true, laidKinds := [.data, .pinned], laidTests := true, laidLooks := .later }
def AggGaugesUptoCardSaid : Prop := Claim7.holds Tryz.pinned (.plain (OpenSpec.upto aggGaugesSpec)) aggGaugesUptoCard

/-- THE SECOND FORM's CARD OF 'tumblerlaw08.AggSamples'. -/
def aggSamplesUptoCard : Claim7 := { stood := { row := aggSamplesUptoRow, standIns := [], harness := (true, "865d065c08d2acdf50b5d57583eb0c68527f9211cd5474237cceed0b5fe5d286"), looks := false }, kinds := [], alts := [], laidByText := true, laidKinds := [.data, .pinned], laidTests := true, laidLooks := .later }
def AggSamplesUptoCardSaid : Prop := Claim7.holds Tryz.pinned (.plain (OpenSpec.upto aggSamplesSpec)) aggSamplesUptoCard

/-- THE SECOND FORM's CARD OF 'tumblerlaw08.AggShards'. -/
def aggShardsUptoCard : Claim7 := { stood := { row := aggShardsUptoRow, standIns := [], harness := (true, "865d065c08d2acdf50b5d57583eb0c68527f9211cd5474237cceed0b5fe5d286"), looks := false }, kinds := [], alts := [], laidByText := true, laidKinds := [.data, .pinned], laidTests := true, laidLooks := .later }
def AggShardsUptoCardSaid : Prop := Claim7.holds Tryz.pinned (.plain (OpenSpec.upto aggShardsSpec)) aggShardsUptoCard
end Rows
end Go.Proofs.YthbjpoiolmlpmaaGreatDoor
