/-
  DERIVED. GIVEN WITH THE SEED: THE CARDS: each row of YtnebdnbglggdkaaDoorRows.lean that lists a variable, with what it lists TIED to the program's text (the seventh form; the later family's looks); each row that meets fmt, with fmt's text TOLD by the authors' own Lean function (tested against real Go, not proved from fmt's source: count such statements apart). THE CARD IS WHAT COUNTS. Prove the row's statement (the work); the ties are given (YtnebdnbglggdkaaDoorTie.lean); close each card by the builder's one call (the guide's Derived/Test/ToyasCard.lean, 'card_holds'). Laid BY PROGRAM, IN A SANDBOX (cutbox-door.mjs). By AI agents, Wed Nov 11 2026. No macro, syntax, notation, axiom, sorry.
-/
import Derived.Test.YtnebdnbglggdkaaDoorRows
import GoSem.ClaimSeven
namespace Go.Proofs.YtnebdnbglggdkaaDoor
namespace Rows

/-- THE TIED CARD OF 'spinnakerlaw27.ReportAsks'. -/
def reportAsksCard : Claim7 := { stood := { row := reportAsksRow, standIns := [], harness := (true, "06f509bd2cac05362407c33ac33ffa80894fead0b0d0ed8c84b38f159b675a41"), looks := true }, kinds := [], alts := [], laidByText := true, laidKinds := [.data, .data, .data], laidTests := true, laidLooks := .later }
def ReportAsksCardSaid : Prop := Claim7.holds Tryd.pinned (.plain (OpenSpec.ofChange reportAsksSpec)) reportAsksCard

/-- THE TIED CARD OF 'spinnakerlaw27.ReportSums'. -/
def reportSumsCard : Claim7 := { stood := { row := reportSumsRow, standIns := [], harness := (true, "06f509bd2cac05362407c33ac33ffa80894fead0b0d0ed8c84b38f159b675a41"), looks := true }, kinds := [], alts := [], laidByText := true, laidKinds := [.data, .data, .data], laidTests := true, laidLooks := .later }
def ReportSumsCardSaid : Prop := Claim7.holds Tryd.pinned (.plain (OpenSpec.ofChange reportSumsSpec)) reportSumsCard

/-- THE TIED CARD OF 'spinnakerlaw27.ReportCounts'. -/
def reportCountsCard : Claim7 := { stood := { row := reportCountsRow, standIns := [], harness := (true, "06f509bd2cac05362407c33ac33ffa80894fead0b0d0ed8c84b38f159b675a41"), looks := true }, kinds := [], alts := [], laidByText := true, laidKinds := [.data, .data, .data], laidTests := true, laidLooks := .later }
def ReportCountsCardSaid : Prop := Claim7.holds Tryd.pinned (.plain (OpenSpec.ofChange reportCountsSpec)) reportCountsCard

/-- THE SECOND FORM's CARD OF 'spinnakerlaw27.ReportAsks'. -/
def reportAsksUptoCard : Claim7 := { stood := { row := reportAsksUptoRow, standIns := [], harness := (true, "06f509bd2cac05362407c33ac33ffa80894fead0b0d0ed8c84b38f159b675a41"), looks := true }, kinds := [], alts := [], laidByText := true, laidKinds := [.data, .data, .data], laidTests := true, laidLooks := .later }
def ReportAsksUptoCardSaid : Prop := Claim7.holds Tryd.pinned (.plain (OpenSpec.upto reportAsksSpec)) reportAsksUptoCard

/-- THE SECOND FORM's CARD OF 'spinnakerlaw27.ReportSums'. -/
def reportSumsUptoCard : Claim7 := { stood := { row := reportSumsUptoRow, standIns := [], harness := (true, "06f509bd2cac05362407c33ac33ffa80894fead0b0d0ed8c84b38f159b675a41"), looks := true }, kinds := [], alts := [], laidByText := true, laidKinds := [.data, .data, .data], laidTests := true, laidLooks := .later }
def ReportSumsUptoCardSaid : Prop := Claim7.holds Tryd.pinned (.plain (OpenSpec.upto reportSumsSpec)) reportSumsUptoCard

/-- THE SECOND FORM's CARD OF 'spinnakerlaw27.ReportCounts'. -/
def reportCountsUptoCard : Claim7 := { stood := { row := reportCountsUptoRow, standIns := [], harness := (true, "06f509bd2cac05362407c33ac33ffa80894fead0b0d0ed8c84b38f159b675a41"), looks := true }, kinds := [], alts := [], laidByText := true, laidKinds := [.data, .data, .data], laidTests := true, laidLooks := .later }
def ReportCountsUptoCardSaid : Prop := Claim7.holds Tryd.pinned (.plain (OpenSpec.upto reportCountsSpec)) reportCountsUptoCard
end Rows
end Go.Proofs.YtnebdnbglggdkaaDoor
