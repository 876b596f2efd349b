/-
  DERIVED. GIVEN WITH THE SEED: THE CARDS: each row of YtelmcfnkclihcaaGreatDoorRows.lean that lists a variable, with what it lists TIED to the program's text (the seventh form; the later family's looks); each row that meets fmt, with fmt's text TOLD by the authors' own Lean function (tested against real Go, not proved from fmt's source: count such statements apart). THE CARD IS WHAT COUNTS. Prove the row's statement (the work); the ties are given (YtelmcfnkclihcaaGreatDoorTie.lean); close each card by the builder's one call (the guide's Derived/Test/ToyasCard.lean, 'card_holds'). Laid BY PROGRAM, IN A SANDBOX (cutbox-door.mjs). By AI agents, Wed Nov 11 2026. No macro, syntax, notation, axiom, sorry.
-/
import Derived.Test.YtelmcfnkclihcaaGreatDoorRows
import GoSem.ClaimSeven
namespace Go.Proofs.YtelmcfnkclihcaaGreatDoor
namespace Rows

/-- THE TIED CARD OF 'spinnakertop.TopTicks'. -/
def topTicksCard : Claim7 := { stood := { row := topTicksRow, standIns := [], harness := (true, "3b62c5d6099aa1db7e3fea49853833efbdb5b44ea95289edf0c19d53d52b27f1"), looks := true }, kinds := [], alts := [], laidByText := true, laidKinds := [.data, .data, .data, .data, .sentinel, .sentinel, .pinned], laidTests := true, laidLooks := .later }
def TopTicksCardSaid : Prop := Claim7.holds Tryz.pinned (.plain (OpenSpec.ofChange topTicksSpec)) topTicksCard

/-- THE TIED CARD OF 'spinnakertop.TopTwice'. -/
def topTwiceCard : Claim7 := { stood := { row := topTwiceRow, standIns := [], harness := (true, "3b62c5d6099aa1db7e3fea49853833efbdb5b44ea95289edf0c19d53d52b27f1"), looks := true }, kinds := [], alts := [], laidByText := true, laidKinds := [.data, .data, .data, .data, .sentinel, .sentinel, .pinned], laidTests := true, laidLooks := .later }
def TopTwiceCardSaid : Prop := Claim7.holds Tryz.pinned (.plain (OpenSpec.ofChange topTwiceSpec)) topTwiceCard

/-- THE TIED CARD OF 'spinnakertop.TopRefused'. -/
def topRefusedCard : Claim7 := { stood := { row := topRefusedRow, standIns := [], harness := (true, "3b62c5d6099aa1db7e3fea49853833efbdb5b44ea95289edf0c19d53d52b27f1"), looks := true }, kinds := [], alts := [], laidByText := true, laidKinds := [.data, .data, .data, .data, .sentinel, .sentinel, .pinned], laidTests := true, laidLooks := .later }
def TopRefusedCardSaid : Prop := Claim7.holds Tryz.pinned (.plain (OpenSpec.ofChange topRefusedSpec)) topRefusedCard

/-- THE SECOND FORM's CARD OF 'spinnakertop.TopTicks'. -/
def topTicksUptoCard : Claim7 := { stood := { row := topTicksUptoRow, standIns := [], harness := (true, "3b62c5d6099aa1db7e3fea49853833efbdb5b44ea95289edf0c19d53d52b27f1"), looks := true }, kinds := [], alts := [], laidByText := true, laidKinds := [.data, .data, .data, .data, .sentinel, .sentinel, .pinned], laidTests := true, laidLooks := .later }
def TopTicksUptoCardSaid : Prop := Claim7.holds Tryz.pinned (.plain (OpenSpec.upto topTicksSpec)) topTicksUptoCard

/-- THE SECOND FORM's CARD OF 'spinnakertop.TopTwice'. -/
def topTwiceUptoCard : Claim7 := { stood := { row := topTwiceUptoRow, standIns := [], harness := (true, "3b62c5d6099aa1db7e3fea49853833efbdb5b44ea95289edf0c19d53d52b27f1"), looks := true }, kinds := [], alts := [], laidByText := true, laidKinds := [.data, .data, .data, .data, .sentinel, .sentinel, .pinned], laidTests := true, laidLooks := .later }
def TopTwiceUptoCardSaid : Prop := Claim7.holds Tryz.pinned (.plain (OpenSpec.upto topTwiceSpec)) topTwiceUptoCard

/-- THE SECOND FORM's CARD OF 'spinnakertop.TopRefused'. -/
def topRefusedUptoCard : Claim7 := { stood := { row := topRefusedUptoRow, standIns := [], harness := (true, "3b62c5d6099aa1db7e3fea49853833efbdb5b44ea95289edf0c19d53d52b27f1"), looks := true }, kinds := [], alts := [], laidByText := true, laidKinds := [.data, .data, .data, .data, .sentinel, .sentinel, .pinned], laidTests := true, laidLooks := .later }
def TopRefusedUptoCardSaid : Prop := Claim7.holds Tryz.pinned (.plain (OpenSpec.upto topRefusedSpec)) topRefusedUptoCard
end Rows
end Go.Proofs.YtelmcfnkclihcaaGreatDoor
