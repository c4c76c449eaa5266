/-
  DERIVED. GIVEN WITH THE SEED: THE CARDS: each row of YtmhkokkphgchlaaGreatDoorRows.lean that lists a variable, with what it lists TIED to the program's text (the seventh form; the later family's looks); each row that meets fmt, with fmt's text TOLD by the authors' own Lean function (tested against real Go, not proved from fmt's source: count such statements apart). THE CARD IS WHAT COUNTS. Prove the row's statement (the work); the ties are given (YtmhkokkphgchlaaGreatDoorTie.lean); close each card by the builder's one call (the guide's Derived/Test/ToyasCard.lean, 'card_holds'). Laid BY PROGRAM, IN A SANDBOX (cutbox-door.mjs). By AI agents, Wed Nov 11 2026. No macro, syntax, notation, axiom, sorry.
-/
import Derived.Test.YtmhkokkphgchlaaGreatDoorRows
import GoSem.ClaimSeven
namespace Go.Proofs.YtmhkokkphgchlaaGreatDoor
namespace Rows

/-- THE TIED CARD OF 'capstanlaw12.CostRuns'. -/
def costRunsCard : Claim7 := { stood := { row := costRunsRow, standIns := [], harness := (true, "35e2b53325624563409bc4ed32d25eae5fd39695ae833e1972688a969944cc61"), looks := false }, kinds := [], alts := [], laidByText := true, laidKinds := [.data], laidTests := true, laidLooks := .later }
def CostRunsCardSaid : Prop := Claim7.holds Tryz.pinned (.plain (OpenSpec.ofChange costRunsSpec)) costRunsCard

/-- THE TIED CARD OF 'capstanlaw12.CostOthers'. -/
def costOthersCard : Claim7 := { stood := { row := costOthersRow, standIns := [], harness := (true, "35e2b53325624563409bc4ed32d25eae5fd39695ae833e1972688a969944cc61"), looks := false }, kinds := [], alts := [], laidByText := true, laidKinds := [.data], laidTests := true, laidLooks := .later }
def CostOthersCardSaid : Prop := Claim7.holds Tryz.pinned (.plain (OpenSpec.ofChange costOthersSpec)) costOthersCard

/-- THE TIED CARD OF 'capstanlaw12.CostTells'. -/
def costTellsCard : Claim7 := { stood := { row := costTellsRow, standIns := [], harness := (true, "35e2b53325624563409bc4ed32d25eae5fd39695ae833e1972688a969944cc61"), looks := false }, kinds := [], alts := [], laidByText := true, laidKinds := [.data], laidTests := true, laidLooks := .later }
def CostTellsCardSaid : Prop := Claim7.holds Tryz.pinned (.plain (OpenSpec.ofChange costTellsSpec)) costTellsCard

/-- THE TIED CARD OF 'capstanlaw12.CostDeclares'. -/
def costDeclaresCard : Claim7 := { stood := { row := costDeclaresRow, standIns := [], harness := (true, "35e2b53325624563409bc4ed32d25eae5fd39695ae833e1972688a969944cc61"), looks := false }, kinds := [], alts := [], laidByText := true, laidKinds := [.data], laidTests := true, laidLooks := .later }
def CostDeclaresCardSaid : Prop := Claim7.holds Tryz.pinned (.plain (OpenSpec.ofChange costDeclaresSpec)) costDeclaresCard

/-- THE TIED CARD OF 'capstanlaw12.CostJust'. -/
def costJustCard : Claim7 := { stood := { row := costJustRow, standIns := [], harness := (true, "35e2b53325624563409bc4ed32d25eae5fd39695ae833e1972688a969944cc61"), looks := false }, kinds := [], alts := [], laidByText := true, laidKinds := [.data], laidTests := true, laidLooks := .later }
def CostJustCardSaid : Prop := Claim7.holds Tryz.pinned (.plain (OpenSpec.ofChange costJustSpec)) costJustCard

/-- THE SECOND FORM's CARD OF 'capstanlaw12.CostRuns'. -/
def costRunsUptoCard : Claim7 := { stood := { row := costRunsUptoRow, standIns := [], harness := (true, "35e2b53325624563409bc4ed32d25eae5fd39695ae833e1972688a969944cc61"), looks := false }, kinds := [], alts := [], laidByText := true, laidKinds := [.data], laidTests := true, laidLooks := .later }
def CostRunsUptoCardSaid : Prop := Claim7.holds Tryz.pinned (.plain (OpenSpec.upto costRunsSpec)) costRunsUptoCard

/-- THE SECOND FORM's CARD OF 'capstanlaw12.CostOthers'. -/
def costOthersUptoCard : Claim7 := { stood := { row := costOthersUptoRow, standIns := [], harness := (true, "35e2b53325624563409bc4ed32d25eae5fd39695ae833e1972688a969944cc61"), looks := false }, kinds := [], alts := [], laidByText := true, laidKinds := [.data], laidTests := true, laidLooks := .later }
def CostOthersUptoCardSaid : Prop := Claim7.holds Tryz.pinned (.plain (OpenSpec.upto costOthersSpec)) costOthersUptoCard

/-- THE SECOND FORM's CARD OF 'capstanlaw12.CostTells'. -/
def costTellsUptoCard : Claim7 := { stood := { row := costTellsUptoRow, standIns := [], harness := (true, "35e2b53325624563409bc4ed32d25eae5fd39695ae833e1972688a969944cc61"), looks := false }, kinds := [], alts := [], laidByText := true, laidKinds := [.data], laidTests := true, laidLooks := .later }
def CostTellsUptoCardSaid : Prop := Claim7.holds Tryz.pinned (.plain (OpenSpec.upto costTellsSpec)) costTellsUptoCard

/-- THE SECOND FORM's CARD OF 'capstanlaw12.CostDeclares'. -/
def costDeclaresUptoCard : Claim7 := { stood := { row := costDeclaresUptoRow, standIns := [], harness := (true, "35e2b53325624563409bc4ed32d25eae5fd39695ae833e1972688a969944cc61"), looks := false }, kinds := [], alts := [], laidByText := true, laidKinds := [.data], laidTests := true, laidLooks := .later }
def CostDeclaresUptoCardSaid : Prop := Claim7.holds Tryz.pinned (.plain (OpenSpec.upto costDeclaresSpec)) costDeclaresUptoCard

/-- THE SECOND FORM's CARD OF 'capstanlaw12.CostJust'. -/
def costJustUptoCard : Claim7 := { stood := { row := costJustUptoRow, standIns := [], harness := (true, "35e2b53325624563409bc4ed32d25eae5fd39695ae833e1972688a969944cc61"), looks := false }, kinds := [], alts := [], laidByText := true, laidKinds := [.data], laidTests := true, laidLooks := .later }
def CostJustUptoCardSaid : Prop := Claim7.holds Tryz.pinned (.plain (OpenSpec.upto costJustSpec)) costJustUptoCard
end Rows
end Go.Proofs.YtmhkokkphgchlaaGreatDoor
