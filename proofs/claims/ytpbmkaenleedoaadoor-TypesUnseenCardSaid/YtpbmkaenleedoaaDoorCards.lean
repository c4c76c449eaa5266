/-
  DERIVED. GIVEN WITH THE SEED: THE CARDS: each row of YtpbmkaenleedoaaDoorRows.lean that lists a variable, with what it lists TIED to the program's text (the seventh form; the later family's looks); each row that meets fmt, with fmt's text TOLD by the authors' own Lean function (tested against real Go, not proved from fmt's source: count such statements apart). THE CARD IS WHAT COUNTS. Prove the row's statement (the work); the ties are given (YtpbmkaenleedoaaDoorTie.lean); close each card by the builder's one call (the guide's Derived/Test/ToyasCard.lean, 'card_holds'). Laid BY PROGRAM, IN A SANDBOX (cutbox-door.mjs). By AI agents, Wed Nov 11 2026. No macro, syntax, notation, axiom, sorry.
-/
import Derived.Test.YtpbmkaenleedoaaDoorRows
import GoSem.ClaimSeven
namespace Go.Proofs.YtpbmkaenleedoaaDoor
namespace Rows

/-- THE TIED CARD OF 'capstanlaw10.TypesWay'. -/
def typesWayCard : Claim7 := { stood := { row := typesWayRow, standIns := [], harness := (true, "6fd4b41b53ffc6598c85827d4502bb4fbbe0297eebc295a75fb7bc5a18504a05"), looks := false }, kinds := [], alts := [], laidByText := true, laidKinds := [.data], laidTests := true, laidLooks := .later }
def TypesWayCardSaid : Prop := Claim7.holds Tryd.pinned (.plain (OpenSpec.ofChange typesWaySpec)) typesWayCard

/-- THE TIED CARD OF 'capstanlaw10.TypesAlone'. -/
def typesAloneCard : Claim7 := { stood := { row := typesAloneRow, standIns := [], harness := (true, "6fd4b41b53ffc6598c85827d4502bb4fbbe0297eebc295a75fb7bc5a18504a05"), looks := false }, kinds := [], alts := [], laidByText := true, laidKinds := [.data], laidTests := true, laidLooks := .later }
def TypesAloneCardSaid : Prop := Claim7.holds Tryd.pinned (.plain (OpenSpec.ofChange typesAloneSpec)) typesAloneCard

/-- THE TIED CARD OF 'capstanlaw10.TypesUnseen'. -/
def typesUnseenCard : Claim7 := { stood := { row := typesUnseenRow, standIns := [], harness := (true, "6fd4b41b53ffc6598c85827d4502bb4fbbe0297eebc295a75fb7bc5a18504a05"), looks := false }, kinds := [], alts := [], laidByText := true, laidKinds := [.data], laidTests := true, laidLooks := .later }
def TypesUnseenCardSaid : Prop := Claim7.holds Tryd.pinned (.plain (OpenSpec.ofChange typesUnseenSpec)) typesUnseenCard

/-- THE TIED CARD OF 'capstanlaw10.TypesHeight'. -/
def typesHeightCard : Claim7 := { stood := { row := typesHeightRow, standIns := [], harness := (true, "6fd4b41b53ffc6598c85827d4502bb4fbbe0297eebc295a75fb7bc5a18504a05"), looks := false }, kinds := [], alts := [], laidByText := true, laidKinds := [.data], laidTests := true, laidLooks := .later }
def TypesHeightCardSaid : Prop := Claim7.holds Tryd.pinned (.plain (OpenSpec.ofChange typesHeightSpec)) typesHeightCard

/-- THE SECOND FORM's CARD OF 'capstanlaw10.TypesWay'. -/
def typesWayUptoCard : Claim7 := { stood := { row := typesWayUptoRow, standIns := [], harness := (true, "6fd4b41b53ffc6598c85827d4502bb4fbbe0297eebc295a75fb7bc5a18504a05"), looks := false }, kinds := [], alts := [], laidByText := true, laidKinds := [.data], laidTests := true, laidLooks := .later }
def TypesWayUptoCardSaid : Prop := Claim7.holds Tryd.pinned (.plain (OpenSpec.upto typesWaySpec)) typesWayUptoCard

/-- THE SECOND FORM's CARD OF 'capstanlaw10.TypesAlone'. -/
def typesAloneUptoCard : Claim7 := { stood := { row := typesAloneUptoRow, standIns := [], harness := (true, "6fd4b41b53ffc6598c85827d4502bb4fbbe0297eebc295a75fb7bc5a18504a05"), looks := false }, kinds := [], alts := [], laidByText := true, laidKinds := [.data], laidTests := true, laidLooks := .later }
def TypesAloneUptoCardSaid : Prop := Claim7.holds Tryd.pinned (.plain (OpenSpec.upto typesAloneSpec)) typesAloneUptoCard

/-- THE SECOND FORM's CARD OF 'capstanlaw10.TypesUnseen'. -/
def typesUnseenUptoCard : Claim7 := { stood := { row := typesUnseenUptoRow, standIns := [], harness := (true, "6fd4b41b53ffc6598c85827d4502bb4fbbe0297eebc295a75fb7bc5a18504a05"), looks := false }, kinds := [], alts := [], laidByText := true, laidKinds := [.data], laidTests := true, laidLooks := .later }
def TypesUnseenUptoCardSaid : Prop := Claim7.holds Tryd.pinned (.plain (OpenSpec.upto typesUnseenSpec)) typesUnseenUptoCard

/-- THE SECOND FORM's CARD OF 'capstanlaw10.TypesHeight'. -/
def typesHeightUptoCard : Claim7 := { stood := { row := typesHeightUptoRow, standIns := [], harness := (true, "6fd4b41b53ffc6598c85827d4502bb4fbbe0297eebc295a75fb7bc5a18504a05"), looks := false }, kinds := [], alts := [], laidByText := true, laidKinds := [.data], laidTests := true, laidLooks := .later }
def TypesHeightUptoCardSaid : Prop := Claim7.holds Tryd.pinned (.plain (OpenSpec.upto typesHeightSpec)) typesHeightUptoCard
end Rows
end Go.Proofs.YtpbmkaenleedoaaDoor
