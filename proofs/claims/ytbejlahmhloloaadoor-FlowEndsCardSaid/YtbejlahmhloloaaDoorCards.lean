/-
  DERIVED. GIVEN WITH THE SEED: THE CARDS: each row of YtbejlahmhloloaaDoorRows.lean that lists a variable, with what it lists TIED to the program's text (the seventh form; the later family's looks); each row that meets fmt, with fmt's text TOLD by the authors' own Lean function (tested against real Go, not proved from fmt's source: count such statements apart). THE CARD IS WHAT COUNTS. Prove the row's statement (the work); the ties are given (YtbejlahmhloloaaDoorTie.lean); close each card by the builder's one call (the guide's Derived/Test/ToyasCard.lean, 'card_holds'). Laid BY PROGRAM, IN A SANDBOX (cutbox-door.mjs). By AI agents, Wed Nov 11 2026. No macro, syntax, notation, axiom, sorry.
-/
import Derived.Test.YtbejlahmhloloaaDoorRows
import GoSem.ClaimSeven
namespace Go.Proofs.YtbejlahmhloloaaDoor
namespace Rows

/-- THE TIED CARD OF 'capstanlaw09.FlowTells'. -/
def flowTellsCard : Claim7 := { stood := { row := flowTellsRow, standIns := [], harness := (true, "64afbe8193fafbd21021bffc1f42958caf34197f9490ae58f89f75263333c9a1"), looks := false }, kinds := [], alts := [], laidByText := true, laidKinds := [.data], laidTests := true, laidLooks := .later }
def FlowTellsCardSaid : Prop := Claim7.holds Tryd.pinned (.plain (OpenSpec.ofChange flowTellsSpec)) flowTellsCard

/-- THE TIED CARD OF 'capstanlaw09.FlowWays'. -/
def flowWaysCard : Claim7 := { stood := { row := flowWaysRow, standIns := [], harness := (true, "64afbe8193fafbd21021bffc1f42958caf34197f9490ae58f89f75263333c9a1"), looks := false }, kinds := [], alts := [], laidByText := true, laidKinds := [.data], laidTests := true, laidLooks := .later }
def FlowWaysCardSaid : Prop := Claim7.holds Tryd.pinned (.plain (OpenSpec.ofChange flowWaysSpec)) flowWaysCard

/-- THE TIED CARD OF 'capstanlaw09.FlowEnds'. -/
def flowEndsCard : Claim7 := { stood := { row := flowEndsRow, standIns := [], harness := (true, "64afbe8193fafbd21021bffc1f42958caf34197f9490ae58f89f75263333c9a1"), looks := false }, kinds := [], alts := [], laidByText := true, laidKinds := [.data], laidTests := true, laidLooks := .later }
def FlowEndsCardSaid : Prop := Claim7.holds Tryd.pinned (.plain (OpenSpec.ofChange flowEndsSpec)) flowEndsCard

/-- THE TIED CARD OF 'capstanlaw09.FlowAhead'. -/
def flowAheadCard : Claim7 := { stood := { row := flowAheadRow, standIns := [], harness := (true, "64afbe8193fafbd21021bffc1f42958caf34197f9490ae58f89f75263333c9a1"), looks := false }, kinds := [], alts := [], laidByText := true, laidKinds := [.data], laidTests := true, laidLooks := .later }
def FlowAheadCardSaid : Prop := Claim7.holds Tryd.pinned (.plain (OpenSpec.ofChange flowAheadSpec)) flowAheadCard

/-- THE TIED CARD OF 'capstanlaw09.FlowNested'. -/
def flowNestedCard : Claim7 := { stood := { row := flowNestedRow, standIns := [], harness := (true, "64afbe8193fafbd21021bffc1f42958caf34197f9490ae58f89f75263333c9a1"), looks := false }, kinds := [], alts := [], laidByText := true, laidKinds := [.data], laidTests := true, laidLooks := .later }
def FlowNestedCardSaid : Prop := Claim7.holds Tryd.pinned (.plain (OpenSpec.ofChange flowNestedSpec)) flowNestedCard

/-- THE SECOND FORM's CARD OF 'capstanlaw09.FlowTells'. -/
def flowTellsUptoCard : Claim7 := { stood := { row := flowTellsUptoRow, standIns := [], harness := (true, "64afbe8193fafbd21021bffc1f42958caf34197f9490ae58f89f75263333c9a1"), looks := false }, kinds := [], alts := [], laidByText := true, laidKinds := [.data], laidTests := true, laidLooks := .later }
def FlowTellsUptoCardSaid : Prop := Claim7.holds Tryd.pinned (.plain (OpenSpec.upto flowTellsSpec)) flowTellsUptoCard

/-- THE SECOND FORM's CARD OF 'capstanlaw09.FlowWays'. -/
def flowWaysUptoCard : Claim7 := { stood := { row := flowWaysUptoRow, standIns := [], harness := (true, "64afbe8193fafbd21021bffc1f42958caf34197f9490ae58f89f75263333c9a1"), looks := false }, kinds := [], alts := [], laidByText := true, laidKinds := [.data], laidTests := true, laidLooks := .later }
def FlowWaysUptoCardSaid : Prop := Claim7.holds Tryd.pinned (.plain (OpenSpec.upto flowWaysSpec)) flowWaysUptoCard

/-- THE SECOND FORM's CARD OF 'capstanlaw09.FlowEnds'. -/
def flowEndsUptoCard : Claim7 := { stood := { row := flowEndsUptoRow, standIns := [], harness := (true, "64afbe8193fafbd21021bffc1f42958caf34197f9490ae58f89f75263333c9a1"), looks := false }, kinds := [], alts := [], laidByText := true, laidKinds := [.data], laidTests := true, laidLooks := .later }
def FlowEndsUptoCardSaid : Prop := Claim7.holds Tryd.pinned (.plain (OpenSpec.upto flowEndsSpec)) flowEndsUptoCard

/-- THE SECOND FORM's CARD OF 'capstanlaw09.FlowAhead'. -/
def flowAheadUptoCard : Claim7 := { stood := { row := flowAheadUptoRow, standIns := [], harness := (true, "64afbe8193fafbd21021bffc1f42958caf34197f9490ae58f89f75263333c9a1"), looks := false }, kinds := [], alts := [], laidByText := true, laidKinds := [.data], laidTests := true, laidLooks := .later }
def FlowAheadUptoCardSaid : Prop := Claim7.holds Tryd.pinned (.plain (OpenSpec.upto flowAheadSpec)) flowAheadUptoCard

/-- THE SECOND FORM's CARD OF 'capstanlaw09.FlowNested'. -/
def flowNestedUptoCard : Claim7 := { stood := { row := flowNestedUptoRow, standIns := [], harness := (true, "64afbe8193fafbd21021bffc1f42958caf34197f9490ae58f89f75263333c9a1"), looks := false }, kinds := [], alts := [], laidByText := true, laidKinds := [.data], laidTests := true, laidLooks := .later }
def FlowNestedUptoCardSaid : Prop := Claim7.holds Tryd.pinned (.plain (OpenSpec.upto flowNestedSpec)) flowNestedUptoCard
end Rows
end Go.Proofs.YtbejlahmhloloaaDoor
