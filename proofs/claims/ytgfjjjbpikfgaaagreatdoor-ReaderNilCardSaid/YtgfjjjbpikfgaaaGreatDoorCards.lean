/-
  DERIVED. GIVEN WITH THE SEED: THE CARDS: each row of YtgfjjjbpikfgaaaGreatDoorRows.lean that lists a variable, with what it lists TIED to the program's text (the seventh form; the later family's looks); each row that meets fmt, with fmt's text TOLD by the authors' own Lean function (tested against real Go, not proved from fmt's source: count such statements apart). THE CARD IS WHAT COUNTS. Prove the row's statement (the work); the ties are given (YtgfjjjbpikfgaaaGreatDoorTie.lean); close each card by the builder's one call (the guide's Derived/Test/ToyasCard.lean, 'card_holds'). Laid BY PROGRAM, IN A SANDBOX (cutbox-door.mjs). By AI agents, Wed Nov 11 2026. No macro, syntax, notation, axiom, sorry.
-/
import Derived.Test.YtgfjjjbpikfgaaaGreatDoorRows
import GoSem.ClaimSeven
namespace Go.Proofs.YtgfjjjbpikfgaaaGreatDoor
namespace Rows

/-- THE TIED CARD OF 'capstanlaw19.ObjectNil'. -/
def objectNilCard : Claim7 := { stood := { row := objectNilRow, standIns := [], harness := (true, "34801d0e500e8e0d236e801f7e35b8c8c38ec2dab3259c27c155cd823ee7a2a9"), looks := true }, kinds := [], alts := [], laidByText := true, laidKinds := [.data, .data], laidTests := true, laidLooks := .later }
def ObjectNilCardSaid : Prop := Claim7.holds Tryz.pinned (.plain (OpenSpec.ofChange objectNilSpec)) objectNilCard

/-- THE TIED CARD OF 'capstanlaw25.ReplicaNil'. -/
def replicaNilCard : Claim7 := { stood := { row := replicaNilRow, standIns := [], harness := (true, "34801d0e500e8e0d236e801f7e35b8c8c38ec2dab3259c27c155cd823ee7a2a9"), looks := true }, kinds := [], alts := [], laidByText := true, laidKinds := [.data, .data], laidTests := true, laidLooks := .later }
def ReplicaNilCardSaid : Prop := Claim7.holds Tryz.pinned (.plain (OpenSpec.ofChange replicaNilSpec)) replicaNilCard

/-- THE TIED CARD OF 'capstanlaw28.ReaderNil'. -/
def readerNilCard : Claim7 := { stood := { row := readerNilRow, standIns := [], harness := (true, "34801d0e500e8e0d236e801f7e35b8c8c38ec2dab3259c27c155cd823ee7a2a9"), looks := true }, kinds := [], alts := [], laidByText := true, laidKinds := [.data, .data], laidTests := true, laidLooks := .later }
def ReaderNilCardSaid : Prop := Claim7.holds Tryz.pinned (.plain (OpenSpec.ofChange readerNilSpec)) readerNilCard

/-- THE TIED CARD OF 'capstanlaw27.ClientNil'. -/
def clientNilCard : Claim7 := { stood := { row := clientNilRow, standIns := [], harness := (true, "34801d0e500e8e0d236e801f7e35b8c8c38ec2dab3259c27c155cd823ee7a2a9"), looks := true }, kinds := [], alts := [], laidByText := true, laidKinds := [.data, .data], laidTests := true, laidLooks := .later }
def ClientNilCardSaid : Prop := Claim7.holds Tryz.pinned (.plain (OpenSpec.ofChange clientNilSpec)) clientNilCard

/-- THE TIED CARD OF 'capstanlaw29.EngineNil'. -/
def engineNilCard : Claim7 := { stood := { row := engineNilRow, standIns := [], harness := (true, "34801d0e500e8e0d236e801f7e35b8c8c38ec2dab3259c27c155cd823ee7a2a9"), looks := true }, kinds := [], alts := [], laidByText := true, laidKinds := [.data, .data, .data], laidTests := true, laidLooks := .later }
def EngineNilCardSaid : Prop := Claim7.holds Tryz.pinned (.plain (OpenSpec.ofChange engineNilSpec)) engineNilCard

/-- THE SECOND FORM's CARD OF 'capstanlaw19.ObjectNil'. -/
def objectNilUptoCard : Claim7 := { stood := { row := objectNilUptoRow, standIns := [], harness := (true, "34801d0e500e8e0d236e801f7e35b8c8c38ec2dab3259c27c155cd823ee7a2a9"), looks := true }, kinds := [], alts := [], laidByText := true, laidKinds := [.data, .data], laidTests := true, laidLooks := .later }
def ObjectNilUptoCardSaid : Prop := Claim7.holds Tryz.pinned (.plain (OpenSpec.upto objectNilSpec)) objectNilUptoCard

/-- THE SECOND FORM's CARD OF 'capstanlaw25.ReplicaNil'. -/
def replicaNilUptoCard : Claim7 := { stood := { row := replicaNilUptoRow, standIns := [], harness := (true, "34801d0e500e8e0d236e801f7e35b8c8c38ec2dab3259c27c155cd823ee7a2a9"), looks := true }, kinds := [], alts := [], laidByText := true, laidKinds := [.data, .data], laidTests := true, laidLooks := .later }
def ReplicaNilUptoCardSaid : Prop := Claim7.holds Tryz.pinned (.plain (OpenSpec.upto replicaNilSpec)) replicaNilUptoCard

/-- THE SECOND FORM's CARD OF 'capstanlaw28.ReaderNil'. -/
def readerNilUptoCard : Claim7 := { stood := { row := readerNilUptoRow, standIns := [], harness := (true, "34801d0e500e8e0d236e801f7e35b8c8c38ec2dab3259c27c155cd823ee7a2a9"), looks := true }, kinds := [], alts := [], laidByText := true, laidKinds := [.data, .data], laidTests := true, laidLooks := .later }
def ReaderNilUptoCardSaid : Prop := Claim7.holds Tryz.pinned (.plain (OpenSpec.upto readerNilSpec)) readerNilUptoCard

/-- THE SECOND FORM's CARD OF 'capstanlaw27.ClientNil'. -/
def clientNilUptoCard : Claim7 := { stood := { row := clientNilUptoRow, standIns := [], harness := (true, "34801d0e500e8e0d236e801f7e35b8c8c38ec2dab3259c27c155cd823ee7a2a9"), looks := true }, kinds := [], alts := [], laidByText := true, laidKinds := [.data, .data], laidTests := true, laidLooks := .later }
def ClientNilUptoCardSaid : Prop := Claim7.holds Tryz.pinned (.plain (OpenSpec.upto clientNilSpec)) clientNilUptoCard

/-- THE SECOND FORM's CARD OF 'capstanlaw29.EngineNil'. -/
def engineNilUptoCard : Claim7 := { stood := { row := engineNilUptoRow, standIns := [], harness := (true, "34801d0e500e8e0d236e801f7e35b8c8c38ec2dab3259c27c155cd823ee7a2a9"), looks := true }, kinds := [], alts := [], laidByText := true, laidKinds := [.data, .data, .data], laidTests := true, laidLooks := .later }
def EngineNilUptoCardSaid : Prop := Claim7.holds Tryz.pinned (.plain (OpenSpec.upto engineNilSpec)) engineNilUptoCard
end Rows
end Go.Proofs.YtgfjjjbpikfgaaaGreatDoor
