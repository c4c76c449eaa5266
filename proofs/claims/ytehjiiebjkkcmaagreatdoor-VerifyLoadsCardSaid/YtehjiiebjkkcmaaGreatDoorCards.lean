/-
  DERIVED. GIVEN WITH THE SEED: THE CARDS: each row of YtehjiiebjkkcmaaGreatDoorRows.lean that lists a variable, with what it lists TIED to the program's text (the seventh form; the later family's looks); each row that meets fmt, with fmt's text TOLD by the authors' own Lean function (tested against real Go, not proved from fmt's source: count such statements apart). THE CARD IS WHAT COUNTS. Prove the row's statement (the work); the ties are given (YtehjiiebjkkcmaaGreatDoorTie.lean); close each card by the builder's one call (the guide's Derived/Test/ToyasCard.lean, 'card_holds'). Laid BY PROGRAM, IN A SANDBOX (cutbox-door.mjs). By AI agents, Wed Nov 11 2026. No macro, syntax, notation, axiom, sorry.
-/
import Derived.Test.YtehjiiebjkkcmaaGreatDoorRows
import GoSem.ClaimSeven
namespace Go.Proofs.YtehjiiebjkkcmaaGreatDoor
namespace Rows

/-- THE TIED CARD OF 'capstanlaw14.VerifyAll'. -/
def verifyAllCard : Claim7 := { stood := { row := verifyAllRow, standIns := [], harness := (true, "592333c7a2a26ae6717ca700cf30a6aab0b7241ec995681c703f16b49cf10f95"), looks := true }, kinds := [], alts := [], laidByText := true, laidKinds := [.data, .data], laidTests := true, laidLooks := .later }
def VerifyAllCardSaid : Prop := Claim7.holds Tryz.pinned (.plain (OpenSpec.ofChange verifyAllSpec)) verifyAllCard

/-- THE TIED CARD OF 'capstanlaw14.VerifyMore'. -/
def verifyMoreCard : Claim7 := { stood := { row := verifyMoreRow, standIns := [], harness := (true, "592333c7a2a26ae6717ca700cf30a6aab0b7241ec995681c703f16b49cf10f95"), looks := true }, kinds := [], alts := [], laidByText := true, laidKinds := [.data, .data], laidTests := true, laidLooks := .later }
def VerifyMoreCardSaid : Prop := Claim7.holds Tryz.pinned (.plain (OpenSpec.ofChange verifyMoreSpec)) verifyMoreCard

/-- THE TIED CARD OF 'capstanlaw14.VerifyDeclares'. -/
def verifyDeclaresCard : Claim7 := { stood := { row := verifyDeclaresRow, standIns := [], harness := (true, "592333c7a2a26ae6717ca700cf30a6aab0b7241ec995681c703f16b49cf10f95"), looks := true }, kinds := [], alts := [], laidByText := true, laidKinds := [.data, .data], laidTests := true, laidLooks := .later }
def VerifyDeclaresCardSaid : Prop := Claim7.holds Tryz.pinned (.plain (OpenSpec.ofChange verifyDeclaresSpec)) verifyDeclaresCard

/-- THE TIED CARD OF 'capstanlaw14.VerifyTells'. -/
def verifyTellsCard : Claim7 := { stood := { row := verifyTellsRow, standIns := [], harness := (true, "592333c7a2a26ae6717ca700cf30a6aab0b7241ec995681c703f16b49cf10f95"), looks := true }, kinds := [], alts := [], laidByText := true, laidKinds := [.data], laidTests := true, laidLooks := .later }
def VerifyTellsCardSaid : Prop := Claim7.holds Tryz.pinned (.plain (OpenSpec.ofChange verifyTellsSpec)) verifyTellsCard

/-- THE TIED CARD OF 'capstanlaw14.VerifyLoads'. -/
def verifyLoadsCard : Claim7 := { stood := { row := verifyLoadsRow, standIns := [], harness := (true, "592333c7a2a26ae6717ca700cf30a6aab0b7241ec995681c703f16b49cf10f95"), looks := true }, kinds := [], alts := [], laidByText := true, laidKinds := [.data, .data], laidTests := true, laidLooks := .later }
def VerifyLoadsCardSaid : Prop := Claim7.holds Tryz.pinned (.plain (OpenSpec.ofChange verifyLoadsSpec)) verifyLoadsCard

/-- THE SECOND FORM's CARD OF 'capstanlaw14.VerifyAll'. -/
def verifyAllUptoCard : Claim7 := { stood := { row := verifyAllUptoRow, standIns := [], harness := (true, "592333c7a2a26ae6717ca700cf30a6aab0b7241ec995681c703f16b49cf10f95"), looks := true }, kinds := [], alts := [], laidByText := true, laidKinds := [.data, .data], laidTests := true, laidLooks := .later }
def VerifyAllUptoCardSaid : Prop := Claim7.holds Tryz.pinned (.plain (OpenSpec.upto verifyAllSpec)) verifyAllUptoCard

/-- THE SECOND FORM's CARD OF 'capstanlaw14.VerifyMore'. -/
def verifyMoreUptoCard : Claim7 := { stood := { row := verifyMoreUptoRow, standIns := [], harness := (true, "592333c7a2a26ae6717ca700cf30a6aab0b7241ec995681c703f16b49cf10f95"), looks := true }, kinds := [], alts := [], laidByText := true, laidKinds := [.data, .data], laidTests := true, laidLooks := .later }
def VerifyMoreUptoCardSaid : Prop := Claim7.holds Tryz.pinned (.plain (OpenSpec.upto verifyMoreSpec)) verifyMoreUptoCard

/-- THE SECOND FORM's CARD OF 'capstanlaw14.VerifyDeclares'. -/
def verifyDeclaresUptoCard : Claim7 := { stood := { row := verifyDeclaresUptoRow, standIns := [], harness := (true, "592333c7a2a26ae6717ca700cf30a6aab0b7241ec995681c703f16b49cf10f95"), looks := true }, kinds := [], alts := [], laidByText := true, laidKinds := [.data, .data], laidTests := true, laidLooks := .later }
def VerifyDeclaresUptoCardSaid : Prop := Claim7.holds Tryz.pinned (.plain (OpenSpec.upto verifyDeclaresSpec)) verifyDeclaresUptoCard

/-- THE SECOND FORM's CARD OF 'capstanlaw14.VerifyTells'. -/
def verifyTellsUptoCard : Claim7 := { stood := { row := verifyTellsUptoRow, standIns := [], harness := (true, "592333c7a2a26ae6717ca700cf30a6aab0b7241ec995681c703f16b49cf10f95"), looks := true }, kinds := [], alts := [], laidByText := true, laidKinds := [.data], laidTests := true, laidLooks := .later }
def VerifyTellsUptoCardSaid : Prop := Claim7.holds Tryz.pinned (.plain (OpenSpec.upto verifyTellsSpec)) verifyTellsUptoCard

/-- THE SECOND FORM's CARD OF 'capstanlaw14.VerifyLoads'. -/
def verifyLoadsUptoCard : Claim7 := { stood := { row := verifyLoadsUptoRow, standIns := [], harness := (true, "592333c7a2a26ae6717ca700cf30a6aab0b7241ec995681c703f16b49cf10f95"), looks := true }, kinds := [], alts := [], laidByText := true, laidKinds := [.data, .data], laidTests := true, laidLooks := .later }
def VerifyLoadsUptoCardSaid : Prop := Claim7.holds Tryz.pinned (.plain (OpenSpec.upto verifyLoadsSpec)) verifyLoadsUptoCard
end Rows
end Go.Proofs.YtehjiiebjkkcmaaGreatDoor
