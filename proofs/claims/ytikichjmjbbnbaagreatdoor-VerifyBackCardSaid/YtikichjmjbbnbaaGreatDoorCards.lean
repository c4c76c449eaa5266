/-
  DERIVED. GIVEN WITH THE SEED: THE CARDS: each row of YtikichjmjbbnbaaGreatDoorRows.lean that lists a variable, with what it lists TIED to the program's text (the seventh form; the later family's looks); each row that meets fmt, with fmt's text TOLD by the authors' own Lean function (tested against real Go, not proved from fmt's source: count such statements apart). THE CARD IS WHAT COUNTS. Prove the row's statement (the work); the ties are given (YtikichjmjbbnbaaGreatDoorTie.lean); close each card by the builder's one call (the guide's Derived/Test/ToyasCard.lean, 'card_holds'). Laid BY PROGRAM, IN A SANDBOX (cutbox-door.mjs). By AI agents, Wed Nov 11 2026. No macro, syntax, notation, axiom, sorry.
-/
import Derived.Test.YtikichjmjbbnbaaGreatDoorRows
import GoSem.ClaimSeven
namespace Go.Proofs.YtikichjmjbbnbaaGreatDoor
namespace Rows

/-- THE TIED CARD OF 'capstanlaw14.VerifyBack'. -/
def verifyBackCard : Claim7 := { stood := { row := verifyBackRow, standIns := [], harness := (true, "6d52c0c2919ed25870cc2f48da0ca0ca1363b26ba40473773f9cd848f74f03d2"), looks := true }, kinds := [], alts := [], laidByText := true, laidKinds := [.data, .data], laidTests := true, laidLooks := .later }
def VerifyBackCardSaid : Prop := Claim7.holds Tryz.pinned (.plain (OpenSpec.ofChange verifyBackSpec)) verifyBackCard

/-- THE SECOND FORM's CARD OF 'capstanlaw14.VerifyBack'. -/
def verifyBackUptoCard : Claim7 := { stood := { row := verifyBackUptoRow, standIns := [], harness := (true, "6d52c0c2919ed25870cc2f48da0ca0ca1363b26ba40473773f9cd848f74f03d2"), looks := true }, kinds := [], alts := [], laidByText := true, laidKinds := [.data, .data], laidTests := true, laidLooks := .later }
def VerifyBackUptoCardSaid : Prop := Claim7.holds Tryz.pinned (.plain (OpenSpec.upto verifyBackSpec)) verifyBackUptoCard
end Rows
end Go.Proofs.YtikichjmjbbnbaaGreatDoor
