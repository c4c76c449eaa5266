/-
  No cell of these rows narrows 'for every input' (looked for: loops, veiled, ifaces, maps, wideKeys, modest, calm, conditions, laid).
  DERIVED. THE GIVEN ROWS OF THIS SEAT. 5 by the template 'for every input the law returns true; each argument reads behind the call as it read before'; 0 by the template 'total and deterministic' (their statements: YtbejlahmhloloaaTotals.lean).
  GIVEN WITH THE SEED: the statements are not yours to turn. If you find one false, say at which input.
  Laid BY PROGRAM, IN A SANDBOX (cutbox-rows.mjs): the forced cells as the released guide's own fill.sh prints them over the translation 7b2eaf0a279b8b16… (all of the seat's roots in one cut). By AI agents, Wed Nov 11 2026. No macro, syntax, notation, axiom, sorry.
-/
import Derived.Test.YtbejlahmhloloaaChecked
import GoSem.Claim
import GoSem.ClaimJoined
import GoSem.ClaimMapViews
import Derived.JoinedTies
import Derived.KernelRfl
namespace Go.Proofs.Ytbejlahmhloloaa
/- THE CELL 'sum', in the pinned program and in every row, IS THE sha256 OF THE DUMP (.gsa) THAT YtbejlahmhloloaaProg.lean LOADS. Nothing in Lean hashes anything: it is a label: what it is worth is what the hold of that sum in a sandbox is worth. -/
noncomputable def Try.pinned : Pinned := { name := "ytbejlahmhloloaa", sum := "7b2eaf0a279b8b16a7310f535675fb068fd5058cdd2e8035381e15d86aa4e8d5", checked := Try.checked }
namespace Rows
def none {H : Type} : Left H := { results := [], args := [] }

/-- 'capstanlaw12.CostFits': WHATEVER THE INPUT: true; the input reads as it did. -/
def costFitsSpec : ChangeSpec := { name := "costFits", fn := fun _ => fun
  | [d1, d2] => { results := [.lit (.bool true)], args := [d1, d2] }
  | _ => none }
def costFitsRow : OpenClaim := { program := "ytbejlahmhloloaa", sum := "7b2eaf0a279b8b16a7310f535675fb068fd5058cdd2e8035381e15d86aa4e8d5", func := "capstan/capstanlaw12.CostFits", spec := "costFits", apart := false }
def CostFitsSaid : Prop := costFitsRow.holds Try.pinned (OpenSpec.ofChange costFitsSpec)

/-- ITS FALSE NEIGHBOUR: 'it returns false'. Refute it at one input. -/
def costFitsWrong : ChangeSpec := { name := "costFits", fn := fun _ => fun
  | [d1, d2] => { results := [.lit (.bool false)], args := [d1, d2] }
  | _ => none }
def CostFitsWrongFalsely : Prop := costFitsRow.holds Try.pinned (OpenSpec.ofChange costFitsWrong)

/-- 'capstanlaw30.HistoryOf': WHATEVER THE INPUT: true; the input reads as it did. -/
def historyOfSpec : ChangeSpec := { name := "historyOf", fn := fun _ => fun
  | [d] => { results := [.lit (.bool true)], args := [d] }
  | _ => none }
def historyOfRow : OpenClaim := { program := "ytbejlahmhloloaa", sum := "7b2eaf0a279b8b16a7310f535675fb068fd5058cdd2e8035381e15d86aa4e8d5", func := "capstan/capstanlaw30.HistoryOf", spec := "historyOf", unfollowed := true, recurses := true, apart := false }
def HistoryOfSaid : Prop := historyOfRow.holds Try.pinned (OpenSpec.ofChange historyOfSpec)

/-- ITS FALSE NEIGHBOUR: 'it returns false'. Refute it at one input. -/
def historyOfWrong : ChangeSpec := { name := "historyOf", fn := fun _ => fun
  | [d] => { results := [.lit (.bool false)], args := [d] }
  | _ => none }
def HistoryOfWrongFalsely : Prop := historyOfRow.holds Try.pinned (OpenSpec.ofChange historyOfWrong)

/-- 'capstanlaw26.SnapDue': WHATEVER THE INPUT: true; the input reads as it did. -/
def snapDueSpec : ChangeSpec := { name := "snapDue", fn := fun _ => fun
  | [d1, d2, d3] => { results := [.lit (.bool true)], args := [d1, d2, d3] }
  | _ => none }
def snapDueRow : OpenClaim := { program := "ytbejlahmhloloaa", sum := "7b2eaf0a279b8b16a7310f535675fb068fd5058cdd2e8035381e15d86aa4e8d5", func := "capstan/capstanlaw26.SnapDue", spec := "snapDue", unfollowed := true, recurses := true, apart := false }
def SnapDueSaid : Prop := snapDueRow.holds Try.pinned (OpenSpec.ofChange snapDueSpec)

/-- ITS FALSE NEIGHBOUR: 'it returns false'. Refute it at one input. -/
def snapDueWrong : ChangeSpec := { name := "snapDue", fn := fun _ => fun
  | [d1, d2, d3] => { results := [.lit (.bool false)], args := [d1, d2, d3] }
  | _ => none }
def SnapDueWrongFalsely : Prop := snapDueRow.holds Try.pinned (OpenSpec.ofChange snapDueWrong)

/-- 'capstanlaw30.HistoryTells': WHATEVER THE INPUT: true; the input reads as it did. -/
def historyTellsSpec : ChangeSpec := { name := "historyTells", fn := fun _ => fun
  | [d] => { results := [.lit (.bool true)], args := [d] }
  | _ => none }
def historyTellsRow : OpenClaim := { program := "ytbejlahmhloloaa", sum := "7b2eaf0a279b8b16a7310f535675fb068fd5058cdd2e8035381e15d86aa4e8d5", func := "capstan/capstanlaw30.HistoryTells", spec := "historyTells", unfollowed := true, recurses := true, apart := false }
def HistoryTellsSaid : Prop := historyTellsRow.holds Try.pinned (OpenSpec.ofChange historyTellsSpec)

/-- ITS FALSE NEIGHBOUR: 'it returns false'. Refute it at one input. -/
def historyTellsWrong : ChangeSpec := { name := "historyTells", fn := fun _ => fun
  | [d] => { results := [.lit (.bool false)], args := [d] }
  | _ => none }
def HistoryTellsWrongFalsely : Prop := historyTellsRow.holds Try.pinned (OpenSpec.ofChange historyTellsWrong)

/-- 'capstanlaw30.HistoryAhead': WHATEVER THE INPUT: true; the input reads as it did. -/
def historyAheadSpec : ChangeSpec := { name := "historyAhead", fn := fun _ => fun
  | [d1, d2, d3, d4, d5] => { results := [.lit (.bool true)], args := [d1, d2, d3, d4, d5] }
  | _ => none }
def historyAheadRow : OpenClaim := { program := "ytbejlahmhloloaa", sum := "7b2eaf0a279b8b16a7310f535675fb068fd5058cdd2e8035381e15d86aa4e8d5", func := "capstan/capstanlaw30.HistoryAhead", spec := "historyAhead", unfollowed := true, recurses := true, apart := false }
def HistoryAheadSaid : Prop := historyAheadRow.holds Try.pinned (OpenSpec.ofChange historyAheadSpec)

/-- ITS FALSE NEIGHBOUR: 'it returns false'. Refute it at one input. -/
def historyAheadWrong : ChangeSpec := { name := "historyAhead", fn := fun _ => fun
  | [d1, d2, d3, d4, d5] => { results := [.lit (.bool false)], args := [d1, d2, d3, d4, d5] }
  | _ => none }
def HistoryAheadWrongFalsely : Prop := historyAheadRow.holds Try.pinned (OpenSpec.ofChange historyAheadWrong)

/- THE SECOND FORM. 'bulk': how many values and letters a reading holds, each counted each time it is reached (what is shared counts as often as it is met; a slice's spare places count too). A statement '..UptoSaid' is the law's where the arguments, and the package variables that the reading takes, are together of bulk at most 1048576: NARROWER than '..Said'. Prove '..Said' where nothing that the law and all that it calls make is longer than what came in: it says more and counts as full. Else prove '..UptoSaid'. A law counts once. -/
mutual
def uptoBulk {H : Type} : DataW H → Nat
  | .lit (.string bytes) => bytes.length + 1
  | .lit _ => 1
  | .nil => 1
  | .ptr d => uptoBulk d + 1
  | .slice elems spare => uptoBulkAll elems + uptoBulkAll spare + 1
  | .agg parts => uptoBulkAll parts + 1
  | .iface _ d => uptoBulk d + 1
  | .map entries => uptoBulkEntries entries + 1
  | .held _ => 1
def uptoBulkAll {H : Type} : List (DataW H) → Nat
  | [] => 0
  | d :: r => uptoBulk d + uptoBulkAll r
def uptoBulkEntries {H : Type} : List (Lit × DataW H) → Nat
  | [] => 0
  | x :: r => uptoBulkEntry x + uptoBulkEntries r
def uptoBulkEntry {H : Type} : Lit × DataW H → Nat
  | (.string bytes, d) => bytes.length + uptoBulk d + 1
  | (_, d) => uptoBulk d + 1
 end
def uptoSmall : (H : Type) → List (DataW H) → Bool := fun _ ds => decide (uptoBulkAll ds ≤ 1048576)
def OpenSpec.upto (s : _root_.Go.ChangeSpec) : _root_.Go.OpenSpec := { _root_.Go.OpenSpec.ofChange s with cond := some uptoSmall }

/-- 'capstanlaw12.CostFits', WHERE WHAT IT READS IS OF BULK AT MOST 1048576: true; the input reads as it did. -/
def costFitsUptoRow : OpenClaim := { program := "ytbejlahmhloloaa", sum := "7b2eaf0a279b8b16a7310f535675fb068fd5058cdd2e8035381e15d86aa4e8d5", func := "capstan/capstanlaw12.CostFits", spec := "costFits", apart := false, narrowed := true }
def CostFitsUptoSaid : Prop := costFitsUptoRow.holds Try.pinned (OpenSpec.upto costFitsSpec)

/-- 'capstanlaw30.HistoryOf', WHERE WHAT IT READS IS OF BULK AT MOST 1048576: true; the input reads as it did. -/
def historyOfUptoRow : OpenClaim := { program := "ytbejlahmhloloaa", sum := "7b2eaf0a279b8b16a7310f535675fb068fd5058cdd2e8035381e15d86aa4e8d5", func := "capstan/capstanlaw30.HistoryOf", spec := "historyOf", unfollowed := true, recurses := true, apart := false, narrowed := true }
def HistoryOfUptoSaid : Prop := historyOfUptoRow.holds Try.pinned (OpenSpec.upto historyOfSpec)

/-- 'capstanlaw26.SnapDue', WHERE WHAT IT READS IS OF BULK AT MOST 1048576: true; the input reads as it did. -/
def snapDueUptoRow : OpenClaim := { program := "ytbejlahmhloloaa", sum := "7b2eaf0a279b8b16a7310f535675fb068fd5058cdd2e8035381e15d86aa4e8d5", func := "capstan/capstanlaw26.SnapDue", spec := "snapDue", unfollowed := true, recurses := true, apart := false, narrowed := true }
def SnapDueUptoSaid : Prop := snapDueUptoRow.holds Try.pinned (OpenSpec.upto snapDueSpec)

/-- 'capstanlaw30.HistoryTells', WHERE WHAT IT READS IS OF BULK AT MOST 1048576: true; the input reads as it did. -/
def historyTellsUptoRow : OpenClaim := { program := "ytbejlahmhloloaa", sum := "7b2eaf0a279b8b16a7310f535675fb068fd5058cdd2e8035381e15d86aa4e8d5", func := "capstan/capstanlaw30.HistoryTells", spec := "historyTells", unfollowed := true, recurses := true, apart := false, narrowed := true }
def HistoryTellsUptoSaid : Prop := historyTellsUptoRow.holds Try.pinned (OpenSpec.upto historyTellsSpec)

/-- 'capstanlaw30.HistoryAhead', WHERE WHAT IT READS IS OF BULK AT MOST 1048576: true; the input reads as it did. -/
def historyAheadUptoRow : OpenClaim := { program := "ytbejlahmhloloaa", sum := "7b2eaf0a279b8b16a7310f535675fb068fd5058cdd2e8035381e15d86aa4e8d5", func := "capstan/capstanlaw30.HistoryAhead", spec := "historyAhead", unfollowed := true, recurses := true, apart := false, narrowed := true }
def HistoryAheadUptoSaid : Prop := historyAheadUptoRow.holds Try.pinned (OpenSpec.upto historyAheadSpec)

end Rows
end Go.Proofs.Ytbejlahmhloloaa
