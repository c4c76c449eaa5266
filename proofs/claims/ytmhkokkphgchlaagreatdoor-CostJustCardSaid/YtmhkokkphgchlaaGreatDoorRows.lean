/-
  NARROWER THAN 'FOR EVERY INPUT', by the rows' own cells (each row's printed sentence says how): CostRuns: laid · CostOthers: laid · CostTells: laid · CostDeclares: laid · CostJust: laid.
  DERIVED. THE GIVEN ROWS OF THIS SEAT. 5 by the template 'for every input the law returns true; each argument reads behind the call as it read before'; 0 by the template 'total and deterministic' (their statements: YtmhkokkphgchlaaGreatDoorTotals.lean).
  GIVEN WITH THE SEED: the statements are not yours to turn. If you find one false, say at which input.
  Laid BY PROGRAM, IN A SANDBOX (cutbox-rows.mjs): the forced cells as the released guide's own fill.sh prints them over the translation ff62f8f556e2f70c… (all of the seat's roots in one cut). By AI agents, Wed Nov 11 2026. No macro, syntax, notation, axiom, sorry.
-/
import Derived.Test.YtmhkokkphgchlaaGreatDoorChecked
import GoSem.Claim
import GoSem.ClaimJoined
import GoSem.ClaimMapViews
import Derived.JoinedTies
import Derived.KernelRfl
namespace Go.Proofs.YtmhkokkphgchlaaGreatDoor
/- THE CELL 'sum', in the pinned program and in every row, IS THE sha256 OF THE DUMP (.gsa) THAT YtmhkokkphgchlaaGreatDoorProg.lean LOADS. Nothing in Lean hashes anything: it is a label: what it is worth is what the hold of that sum in a sandbox is worth. -/
noncomputable def Tryz.pinned : Pinned := { name := "ytmhkokkphgchlaagreatdoor", sum := "ff62f8f556e2f70c6035403bb0b14e105fe5ef12b6b1609e2e89e09ca5350d63", checked := Tryz.checked }
namespace Rows
def none {H : Type} : Left H := { results := [], args := [] }

/- WHAT THE LISTED PACKAGE-LEVEL VARIABLES READ AS WHEN THE CALL BEGINS. Each datum BY PROGRAM (the guide's laid-datum.mjs) off the statement by which the dump's own 'gosem.cut.vars' lays the variable. In a bare row this is a premise. The card (YtmhkokkphgchlaaGreatDoorCards.lean) ties it to the program's text. -/
def laid_capstan_op_bounds {H : Type} : DataW H := .agg [.agg [.lit (.int .i64 0), .lit (.int .i64 0)], .agg [.lit (.int .i64 0), .lit (.int .i64 31)], .agg [.lit (.int .i64 0), .lit (.int .i64 15)], .agg [.lit (.int .i64 0), .lit (.int .i64 3)], .agg [.lit (.int .i64 0), .lit (.int .i64 1024)], .agg [.lit (.int .i64 0), .lit (.int .i64 199)], .agg [.lit (.int .i64 0), .lit (.int .i64 15)], .agg [.lit (.int .i64 0), .lit (.int .i64 255)], .agg [.lit (.int .i64 1), .lit (.int .i64 100)]]

/-- 'capstanlaw12.CostRuns': WHATEVER THE INPUT: true; the input reads as it did. -/
def costRunsSpec : ChangeSpec := { name := "costRuns", fn := fun _ => fun
  | [d1, d2, d3] => { results := [.lit (.bool true)], args := [d1, d2, d3] }
  | _ => none }
def costRunsRow : OpenClaim := { program := "ytmhkokkphgchlaagreatdoor", sum := "ff62f8f556e2f70c6035403bb0b14e105fe5ef12b6b1609e2e89e09ca5350d63", func := "capstan/capstanlaw12.CostRuns", spec := "costRuns", unfollowed := true, recurses := true, named := ["capstan/op.bounds"], apart := false, laid := [("capstan/op.bounds", laid_capstan_op_bounds)] }
def CostRunsSaid : Prop := costRunsRow.holds Tryz.pinned (OpenSpec.ofChange costRunsSpec)

/-- ITS FALSE NEIGHBOUR: 'it returns false'. Refute it at one input. -/
def costRunsWrong : ChangeSpec := { name := "costRuns", fn := fun _ => fun
  | [d1, d2, d3] => { results := [.lit (.bool false)], args := [d1, d2, d3] }
  | _ => none }
def CostRunsWrongFalsely : Prop := costRunsRow.holds Tryz.pinned (OpenSpec.ofChange costRunsWrong)

/-- 'capstanlaw12.CostOthers': WHATEVER THE INPUT: true; the input reads as it did. -/
def costOthersSpec : ChangeSpec := { name := "costOthers", fn := fun _ => fun
  | [d] => { results := [.lit (.bool true)], args := [d] }
  | _ => none }
def costOthersRow : OpenClaim := { program := "ytmhkokkphgchlaagreatdoor", sum := "ff62f8f556e2f70c6035403bb0b14e105fe5ef12b6b1609e2e89e09ca5350d63", func := "capstan/capstanlaw12.CostOthers", spec := "costOthers", unfollowed := true, recurses := true, named := ["capstan/op.bounds"], apart := false, laid := [("capstan/op.bounds", laid_capstan_op_bounds)] }
def CostOthersSaid : Prop := costOthersRow.holds Tryz.pinned (OpenSpec.ofChange costOthersSpec)

/-- ITS FALSE NEIGHBOUR: 'it returns false'. Refute it at one input. -/
def costOthersWrong : ChangeSpec := { name := "costOthers", fn := fun _ => fun
  | [d] => { results := [.lit (.bool false)], args := [d] }
  | _ => none }
def CostOthersWrongFalsely : Prop := costOthersRow.holds Tryz.pinned (OpenSpec.ofChange costOthersWrong)

/-- 'capstanlaw12.CostTells': WHATEVER THE INPUT: true; the input reads as it did. -/
def costTellsSpec : ChangeSpec := { name := "costTells", fn := fun _ => fun
  | [d] => { results := [.lit (.bool true)], args := [d] }
  | _ => none }
def costTellsRow : OpenClaim := { program := "ytmhkokkphgchlaagreatdoor", sum := "ff62f8f556e2f70c6035403bb0b14e105fe5ef12b6b1609e2e89e09ca5350d63", func := "capstan/capstanlaw12.CostTells", spec := "costTells", unfollowed := true, recurses := true, named := ["capstan/op.bounds"], apart := false, laid := [("capstan/op.bounds", laid_capstan_op_bounds)] }
def CostTellsSaid : Prop := costTellsRow.holds Tryz.pinned (OpenSpec.ofChange costTellsSpec)

/-- ITS FALSE NEIGHBOUR: 'it returns false'. Refute it at one input. -/
def costTellsWrong : ChangeSpec := { name := "costTells", fn := fun _ => fun
  | [d] => { results := [.lit (.bool false)], args := [d] }
  | _ => none }
def CostTellsWrongFalsely : Prop := costTellsRow.holds Tryz.pinned (OpenSpec.ofChange costTellsWrong)

/-- 'capstanlaw12.CostDeclares': WHATEVER THE INPUT: true; the input reads as it did. -/
def costDeclaresSpec : ChangeSpec := { name := "costDeclares", fn := fun _ => fun
  | [d1, d2, d3, d4] => { results := [.lit (.bool true)], args := [d1, d2, d3, d4] }
  | _ => none }
def costDeclaresRow : OpenClaim := { program := "ytmhkokkphgchlaagreatdoor", sum := "ff62f8f556e2f70c6035403bb0b14e105fe5ef12b6b1609e2e89e09ca5350d63", func := "capstan/capstanlaw12.CostDeclares", spec := "costDeclares", unfollowed := true, recurses := true, named := ["capstan/op.bounds"], apart := false, laid := [("capstan/op.bounds", laid_capstan_op_bounds)] }
def CostDeclaresSaid : Prop := costDeclaresRow.holds Tryz.pinned (OpenSpec.ofChange costDeclaresSpec)

/-- ITS FALSE NEIGHBOUR: 'it returns false'. Refute it at one input. -/
def costDeclaresWrong : ChangeSpec := { name := "costDeclares", fn := fun _ => fun
  | [d1, d2, d3, d4] => { results := [.lit (.bool false)], args := [d1, d2, d3, d4] }
  | _ => none }
def CostDeclaresWrongFalsely : Prop := costDeclaresRow.holds Tryz.pinned (OpenSpec.ofChange costDeclaresWrong)

/-- 'capstanlaw12.CostJust': WHATEVER THE INPUT: true; the input reads as it did. -/
def costJustSpec : ChangeSpec := { name := "costJust", fn := fun _ => fun
  | [d1, d2] => { results := [.lit (.bool true)], args := [d1, d2] }
  | _ => none }
def costJustRow : OpenClaim := { program := "ytmhkokkphgchlaagreatdoor", sum := "ff62f8f556e2f70c6035403bb0b14e105fe5ef12b6b1609e2e89e09ca5350d63", func := "capstan/capstanlaw12.CostJust", spec := "costJust", unfollowed := true, recurses := true, named := ["capstan/op.bounds"], apart := false, laid := [("capstan/op.bounds", laid_capstan_op_bounds)] }
def CostJustSaid : Prop := costJustRow.holds Tryz.pinned (OpenSpec.ofChange costJustSpec)

/-- ITS FALSE NEIGHBOUR: 'it returns false'. Refute it at one input. -/
def costJustWrong : ChangeSpec := { name := "costJust", fn := fun _ => fun
  | [d1, d2] => { results := [.lit (.bool false)], args := [d1, d2] }
  | _ => none }
def CostJustWrongFalsely : Prop := costJustRow.holds Tryz.pinned (OpenSpec.ofChange costJustWrong)

/- THE SECOND FORM. 'bulk': how many values and letters a reading holds, each counted each time it is reached (what is shared counts as often as it is met; a slice's spare places count too). A statement '..UptoSaid' is the law's where the arguments, and the package variables that the reading takes, are together of bulk at most 1048576: NARROWER than '..Said'. Prove '..Said' where nothing that the law and all that it calls make is longer than what came in: it says more and counts as full. Else prove '..UptoSaid'. A law counts once. -/
mutual
def uptoBulk {H : Type} : DataW H → Nat
  | .lit (.string bytes) => bytes.length + 1
  | .lit _ => 1
  | .nil => 1
  | .ptr d => uptoBulk d + 1
  | .slice elems spare => uptoBulkAll elems + uptoBulkAll spare + 1
  | .agg parts => uptoBulkAll parts + 1
  | .iface _ d => uptoBulk d + 1
  | .map entries => uptoBulkEntries entries + 1
  | .held _ => 1
def uptoBulkAll {H : Type} : List (DataW H) → Nat
  | [] => 0
  | d :: r => uptoBulk d + uptoBulkAll r
def uptoBulkEntries {H : Type} : List (Lit × DataW H) → Nat
  | [] => 0
  | x :: r => uptoBulkEntry x + uptoBulkEntries r
def uptoBulkEntry {H : Type} : Lit × DataW H → Nat
  | (.string bytes, d) => bytes.length + uptoBulk d + 1
  | (_, d) => uptoBulk d + 1
 end
def uptoSmall : (H : Type) → List (DataW H) → Bool := fun _ ds => decide (uptoBulkAll ds ≤ 1048576)
def OpenSpec.upto (s : _root_.Go.ChangeSpec) : _root_.Go.OpenSpec := { _root_.Go.OpenSpec.ofChange s with cond := some uptoSmall }

/-- 'capstanlaw12.CostRuns', WHERE WHAT IT READS IS OF BULK AT MOST 1048576: true; the input reads as it did. -/
def costRunsUptoRow : OpenClaim := { program := "ytmhkokkphgchlaagreatdoor", sum := "ff62f8f556e2f70c6035403bb0b14e105fe5ef12b6b1609e2e89e09ca5350d63", func := "capstan/capstanlaw12.CostRuns", spec := "costRuns", unfollowed := true, recurses := true, named := ["capstan/op.bounds"], apart := false, laid := [("capstan/op.bounds", laid_capstan_op_bounds)], narrowed := true }
def CostRunsUptoSaid : Prop := costRunsUptoRow.holds Tryz.pinned (OpenSpec.upto costRunsSpec)

/-- 'capstanlaw12.CostOthers', WHERE WHAT IT READS IS OF BULK AT MOST 1048576: true; the input reads as it did. -/
def costOthersUptoRow : OpenClaim := { program := "ytmhkokkphgchlaagreatdoor", sum := "ff62f8f556e2f70c6035403bb0b14e105fe5ef12b6b1609e2e89e09ca5350d63", func := "capstan/capstanlaw12.CostOthers", spec := "costOthers", unfollowed := true, recurses := true, named := ["capstan/op.bounds"], apart := false, laid := [("capstan/op.bounds", laid_capstan_op_bounds)], narrowed := true }
def CostOthersUptoSaid : Prop := costOthersUptoRow.holds Tryz.pinned (OpenSpec.upto costOthersSpec)

/-- 'capstanlaw12.CostTells', WHERE WHAT IT READS IS OF BULK AT MOST 1048576: true; the input reads as it did. -/
def costTellsUptoRow : OpenClaim := { program := "ytmhkokkphgchlaagreatdoor", sum := "ff62f8f556e2f70c6035403bb0b14e105fe5ef12b6b1609e2e89e09ca5350d63", func := "capstan/capstanlaw12.CostTells", spec := "costTells", unfollowed := true, recurses := true, named := ["capstan/op.bounds"], apart := false, laid := [("capstan/op.bounds", laid_capstan_op_bounds)], narrowed := true }
def CostTellsUptoSaid : Prop := costTellsUptoRow.holds Tryz.pinned (OpenSpec.upto costTellsSpec)

/-- 'capstanlaw12.CostDeclares', WHERE WHAT IT READS IS OF BULK AT MOST 1048576: true; the input reads as it did. -/
def costDeclaresUptoRow : OpenClaim := { program := "ytmhkokkphgchlaagreatdoor", sum := "ff62f8f556e2f70c6035403bb0b14e105fe5ef12b6b1609e2e89e09ca5350d63", func := "capstan/capstanlaw12.CostDeclares", spec := "costDeclares", unfollowed := true, recurses := true, named := ["capstan/op.bounds"], apart := false, laid := [("capstan/op.bounds", laid_capstan_op_bounds)], narrowed := true }
def CostDeclaresUptoSaid : Prop := costDeclaresUptoRow.holds Tryz.pinned (OpenSpec.upto costDeclaresSpec)

/-- 'capstanlaw12.CostJust', WHERE WHAT IT READS IS OF BULK AT MOST 1048576: true; the input reads as it did. -/
def costJustUptoRow : OpenClaim := { program := "ytmhkokkphgchlaagreatdoor", sum := "ff62f8f556e2f70c6035403bb0b14e105fe5ef12b6b1609e2e89e09ca5350d63", func := "capstan/capstanlaw12.CostJust", spec := "costJust", unfollowed := true, recurses := true, named := ["capstan/op.bounds"], apart := false, laid := [("capstan/op.bounds", laid_capstan_op_bounds)], narrowed := true }
def CostJustUptoSaid : Prop := costJustUptoRow.holds Tryz.pinned (OpenSpec.upto costJustSpec)

end Rows
end Go.Proofs.YtmhkokkphgchlaaGreatDoor
