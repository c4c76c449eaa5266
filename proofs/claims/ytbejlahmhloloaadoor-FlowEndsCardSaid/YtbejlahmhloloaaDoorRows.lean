/-
  NARROWER THAN 'FOR EVERY INPUT', by the rows' own cells (each row's printed sentence says how): FlowTells: laid · FlowWays: laid · FlowEnds: laid · FlowAhead: laid · FlowNested: laid.
  DERIVED. THE GIVEN ROWS OF THIS SEAT. 5 by the template 'for every input the law returns true; each argument reads behind the call as it read before'; 0 by the template 'total and deterministic' (their statements: YtbejlahmhloloaaDoorTotals.lean).
  GIVEN WITH THE SEED: the statements are not yours to turn. If you find one false, say at which input.
  Laid BY PROGRAM, IN A SANDBOX (cutbox-rows.mjs): the forced cells as the released guide's own fill.sh prints them over the translation 5387c68a28f0eb70… (all of the seat's roots in one cut). By AI agents, Wed Nov 11 2026. No macro, syntax, notation, axiom, sorry.
-/
import Derived.Test.YtbejlahmhloloaaDoorChecked
import GoSem.Claim
import GoSem.ClaimJoined
import GoSem.ClaimMapViews
import Derived.JoinedTies
import Derived.KernelRfl
namespace Go.Proofs.YtbejlahmhloloaaDoor
/- THE CELL 'sum', in the pinned program and in every row, IS THE sha256 OF THE DUMP (.gsa) THAT YtbejlahmhloloaaDoorProg.lean LOADS. Nothing in Lean hashes anything: it is a label: what it is worth is what the hold of that sum in a sandbox is worth. -/
noncomputable def Tryd.pinned : Pinned := { name := "ytbejlahmhloloaadoor", sum := "5387c68a28f0eb70779ea0b24f920ca11ed14273f7a7e168945b5a1fe2804a96", checked := Tryd.checked }
namespace Rows
def none {H : Type} : Left H := { results := [], args := [] }

/- WHAT THE LISTED PACKAGE-LEVEL VARIABLES READ AS WHEN THE CALL BEGINS. Each datum BY PROGRAM (the guide's laid-datum.mjs) off the statement by which the dump's own 'gosem.cut.vars' lays the variable. In a bare row this is a premise. The card (YtbejlahmhloloaaDoorCards.lean) ties it to the program's text. -/
def laid_capstan_op_bounds {H : Type} : DataW H := .agg [.agg [.lit (.int .i64 0), .lit (.int .i64 0)], .agg [.lit (.int .i64 0), .lit (.int .i64 31)], .agg [.lit (.int .i64 0), .lit (.int .i64 15)], .agg [.lit (.int .i64 0), .lit (.int .i64 3)], .agg [.lit (.int .i64 0), .lit (.int .i64 1024)], .agg [.lit (.int .i64 0), .lit (.int .i64 199)], .agg [.lit (.int .i64 0), .lit (.int .i64 15)], .agg [.lit (.int .i64 0), .lit (.int .i64 255)], .agg [.lit (.int .i64 1), .lit (.int .i64 100)]]

/-- 'capstanlaw09.FlowTells': WHATEVER THE INPUT: true; the input reads as it did. -/
def flowTellsSpec : ChangeSpec := { name := "flowTells", fn := fun _ => fun
  | [d] => { results := [.lit (.bool true)], args := [d] }
  | _ => none }
def flowTellsRow : OpenClaim := { program := "ytbejlahmhloloaadoor", sum := "5387c68a28f0eb70779ea0b24f920ca11ed14273f7a7e168945b5a1fe2804a96", func := "capstan/capstanlaw09.FlowTells", spec := "flowTells", unfollowed := true, recurses := true, named := ["capstan/op.bounds"], apart := false, laid := [("capstan/op.bounds", laid_capstan_op_bounds)] }
def FlowTellsSaid : Prop := flowTellsRow.holds Tryd.pinned (OpenSpec.ofChange flowTellsSpec)

/-- ITS FALSE NEIGHBOUR: 'it returns false'. Refute it at one input. -/
def flowTellsWrong : ChangeSpec := { name := "flowTells", fn := fun _ => fun
  | [d] => { results := [.lit (.bool false)], args := [d] }
  | _ => none }
def FlowTellsWrongFalsely : Prop := flowTellsRow.holds Tryd.pinned (OpenSpec.ofChange flowTellsWrong)

/-- 'capstanlaw09.FlowWays': WHATEVER THE INPUT: true; the input reads as it did. -/
def flowWaysSpec : ChangeSpec := { name := "flowWays", fn := fun _ => fun
  | [d1, d2] => { results := [.lit (.bool true)], args := [d1, d2] }
  | _ => none }
def flowWaysRow : OpenClaim := { program := "ytbejlahmhloloaadoor", sum := "5387c68a28f0eb70779ea0b24f920ca11ed14273f7a7e168945b5a1fe2804a96", func := "capstan/capstanlaw09.FlowWays", spec := "flowWays", unfollowed := true, recurses := true, named := ["capstan/op.bounds"], apart := false, laid := [("capstan/op.bounds", laid_capstan_op_bounds)] }
def FlowWaysSaid : Prop := flowWaysRow.holds Tryd.pinned (OpenSpec.ofChange flowWaysSpec)

/-- ITS FALSE NEIGHBOUR: 'it returns false'. Refute it at one input. -/
def flowWaysWrong : ChangeSpec := { name := "flowWays", fn := fun _ => fun
  | [d1, d2] => { results := [.lit (.bool false)], args := [d1, d2] }
  | _ => none }
def FlowWaysWrongFalsely : Prop := flowWaysRow.holds Tryd.pinned (OpenSpec.ofChange flowWaysWrong)

/-- 'capstanlaw09.FlowEnds': WHATEVER THE INPUT: true; the input reads as it did. -/
def flowEndsSpec : ChangeSpec := { name := "flowEnds", fn := fun _ => fun
  | [d1, d2] => { results := [.lit (.bool true)], args := [d1, d2] }
  | _ => none }
def flowEndsRow : OpenClaim := { program := "ytbejlahmhloloaadoor", sum := "5387c68a28f0eb70779ea0b24f920ca11ed14273f7a7e168945b5a1fe2804a96", func := "capstan/capstanlaw09.FlowEnds", spec := "flowEnds", unfollowed := true, recurses := true, named := ["capstan/op.bounds"], apart := false, laid := [("capstan/op.bounds", laid_capstan_op_bounds)] }
def FlowEndsSaid : Prop := flowEndsRow.holds Tryd.pinned (OpenSpec.ofChange flowEndsSpec)

/-- ITS FALSE NEIGHBOUR: 'it returns false'. Refute it at one input. -/
def flowEndsWrong : ChangeSpec := { name := "flowEnds", fn := fun _ => fun
  | [d1, d2] => { results := [.lit (.bool false)], args := [d1, d2] }
  | _ => none }
def FlowEndsWrongFalsely : Prop := flowEndsRow.holds Tryd.pinned (OpenSpec.ofChange flowEndsWrong)

/-- 'capstanlaw09.FlowAhead': WHATEVER THE INPUT: true; the input reads as it did. -/
def flowAheadSpec : ChangeSpec := { name := "flowAhead", fn := fun _ => fun
  | [d] => { results := [.lit (.bool true)], args := [d] }
  | _ => none }
def flowAheadRow : OpenClaim := { program := "ytbejlahmhloloaadoor", sum := "5387c68a28f0eb70779ea0b24f920ca11ed14273f7a7e168945b5a1fe2804a96", func := "capstan/capstanlaw09.FlowAhead", spec := "flowAhead", unfollowed := true, recurses := true, named := ["capstan/op.bounds"], apart := false, laid := [("capstan/op.bounds", laid_capstan_op_bounds)] }
def FlowAheadSaid : Prop := flowAheadRow.holds Tryd.pinned (OpenSpec.ofChange flowAheadSpec)

/-- ITS FALSE NEIGHBOUR: 'it returns false'. Refute it at one input. -/
def flowAheadWrong : ChangeSpec := { name := "flowAhead", fn := fun _ => fun
  | [d] => { results := [.lit (.bool false)], args := [d] }
  | _ => none }
def FlowAheadWrongFalsely : Prop := flowAheadRow.holds Tryd.pinned (OpenSpec.ofChange flowAheadWrong)

/-- 'capstanlaw09.FlowNested': WHATEVER THE INPUT: true; the input reads as it did. -/
def flowNestedSpec : ChangeSpec := { name := "flowNested", fn := fun _ => fun
  | [d] => { results := [.lit (.bool true)], args := [d] }
  | _ => none }
def flowNestedRow : OpenClaim := { program := "ytbejlahmhloloaadoor", sum := "5387c68a28f0eb70779ea0b24f920ca11ed14273f7a7e168945b5a1fe2804a96", func := "capstan/capstanlaw09.FlowNested", spec := "flowNested", unfollowed := true, recurses := true, named := ["capstan/op.bounds"], apart := false, laid := [("capstan/op.bounds", laid_capstan_op_bounds)] }
def FlowNestedSaid : Prop := flowNestedRow.holds Tryd.pinned (OpenSpec.ofChange flowNestedSpec)

/-- ITS FALSE NEIGHBOUR: 'it returns false'. Refute it at one input. -/
def flowNestedWrong : ChangeSpec := { name := "flowNested", fn := fun _ => fun
  | [d] => { results := [.lit (.bool false)], args := [d] }
  | _ => none }
def FlowNestedWrongFalsely : Prop := flowNestedRow.holds Tryd.pinned (OpenSpec.ofChange flowNestedWrong)

/- THE SECOND FORM. 'bulk': how many values and letters a reading holds, each counted each time it is reached (what is shared counts as often as it is met; a slice's spare places count too). A statement '..UptoSaid' is the law's where the arguments, and the package variables that the reading takes, are together of bulk at most 1048576: NARROWER than '..Said'. Prove '..Said' where nothing that the law and all that it calls make is longer than what came in: it says more and counts as full. Else prove '..UptoSaid'. A law counts once. -/
mutual
def uptoBulk {H : Type} : DataW H → Nat
  | .lit (.string bytes) => bytes.length + 1
  | .lit _ => 1
  | .nil => 1
  | .ptr d => uptoBulk d + 1
  | .slice elems spare => uptoBulkAll elems + uptoBulkAll spare + 1
  | .agg parts => uptoBulkAll parts + 1
  | .iface _ d => uptoBulk d + 1
  | .map entries => uptoBulkEntries entries + 1
  | .held _ => 1
def uptoBulkAll {H : Type} : List (DataW H) → Nat
  | [] => 0
  | d :: r => uptoBulk d + uptoBulkAll r
def uptoBulkEntries {H : Type} : List (Lit × DataW H) → Nat
  | [] => 0
  | x :: r => uptoBulkEntry x + uptoBulkEntries r
def uptoBulkEntry {H : Type} : Lit × DataW H → Nat
  | (.string bytes, d) => bytes.length + uptoBulk d + 1
  | (_, d) => uptoBulk d + 1
 end
def uptoSmall : (H : Type) → List (DataW H) → Bool := fun _ ds => decide (uptoBulkAll ds ≤ 1048576)
def OpenSpec.upto (s : _root_.Go.ChangeSpec) : _root_.Go.OpenSpec := { _root_.Go.OpenSpec.ofChange s with cond := some uptoSmall }

/-- 'capstanlaw09.FlowTells', WHERE WHAT IT READS IS OF BULK AT MOST 1048576: true; the input reads as it did. -/
def flowTellsUptoRow : OpenClaim := { program := "ytbejlahmhloloaadoor", sum := "5387c68a28f0eb70779ea0b24f920ca11ed14273f7a7e168945b5a1fe2804a96", func := "capstan/capstanlaw09.FlowTells", spec := "flowTells", unfollowed := true, recurses := true, named := ["capstan/op.bounds"], apart := false, laid := [("capstan/op.bounds", laid_capstan_op_bounds)], narrowed := true }
def FlowTellsUptoSaid : Prop := flowTellsUptoRow.holds Tryd.pinned (OpenSpec.upto flowTellsSpec)

/-- 'capstanlaw09.FlowWays', WHERE WHAT IT READS IS OF BULK AT MOST 1048576: true; the input reads as it did. -/
def flowWaysUptoRow : OpenClaim := { program := "ytbejlahmhloloaadoor", sum := "5387c68a28f0eb70779ea0b24f920ca11ed14273f7a7e168945b5a1fe2804a96", func := "capstan/capstanlaw09.FlowWays", spec := "flowWays", unfollowed := true, recurses := true, named := ["capstan/op.bounds"], apart := false, laid := [("capstan/op.bounds", laid_capstan_op_bounds)], narrowed := true }
def FlowWaysUptoSaid : Prop := flowWaysUptoRow.holds Tryd.pinned (OpenSpec.upto flowWaysSpec)

/-- 'capstanlaw09.FlowEnds', WHERE WHAT IT READS IS OF BULK AT MOST 1048576: true; the input reads as it did. -/
def flowEndsUptoRow : OpenClaim := { program := "ytbejlahmhloloaadoor", sum := "5387c68a28f0eb70779ea0b24f920ca11ed14273f7a7e168945b5a1fe2804a96", func := "capstan/capstanlaw09.FlowEnds", spec := "flowEnds", unfollowed := true, recurses := true, named := ["capstan/op.bounds"], apart := false, laid := [("capstan/op.bounds", laid_capstan_op_bounds)], narrowed := true }
def FlowEndsUptoSaid : Prop := flowEndsUptoRow.holds Tryd.pinned (OpenSpec.upto flowEndsSpec)

/-- 'capstanlaw09.FlowAhead', WHERE WHAT IT READS IS OF BULK AT MOST 1048576: true; the input reads as it did. -/
def flowAheadUptoRow : OpenClaim := { program := "ytbejlahmhloloaadoor", sum := "5387c68a28f0eb70779ea0b24f920ca11ed14273f7a7e168945b5a1fe2804a96", func := "capstan/capstanlaw09.FlowAhead", spec := "flowAhead", unfollowed := true, recurses := true, named := ["capstan/op.bounds"], apart := false, laid := [("capstan/op.bounds", laid_capstan_op_bounds)], narrowed := true }
def FlowAheadUptoSaid : Prop := flowAheadUptoRow.holds Tryd.pinned (OpenSpec.upto flowAheadSpec)

/-- 'capstanlaw09.FlowNested', WHERE WHAT IT READS IS OF BULK AT MOST 1048576: true; the input reads as it did. -/
def flowNestedUptoRow : OpenClaim := { program := "ytbejlahmhloloaadoor", sum := "5387c68a28f0eb70779ea0b24f920ca11ed14273f7a7e168945b5a1fe2804a96", func := "capstan/capstanlaw09.FlowNested", spec := "flowNested", unfollowed := true, recurses := true, named := ["capstan/op.bounds"], apart := false, laid := [("capstan/op.bounds", laid_capstan_op_bounds)], narrowed := true }
def FlowNestedUptoSaid : Prop := flowNestedUptoRow.holds Tryd.pinned (OpenSpec.upto flowNestedSpec)

end Rows
end Go.Proofs.YtbejlahmhloloaaDoor
