/-
  NARROWER THAN 'FOR EVERY INPUT', by the rows' own cells (each row's printed sentence says how): ObjectNil: laid · ReplicaNil: laid · ReaderNil: laid · ClientNil: laid · EngineNil: laid.
  DERIVED. THE GIVEN ROWS OF THIS SEAT. 5 by the template 'for every input the law returns true; each argument reads behind the call as it read before'; 0 by the template 'total and deterministic' (their statements: YtgfjjjbpikfgaaaGreatDoorTotals.lean).
  GIVEN WITH THE SEED: the statements are not yours to turn. If you find one false, say at which input.
  Laid BY PROGRAM, IN A SANDBOX (cutbox-rows.mjs): the forced cells as the released guide's own fill.sh prints them over the translation 2d8e489d47d6be56… (all of the seat's roots in one cut). By AI agents, Wed Nov 11 2026. No macro, syntax, notation, axiom, sorry.
-/
import Derived.Test.YtgfjjjbpikfgaaaGreatDoorChecked
import GoSem.Claim
import GoSem.ClaimJoined
import GoSem.ClaimMapViews
import Derived.JoinedTies
import Derived.KernelRfl
namespace Go.Proofs.YtgfjjjbpikfgaaaGreatDoor
/- THE CELL 'sum', in the pinned program and in every row, IS THE sha256 OF THE DUMP (.gsa) THAT YtgfjjjbpikfgaaaGreatDoorProg.lean LOADS. Nothing in Lean hashes anything: it is a label: what it is worth is what the hold of that sum in a sandbox is worth. -/
noncomputable def Tryz.pinned : Pinned := { name := "ytgfjjjbpikfgaaagreatdoor", sum := "2d8e489d47d6be56ea86d8418eff45dd3fcfe923ee427e92e2bfc937e9d4ed7a", checked := Tryz.checked }
namespace Rows
def none {H : Type} : Left H := { results := [], args := [] }

/- WHAT THE LISTED PACKAGE-LEVEL VARIABLES READ AS WHEN THE CALL BEGINS. Each datum BY PROGRAM (the guide's laid-datum.mjs) off the statement by which the dump's own 'gosem.cut.vars' lays the variable. In a bare row this is a premise. The card (YtgfjjjbpikfgaaaGreatDoorCards.lean) ties it to the program's text. -/
def laid_capstan_op_bounds {H : Type} : DataW H := .agg [.agg [.lit (.int .i64 0), .lit (.int .i64 0)], .agg [.lit (.int .i64 0), .lit (.int .i64 31)], .agg [.lit (.int .i64 0), .lit (.int .i64 15)], .agg [.lit (.int .i64 0), .lit (.int .i64 3)], .agg [.lit (.int .i64 0), .lit (.int .i64 1024)], .agg [.lit (.int .i64 0), .lit (.int .i64 199)], .agg [.lit (.int .i64 0), .lit (.int .i64 15)], .agg [.lit (.int .i64 0), .lit (.int .i64 255)], .agg [.lit (.int .i64 1), .lit (.int .i64 100)]]
def laid_capstan_value_sizes {H : Type} : DataW H := .agg [.lit (.int .i64 0), .lit (.int .i64 8), .lit (.int .i64 6)]
def laid_capstan_engine_begins {H : Type} : DataW H := .agg [.lit (.bool false), .lit (.bool true), .lit (.bool true), .lit (.bool true), .lit (.bool false)]

/-- 'capstanlaw19.ObjectNil': WHATEVER THE INPUT: true; the input reads as it did. -/
def objectNilSpec : ChangeSpec := { name := "objectNil", fn := fun _ => fun
  | [d] => { results := [.lit (.bool true)], args := [d] }
  | _ => none }
def objectNilRow : OpenClaim := { program := "ytgfjjjbpikfgaaagreatdoor", sum := "2d8e489d47d6be56ea86d8418eff45dd3fcfe923ee427e92e2bfc937e9d4ed7a", func := "capstan/capstanlaw19.ObjectNil", spec := "objectNil", unfollowed := true, recurses := true, named := ["capstan/value.sizes", "capstan/op.bounds"], apart := false, laid := [("capstan/op.bounds", laid_capstan_op_bounds), ("capstan/value.sizes", laid_capstan_value_sizes)] }
def ObjectNilSaid : Prop := objectNilRow.holds Tryz.pinned (OpenSpec.ofChange objectNilSpec)

/-- ITS FALSE NEIGHBOUR: 'it returns false'. Refute it at one input. -/
def objectNilWrong : ChangeSpec := { name := "objectNil", fn := fun _ => fun
  | [d] => { results := [.lit (.bool false)], args := [d] }
  | _ => none }
def ObjectNilWrongFalsely : Prop := objectNilRow.holds Tryz.pinned (OpenSpec.ofChange objectNilWrong)

/-- 'capstanlaw25.ReplicaNil': WHATEVER THE INPUT: true; the input reads as it did. -/
def replicaNilSpec : ChangeSpec := { name := "replicaNil", fn := fun _ => fun
  | [d] => { results := [.lit (.bool true)], args := [d] }
  | _ => none }
def replicaNilRow : OpenClaim := { program := "ytgfjjjbpikfgaaagreatdoor", sum := "2d8e489d47d6be56ea86d8418eff45dd3fcfe923ee427e92e2bfc937e9d4ed7a", func := "capstan/capstanlaw25.ReplicaNil", spec := "replicaNil", unfollowed := true, recurses := true, named := ["capstan/value.sizes", "capstan/op.bounds"], apart := false, laid := [("capstan/op.bounds", laid_capstan_op_bounds), ("capstan/value.sizes", laid_capstan_value_sizes)] }
def ReplicaNilSaid : Prop := replicaNilRow.holds Tryz.pinned (OpenSpec.ofChange replicaNilSpec)

/-- ITS FALSE NEIGHBOUR: 'it returns false'. Refute it at one input. -/
def replicaNilWrong : ChangeSpec := { name := "replicaNil", fn := fun _ => fun
  | [d] => { results := [.lit (.bool false)], args := [d] }
  | _ => none }
def ReplicaNilWrongFalsely : Prop := replicaNilRow.holds Tryz.pinned (OpenSpec.ofChange replicaNilWrong)

/-- 'capstanlaw28.ReaderNil': WHATEVER THE INPUT: true; the input reads as it did. -/
def readerNilSpec : ChangeSpec := { name := "readerNil", fn := fun _ => fun
  | [d1, d2, d3] => { results := [.lit (.bool true)], args := [d1, d2, d3] }
  | _ => none }
def readerNilRow : OpenClaim := { program := "ytgfjjjbpikfgaaagreatdoor", sum := "2d8e489d47d6be56ea86d8418eff45dd3fcfe923ee427e92e2bfc937e9d4ed7a", func := "capstan/capstanlaw28.ReaderNil", spec := "readerNil", unfollowed := true, recurses := true, named := ["capstan/op.bounds", "capstan/value.sizes"], apart := false, laid := [("capstan/op.bounds", laid_capstan_op_bounds), ("capstan/value.sizes", laid_capstan_value_sizes)] }
def ReaderNilSaid : Prop := readerNilRow.holds Tryz.pinned (OpenSpec.ofChange readerNilSpec)

/-- ITS FALSE NEIGHBOUR: 'it returns false'. Refute it at one input. -/
def readerNilWrong : ChangeSpec := { name := "readerNil", fn := fun _ => fun
  | [d1, d2, d3] => { results := [.lit (.bool false)], args := [d1, d2, d3] }
  | _ => none }
def ReaderNilWrongFalsely : Prop := readerNilRow.holds Tryz.pinned (OpenSpec.ofChange readerNilWrong)

/-- 'capstanlaw27.ClientNil': WHATEVER THE INPUT: true; the input reads as it did. -/
def clientNilSpec : ChangeSpec := { name := "clientNil", fn := fun _ => fun
  | [d1, d2] => { results := [.lit (.bool true)], args := [d1, d2] }
  | _ => none }
def clientNilRow : OpenClaim := { program := "ytgfjjjbpikfgaaagreatdoor", sum := "2d8e489d47d6be56ea86d8418eff45dd3fcfe923ee427e92e2bfc937e9d4ed7a", func := "capstan/capstanlaw27.ClientNil", spec := "clientNil", unfollowed := true, recurses := true, named := ["capstan/op.bounds", "capstan/value.sizes"], apart := false, laid := [("capstan/op.bounds", laid_capstan_op_bounds), ("capstan/value.sizes", laid_capstan_value_sizes)] }
def ClientNilSaid : Prop := clientNilRow.holds Tryz.pinned (OpenSpec.ofChange clientNilSpec)

/-- ITS FALSE NEIGHBOUR: 'it returns false'. Refute it at one input. -/
def clientNilWrong : ChangeSpec := { name := "clientNil", fn := fun _ => fun
  | [d1, d2] => { results := [.lit (.bool false)], args := [d1, d2] }
  | _ => none }
def ClientNilWrongFalsely : Prop := clientNilRow.holds Tryz.pinned (OpenSpec.ofChange clientNilWrong)

/-- 'capstanlaw29.EngineNil': WHATEVER THE INPUT: true; the input reads as it did. -/
def engineNilSpec : ChangeSpec := { name := "engineNil", fn := fun _ => fun
  | [d] => { results := [.lit (.bool true)], args := [d] }
  | _ => none }
def engineNilRow : OpenClaim := { program := "ytgfjjjbpikfgaaagreatdoor", sum := "2d8e489d47d6be56ea86d8418eff45dd3fcfe923ee427e92e2bfc937e9d4ed7a", func := "capstan/capstanlaw29.EngineNil", spec := "engineNil", unfollowed := true, recurses := true, named := ["capstan/engine.begins", "capstan/op.bounds", "capstan/value.sizes"], apart := false, laid := [("capstan/op.bounds", laid_capstan_op_bounds), ("capstan/value.sizes", laid_capstan_value_sizes), ("capstan/engine.begins", laid_capstan_engine_begins)] }
def EngineNilSaid : Prop := engineNilRow.holds Tryz.pinned (OpenSpec.ofChange engineNilSpec)

/-- ITS FALSE NEIGHBOUR: 'it returns false'. Refute it at one input. -/
def engineNilWrong : ChangeSpec := { name := "engineNil", fn := fun _ => fun
  | [d] => { results := [.lit (.bool false)], args := [d] }
  | _ => none }
def EngineNilWrongFalsely : Prop := engineNilRow.holds Tryz.pinned (OpenSpec.ofChange engineNilWrong)

/- THE SECOND FORM. 'bulk': how many values and letters a reading holds, each counted each time it is reached (what is shared counts as often as it is met; a slice's spare places count too). A statement '..UptoSaid' is the law's where the arguments, and the package variables that the reading takes, are together of bulk at most 1048576: NARROWER than '..Said'. Prove '..Said' where nothing that the law and all that it calls make is longer than what came in: it says more and counts as full. Else prove '..UptoSaid'. A law counts once. -/
mutual
def uptoBulk {H : Type} : DataW H → Nat
  | .lit (.string bytes) => bytes.length + 1
  | .lit _ => 1
  | .nil => 1
  | .ptr d => uptoBulk d + 1
  | .slice elems spare => uptoBulkAll elems + uptoBulkAll spare + 1
  | .agg parts => uptoBulkAll parts + 1
  | .iface _ d => uptoBulk d + 1
  | .map entries => uptoBulkEntries entries + 1
  | .held _ => 1
def uptoBulkAll {H : Type} : List (DataW H) → Nat
  | [] => 0
  | d :: r => uptoBulk d + uptoBulkAll r
def uptoBulkEntries {H : Type} : List (Lit × DataW H) → Nat
  | [] => 0
  | x :: r => uptoBulkEntry x + uptoBulkEntries r
def uptoBulkEntry {H : Type} : Lit × DataW H → Nat
  | (.string bytes, d) => bytes.length + uptoBulk d + 1
  | (_, d) => uptoBulk d + 1
 end
def uptoSmall : (H : Type) → List (DataW H) → Bool := fun _ ds => decide (uptoBulkAll ds ≤ 1048576)
def OpenSpec.upto (s : _root_.Go.ChangeSpec) : _root_.Go.OpenSpec := { _root_.Go.OpenSpec.ofChange s with cond := some uptoSmall }

/-- 'capstanlaw19.ObjectNil', WHERE WHAT IT READS IS OF BULK AT MOST 1048576: true; the input reads as it did. -/
def objectNilUptoRow : OpenClaim := { program := "ytgfjjjbpikfgaaagreatdoor", sum := "2d8e489d47d6be56ea86d8418eff45dd3fcfe923ee427e92e2bfc937e9d4ed7a", func := "capstan/capstanlaw19.ObjectNil", spec := "objectNil", unfollowed := true, recurses := true, named := ["capstan/value.sizes", "capstan/op.bounds"], apart := false, laid := [("capstan/op.bounds", laid_capstan_op_bounds), ("capstan/value.sizes", laid_capstan_value_sizes)], narrowed := true }
def ObjectNilUptoSaid : Prop := objectNilUptoRow.holds Tryz.pinned (OpenSpec.upto objectNilSpec)

/-- 'capstanlaw25.ReplicaNil', WHERE WHAT IT READS IS OF BULK AT MOST 1048576: true; the input reads as it did. -/
def replicaNilUptoRow : OpenClaim := { program := "ytgfjjjbpikfgaaagreatdoor", sum := "2d8e489d47d6be56ea86d8418eff45dd3fcfe923ee427e92e2bfc937e9d4ed7a", func := "capstan/capstanlaw25.ReplicaNil", spec := "replicaNil", unfollowed := true, recurses := true, named := ["capstan/value.sizes", "capstan/op.bounds"], apart := false, laid := [("capstan/op.bounds", laid_capstan_op_bounds), ("capstan/value.sizes", laid_capstan_value_sizes)], narrowed := true }
def ReplicaNilUptoSaid : Prop := replicaNilUptoRow.holds Tryz.pinned (OpenSpec.upto replicaNilSpec)

/-- 'capstanlaw28.ReaderNil', WHERE WHAT IT READS IS OF BULK AT MOST 1048576: true; the input reads as it did. -/
def readerNilUptoRow : OpenClaim := { program := "ytgfjjjbpikfgaaagreatdoor", sum := "2d8e489d47d6be56ea86d8418eff45dd3fcfe923ee427e92e2bfc937e9d4ed7a", func := "capstan/capstanlaw28.ReaderNil", spec := "readerNil", unfollowed := true, recurses := true, named := ["capstan/op.bounds", "capstan/value.sizes"], apart := false, laid := [("capstan/op.bounds", laid_capstan_op_bounds), ("capstan/value.sizes", laid_capstan_value_sizes)], narrowed := true }
def ReaderNilUptoSaid : Prop := readerNilUptoRow.holds Tryz.pinned (OpenSpec.upto readerNilSpec)

/-- 'capstanlaw27.ClientNil', WHERE WHAT IT READS IS OF BULK AT MOST 1048576: true; the input reads as it did. -/
def clientNilUptoRow : OpenClaim := { program := "ytgfjjjbpikfgaaagreatdoor", sum := "2d8e489d47d6be56ea86d8418eff45dd3fcfe923ee427e92e2bfc937e9d4ed7a", func := "capstan/capstanlaw27.ClientNil", spec := "clientNil", unfollowed := true, recurses := true, named := ["capstan/op.bounds", "capstan/value.sizes"], apart := false, laid := [("capstan/op.bounds", laid_capstan_op_bounds), ("capstan/value.sizes", laid_capstan_value_sizes)], narrowed := true }
def ClientNilUptoSaid : Prop := clientNilUptoRow.holds Tryz.pinned (OpenSpec.upto clientNilSpec)

/-- 'capstanlaw29.EngineNil', WHERE WHAT IT READS IS OF BULK AT MOST 1048576: true; the input reads as it did. -/
def engineNilUptoRow : OpenClaim := { program := "ytgfjjjbpikfgaaagreatdoor", sum := "2d8e489d47d6be56ea86d8418eff45dd3fcfe923ee427e92e2bfc937e9d4ed7a", func := "capstan/capstanlaw29.EngineNil", spec := "engineNil", unfollowed := true, recurses := true, named := ["capstan/engine.begins", "capstan/op.bounds", "capstan/value.sizes"], apart := false, laid := [("capstan/op.bounds", laid_capstan_op_bounds), ("capstan/value.sizes", laid_capstan_value_sizes), ("capstan/engine.begins", laid_capstan_engine_begins)], narrowed := true }
def EngineNilUptoSaid : Prop := engineNilUptoRow.holds Tryz.pinned (OpenSpec.upto engineNilSpec)

end Rows
end Go.Proofs.YtgfjjjbpikfgaaaGreatDoor
