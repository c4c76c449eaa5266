/-
  NARROWER THAN 'FOR EVERY INPUT', by the rows' own cells (each row's printed sentence says how): VerifyAll: laid · VerifyMore: laid · VerifyDeclares: laid · VerifyTells: laid · VerifyLoads: laid.
  DERIVED. THE GIVEN ROWS OF THIS SEAT. 5 by the template 'for every input the law returns true; each argument reads behind the call as it read before'; 0 by the template 'total and deterministic' (their statements: YtehjiiebjkkcmaaGreatDoorTotals.lean).
  GIVEN WITH THE SEED: the statements are not yours to turn. If you find one false, say at which input.
  Laid BY PROGRAM, IN A SANDBOX (cutbox-rows.mjs): the forced cells as the released guide's own fill.sh prints them over the translation 6f1eef33fab2aa2d… (all of the seat's roots in one cut). By AI agents, Wed Nov 11 2026. No macro, syntax, notation, axiom, sorry.
-/
import Derived.Test.YtehjiiebjkkcmaaGreatDoorChecked
import GoSem.Claim
import GoSem.ClaimJoined
import GoSem.ClaimMapViews
import Derived.JoinedTies
import Derived.KernelRfl
namespace Go.Proofs.YtehjiiebjkkcmaaGreatDoor
/- THE CELL 'sum', in the pinned program and in every row, IS THE sha256 OF THE DUMP (.gsa) THAT YtehjiiebjkkcmaaGreatDoorProg.lean LOADS. Nothing in Lean hashes anything: it is a label: what it is worth is what the hold of that sum in a sandbox is worth. -/
noncomputable def Tryz.pinned : Pinned := { name := "ytehjiiebjkkcmaagreatdoor", sum := "6f1eef33fab2aa2d7bccfa18f8853147dc0a4b2ecc968e65501a2cd53c89546b", checked := Tryz.checked }
namespace Rows
def none {H : Type} : Left H := { results := [], args := [] }

/- WHAT THE LISTED PACKAGE-LEVEL VARIABLES READ AS WHEN THE CALL BEGINS. Each datum BY PROGRAM (the guide's laid-datum.mjs) off the statement by which the dump's own 'gosem.cut.vars' lays the variable. In a bare row this is a premise. The card (YtehjiiebjkkcmaaGreatDoorCards.lean) ties it to the program's text. -/
def laid_capstan_op_bounds {H : Type} : DataW H := .agg [.agg [.lit (.int .i64 0), .lit (.int .i64 0)], .agg [.lit (.int .i64 0), .lit (.int .i64 31)], .agg [.lit (.int .i64 0), .lit (.int .i64 15)], .agg [.lit (.int .i64 0), .lit (.int .i64 3)], .agg [.lit (.int .i64 0), .lit (.int .i64 1024)], .agg [.lit (.int .i64 0), .lit (.int .i64 199)], .agg [.lit (.int .i64 0), .lit (.int .i64 15)], .agg [.lit (.int .i64 0), .lit (.int .i64 255)], .agg [.lit (.int .i64 1), .lit (.int .i64 100)]]
def laid_capstan_value_sizes {H : Type} : DataW H := .agg [.lit (.int .i64 0), .lit (.int .i64 8), .lit (.int .i64 6)]

/-- 'capstanlaw14.VerifyAll': WHATEVER THE INPUT: true; the input reads as it did. -/
def verifyAllSpec : ChangeSpec := { name := "verifyAll", fn := fun _ => fun
  | [d] => { results := [.lit (.bool true)], args := [d] }
  | _ => none }
def verifyAllRow : OpenClaim := { program := "ytehjiiebjkkcmaagreatdoor", sum := "6f1eef33fab2aa2d7bccfa18f8853147dc0a4b2ecc968e65501a2cd53c89546b", func := "capstan/capstanlaw14.VerifyAll", spec := "verifyAll", unfollowed := true, recurses := true, named := ["capstan/op.bounds", "capstan/value.sizes"], apart := false, laid := [("capstan/op.bounds", laid_capstan_op_bounds), ("capstan/value.sizes", laid_capstan_value_sizes)] }
def VerifyAllSaid : Prop := verifyAllRow.holds Tryz.pinned (OpenSpec.ofChange verifyAllSpec)

/-- ITS FALSE NEIGHBOUR: 'it returns false'. Refute it at one input. -/
def verifyAllWrong : ChangeSpec := { name := "verifyAll", fn := fun _ => fun
  | [d] => { results := [.lit (.bool false)], args := [d] }
  | _ => none }
def VerifyAllWrongFalsely : Prop := verifyAllRow.holds Tryz.pinned (OpenSpec.ofChange verifyAllWrong)

/-- 'capstanlaw14.VerifyMore': WHATEVER THE INPUT: true; the input reads as it did. -/
def verifyMoreSpec : ChangeSpec := { name := "verifyMore", fn := fun _ => fun
  | [d1, d2, d3] => { results := [.lit (.bool true)], args := [d1, d2, d3] }
  | _ => none }
def verifyMoreRow : OpenClaim := { program := "ytehjiiebjkkcmaagreatdoor", sum := "6f1eef33fab2aa2d7bccfa18f8853147dc0a4b2ecc968e65501a2cd53c89546b", func := "capstan/capstanlaw14.VerifyMore", spec := "verifyMore", unfollowed := true, recurses := true, named := ["capstan/op.bounds", "capstan/value.sizes"], apart := false, laid := [("capstan/op.bounds", laid_capstan_op_bounds), ("capstan/value.sizes", laid_capstan_value_sizes)] }
def VerifyMoreSaid : Prop := verifyMoreRow.holds Tryz.pinned (OpenSpec.ofChange verifyMoreSpec)

/-- ITS FALSE NEIGHBOUR: 'it returns false'. Refute it at one input. -/
def verifyMoreWrong : ChangeSpec := { name := "verifyMore", fn := fun _ => fun
  | [d1, d2, d3] => { results := [.lit (.bool false)], args := [d1, d2, d3] }
  | _ => none }
def VerifyMoreWrongFalsely : Prop := verifyMoreRow.holds Tryz.pinned (OpenSpec.ofChange verifyMoreWrong)

/-- 'capstanlaw14.VerifyDeclares': WHATEVER THE INPUT: true; the input reads as it did. -/
def verifyDeclaresSpec : ChangeSpec := { name := "verifyDeclares", fn := fun _ => fun
  | [d1, d2] => { results := [.lit (.bool true)], args := [d1, d2] }
  | _ => none }
def verifyDeclaresRow : OpenClaim := { program := "ytehjiiebjkkcmaagreatdoor", sum := "6f1eef33fab2aa2d7bccfa18f8853147dc0a4b2ecc968e65501a2cd53c89546b", func := "capstan/capstanlaw14.VerifyDeclares", spec := "verifyDeclares", unfollowed := true, recurses := true, named := ["capstan/op.bounds", "capstan/value.sizes"], apart := false, laid := [("capstan/op.bounds", laid_capstan_op_bounds), ("capstan/value.sizes", laid_capstan_value_sizes)] }
def VerifyDeclaresSaid : Prop := verifyDeclaresRow.holds Tryz.pinned (OpenSpec.ofChange verifyDeclaresSpec)

/-- ITS FALSE NEIGHBOUR: 'it returns false'. Refute it at one input. -/
def verifyDeclaresWrong : ChangeSpec := { name := "verifyDeclares", fn := fun _ => fun
  | [d1, d2] => { results := [.lit (.bool false)], args := [d1, d2] }
  | _ => none }
def VerifyDeclaresWrongFalsely : Prop := verifyDeclaresRow.holds Tryz.pinned (OpenSpec.ofChange verifyDeclaresWrong)

/-- 'capstanlaw14.VerifyTells': WHATEVER THE INPUT: true; the input reads as it did. -/
def verifyTellsSpec : ChangeSpec := { name := "verifyTells", fn := fun _ => fun
  | [d] => { results := [.lit (.bool true)], args := [d] }
  | _ => none }
def verifyTellsRow : OpenClaim := { program := "ytehjiiebjkkcmaagreatdoor", sum := "6f1eef33fab2aa2d7bccfa18f8853147dc0a4b2ecc968e65501a2cd53c89546b", func := "capstan/capstanlaw14.VerifyTells", spec := "verifyTells", unfollowed := true, recurses := true, named := ["capstan/op.bounds"], apart := false, laid := [("capstan/op.bounds", laid_capstan_op_bounds)] }
def VerifyTellsSaid : Prop := verifyTellsRow.holds Tryz.pinned (OpenSpec.ofChange verifyTellsSpec)

/-- ITS FALSE NEIGHBOUR: 'it returns false'. Refute it at one input. -/
def verifyTellsWrong : ChangeSpec := { name := "verifyTells", fn := fun _ => fun
  | [d] => { results := [.lit (.bool false)], args := [d] }
  | _ => none }
def VerifyTellsWrongFalsely : Prop := verifyTellsRow.holds Tryz.pinned (OpenSpec.ofChange verifyTellsWrong)

/-- 'capstanlaw14.VerifyLoads': WHATEVER THE INPUT: true; the input reads as it did. -/
def verifyLoadsSpec : ChangeSpec := { name := "verifyLoads", fn := fun _ => fun
  | [d] => { results := [.lit (.bool true)], args := [d] }
  | _ => none }
def verifyLoadsRow : OpenClaim := { program := "ytehjiiebjkkcmaagreatdoor", sum := "6f1eef33fab2aa2d7bccfa18f8853147dc0a4b2ecc968e65501a2cd53c89546b", func := "capstan/capstanlaw14.VerifyLoads", spec := "verifyLoads", unfollowed := true, recurses := true, named := ["capstan/value.sizes", "capstan/op.bounds"], apart := false, laid := [("capstan/op.bounds", laid_capstan_op_bounds), ("capstan/value.sizes", laid_capstan_value_sizes)] }
def VerifyLoadsSaid : Prop := verifyLoadsRow.holds Tryz.pinned (OpenSpec.ofChange verifyLoadsSpec)

/-- ITS FALSE NEIGHBOUR: 'it returns false'. Refute it at one input. -/
def verifyLoadsWrong : ChangeSpec := { name := "verifyLoads", fn := fun _ => fun
  | [d] => { results := [.lit (.bool false)], args := [d] }
  | _ => none }
def VerifyLoadsWrongFalsely : Prop := verifyLoadsRow.holds Tryz.pinned (OpenSpec.ofChange verifyLoadsWrong)

/- THE SECOND FORM. 'bulk': how many values and letters a reading holds, each counted each time it is reached (what is shared counts as often as it is met; a slice's spare places count too). A statement '..UptoSaid' is the law's where the arguments, and the package variables that the reading takes, are together of bulk at most 1048576: NARROWER than '..Said'. Prove '..Said' where nothing that the law and all that it calls make is longer than what came in: it says more and counts as full. Else prove '..UptoSaid'. A law counts once. -/
mutual
def uptoBulk {H : Type} : DataW H → Nat
  | .lit (.string bytes) => bytes.length + 1
  | .lit _ => 1
  | .nil => 1
  | .ptr d => uptoBulk d + 1
  | .slice elems spare => uptoBulkAll elems + uptoBulkAll spare + 1
  | .agg parts => uptoBulkAll parts + 1
  | .iface _ d => uptoBulk d + 1
  | .map entries => uptoBulkEntries entries + 1
  | .held _ => 1
def uptoBulkAll {H : Type} : List (DataW H) → Nat
  | [] => 0
  | d :: r => uptoBulk d + uptoBulkAll r
def uptoBulkEntries {H : Type} : List (Lit × DataW H) → Nat
  | [] => 0
  | x :: r => uptoBulkEntry x + uptoBulkEntries r
def uptoBulkEntry {H : Type} : Lit × DataW H → Nat
  | (.string bytes, d) => bytes.length + uptoBulk d + 1
  | (_, d) => uptoBulk d + 1
 end
def uptoSmall : (H : Type) → List (DataW H) → Bool := fun _ ds => decide (uptoBulkAll ds ≤ 1048576)
def OpenSpec.upto (s : _root_.Go.ChangeSpec) : _root_.Go.OpenSpec := { _root_.Go.OpenSpec.ofChange s with cond := some uptoSmall }

/-- 'capstanlaw14.VerifyAll', WHERE WHAT IT READS IS OF BULK AT MOST 1048576: true; the input reads as it did. -/
def verifyAllUptoRow : OpenClaim := { program := "ytehjiiebjkkcmaagreatdoor", sum := "6f1eef33fab2aa2d7bccfa18f8853147dc0a4b2ecc968e65501a2cd53c89546b", func := "capstan/capstanlaw14.VerifyAll", spec := "verifyAll", unfollowed := true, recurses := true, named := ["capstan/op.bounds", "capstan/value.sizes"], apart := false, laid := [("capstan/op.bounds", laid_capstan_op_bounds), ("capstan/value.sizes", laid_capstan_value_sizes)], narrowed := true }
def VerifyAllUptoSaid : Prop := verifyAllUptoRow.holds Tryz.pinned (OpenSpec.upto verifyAllSpec)

/-- 'capstanlaw14.VerifyMore', WHERE WHAT IT READS IS OF BULK AT MOST 1048576: true; the input reads as it did. -/
def verifyMoreUptoRow : OpenClaim := { program := "ytehjiiebjkkcmaagreatdoor", sum := "6f1eef33fab2aa2d7bccfa18f8853147dc0a4b2ecc968e65501a2cd53c89546b", func := "capstan/capstanlaw14.VerifyMore", spec := "verifyMore", unfollowed := true, recurses := true, named := ["capstan/op.bounds", "capstan/value.sizes"], apart := false, laid := [("capstan/op.bounds", laid_capstan_op_bounds), ("capstan/value.sizes", laid_capstan_value_sizes)], narrowed := true }
def VerifyMoreUptoSaid : Prop := verifyMoreUptoRow.holds Tryz.pinned (OpenSpec.upto verifyMoreSpec)

/-- 'capstanlaw14.VerifyDeclares', WHERE WHAT IT READS IS OF BULK AT MOST 1048576: true; the input reads as it did. -/
def verifyDeclaresUptoRow : OpenClaim := { program := "ytehjiiebjkkcmaagreatdoor", sum := "6f1eef33fab2aa2d7bccfa18f8853147dc0a4b2ecc968e65501a2cd53c89546b", func := "capstan/capstanlaw14.VerifyDeclares", spec := "verifyDeclares", unfollowed := true, recurses := true, named := ["capstan/op.bounds", "capstan/value.sizes"], apart := false, laid := [("capstan/op.bounds", laid_capstan_op_bounds), ("capstan/value.sizes", laid_capstan_value_sizes)], narrowed := true }
def VerifyDeclaresUptoSaid : Prop := verifyDeclaresUptoRow.holds Tryz.pinned (OpenSpec.upto verifyDeclaresSpec)

/-- 'capstanlaw14.VerifyTells', WHERE WHAT IT READS IS OF BULK AT MOST 1048576: true; the input reads as it did. -/
def verifyTellsUptoRow : OpenClaim := { program := "ytehjiiebjkkcmaagreatdoor", sum := "6f1eef33fab2aa2d7bccfa18f8853147dc0a4b2ecc968e65501a2cd53c89546b", func := "capstan/capstanlaw14.VerifyTells", spec := "verifyTells", unfollowed := true, recurses := true, named := ["capstan/op.bounds"], apart := false, laid := [("capstan/op.bounds", laid_capstan_op_bounds)], narrowed := true }
def VerifyTellsUptoSaid : Prop := verifyTellsUptoRow.holds Tryz.pinned (OpenSpec.upto verifyTellsSpec)

/-- 'capstanlaw14.VerifyLoads', WHERE WHAT IT READS IS OF BULK AT MOST 1048576: true; the input reads as it did. -/
def verifyLoadsUptoRow : OpenClaim := { program := "ytehjiiebjkkcmaagreatdoor", sum := "6f1eef33fab2aa2d7bccfa18f8853147dc0a4b2ecc968e65501a2cd53c89546b", func := "capstan/capstanlaw14.VerifyLoads", spec := "verifyLoads", unfollowed := true, recurses := true, named := ["capstan/value.sizes", "capstan/op.bounds"], apart := false, laid := [("capstan/op.bounds", laid_capstan_op_bounds), ("capstan/value.sizes", laid_capstan_value_sizes)], narrowed := true }
def VerifyLoadsUptoSaid : Prop := verifyLoadsUptoRow.holds Tryz.pinned (OpenSpec.upto verifyLoadsSpec)

end Rows
end Go.Proofs.YtehjiiebjkkcmaaGreatDoor
