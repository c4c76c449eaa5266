/-
  NARROWER THAN 'FOR EVERY INPUT', by the rows' own cells (each row's printed sentence says how): TypesWay: laid · TypesAlone: laid · TypesUnseen: laid · TypesHeight: laid.
  DERIVED. THE GIVEN ROWS OF THIS SEAT. 4 by the template 'for every input the law returns true; each argument reads behind the call as it read before'; 0 by the template 'total and deterministic' (their statements: YtpbmkaenleedoaaDoorTotals.lean).
  GIVEN WITH THE SEED: the statements are not yours to turn. If you find one false, say at which input.
  Laid BY PROGRAM, IN A SANDBOX (cutbox-rows.mjs): the forced cells as the released guide's own fill.sh prints them over the translation 734975dbd84b4112… (all of the seat's roots in one cut). By AI agents, Wed Nov 11 2026. No macro, syntax, notation, axiom, sorry.
-/
import Derived.Test.YtpbmkaenleedoaaDoorChecked
import GoSem.Claim
import GoSem.ClaimJoined
import GoSem.ClaimMapViews
import Derived.JoinedTies
import Derived.KernelRfl
namespace Go.Proofs.YtpbmkaenleedoaaDoor
/- THE CELL 'sum', in the pinned program and in every row, IS THE sha256 OF THE DUMP (.gsa) THAT YtpbmkaenleedoaaDoorProg.lean LOADS. Nothing in Lean hashes anything: it is a label: what it is worth is what the hold of that sum in a sandbox is worth. -/
noncomputable def Tryd.pinned : Pinned := { name := "ytpbmkaenleedoaadoor", sum := "734975dbd84b4112173dd34be113006883e1bcab672fa722a2d10745162c5f29", checked := Tryd.checked }
namespace Rows
def none {H : Type} : Left H := { results := [], args := [] }

/- WHAT THE LISTED PACKAGE-LEVEL VARIABLES READ AS WHEN THE CALL BEGINS. Each datum BY PROGRAM (the guide's laid-datum.mjs) off the statement by which the dump's own 'gosem.cut.vars' lays the variable. In a bare row this is a premise. The card (YtpbmkaenleedoaaDoorCards.lean) ties it to the program's text. -/
def laid_capstan_op_bounds {H : Type} : DataW H := .agg [.agg [.lit (.int .i64 0), .lit (.int .i64 0)], .agg [.lit (.int .i64 0), .lit (.int .i64 31)], .agg [.lit (.int .i64 0), .lit (.int .i64 15)], .agg [.lit (.int .i64 0), .lit (.int .i64 3)], .agg [.lit (.int .i64 0), .lit (.int .i64 1024)], .agg [.lit (.int .i64 0), .lit (.int .i64 199)], .agg [.lit (.int .i64 0), .lit (.int .i64 15)], .agg [.lit (.int .i64 0), .lit (.int .i64 255)], .agg [.lit (.int .i64 1), .lit (.int .i64 100)]]

/-- 'capstanlaw10.TypesWay': WHATEVER THE INPUT: true; the input reads as it did. -/
def typesWaySpec : ChangeSpec := { name := "typesWay", fn := fun _ => fun
  | [d1, d2, d3] => { results := [.lit (.bool true)], args := [d1, d2, d3] }
  | _ => none }
def typesWayRow : OpenClaim := { program := "ytpbmkaenleedoaadoor", sum := "734975dbd84b4112173dd34be113006883e1bcab672fa722a2d10745162c5f29", func := "capstan/capstanlaw10.TypesWay", spec := "typesWay", unfollowed := true, recurses := true, named := ["capstan/op.bounds"], apart := false, laid := [("capstan/op.bounds", laid_capstan_op_bounds)] }
def TypesWaySaid : Prop := typesWayRow.holds Tryd.pinned (OpenSpec.ofChange typesWaySpec)

/-- ITS FALSE NEIGHBOUR: 'it returns false'. Refute it at one input. -/
def typesWayWrong : ChangeSpec := { name := "typesWay", fn := fun _ => fun
  | [d1, d2, d3] => { results := [.lit (.bool false)], args := [d1, d2, d3] }
  | _ => none }
def TypesWayWrongFalsely : Prop := typesWayRow.holds Tryd.pinned (OpenSpec.ofChange typesWayWrong)

/-- 'capstanlaw10.TypesAlone': WHATEVER THE INPUT: true; the input reads as it did. -/
def typesAloneSpec : ChangeSpec := { name := "typesAlone", fn := fun _ => fun
  | [d1, d2] => { results := [.lit (.bool true)], args := [d1, d2] }
  | _ => none }
def typesAloneRow : OpenClaim := { program := "ytpbmkaenleedoaadoor", sum := "734975dbd84b4112173dd34be113006883e1bcab672fa722a2d10745162c5f29", func := "capstan/capstanlaw10.TypesAlone", spec := "typesAlone", unfollowed := true, recurses := true, named := ["capstan/op.bounds"], apart := false, laid := [("capstan/op.bounds", laid_capstan_op_bounds)] }
def TypesAloneSaid : Prop := typesAloneRow.holds Tryd.pinned (OpenSpec.ofChange typesAloneSpec)

/-- ITS FALSE NEIGHBOUR: 'it returns false'. Refute it at one input. -/
def typesAloneWrong : ChangeSpec := { name := "typesAlone", fn := fun _ => fun
  | [d1, d2] => { results := [.lit (.bool false)], args := [d1, d2] }
  | _ => none }
def TypesAloneWrongFalsely : Prop := typesAloneRow.holds Tryd.pinned (OpenSpec.ofChange typesAloneWrong)

/-- 'capstanlaw10.TypesUnseen': WHATEVER THE INPUT: true; the input reads as it did. -/
def typesUnseenSpec : ChangeSpec := { name := "typesUnseen", fn := fun _ => fun
  | [d1, d2, d3, d4] => { results := [.lit (.bool true)], args := [d1, d2, d3, d4] }
  | _ => none }
def typesUnseenRow : OpenClaim := { program := "ytpbmkaenleedoaadoor", sum := "734975dbd84b4112173dd34be113006883e1bcab672fa722a2d10745162c5f29", func := "capstan/capstanlaw10.TypesUnseen", spec := "typesUnseen", unfollowed := true, recurses := true, named := ["capstan/op.bounds"], apart := false, laid := [("capstan/op.bounds", laid_capstan_op_bounds)] }
def TypesUnseenSaid : Prop := typesUnseenRow.holds Tryd.pinned (OpenSpec.ofChange typesUnseenSpec)

/-- ITS FALSE NEIGHBOUR: 'it returns false'. Refute it at one input. -/
def typesUnseenWrong : ChangeSpec := { name := "typesUnseen", fn := fun _ => fun
  | [d1, d2, d3, d4] => { results := [.lit (.bool false)], args := [d1, d2, d3, d4] }
  | _ => none }
def TypesUnseenWrongFalsely : Prop := typesUnseenRow.holds Tryd.pinned (OpenSpec.ofChange typesUnseenWrong)

/-- 'capstanlaw10.TypesHeight': WHATEVER THE INPUT: true; the input reads as it did. -/
def typesHeightSpec : ChangeSpec := { name := "typesHeight", fn := fun _ => fun
  | [d1, d2] => { results := [.lit (.bool true)], args := [d1, d2] }
  | _ => none }
def typesHeightRow : OpenClaim := { program := "ytpbmkaenleedoaadoor", sum := "734975dbd84b4112173dd34be113006883e1bcab672fa722a2d10745162c5f29", func := "capstan/capstanlaw10.TypesHeight", spec := "typesHeight", unfollowed := true, recurses := true, named := ["capstan/op.bounds"], apart := false, laid := [("capstan/op.bounds", laid_capstan_op_bounds)] }
def TypesHeightSaid : Prop := typesHeightRow.holds Tryd.pinned (OpenSpec.ofChange typesHeightSpec)

/-- ITS FALSE NEIGHBOUR: 'it returns false'. Refute it at one input. -/
def typesHeightWrong : ChangeSpec := { name := "typesHeight", fn := fun _ => fun
  | [d1, d2] => { results := [.lit (.bool false)], args := [d1, d2] }
  | _ => none }
def TypesHeightWrongFalsely : Prop := typesHeightRow.holds Tryd.pinned (OpenSpec.ofChange typesHeightWrong)

/- THE SECOND FORM. 'bulk': how many values and letters a reading holds, each counted each time it is reached (what is shared counts as often as it is met; a slice's spare places count too). A statement '..UptoSaid' is the law's where the arguments, and the package variables that the reading takes, are together of bulk at most 1048576: NARROWER than '..Said'. Prove '..Said' where nothing that the law and all that it calls make is longer than what came in: it says more and counts as full. Else prove '..UptoSaid'. A law counts once. -/
mutual
def uptoBulk {H : Type} : DataW H → Nat
  | .lit (.string bytes) => bytes.length + 1
  | .lit _ => 1
  | .nil => 1
  | .ptr d => uptoBulk d + 1
  | .slice elems spare => uptoBulkAll elems + uptoBulkAll spare + 1
  | .agg parts => uptoBulkAll parts + 1
  | .iface _ d => uptoBulk d + 1
  | .map entries => uptoBulkEntries entries + 1
  | .held _ => 1
def uptoBulkAll {H : Type} : List (DataW H) → Nat
  | [] => 0
  | d :: r => uptoBulk d + uptoBulkAll r
def uptoBulkEntries {H : Type} : List (Lit × DataW H) → Nat
  | [] => 0
  | x :: r => uptoBulkEntry x + uptoBulkEntries r
def uptoBulkEntry {H : Type} : Lit × DataW H → Nat
  | (.string bytes, d) => bytes.length + uptoBulk d + 1
  | (_, d) => uptoBulk d + 1
 end
def uptoSmall : (H : Type) → List (DataW H) → Bool := fun _ ds => decide (uptoBulkAll ds ≤ 1048576)
def OpenSpec.upto (s : _root_.Go.ChangeSpec) : _root_.Go.OpenSpec := { _root_.Go.OpenSpec.ofChange s with cond := some uptoSmall }

/-- 'capstanlaw10.TypesWay', WHERE WHAT IT READS IS OF BULK AT MOST 1048576: true; the input reads as it did. -/
def typesWayUptoRow : OpenClaim := { program := "ytpbmkaenleedoaadoor", sum := "734975dbd84b4112173dd34be113006883e1bcab672fa722a2d10745162c5f29", func := "capstan/capstanlaw10.TypesWay", spec := "typesWay", unfollowed := true, recurses := true, named := ["capstan/op.bounds"], apart := false, laid := [("capstan/op.bounds", laid_capstan_op_bounds)], narrowed := true }
def TypesWayUptoSaid : Prop := typesWayUptoRow.holds Tryd.pinned (OpenSpec.upto typesWaySpec)

/-- 'capstanlaw10.TypesAlone', WHERE WHAT IT READS IS OF BULK AT MOST 1048576: true; the input reads as it did. -/
def typesAloneUptoRow : OpenClaim := { program := "ytpbmkaenleedoaadoor", sum := "734975dbd84b4112173dd34be113006883e1bcab672fa722a2d10745162c5f29", func := "capstan/capstanlaw10.TypesAlone", spec := "typesAlone", unfollowed := true, recurses := true, named := ["capstan/op.bounds"], apart := false, laid := [("capstan/op.bounds", laid_capstan_op_bounds)], narrowed := true }
def TypesAloneUptoSaid : Prop := typesAloneUptoRow.holds Tryd.pinned (OpenSpec.upto typesAloneSpec)

/-- 'capstanlaw10.TypesUnseen', WHERE WHAT IT READS IS OF BULK AT MOST 1048576: true; the input reads as it did. -/
def typesUnseenUptoRow : OpenClaim := { program := "ytpbmkaenleedoaadoor", sum := "734975dbd84b4112173dd34be113006883e1bcab672fa722a2d10745162c5f29", func := "capstan/capstanlaw10.TypesUnseen", spec := "typesUnseen", unfollowed := true, recurses := true, named := ["capstan/op.bounds"], apart := false, laid := [("capstan/op.bounds", laid_capstan_op_bounds)], narrowed := true }
def TypesUnseenUptoSaid : Prop := typesUnseenUptoRow.holds Tryd.pinned (OpenSpec.upto typesUnseenSpec)

/-- 'capstanlaw10.TypesHeight', WHERE WHAT IT READS IS OF BULK AT MOST 1048576: true; the input reads as it did. -/
def typesHeightUptoRow : OpenClaim := { program := "ytpbmkaenleedoaadoor", sum := "734975dbd84b4112173dd34be113006883e1bcab672fa722a2d10745162c5f29", func := "capstan/capstanlaw10.TypesHeight", spec := "typesHeight", unfollowed := true, recurses := true, named := ["capstan/op.bounds"], apart := false, laid := [("capstan/op.bounds", laid_capstan_op_bounds)], narrowed := true }
def TypesHeightUptoSaid : Prop := typesHeightUptoRow.holds Tryd.pinned (OpenSpec.upto typesHeightSpec)

end Rows
end Go.Proofs.YtpbmkaenleedoaaDoor
