/- The row of the law CostFits, out of its pure statement: printed by row.py of this session. -/
import Derived.Test.YtbejlahmhloloaaRows
import Derived.Test.YtbejlahmhloloaaQ12
import Derived.Test.YtbejlahmhloloaaGCostFits
import Derived.WalkKit
import Derived.ProofKit
import Derived.OpenShut
import Derived.ShutString
import Derived.ChangeOld
import Derived.Below
import Derived.SizedLaws
set_option linter.unusedVariables false
set_option linter.unusedSimpArgs false
namespace Go.Proofs.Ytbejlahmhloloaa.costFits
open Go.Q Go.ChangeShapes Go.WideShapes Go.ChangeAt
theorem own : ownKnob Try.prog.godebug = none := by kernel_rfl
theorem laidOut : laidOutB Try.prog = true := by kernel_rfl
set_option maxRecDepth 100000 in
theorem lifted (pure : capstanlaw12_CostFits.Pure) (os : Os) (started : os.Started) (H : Type) (enc : TypeId × Value → H) :
    ReturnsInHanded {} Try.checked os 3 .any (Rows.costFitsSpec.pre6 enc Try.prog Try.f3 Rows.costFitsRow.domain false) (Rows.costFitsSpec.post enc Try.prog Try.f3 false true false false) := by
  refine returnsInHanded_of_change_sized (C := Try.checked) own started (by kernel_rfl) Try.func3
    (ChangeSpec.witness6 (enc := enc) (C := Try.checked) false ⟨#[], #[.agg #[.int .i64 0, .int .i64 0, .int .i64 0], .agg #[.slice none 0 0, .slice none 0 0, .int .u8 0, .bool false, .int .i64 0, .int .i64 0, .int .i64 0, .slice none 0 0]], []⟩ 8 (by kernel_rfl) (by kernel_rfl) (by kernel_rfl) (by kernel_rfl)) ?_
  intro W base args ds gs before hval0 hW hcnd hsz0 _
  have hval : ∀ (j : Nat) t v, Try.f3.params[j]? = some t → args[j]? = some v → Value.okWide Try.prog W .any base t v := hval0
  have hW' := hW
  obtain ⟨p, q, hA0, hV, rfl, hfz, hnd⟩ := hW
  have hA : DataW.TrodAll enc Try.prog W 0 (fun _ => true) true Try.f3.params.toList args.toList ds p := hA0
  rw [Try.params3] at hA hval
  obtain ⟨v0, vs0, d0, ds0, p0, q0, hargs, rfl, rfl, h0, r0⟩ := trodAll_cons hA
  obtain ⟨v1, vs1, d1, ds1, p1, q1, rfl, rfl, rfl, h1, r1⟩ := trodAll_cons r0
  obtain ⟨rfl, rfl, rfl⟩ := trodAll_nil r1
  obtain rfl : args = #[v0, v1] := by cases args; simp_all
  obtain ⟨rfl, rfl⟩ := trodVars_none hV
  have k0 := h0
  have lt0 : ∀ x ∈ p0, x.block < W.heap.size := by obtain ⟨m, hm⟩ := k0; exact DataW.trod_lt m _ _ _ hm
  obtain ⟨cs0, rfl⟩ := Go.Q.okWide_struct Try.underlying23 (hval 0 23 v0 rfl rfl)
  obtain ⟨n0, h0⟩ := h0
  obtain ⟨x0, e0, w0⟩ := opens_api_Cert enc W n0 _ _ _ h0
  obtain rfl : cs0 = #[.int .i64 x0.Fuel, .int .i64 x0.Stack, .int .i64 x0.Heap] := by
    have z : cs0.toList = [.int .i64 x0.Fuel, .int .i64 x0.Stack, .int .i64 x0.Heap] := e0
    rw [← Array.toArray_toList (xs := cs0), z]
  have k1 := h1
  have lt1 : ∀ x ∈ p1, x.block < W.heap.size := by obtain ⟨m, hm⟩ := k1; exact DataW.trod_lt m _ _ _ hm
  obtain ⟨cs1, rfl⟩ := Go.Q.okWide_struct Try.underlying27 (hval 1 27 v1 rfl rfl)
  obtain ⟨n1, h1⟩ := h1
  obtain ⟨x1, ⟨u1_0, u1_1, u1_7, e1, s1_0, s1_1, s1_7⟩, w1⟩ := opens_api_Method enc W n1 _ _ _ h1
  obtain rfl : cs1 = #[u1_0, u1_1, .int .u8 x1.Result, .bool x1.Reads, .int .i64 x1.Fuel, .int .i64 x1.Stack, .int .i64 x1.Heap, u1_7] := by
    have z : cs1.toList = [u1_0, u1_1, .int .u8 x1.Result, .bool x1.Reads, .int .i64 x1.Fuel, .int .i64 x1.Stack, .int .i64 x1.Heap, u1_7] := e1
    rw [← Array.toArray_toList (xs := cs1), z]
  clear hA0 hval0 hsz0
  refine (capstanlaw12_CostFits.ok x0 x1 _ _ _ true (pure x0 x1 w0 w1) W (hp W) (Sub.refl _) s1_0 s1_1 s1_7).mono fun e W2 he => ?_
  obtain ⟨v, rfl, hs⟩ := he
  obtain rfl := hs.known
  have bel := hs.below
  exact ⟨_, rfl, _, _, _, [], _, [], hW', trodAll_mk1 (Go.RowKit.shut_bool Try.underlying4 _), (trodAll_cons_mk (Go.RowKit.Below.trod laidOut (by kernel_rfl) (of_decide_eq_true (by kernel_rfl)) k0 bel lt0) (trodAll_cons_mk (Go.RowKit.Below.trod laidOut (by kernel_rfl) (of_decide_eq_true (by kernel_rfl)) k1 bel lt1) trodAll_mk0)), rfl, bel.frame _, fun h => by cases h⟩
theorem over (pure : capstanlaw12_CostFits.Pure) : Rows.costFitsRow.holds Try.pinned (OpenSpec.ofChange Rows.costFitsSpec) :=
  OpenClaim.holds_of_wide 3 Try.f3 rfl rfl rfl rfl rfl rfl rfl ⟨rfl, rfl, rfl, rfl, rfl⟩ rfl rfl rfl rfl rfl (by kernel_rfl) Try.func3 (by kernel_rfl)
    (of_decide_eq_true (by kernel_rfl)) (by unfold Func.isWrapper; first | (rw [if_pos (by decide +kernel)]; kernel_rfl) | (rw [if_neg (by decide +kernel)]; exact ⟨rfl, rfl⟩))
    (fun os started H enc _ => lifted pure os started H enc)
end Go.Proofs.Ytbejlahmhloloaa.costFits
