/- The row of the law FlowEnds, out of its pure statement: printed by row.py of this session. -/
import Derived.Test.YtbejlahmhloloaaDoorRows
import Derived.Test.YtbejlahmhloloaaDoorQ22vced053
import Derived.Test.YtbejlahmhloloaaDoorGFlowEnds
import Derived.Test.YtbejlahmhloloaaDoorGFlowEndsF
import Derived.Test.YtbejlahmhloloaaDoorGFlowEndsC
import Derived.Test.YtbejlahmhloloaaDoorQ25vced053
import Derived.WalkKit
import Derived.ProofKit
import Derived.OpenShut
import Derived.ShutString
import Derived.ChangeOld
import Derived.Below
import Derived.SizedLaws
import Derived.LaidMore
import Derived.Lay
import Derived.Stop.Joined
import Derived.SevenTiedAt
import Derived.Test.YtbejlahmhloloaaDoorTie
import Derived.Test.YtbejlahmhloloaaDoorCards
set_option linter.unusedVariables false
set_option linter.unusedSimpArgs false
namespace Go.Proofs.YtbejlahmhloloaaDoor.flowEnds
open Go.Q Go.ChangeShapes Go.WideShapes Go.ChangeAt
abbrev laidL : List (String × DataW Unit) := [("capstan/op.bounds", Rows.laid_capstan_op_bounds)]
theorem door_met (os : Os) (args : Array Value) : laidMetH Tryd.prog laidL ((World.laidAll Tryd.prog os laidL).forCall (fun _ _ => 0) ⟨#[], args, []⟩).memory := by
  rw [MakeChecks.laidMetH_plain _ _ _ (by kernel_rfl)]; exact laidMet_laidAll _ (by kernel_rfl) (by kernel_rfl)
theorem tab0_laid (W : World) (h : laidMetH Tryd.prog laidL W) : (arrP k_arr88 0 tab0).p (hp W) :=
  arrP_of (fun x => [.int .i64 x.e0, .int .i64 x.e1]) (fun _ _ => by rfl) (laid_cells (n := "capstan/op.bounds") (d := Rows.laid_capstan_op_bounds) (k := 4) (t := 89) h (by kernel_rfl) (by simp [laidL]) (by kernel_rfl) (by kernel_rfl) (by kernel_rfl) (by kernel_rfl))
set_option maxRecDepth 100000 in
theorem lifted (pure : capstanlaw09_FlowEnds.Pure) (os : Os) (started : os.Started) (H : Type) (enc : TypeId × Value → H) :
    ReturnsInHanded {} Tryd.checked os 5 .any (fun w args => (Rows.flowEndsSpec.pre enc Tryd.prog Tryd.f5 [] false w args ∧ laidMetH Tryd.prog laidL w) ∧ sizedMet enc Tryd.prog Tryd.f5 (OpenSpec.ofChange Rows.flowEndsSpec) false w args) (Rows.flowEndsSpec.post enc Tryd.prog Tryd.f5 false true false false) := by
  refine returnsInHanded_of_change_and (C := Tryd.checked) (X := fun w _ => laidMetH Tryd.prog laidL w) (fun _ _ _ hh h => h.of_heap hh) own started (by kernel_rfl) Tryd.func5
    (ChangeSpec.witness_shaped (enc := enc) (C := Tryd.checked) (os := os) (X := fun w _ => laidMetH Tryd.prog laidL w) false (World.laidAll Tryd.prog os laidL) #[.slice none 0 0, .slice none 0 0] 8 (World.laidAll_os _ _ _) (World.shaped_of_ZipB (by kernel_rfl) (by kernel_rfl)) (by kernel_rfl) (by kernel_rfl) (by kernel_rfl) (door_met os _)) ?_
  intro W base args ds gs before hval0 hW hcnd hsz0 hL _
  have hval : ∀ (j : Nat) t v, Tryd.f5.params[j]? = some t → args[j]? = some v → Value.okWide Tryd.prog W .any base t v := hval0
  have hW' := hW
  obtain ⟨p, q, hA0, hV, rfl, hfz, hnd⟩ := hW
  have hA : DataW.TrodAll enc Tryd.prog W 0 (fun _ => true) true Tryd.f5.params.toList args.toList ds p := hA0
  rw [Tryd.params5] at hA hval
  obtain ⟨v0, vs0, d0, ds0, p0, q0, hargs, rfl, rfl, h0, r0⟩ := trodAll_cons hA
  obtain ⟨v1, vs1, d1, ds1, p1, q1, rfl, rfl, rfl, h1, r1⟩ := trodAll_cons r0
  obtain ⟨rfl, rfl, rfl⟩ := trodAll_nil r1
  obtain rfl : args = #[v0, v1] := by cases args; simp_all
  obtain ⟨rfl, rfl⟩ := trodVars_none hV
  have k0 := h0
  have lt0 : ∀ x ∈ p0, x.block < W.heap.size := by obtain ⟨m, hm⟩ := k0; exact DataW.trod_lt m _ _ _ hm
  obtain ⟨a0, len0, cap0, rfl⟩ := okWide_slice Tryd.underlying22 (hval 0 22 v0 rfl rfl)
  obtain ⟨n0, h0⟩ := h0
  obtain ⟨x0, ⟨u0, e0, s0⟩, w0⟩ := (Opens.slice Tryd.underlying22 opens_api_Instr cl52 (by decide)) enc W n0 _ _ _ h0
  obtain rfl : u0 = .slice a0 len0 cap0 := by have z : [Value.slice a0 len0 cap0] = [u0] := e0; simpa using z.symm
  have k1 := h1
  have lt1 : ∀ x ∈ p1, x.block < W.heap.size := by obtain ⟨m, hm⟩ := k1; exact DataW.trod_lt m _ _ _ hm
  obtain ⟨a1, len1, cap1, rfl⟩ := okWide_slice Tryd.underlying46 (hval 1 46 v1 rfl rfl)
  obtain ⟨n1, h1⟩ := h1
  obtain ⟨x1, ⟨u1, e1, s1⟩, w1⟩ := (Opens.slice Tryd.underlying46 (Opens.bool Tryd.underlying4) cl4 (by decide)) enc W n1 _ _ _ h1
  obtain rfl : u1 = .slice a1 len1 cap1 := by have z : [Value.slice a1 len1 cap1] = [u1] := e1; simpa using z.symm
  clear hA0 hval0 hsz0
  refine (capstanlaw09_FlowEnds.ok x0 x1 _ _ true (pure x0 x1 w0 w1) W (hp W) (Sub.refl _) s0 s1 (tab0_laid W hL)).mono fun e W2 he => ?_
  obtain ⟨v, rfl, hs⟩ := he
  obtain rfl := hs.known
  have bel := hs.below
  exact ⟨_, rfl, _, _, _, [], _, [], hW', trodAll_mk1 (Go.RowKit.shut_bool Tryd.underlying4 _), (trodAll_cons_mk (Go.RowKit.Below.trod laidOut (by kernel_rfl) (of_decide_eq_true (by kernel_rfl)) k0 bel lt0) (trodAll_cons_mk (Go.RowKit.Below.trod laidOut (by kernel_rfl) (of_decide_eq_true (by kernel_rfl)) k1 bel lt1) trodAll_mk0)), rfl, bel.frame _, fun h => by cases h⟩
theorem over (pure : capstanlaw09_FlowEnds.Pure) : Rows.flowEndsRow.holds Tryd.pinned (OpenSpec.ofChange Rows.flowEndsSpec) :=
  OpenClaim.holds_of_wide 5 Tryd.f5 rfl rfl rfl rfl rfl rfl rfl ⟨rfl, rfl, rfl, rfl, rfl⟩ rfl rfl rfl rfl rfl fnamed Tryd.func5 closed
    (of_decide_eq_true (by kernel_rfl)) (by unfold Func.isWrapper; first | (rw [if_pos (by decide +kernel)]; kernel_rfl) | (rw [if_neg (by decide +kernel)]; exact ⟨rfl, rfl⟩))
    (fun os started H enc _ => lifted pure os started H enc)
theorem card (pure : capstanlaw09_FlowEnds.Pure) : Rows.FlowEndsCardSaid :=
  Claim7.holds_tied_plain_at .later [] [.data] true (true, "64afbe8193fafbd21021bffc1f42958caf34197f9490ae58f89f75263333c9a1") false (over pure) (fun _ h => by cases h) cw (fun _ h => by cases h) flowEnds_row_tie rfl ⟨rfl, rfl⟩ cm rfl
    (fun f fn hf hfn => by
      obtain rfl : f = 5 := (Option.some.inj (fnamed.symm.trans hf)).symm
      obtain rfl : fn = Tryd.f5 := (Option.some.inj (Tryd.func5.symm.trans hfn)).symm
      exact ⟨cl, fun j t ht => by
        rw [Tryd.params5] at ht
        have hm : t ∈ [22, 46] := by simpa using Array.mem_of_getElem? ht
        have hall := List.all_eq_true.1 cs t hm
        exact (Bool.not_eq_true' _ ▸ hall)⟩)
    cg
end Go.Proofs.YtbejlahmhloloaaDoor.flowEnds
