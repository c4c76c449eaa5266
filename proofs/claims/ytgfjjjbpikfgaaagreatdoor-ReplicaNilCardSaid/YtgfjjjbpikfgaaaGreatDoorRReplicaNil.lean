/- The row of the law ReplicaNil, out of its pure statement: printed by row.py of this session. -/
import Derived.Test.YtgfjjjbpikfgaaaGreatDoorRows
import Derived.Test.YtgfjjjbpikfgaaaGreatDoorQ22v188945
import Derived.Test.YtgfjjjbpikfgaaaGreatDoorGReplicaNil
import Derived.Test.YtgfjjjbpikfgaaaGreatDoorGReplicaNilF
import Derived.Test.YtgfjjjbpikfgaaaGreatDoorGReplicaNilC
import Derived.WalkKit
import Derived.ProofKit
import Derived.OpenShut
import Derived.ShutString
import Derived.ChangeOld
import Derived.Below
import Derived.SizedLaws
import Derived.LaidMore
import Derived.Lay
import Derived.Stop.Joined
import Derived.SevenTiedAt
import Derived.Test.YtgfjjjbpikfgaaaGreatDoorTie
import Derived.Test.YtgfjjjbpikfgaaaGreatDoorCards
set_option linter.unusedVariables false
set_option linter.unusedSimpArgs false
namespace Go.Proofs.YtgfjjjbpikfgaaaGreatDoor.replicaNil
open Go.Q Go.ChangeShapes Go.WideShapes Go.ChangeAt
abbrev laidL : List (String × DataW Unit) := [("capstan/op.bounds", Rows.laid_capstan_op_bounds), ("capstan/value.sizes", Rows.laid_capstan_value_sizes)]
theorem door_met (os : Os) (args : Array Value) : laidMetH Tryz.prog laidL ((World.laidAll Tryz.prog os laidL).forCall (fun _ _ => 0) ⟨#[], args, []⟩).memory := by
  rw [MakeChecks.laidMetH_plain _ _ _ (by kernel_rfl)]; exact laidMet_laidAll _ (by kernel_rfl) (by kernel_rfl)
set_option maxRecDepth 100000 in
theorem lifted (pure : capstanlaw25_ReplicaNil.Pure) (os : Os) (started : os.Started) (H : Type) (enc : TypeId × Value → H) :
    ReturnsInHanded {} Tryz.checked os 4 .any (fun w args => (Rows.replicaNilSpec.pre enc Tryz.prog Tryz.f4 [] false w args ∧ laidMetH Tryz.prog laidL w) ∧ sizedMet enc Tryz.prog Tryz.f4 (OpenSpec.ofChange Rows.replicaNilSpec) false w args) (Rows.replicaNilSpec.post enc Tryz.prog Tryz.f4 false true false false) := by
  refine returnsInHanded_of_change_and (C := Tryz.checked) (X := fun w _ => laidMetH Tryz.prog laidL w) (fun _ _ _ hh h => h.of_heap hh) own started (by kernel_rfl) Tryz.func4
    (ChangeSpec.witness_shaped (enc := enc) (C := Tryz.checked) (os := os) (X := fun w _ => laidMetH Tryz.prog laidL w) false (World.laidAll Tryz.prog os laidL) #[.agg #[.int .i64 0, .int .i64 0, .int .u8 0, .int .i64 0, .slice none 0 0, .slice none 0 0]] 8 (World.laidAll_os _ _ _) (World.shaped_of_ZipB (by kernel_rfl) (by kernel_rfl)) (by kernel_rfl) (by kernel_rfl) (by kernel_rfl) (door_met os _)) ?_
  intro W base args ds gs before hval0 hW hcnd hsz0 hL _
  have hval : ∀ (j : Nat) t v, Tryz.f4.params[j]? = some t → args[j]? = some v → Value.okWide Tryz.prog W .any base t v := hval0
  have hW' := hW
  obtain ⟨p, q, hA0, hV, rfl, hfz, hnd⟩ := hW
  have hA : DataW.TrodAll enc Tryz.prog W 0 (fun _ => true) true Tryz.f4.params.toList args.toList ds p := hA0
  rw [Tryz.params4] at hA hval
  obtain ⟨v0, vs0, d0, ds0, p0, q0, hargs, rfl, rfl, h0, r0⟩ := trodAll_cons hA
  obtain ⟨rfl, rfl, rfl⟩ := trodAll_nil r0
  obtain rfl : args = #[v0] := by cases args; simp_all
  obtain ⟨rfl, rfl⟩ := trodVars_none hV
  have k0 := h0
  have lt0 : ∀ x ∈ p0, x.block < W.heap.size := by obtain ⟨m, hm⟩ := k0; exact DataW.trod_lt m _ _ _ hm
  obtain ⟨cs0, rfl⟩ := Go.Q.okWide_struct Tryz.underlying48 (hval 0 48 v0 rfl rfl)
  obtain ⟨n0, h0⟩ := h0
  obtain ⟨x0, ⟨u0_4, u0_5, e0, s0_4, s0_5⟩, w0⟩ := opens_api_Entry enc W n0 _ _ _ h0
  obtain rfl : cs0 = #[.int .i64 x0.Proc, .int .i64 x0.Seq, .int .u8 x0.Op.Kind, .int .i64 x0.Op.Method, u0_4, u0_5] := by
    have z : cs0.toList = [.int .i64 x0.Proc, .int .i64 x0.Seq, .int .u8 x0.Op.Kind, .int .i64 x0.Op.Method, u0_4, u0_5] := e0
    rw [← Array.toArray_toList (xs := cs0), z]
  clear hA0 hval0 hsz0
  refine (capstanlaw25_ReplicaNil.ok x0 _ _ true (pure x0 w0) W (hp W) (Sub.refl _) s0_4 s0_5).mono fun e W2 he => ?_
  obtain ⟨v, rfl, hs⟩ := he
  obtain rfl := hs.known
  have bel := hs.below
  exact ⟨_, rfl, _, _, _, [], _, [], hW', trodAll_mk1 (Go.RowKit.shut_bool Tryz.underlying4 _), (trodAll_cons_mk (Go.RowKit.Below.trod laidOut (by kernel_rfl) (of_decide_eq_true (by kernel_rfl)) k0 bel lt0) trodAll_mk0), rfl, bel.frame _, fun h => by cases h⟩
theorem over (pure : capstanlaw25_ReplicaNil.Pure) : Rows.replicaNilRow.holds Tryz.pinned (OpenSpec.ofChange Rows.replicaNilSpec) :=
  OpenClaim.holds_of_wide 4 Tryz.f4 rfl rfl rfl rfl rfl rfl rfl ⟨rfl, rfl, rfl, rfl, rfl⟩ rfl rfl rfl rfl rfl fnamed Tryz.func4 closed
    (of_decide_eq_true (by kernel_rfl)) (by unfold Func.isWrapper; first | (rw [if_pos (by decide +kernel)]; kernel_rfl) | (rw [if_neg (by decide +kernel)]; exact ⟨rfl, rfl⟩))
    (fun os started H enc _ => lifted pure os started H enc)
theorem card (pure : capstanlaw25_ReplicaNil.Pure) : Rows.ReplicaNilCardSaid :=
  Claim7.holds_tied_plain_at .later [] [.data, .data] true (true, "34801d0e500e8e0d236e801f7e35b8c8c38ec2dab3259c27c155cd823ee7a2a9") true (over pure) (fun _ h => by cases h) cw (fun _ h => by cases h) replicaNil_row_tie rfl ⟨rfl, rfl⟩ cm rfl
    (fun f fn hf hfn => by
      obtain rfl : f = 4 := (Option.some.inj (fnamed.symm.trans hf)).symm
      obtain rfl : fn = Tryz.f4 := (Option.some.inj (Tryz.func4.symm.trans hfn)).symm
      exact ⟨cl, fun j t ht => by
        rw [Tryz.params4] at ht
        have hm : t ∈ [48] := by simpa using Array.mem_of_getElem? ht
        have hall := List.all_eq_true.1 cs t hm
        exact (Bool.not_eq_true' _ ▸ hall)⟩)
    cg
end Go.Proofs.YtgfjjjbpikfgaaaGreatDoor.replicaNil
