/- The row of the law VerifyBack, out of its pure statement: printed by row.py of this session. -/
import Derived.Test.YtikichjmjbbnbaaGreatDoorRows
import Derived.Test.YtikichjmjbbnbaaGreatDoorQ22xVerifyBack
import Derived.Test.YtikichjmjbbnbaaGreatDoorGVerifyBack
import Derived.Test.YtikichjmjbbnbaaGreatDoorGVerifyBackF
import Derived.Test.YtikichjmjbbnbaaGreatDoorGVerifyBackC
import Derived.Test.YtikichjmjbbnbaaGreatDoorQ25xVerifyBack
import Derived.WalkKit
import Derived.ProofKit
import Derived.OpenShut
import Derived.ShutString
import Derived.ChangeOld
import Derived.Below
import Derived.SizedLaws
import Derived.LaidMore
import Derived.Lay
import Derived.Stop.Joined
import Derived.SevenTiedAt
import Derived.Test.YtikichjmjbbnbaaGreatDoorTie
import Derived.Test.YtikichjmjbbnbaaGreatDoorCards
set_option linter.unusedVariables false
set_option linter.unusedSimpArgs false
namespace Go.Proofs.YtikichjmjbbnbaaGreatDoor.verifyBack
open Go.Q Go.ChangeShapes Go.WideShapes Go.ChangeAt
abbrev laidL : List (String × DataW Unit) := [("capstan/op.bounds", Rows.laid_capstan_op_bounds), ("capstan/value.sizes", Rows.laid_capstan_value_sizes)]
theorem door_met (os : Os) (args : Array Value) : laidMetH Tryz.prog laidL ((World.laidAll Tryz.prog os laidL).forCall (fun _ _ => 0) ⟨#[], args, []⟩).memory := by
  rw [MakeChecks.laidMetH_plain _ _ _ (by kernel_rfl)]; exact laidMet_laidAll _ (by kernel_rfl) (by kernel_rfl)
theorem tab0_laid (W : World) (h : laidMetH Tryz.prog laidL W) : (arrP (kInt .i64) 0 tab0).p (hp W) :=
  arrP_of (fun x => [.int .i64 x]) (fun _ _ => by rfl) (laid_cells (n := "capstan/value.sizes") (d := Rows.laid_capstan_value_sizes) (k := 4) (t := 153) h (by kernel_rfl) (by simp [laidL]) (by kernel_rfl) (by kernel_rfl) (by kernel_rfl) (by kernel_rfl))
theorem tab1_laid (W : World) (h : laidMetH Tryz.prog laidL W) : (arrP k_arr199 1 tab1).p (hp W) :=
  arrP_of (fun x => [.int .i64 x.e0, .int .i64 x.e1]) (fun _ _ => by rfl) (laid_cells (n := "capstan/op.bounds") (d := Rows.laid_capstan_op_bounds) (k := 4) (t := 200) h (by kernel_rfl) (by simp [laidL]) (by kernel_rfl) (by kernel_rfl) (by kernel_rfl) (by kernel_rfl))
set_option maxRecDepth 100000 in
theorem lifted (pure : capstanlaw14_VerifyBack.Pure) (os : Os) (started : os.Started) (H : Type) (enc : TypeId × Value → H) :
    ReturnsInHanded {} Tryz.checked os 3 .any (fun w args => (Rows.verifyBackSpec.pre enc Tryz.prog Tryz.f3 [] false w args ∧ laidMetH Tryz.prog laidL w) ∧ sizedMet enc Tryz.prog Tryz.f3 (OpenSpec.ofChange Rows.verifyBackSpec) false w args) (Rows.verifyBackSpec.post enc Tryz.prog Tryz.f3 false true false false) := by
  refine returnsInHanded_of_change_and (C := Tryz.checked) (X := fun w _ => laidMetH Tryz.prog laidL w) (fun _ _ _ hh h => h.of_heap hh) own started (by kernel_rfl) Tryz.func3
    (ChangeSpec.witness_shaped (enc := enc) (C := Tryz.checked) (os := os) (X := fun w _ => laidMetH Tryz.prog laidL w) false (World.laidAll Tryz.prog os laidL) #[.agg #[.slice none 0 0, .slice none 0 0, .slice none 0 0, .int .i64 0], .slice none 0 0] 8 (World.laidAll_os _ _ _) (World.shaped_of_ZipB (by kernel_rfl) (by kernel_rfl)) (by kernel_rfl) (by kernel_rfl) (by kernel_rfl) (door_met os _)) ?_
  intro W base args ds gs before hval0 hW hcnd hsz0 hL _
  have hval : ∀ (j : Nat) t v, Tryz.f3.params[j]? = some t → args[j]? = some v → Value.okWide Tryz.prog W .any base t v := hval0
  have hW' := hW
  obtain ⟨p, q, hA0, hV, rfl, hfz, hnd⟩ := hW
  have hA : DataW.TrodAll enc Tryz.prog W 0 (fun _ => true) true Tryz.f3.params.toList args.toList ds p := hA0
  rw [Tryz.params3] at hA hval
  obtain ⟨v0, vs0, d0, ds0, p0, q0, hargs, rfl, rfl, h0, r0⟩ := trodAll_cons hA
  obtain ⟨v1, vs1, d1, ds1, p1, q1, rfl, rfl, rfl, h1, r1⟩ := trodAll_cons r0
  obtain ⟨rfl, rfl, rfl⟩ := trodAll_nil r1
  obtain rfl : args = #[v0, v1] := by cases args; simp_all
  obtain ⟨rfl, rfl⟩ := trodVars_none hV
  have k0 := h0
  have lt0 : ∀ x ∈ p0, x.block < W.heap.size := by obtain ⟨m, hm⟩ := k0; exact DataW.trod_lt m _ _ _ hm
  obtain ⟨cs0, rfl⟩ := Go.Q.okWide_struct Tryz.underlying25 (hval 0 25 v0 rfl rfl)
  obtain ⟨n0, h0⟩ := h0
  obtain ⟨x0, ⟨u0_0, u0_1, u0_2, e0, s0_0, s0_1, s0_2⟩, w0⟩ := opens_api_Module enc W n0 _ _ _ h0
  obtain rfl : cs0 = #[u0_0, u0_1, u0_2, .int .i64 x0.Migrate] := by
    have z : cs0.toList = [u0_0, u0_1, u0_2, .int .i64 x0.Migrate] := e0
    rw [← Array.toArray_toList (xs := cs0), z]
  have k1 := h1
  have lt1 : ∀ x ∈ p1, x.block < W.heap.size := by obtain ⟨m, hm⟩ := k1; exact DataW.trod_lt m _ _ _ hm
  obtain ⟨a1, len1, cap1, rfl⟩ := okWide_slice Tryz.underlying26 (hval 1 26 v1 rfl rfl)
  obtain ⟨n1, h1⟩ := h1
  obtain ⟨x1, ⟨u1, e1, s1⟩, w1⟩ := (Opens.slice Tryz.underlying26 (Opens.int Tryz.underlying5) cl5 (by decide)) enc W n1 _ _ _ h1
  obtain rfl : u1 = .slice a1 len1 cap1 := by have z : [Value.slice a1 len1 cap1] = [u1] := e1; simpa using z.symm
  clear hA0 hval0 hsz0
  refine (capstanlaw14_VerifyBack.ok x0 x1 _ _ _ _ true (pure x0 x1 w0 w1) W (hp W) (Sub.refl _) s0_0 s0_1 s0_2 s1 (tab0_laid W hL) (tab1_laid W hL)).mono fun e W2 he => ?_
  obtain ⟨v, rfl, hs⟩ := he
  obtain rfl := hs.known
  have bel := hs.below
  exact ⟨_, rfl, _, _, _, [], _, [], hW', trodAll_mk1 (Go.RowKit.shut_bool Tryz.underlying4 _), (trodAll_cons_mk (Go.RowKit.Below.trod laidOut (by kernel_rfl) (of_decide_eq_true (by kernel_rfl)) k0 bel lt0) (trodAll_cons_mk (Go.RowKit.Below.trod laidOut (by kernel_rfl) (of_decide_eq_true (by kernel_rfl)) k1 bel lt1) trodAll_mk0)), rfl, bel.frame _, fun h => by cases h⟩
theorem over (pure : capstanlaw14_VerifyBack.Pure) : Rows.verifyBackRow.holds Tryz.pinned (OpenSpec.ofChange Rows.verifyBackSpec) :=
  OpenClaim.holds_of_wide 3 Tryz.f3 rfl rfl rfl rfl rfl rfl rfl ⟨rfl, rfl, rfl, rfl, rfl⟩ rfl rfl rfl rfl rfl fnamed Tryz.func3 closed
    (of_decide_eq_true (by kernel_rfl)) (by unfold Func.isWrapper; first | (rw [if_pos (by decide +kernel)]; kernel_rfl) | (rw [if_neg (by decide +kernel)]; exact ⟨rfl, rfl⟩))
    (fun os started H enc _ => lifted pure os started H enc)
theorem card (pure : capstanlaw14_VerifyBack.Pure) : Rows.VerifyBackCardSaid :=
  Claim7.holds_tied_plain_at .later [] [.data, .data] true (true, "6d52c0c2919ed25870cc2f48da0ca0ca1363b26ba40473773f9cd848f74f03d2") true (over pure) (fun _ h => by cases h) cw (fun _ h => by cases h) verifyBack_row_tie rfl ⟨rfl, rfl⟩ cm rfl
    (fun f fn hf hfn => by
      obtain rfl : f = 3 := (Option.some.inj (fnamed.symm.trans hf)).symm
      obtain rfl : fn = Tryz.f3 := (Option.some.inj (Tryz.func3.symm.trans hfn)).symm
      exact ⟨cl, fun j t ht => by
        rw [Tryz.params3] at ht
        have hm : t ∈ [25, 26] := by simpa using Array.mem_of_getElem? ht
        have hall := List.all_eq_true.1 cs t hm
        exact (Bool.not_eq_true' _ ▸ hall)⟩)
    cg
end Go.Proofs.YtikichjmjbbnbaaGreatDoor.verifyBack
