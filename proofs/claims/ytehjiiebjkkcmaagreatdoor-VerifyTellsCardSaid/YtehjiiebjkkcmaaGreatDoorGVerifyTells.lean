/- Functions of the program as plain functions, with the proof that the code computes them: printed by gen.py of this session. -/
import Derived.Test.YtehjiiebjkkcmaaGreatDoorProg
import Derived.Test.YtehjiiebjkkcmaaGreatDoorQ33xVerifyTells
import Derived.Test.YtehjiiebjkkcmaaGreatDoorQ42xVerifyTells
import Derived.Ground.GgzProg
import Derived.Ground.Names8Prog
import Derived.Ground.NamesProg
import Derived.Ground.SlgcProg
import Derived.Ground.SlgmProg
import Derived.Ground.SlgnProg
import Derived.Ground.SlsfProg
import Derived.Shelf.Bits.Mul64
import Derived.Shelf.Lay
import Derived.Shelf.SlGeneric
import Derived.Shelf.SlIterI.Nil
import Derived.Shelf.SlSortCmp.WholeK
import Derived.Shelf.SlicesE.Reverse
import Derived.Shelf.SlicesG.Cmp
import Derived.Shelf.SlicesG.CompactI
import Derived.Shelf.Small.Bits
import Derived.Shelf.SortM.Plain
import Derived.Shelf.SortM.SortNone
import Derived.Shelf.Spec.SlicesGrow
import Derived.Test.YtehjiiebjkkcmaaGreatDoorGVerifyTellsp3
set_option linter.unusedVariables false
set_option linter.unusedSimpArgs false
set_option maxRecDepth 20000
set_option maxHeartbeats 2000000
set_option linter.defProp false
set_option warn.classDefReducibility false
noncomputable section
namespace Go.Proofs.YtehjiiebjkkcmaaGreatDoor
open Go.Q
attribute [local irreducible] CP SP QE DA DT Val St
theorem cl2 : Tryz.prog.cellsOf 2 = 1 := by kernel_rfl
theorem cl100 : Tryz.prog.cellsOf 100 = 3 := by kernel_rfl
def Je (x : Zn) : Prop := (Lit.int .u8 x.Kind).wf = true ∧ (Lit.int .i64 x.A).wf = true ∧ (Lit.int .i64 x.B).wf = true
theorem Jj : Opens Tryz.prog 100 Z5 Je := by
  intro H enc W fuel cs d ps h
  cases fuel with
  | zero => simp [DataW.trod] at h
  | succ n =>
    obtain ⟨hl, hf⟩ := trod_struct Tryz.underlying100 h
    rw [cl100] at hl
    obtain ⟨c0, c1, c2, rfl⟩ := len3 hl
    obtain ⟨d0, q0, h0⟩ := hf 0 _ rfl
    replace h0 : DataW.trod enc Tryz.prog W 0 (fun _ => true) true n 5 (List.take (Tryz.prog.cellsOf 5) [c0, c1, c2]) = some (d0, q0) := h0
    rw [cl5] at h0
    replace h0 : DataW.trod enc Tryz.prog W 0 (fun _ => true) true n 5 [c0] = some (d0, q0) := h0
    obtain ⟨x0, r0, w0⟩ := (Opens.int Tryz.underlying5) enc W n _ _ _ h0
    obtain ⟨rfl, -⟩ := List.cons.inj r0
    obtain ⟨d1, q1, h1⟩ := hf 1 _ rfl
    replace h1 : DataW.trod enc Tryz.prog W 0 (fun _ => true) true n 2 (List.take (Tryz.prog.cellsOf 2) [c1, c2]) = some (d1, q1) := h1
    rw [cl2] at h1
    replace h1 : DataW.trod enc Tryz.prog W 0 (fun _ => true) true n 2 [c1] = some (d1, q1) := h1
    obtain ⟨x1, r1, w1⟩ := (Opens.int Tryz.underlying2) enc W n _ _ _ h1
    obtain ⟨rfl, -⟩ := List.cons.inj r1
    obtain ⟨d2, q2, h2⟩ := hf 2 _ rfl
    replace h2 : DataW.trod enc Tryz.prog W 0 (fun _ => true) true n 2 (List.take (Tryz.prog.cellsOf 2) [c2]) = some (d2, q2) := h2
    rw [cl2] at h2
    replace h2 : DataW.trod enc Tryz.prog W 0 (fun _ => true) true n 2 [c2] = some (d2, q2) := h2
    obtain ⟨x2, r2, w2⟩ := (Opens.int Tryz.underlying2) enc W n _ _ _ h2
    obtain ⟨rfl, -⟩ := List.cons.inj r2
    exact ⟨⟨x0, x1, x2⟩, rfl, w0, w1, w2⟩
theorem cl3 : Tryz.prog.cellsOf 3 = 1 := by kernel_rfl
theorem cl43 : Tryz.prog.cellsOf 43 = 3 := by kernel_rfl
def Y4 (x : Z7) : Prop := (Lit.int .u8 x.Op).wf = true ∧ (Lit.int .i64 x.A).wf = true ∧ (Lit.int .i64 x.B).wf = true
theorem Z1R : Opens Tryz.prog 43 Za Y4 := by
  intro H enc W fuel cs d ps h
  cases fuel with
  | zero => simp [DataW.trod] at h
  | succ n =>
    obtain ⟨hl, hf⟩ := trod_struct Tryz.underlying43 h
    rw [cl43] at hl
    obtain ⟨c0, c1, c2, rfl⟩ := len3 hl
    obtain ⟨d0, q0, h0⟩ := hf 0 _ rfl
    replace h0 : DataW.trod enc Tryz.prog W 0 (fun _ => true) true n 5 (List.take (Tryz.prog.cellsOf 5) [c0, c1, c2]) = some (d0, q0) := h0
    rw [cl5] at h0
    replace h0 : DataW.trod enc Tryz.prog W 0 (fun _ => true) true n 5 [c0] = some (d0, q0) := h0
    obtain ⟨x0, r0, w0⟩ := (Opens.int Tryz.underlying5) enc W n _ _ _ h0
    obtain ⟨rfl, -⟩ := List.cons.inj r0
    obtain ⟨d1, q1, h1⟩ := hf 1 _ rfl
    replace h1 : DataW.trod enc Tryz.prog W 0 (fun _ => true) true n 3 (List.take (Tryz.prog.cellsOf 3) [c1, c2]) = some (d1, q1) := h1
    rw [cl3] at h1
    replace h1 : DataW.trod enc Tryz.prog W 0 (fun _ => true) true n 3 [c1] = some (d1, q1) := h1
    obtain ⟨x1, r1, w1⟩ := (Opens.int Tryz.underlying3) enc W n _ _ _ h1
    obtain ⟨rfl, -⟩ := List.cons.inj r1
    obtain ⟨d2, q2, h2⟩ := hf 2 _ rfl
    replace h2 : DataW.trod enc Tryz.prog W 0 (fun _ => true) true n 3 (List.take (Tryz.prog.cellsOf 3) [c2]) = some (d2, q2) := h2
    rw [cl3] at h2
    replace h2 : DataW.trod enc Tryz.prog W 0 (fun _ => true) true n 3 [c2] = some (d2, q2) := h2
    obtain ⟨x2, r2, w2⟩ := (Opens.int Tryz.underlying3) enc W n _ _ _ h2
    obtain ⟨rfl, -⟩ := List.cons.inj r2
    exact ⟨⟨x0, x1, x2⟩, rfl, w0, w1, w2⟩
theorem cl31 : Tryz.prog.cellsOf 31 = 1 := by kernel_rfl
theorem cl4 : Tryz.prog.cellsOf 4 = 1 := by kernel_rfl
theorem cl32 : Tryz.prog.cellsOf 32 = 1 := by kernel_rfl
theorem cl34 : Tryz.prog.cellsOf 34 = 8 := by kernel_rfl
def JW (x : Zb) : Prop := (x.Args.length ≤ maxLen ∧ ∀ y ∈ x.Args, (Lit.int .u8 y).wf = true) ∧ (x.Locals.length ≤ maxLen ∧ ∀ y ∈ x.Locals, (Lit.int .u8 y).wf = true) ∧ (Lit.int .u8 x.Result).wf = true ∧ True ∧ (Lit.int .i64 x.Fuel).wf = true ∧ (Lit.int .i64 x.Stack).wf = true ∧ (Lit.int .i64 x.Heap).wf = true ∧ (x.Code.length ≤ maxLen ∧ ∀ y ∈ x.Code, Y4 y)
theorem Z1k : Opens Tryz.prog 34 Z8 JW := by
  intro H enc W fuel cs d ps h
  cases fuel with
  | zero => simp [DataW.trod] at h
  | succ n =>
    obtain ⟨hl, hf⟩ := trod_struct Tryz.underlying34 h
    rw [cl34] at hl
    obtain ⟨c0, c1, c2, c3, c4, c5, c6, c7, rfl⟩ := len8 hl
    obtain ⟨d0, q0, h0⟩ := hf 0 _ rfl
    replace h0 : DataW.trod enc Tryz.prog W 0 (fun _ => true) true n 31 (List.take (Tryz.prog.cellsOf 31) [c0, c1, c2, c3, c4, c5, c6, c7]) = some (d0, q0) := h0
    rw [cl31] at h0
    replace h0 : DataW.trod enc Tryz.prog W 0 (fun _ => true) true n 31 [c0] = some (d0, q0) := h0
    obtain ⟨x0, r0, w0⟩ := (Opens.slice Tryz.underlying31 (Opens.int Tryz.underlying5) cl5 (by decide)) enc W n _ _ _ h0
    obtain ⟨v0, e0, r0⟩ := r0
    obtain ⟨rfl, -⟩ := List.cons.inj e0
    obtain ⟨d1, q1, h1⟩ := hf 1 _ rfl
    replace h1 : DataW.trod enc Tryz.prog W 0 (fun _ => true) true n 31 (List.take (Tryz.prog.cellsOf 31) [c1, c2, c3, c4, c5, c6, c7]) = some (d1, q1) := h1
    rw [cl31] at h1
    replace h1 : DataW.trod enc Tryz.prog W 0 (fun _ => true) true n 31 [c1] = some (d1, q1) := h1
    obtain ⟨x1, r1, w1⟩ := (Opens.slice Tryz.underlying31 (Opens.int Tryz.underlying5) cl5 (by decide)) enc W n _ _ _ h1
    obtain ⟨v1, e1, r1⟩ := r1
    obtain ⟨rfl, -⟩ := List.cons.inj e1
    obtain ⟨d2, q2, h2⟩ := hf 2 _ rfl
    replace h2 : DataW.trod enc Tryz.prog W 0 (fun _ => true) true n 5 (List.take (Tryz.prog.cellsOf 5) [c2, c3, c4, c5, c6, c7]) = some (d2, q2) := h2
    rw [cl5] at h2
    replace h2 : DataW.trod enc Tryz.prog W 0 (fun _ => true) true n 5 [c2] = some (d2, q2) := h2
    obtain ⟨x2, r2, w2⟩ := (Opens.int Tryz.underlying5) enc W n _ _ _ h2
    obtain ⟨rfl, -⟩ := List.cons.inj r2
    obtain ⟨d3, q3, h3⟩ := hf 3 _ rfl
    replace h3 : DataW.trod enc Tryz.prog W 0 (fun _ => true) true n 4 (List.take (Tryz.prog.cellsOf 4) [c3, c4, c5, c6, c7]) = some (d3, q3) := h3
    rw [cl4] at h3
    replace h3 : DataW.trod enc Tryz.prog W 0 (fun _ => true) true n 4 [c3] = some (d3, q3) := h3
    obtain ⟨x3, r3, w3⟩ := (Opens.bool Tryz.underlying4) enc W n _ _ _ h3
    obtain ⟨rfl, -⟩ := List.cons.inj r3
    obtain ⟨d4, q4, h4⟩ := hf 4 _ rfl
    replace h4 : DataW.trod enc Tryz.prog W 0 (fun _ => true) true n 3 (List.take (Tryz.prog.cellsOf 3) [c4, c5, c6, c7]) = some (d4, q4) := h4
    rw [cl3] at h4
    replace h4 : DataW.trod enc Tryz.prog W 0 (fun _ => true) true n 3 [c4] = some (d4, q4) := h4
    obtain ⟨x4, r4, w4⟩ := (Opens.int Tryz.underlying3) enc W n _ _ _ h4
    obtain ⟨rfl, -⟩ := List.cons.inj r4
    obtain ⟨d5, q5, h5⟩ := hf 5 _ rfl
    replace h5 : DataW.trod enc Tryz.prog W 0 (fun _ => true) true n 3 (List.take (Tryz.prog.cellsOf 3) [c5, c6, c7]) = some (d5, q5) := h5
    rw [cl3] at h5
    replace h5 : DataW.trod enc Tryz.prog W 0 (fun _ => true) true n 3 [c5] = some (d5, q5) := h5
    obtain ⟨x5, r5, w5⟩ := (Opens.int Tryz.underlying3) enc W n _ _ _ h5
    obtain ⟨rfl, -⟩ := List.cons.inj r5
    obtain ⟨d6, q6, h6⟩ := hf 6 _ rfl
    replace h6 : DataW.trod enc Tryz.prog W 0 (fun _ => true) true n 3 (List.take (Tryz.prog.cellsOf 3) [c6, c7]) = some (d6, q6) := h6
    rw [cl3] at h6
    replace h6 : DataW.trod enc Tryz.prog W 0 (fun _ => true) true n 3 [c6] = some (d6, q6) := h6
    obtain ⟨x6, r6, w6⟩ := (Opens.int Tryz.underlying3) enc W n _ _ _ h6
    obtain ⟨rfl, -⟩ := List.cons.inj r6
    obtain ⟨d7, q7, h7⟩ := hf 7 _ rfl
    replace h7 : DataW.trod enc Tryz.prog W 0 (fun _ => true) true n 32 (List.take (Tryz.prog.cellsOf 32) [c7]) = some (d7, q7) := h7
    rw [cl32] at h7
    replace h7 : DataW.trod enc Tryz.prog W 0 (fun _ => true) true n 32 [c7] = some (d7, q7) := h7
    obtain ⟨x7, r7, w7⟩ := (Opens.slice Tryz.underlying32 Z1R cl43 (by decide)) enc W n _ _ _ h7
    obtain ⟨v7, e7, r7⟩ := r7
    obtain ⟨rfl, -⟩ := List.cons.inj e7
    exact ⟨⟨x0, x1, x2, x3, x4, x5, x6, x7⟩, ⟨_, _, _, rfl, r0, r1, r7⟩, w0, w1, w2, w3, w4, w5, w6, w7⟩
theorem cl22 : Tryz.prog.cellsOf 22 = 1 := by kernel_rfl
theorem cl23 : Tryz.prog.cellsOf 23 = 1 := by kernel_rfl
theorem cl25 : Tryz.prog.cellsOf 25 = 4 := by kernel_rfl
def YM (x : Z9) : Prop := (x.Zj.length ≤ maxLen ∧ ∀ y ∈ x.Zj, Je y) ∧ (x.Pool.length ≤ maxLen ∧ ∀ y ∈ x.Pool, Je y) ∧ (x.Methods.length ≤ maxLen ∧ ∀ y ∈ x.Methods, JW y) ∧ (Lit.int .i64 x.Zd).wf = true
theorem Z1l : Opens Tryz.prog 25 Z3n YM := by
  intro H enc W fuel cs d ps h
  cases fuel with
  | zero => simp [DataW.trod] at h
  | succ n =>
    obtain ⟨hl, hf⟩ := trod_struct Tryz.underlying25 h
    rw [cl25] at hl
    obtain ⟨c0, c1, c2, c3, rfl⟩ := len4 hl
    obtain ⟨d0, q0, h0⟩ := hf 0 _ rfl
    replace h0 : DataW.trod enc Tryz.prog W 0 (fun _ => true) true n 22 (List.take (Tryz.prog.cellsOf 22) [c0, c1, c2, c3]) = some (d0, q0) := h0
    rw [cl22] at h0
    replace h0 : DataW.trod enc Tryz.prog W 0 (fun _ => true) true n 22 [c0] = some (d0, q0) := h0
    obtain ⟨x0, r0, w0⟩ := (Opens.slice Tryz.underlying22 Jj cl100 (by decide)) enc W n _ _ _ h0
    obtain ⟨v0, e0, r0⟩ := r0
    obtain ⟨rfl, -⟩ := List.cons.inj e0
    obtain ⟨d1, q1, h1⟩ := hf 1 _ rfl
    replace h1 : DataW.trod enc Tryz.prog W 0 (fun _ => true) true n 22 (List.take (Tryz.prog.cellsOf 22) [c1, c2, c3]) = some (d1, q1) := h1
    rw [cl22] at h1
    replace h1 : DataW.trod enc Tryz.prog W 0 (fun _ => true) true n 22 [c1] = some (d1, q1) := h1
    obtain ⟨x1, r1, w1⟩ := (Opens.slice Tryz.underlying22 Jj cl100 (by decide)) enc W n _ _ _ h1
    obtain ⟨v1, e1, r1⟩ := r1
    obtain ⟨rfl, -⟩ := List.cons.inj e1
    obtain ⟨d2, q2, h2⟩ := hf 2 _ rfl
    replace h2 : DataW.trod enc Tryz.prog W 0 (fun _ => true) true n 23 (List.take (Tryz.prog.cellsOf 23) [c2, c3]) = some (d2, q2) := h2
    rw [cl23] at h2
    replace h2 : DataW.trod enc Tryz.prog W 0 (fun _ => true) true n 23 [c2] = some (d2, q2) := h2
    obtain ⟨x2, r2, w2⟩ := (Opens.slice Tryz.underlying23 Z1k cl34 (by decide)) enc W n _ _ _ h2
    obtain ⟨v2, e2, r2⟩ := r2
    obtain ⟨rfl, -⟩ := List.cons.inj e2
    obtain ⟨d3, q3, h3⟩ := hf 3 _ rfl
    replace h3 : DataW.trod enc Tryz.prog W 0 (fun _ => true) true n 3 (List.take (Tryz.prog.cellsOf 3) [c3]) = some (d3, q3) := h3
    rw [cl3] at h3
    replace h3 : DataW.trod enc Tryz.prog W 0 (fun _ => true) true n 3 [c3] = some (d3, q3) := h3
    obtain ⟨x3, r3, w3⟩ := (Opens.int Tryz.underlying3) enc W n _ _ _ h3
    obtain ⟨rfl, -⟩ := List.cons.inj r3
    exact ⟨⟨x0, x1, x2, x3⟩, ⟨_, _, _, rfl, r0, r1, r2⟩, w0, w1, w2, w3⟩
def Zm.Pure : Prop := ∀ (x0 : Z9), YM x0 → Zm.f x0 = some true
end Go.Proofs.YtehjiiebjkkcmaaGreatDoor
end
