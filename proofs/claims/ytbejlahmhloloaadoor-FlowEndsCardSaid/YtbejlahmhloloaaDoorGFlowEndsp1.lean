/- Functions of the program as plain functions, with the proof that the code computes them: printed by gen.py of this session. -/
import Derived.Test.YtbejlahmhloloaaDoorProg
import Derived.Test.YtbejlahmhloloaaDoorQ27vced053
import Derived.Ground.NamesProg
import Derived.Ground.SlgcProg
import Derived.Ground.SlgmProg
import Derived.Ground.SlgnProg
import Derived.Ground.SlsfProg
import Derived.Shelf.Bits.Mul64
import Derived.Shelf.Lay
import Derived.Shelf.SlGeneric
import Derived.Shelf.SlSortCmp.WholeK
import Derived.Shelf.SlicesG.Cmp
import Derived.Shelf.SlicesG.CompactI
import Derived.Shelf.Small.Bits
import Derived.Shelf.SortM.Plain
import Derived.Shelf.SortM.SortNone
set_option linter.unusedVariables false
set_option linter.unusedSimpArgs false
set_option maxRecDepth 20000
set_option maxHeartbeats 2000000
noncomputable section
namespace Go.Proofs.YtbejlahmhloloaaDoor
open Go.Q
structure api_Instr where
  Op : Int
  A : Int
  B : Int
def api_Instr.zero : api_Instr := ⟨0, 0, 0⟩
def k_api_Instr : Kd api_Instr := ⟨3, fun h cs x => cs = [.int .u8 x.Op, .int .i64 x.A, .int .i64 x.B], fun _ _ _ _ _ h => h, fun _ _ _ h => by simp [h], fun _ _ _ h => by subst h; rfl⟩
theorem k_api_Instr.part_Op : Part k_api_Instr 0 (kInt .u8) (fun x => x.Op) := fun h cs x e => ⟨[.int .u8 x.Op], rfl, by subst e; exact seg_get [.int .u8 x.Op, .int .i64 x.A, .int .i64 x.B] 0 1⟩
theorem k_api_Instr.part_A : Part k_api_Instr 1 (kInt .i64) (fun x => x.A) := fun h cs x e => ⟨[.int .i64 x.A], rfl, by subst e; exact seg_get [.int .u8 x.Op, .int .i64 x.A, .int .i64 x.B] 1 1⟩
theorem k_api_Instr.part_B : Part k_api_Instr 2 (kInt .i64) (fun x => x.B) := fun h cs x e => ⟨[.int .i64 x.B], rfl, by subst e; exact seg_get [.int .u8 x.Op, .int .i64 x.A, .int .i64 x.B] 2 1⟩
theorem k_api_Instr.load {P : Program} {n : Fr} {ρ : Option Nat} {σ : List (Nat × Value)} {w0 : World} {hA hV : Hp} {ps : List HP} {os : List HO} {L l : List Oper} {Q : Cont} {d : Nat} {t tr : TypeId} {x : Operand} {pos : String} {af : Array Edge} {g : Option (Nat × Bool)} {v : Value} (see : Sees w0 hA hV) (i : Nat) {x0 : api_Instr} (hi : ps[i]? = some (elP k_api_Instr v x0)) {dsc : TypeDesc} (hu : P.underlying t = some dsc) (hd : (match dsc with | .struct _ | .array _ _ => true | _ => false) = true) (hs : (P.info? t).map (·.size) = some 3) (hg : gd L σ g = some true) (hn : Nat.blt d n.n = true) (hx : ev σ x = some v)
    (h : SP P n ρ ((d, .agg [.int .u8 x0.Op, .int .i64 x0.A, .int .i64 x0.B].toArray) :: σ) (St w0 hA hV (ps) os) L l Q) : SP P n ρ σ (St w0 hA hV ps os) L (⟨some d, .load t x, tr, pos, af, g⟩ :: l) Q :=
  SP.loadP see i hi hu hd hs hg hn hx fun cs a w ha hw => by
    obtain ⟨m, fr, hN, hO, n1, n2, dj, s1, s2, ap, s⟩ := hw
    obtain rfl := ap.get 0 rfl
    exact h a w ha ⟨m, fr, hN, hO, n1, n2, dj, s1, s2, (fun y hy => ap y (List.mem_cons_of_mem _ hy)), s⟩
structure flow_Loop where
  From : Int
  To : Int
  Turns : Int
def flow_Loop.zero : flow_Loop := ⟨0, 0, 0⟩
def k_flow_Loop : Kd flow_Loop := ⟨3, fun h cs x => cs = [.int .i64 x.From, .int .i64 x.To, .int .i64 x.Turns], fun _ _ _ _ _ h => h, fun _ _ _ h => by simp [h], fun _ _ _ h => by subst h; rfl⟩
theorem k_flow_Loop.part_From : Part k_flow_Loop 0 (kInt .i64) (fun x => x.From) := fun h cs x e => ⟨[.int .i64 x.From], rfl, by subst e; exact seg_get [.int .i64 x.From, .int .i64 x.To, .int .i64 x.Turns] 0 1⟩
theorem k_flow_Loop.part_To : Part k_flow_Loop 1 (kInt .i64) (fun x => x.To) := fun h cs x e => ⟨[.int .i64 x.To], rfl, by subst e; exact seg_get [.int .i64 x.From, .int .i64 x.To, .int .i64 x.Turns] 1 1⟩
theorem k_flow_Loop.part_Turns : Part k_flow_Loop 2 (kInt .i64) (fun x => x.Turns) := fun h cs x e => ⟨[.int .i64 x.Turns], rfl, by subst e; exact seg_get [.int .i64 x.From, .int .i64 x.To, .int .i64 x.Turns] 2 1⟩
theorem k_flow_Loop.load {P : Program} {n : Fr} {ρ : Option Nat} {σ : List (Nat × Value)} {w0 : World} {hA hV : Hp} {ps : List HP} {os : List HO} {L l : List Oper} {Q : Cont} {d : Nat} {t tr : TypeId} {x : Operand} {pos : String} {af : Array Edge} {g : Option (Nat × Bool)} {v : Value} (see : Sees w0 hA hV) (i : Nat) {x0 : flow_Loop} (hi : ps[i]? = some (elP k_flow_Loop v x0)) {dsc : TypeDesc} (hu : P.underlying t = some dsc) (hd : (match dsc with | .struct _ | .array _ _ => true | _ => false) = true) (hs : (P.info? t).map (·.size) = some 3) (hg : gd L σ g = some true) (hn : Nat.blt d n.n = true) (hx : ev σ x = some v)
    (h : SP P n ρ ((d, .agg [.int .i64 x0.From, .int .i64 x0.To, .int .i64 x0.Turns].toArray) :: σ) (St w0 hA hV (ps) os) L l Q) : SP P n ρ σ (St w0 hA hV ps os) L (⟨some d, .load t x, tr, pos, af, g⟩ :: l) Q :=
  SP.loadP see i hi hu hd hs hg hn hx fun cs a w ha hw => by
    obtain ⟨m, fr, hN, hO, n1, n2, dj, s1, s2, ap, s⟩ := hw
    obtain rfl := ap.get 0 rfl
    exact h a w ha ⟨m, fr, hN, hO, n1, n2, dj, s1, s2, (fun y hy => ap y (List.mem_cons_of_mem _ hy)), s⟩
structure arr88 where
  e0 : Int
  e1 : Int
def arr88.zero : arr88 := ⟨0, 0⟩
def k_arr88 : Kd arr88 := ⟨2, fun h cs x => cs = [.int .i64 x.e0, .int .i64 x.e1], fun _ _ _ _ _ h => h, fun _ _ _ h => by simp [h], fun _ _ _ h => by subst h; rfl⟩
theorem k_arr88.part_e0 : Part k_arr88 0 (kInt .i64) (fun x => x.e0) := fun h cs x e => ⟨[.int .i64 x.e0], rfl, by subst e; exact seg_get [.int .i64 x.e0, .int .i64 x.e1] 0 1⟩
theorem k_arr88.part_e1 : Part k_arr88 1 (kInt .i64) (fun x => x.e1) := fun h cs x e => ⟨[.int .i64 x.e1], rfl, by subst e; exact seg_get [.int .i64 x.e0, .int .i64 x.e1] 1 1⟩
theorem k_arr88.load {P : Program} {n : Fr} {ρ : Option Nat} {σ : List (Nat × Value)} {w0 : World} {hA hV : Hp} {ps : List HP} {os : List HO} {L l : List Oper} {Q : Cont} {d : Nat} {t tr : TypeId} {x : Operand} {pos : String} {af : Array Edge} {g : Option (Nat × Bool)} {v : Value} (see : Sees w0 hA hV) (i : Nat) {x0 : arr88} (hi : ps[i]? = some (elP k_arr88 v x0)) {dsc : TypeDesc} (hu : P.underlying t = some dsc) (hd : (match dsc with | .struct _ | .array _ _ => true | _ => false) = true) (hs : (P.info? t).map (·.size) = some 2) (hg : gd L σ g = some true) (hn : Nat.blt d n.n = true) (hx : ev σ x = some v)
    (h : SP P n ρ ((d, .agg [.int .i64 x0.e0, .int .i64 x0.e1].toArray) :: σ) (St w0 hA hV (ps) os) L l Q) : SP P n ρ σ (St w0 hA hV ps os) L (⟨some d, .load t x, tr, pos, af, g⟩ :: l) Q :=
  SP.loadP see i hi hu hd hs hg hn hx fun cs a w ha hw => by
    obtain ⟨m, fr, hN, hO, n1, n2, dj, s1, s2, ap, s⟩ := hw
    obtain rfl := ap.get 0 rfl
    exact h a w ha ⟨m, fr, hN, hO, n1, n2, dj, s1, s2, (fun y hy => ap y (List.mem_cons_of_mem _ hy)), s⟩
theorem sz3 : (Tryd.prog.info? 3).map (·.size) = some 1 := by kernel_rfl
theorem sz4 : (Tryd.prog.info? 4).map (·.size) = some 1 := by kernel_rfl
theorem sz5 : (Tryd.prog.info? 5).map (·.size) = some 1 := by kernel_rfl
theorem sz40 : (Tryd.prog.info? 40).map (·.size) = some 3 := by kernel_rfl
theorem sz50 : (Tryd.prog.info? 50).map (·.size) = some 300 := by kernel_rfl
theorem sz52 : (Tryd.prog.info? 52).map (·.size) = some 3 := by kernel_rfl
theorem sz61 : (Tryd.prog.info? 61).map (·.size) = some 4 := by kernel_rfl
theorem sz88 : (Tryd.prog.info? 88).map (·.size) = some 2 := by kernel_rfl
theorem inf3 : (Tryd.prog.info? 3).map (fun i => ((i.zero.map fun z => z.cells.toList), i.size, i.bytes)) = some (some [.int .i64 0], 1, 8) := by kernel_rfl
theorem inf40 : (Tryd.prog.info? 40).map (fun i => ((i.zero.map fun z => z.cells.toList), i.size, i.bytes)) = some (some [.int .i64 0, .int .i64 0, .int .i64 0], 3, 24) := by kernel_rfl
theorem inf50 : (Tryd.prog.info? 50).map (fun i => ((i.zero.map fun z => z.cells.toList), i.size, i.bytes)) = some (some [.int .i64 0, .int .i64 0, .int .i64 0, .int .i64 0, .int .i64 0, .int .i64 0, .int .i64 0, .int .i64 0, .int .i64 0, .int .i64 0, .int .i64 0, .int .i64 0, .int .i64 0, .int .i64 0, .int .i64 0, .int .i64 0, .int .i64 0, .int .i64 0, .int .i64 0, .int .i64 0, .int .i64 0, .int .i64 0, .int .i64 0, .int .i64 0, .int .i64 0, .int .i64 0, .int .i64 0, .int .i64 0, .int .i64 0, .int .i64 0, .int .i64 0, .int .i64 0, .int .i64 0, .int .i64 0, .int .i64 0, .int .i64 0, .int .i64 0, .int .i64 0, .int .i64 0, .int .i64 0, .int .i64 0, .int .i64 0, .int .i64 0, .int .i64 0, .int .i64 0, .int .i64 0, .int .i64 0, .int .i64 0, .int .i64 0, .int .i64 0, .int .i64 0, .int .i64 0, .int .i64 0, .int .i64 0, .int .i64 0, .int .i64 0, .int .i64 0, .int .i64 0, .int .i64 0, .int .i64 0, .int .i64 0, .int .i64 0, .int .i64 0, .int .i64 0, .int .i64 0, .int .i64 0, .int .i64 0, .int .i64 0, .int .i64 0, .int .i64 0, .int .i64 0, .int .i64 0, .int .i64 0, .int .i64 0, .int .i64 0, .int .i64 0, .int .i64 0, .int .i64 0, .int .i64 0, .int .i64 0, .int .i64 0, .int .i64 0, .int .i64 0, .int .i64 0, .int .i64 0, .int .i64 0, .int .i64 0, .int .i64 0, .int .i64 0, .int .i64 0, .int .i64 0, .int .i64 0, .int .i64 0, .int .i64 0, .int .i64 0, .int .i64 0, .int .i64 0, .int .i64 0, .int .i64 0, .int .i64 0, .int .i64 0, .int .i64 0, .int .i64 0, .int .i64 0, .int .i64 0, .int .i64 0, .int .i64 0, .int .i64 0, .int .i64 0, .int .i64 0, .int .i64 0, .int .i64 0, .int .i64 0, .int .i64 0, .int .i64 0, .int .i64 0, .int .i64 0, .int .i64 0, .int .i64 0, .int .i64 0, .int .i64 0, .int .i64 0, .int .i64 0, .int .i64 0, .int .i64 0, .int .i64 0, .int .i64 0, .int .i64 0, .int .i64 0, .int .i64 0, .int .i64 0, .int .i64 0, .int .i64 0, .int .i64 0, .int .i64 0, .int .i64 0, .int .i64 0, .int .i64 0, .int .i64 0, .int .i64 0, .int .i64 0, .int .i64 0, .int .i64 0, .int .i64 0, .int .i64 0, .int .i64 0, .int .i64 0, .int .i64 0, .int .i64 0, .int .i64 0, .int .i64 0, .int .i64 0, .int .i64 0, .int .i64 0, .int .i64 0, .int .i64 0, .int .i64 0, .int .i64 0, .int .i64 0, .int .i64 0, .int .i64 0, .int .i64 0, .int .i64 0, .int .i64 0, .int .i64 0, .int .i64 0, .int .i64 0, .int .i64 0, .int .i64 0, .int .i64 0, .int .i64 0, .int .i64 0, .int .i64 0, .int .i64 0, .int .i64 0, .int .i64 0, .int .i64 0, .int .i64 0, .int .i64 0, .int .i64 0, .int .i64 0, .int .i64 0, .int .i64 0, .int .i64 0, .int .i64 0, .int .i64 0, .int .i64 0, .int .i64 0, .int .i64 0, .int .i64 0, .int .i64 0, .int .i64 0, .int .i64 0, .int .i64 0, .int .i64 0, .int .i64 0, .int .i64 0, .int .i64 0, .int .i64 0, .int .i64 0, .int .i64 0, .int .i64 0, .int .i64 0, .int .i64 0, .int .i64 0, .int .i64 0, .int .i64 0, .int .i64 0, .int .i64 0, .int .i64 0, .int .i64 0, .int .i64 0, .int .i64 0, .int .i64 0, .int .i64 0, .int .i64 0, .int .i64 0, .int .i64 0, .int .i64 0, .int .i64 0, .int .i64 0, .int .i64 0, .int .i64 0, .int .i64 0, .int .i64 0, .int .i64 0, .int .i64 0, .int .i64 0, .int .i64 0, .int .i64 0, .int .i64 0, .int .i64 0, .int .i64 0, .int .i64 0, .int .i64 0, .int .i64 0, .int .i64 0, .int .i64 0, .int .i64 0, .int .i64 0, .int .i64 0, .int .i64 0, .int .i64 0, .int .i64 0, .int .i64 0, .int .i64 0, .int .i64 0, .int .i64 0, .int .i64 0, .int .i64 0, .int .i64 0, .int .i64 0, .int .i64 0, .int .i64 0, .int .i64 0, .int .i64 0, .int .i64 0, .int .i64 0, .int .i64 0, .int .i64 0, .int .i64 0, .int .i64 0, .int .i64 0, .int .i64 0, .int .i64 0, .int .i64 0, .int .i64 0, .int .i64 0, .int .i64 0, .int .i64 0, .int .i64 0, .int .i64 0, .int .i64 0, .int .i64 0, .int .i64 0, .int .i64 0, .int .i64 0, .int .i64 0, .int .i64 0, .int .i64 0, .int .i64 0, .int .i64 0, .int .i64 0, .int .i64 0, .int .i64 0, .int .i64 0, .int .i64 0, .int .i64 0, .int .i64 0, .int .i64 0, .int .i64 0, .int .i64 0, .int .i64 0, .int .i64 0, .int .i64 0, .int .i64 0, .int .i64 0, .int .i64 0, .int .i64 0, .int .i64 0], 300, 2400) := by kernel_rfl
theorem inf52 : (Tryd.prog.info? 52).map (fun i => ((i.zero.map fun z => z.cells.toList), i.size, i.bytes)) = some (some [.int .u8 0, .int .i64 0, .int .i64 0], 3, 24) := by kernel_rfl
theorem inf63 : (Tryd.prog.info? 63).map (fun i => ((i.zero.map fun z => z.cells.toList), i.size, i.bytes)) = some (some [.int .i64 0, .int .i64 0, .int .i64 0, .int .i64 0, .int .i64 0], 5, 40) := by kernel_rfl
theorem inf88 : (Tryd.prog.info? 88).map (fun i => ((i.zero.map fun z => z.cells.toList), i.size, i.bytes)) = some (some [.int .i64 0, .int .i64 0], 2, 16) := by kernel_rfl
theorem bt40 : shapeOf Tryd.prog 40 = some ([.int .i64 0, .int .i64 0, .int .i64 0], [(0, 1), (1, 1), (2, 1)]) := by kernel_rfl
theorem bt52 : shapeOf Tryd.prog 52 = some ([.int .u8 0, .int .i64 0, .int .i64 0], [(0, 1), (1, 1), (2, 1)]) := by kernel_rfl
theorem fn40 : ((Tryd.prog.funcs[40]?).map fun fn => fn.body.isSome && !(fn.name == "runtime.NumGoroutine")) = some true := by rw [Tryd.func40]; rfl
theorem fn53 : ((Tryd.prog.funcs[53]?).map fun fn => fn.body.isSome && !(fn.name == "runtime.NumGoroutine")) = some true := by rw [Tryd.func53]; rfl
theorem fn54 : ((Tryd.prog.funcs[54]?).map fun fn => fn.body.isSome && !(fn.name == "runtime.NumGoroutine")) = some true := by rw [Tryd.func54]; rfl
theorem fn45 : ((Tryd.prog.funcs[45]?).map fun fn => fn.body.isSome && !(fn.name == "runtime.NumGoroutine")) = some true := by rw [Tryd.func45]; rfl
theorem fn27 : ((Tryd.prog.funcs[27]?).map fun fn => fn.body.isSome && !(fn.name == "runtime.NumGoroutine")) = some true := by rw [Tryd.func27]; rfl
theorem fn26 : ((Tryd.prog.funcs[26]?).map fun fn => fn.body.isSome && !(fn.name == "runtime.NumGoroutine")) = some true := by rw [Tryd.func26]; rfl
theorem fn44 : ((Tryd.prog.funcs[44]?).map fun fn => fn.body.isSome && !(fn.name == "runtime.NumGoroutine")) = some true := by rw [Tryd.func44]; rfl
theorem fn25 : ((Tryd.prog.funcs[25]?).map fun fn => fn.body.isSome && !(fn.name == "runtime.NumGoroutine")) = some true := by rw [Tryd.func25]; rfl
theorem fn28 : ((Tryd.prog.funcs[28]?).map fun fn => fn.body.isSome && !(fn.name == "runtime.NumGoroutine")) = some true := by rw [Tryd.func28]; rfl
theorem fn29 : ((Tryd.prog.funcs[29]?).map fun fn => fn.body.isSome && !(fn.name == "runtime.NumGoroutine")) = some true := by rw [Tryd.func29]; rfl
theorem fn30 : ((Tryd.prog.funcs[30]?).map fun fn => fn.body.isSome && !(fn.name == "runtime.NumGoroutine")) = some true := by rw [Tryd.func30]; rfl
theorem fn47 : ((Tryd.prog.funcs[47]?).map fun fn => fn.body.isSome && !(fn.name == "runtime.NumGoroutine")) = some true := by rw [Tryd.func47]; rfl
theorem fn46 : ((Tryd.prog.funcs[46]?).map fun fn => fn.body.isSome && !(fn.name == "runtime.NumGoroutine")) = some true := by rw [Tryd.func46]; rfl
theorem fn57 : ((Tryd.prog.funcs[57]?).map fun fn => fn.body.isSome && !(fn.name == "runtime.NumGoroutine")) = some true := by rw [Tryd.func57]; rfl
theorem fn48 : ((Tryd.prog.funcs[48]?).map fun fn => fn.body.isSome && !(fn.name == "runtime.NumGoroutine")) = some true := by rw [Tryd.func48]; rfl
theorem fn31 : ((Tryd.prog.funcs[31]?).map fun fn => fn.body.isSome && !(fn.name == "runtime.NumGoroutine")) = some true := by rw [Tryd.func31]; rfl
theorem fn32 : ((Tryd.prog.funcs[32]?).map fun fn => fn.body.isSome && !(fn.name == "runtime.NumGoroutine")) = some true := by rw [Tryd.func32]; rfl
theorem fn11 : ((Tryd.prog.funcs[11]?).map fun fn => fn.body.isSome && !(fn.name == "runtime.NumGoroutine")) = some true := by rw [Tryd.func11]; rfl
theorem fn52 : ((Tryd.prog.funcs[52]?).map fun fn => fn.body.isSome && !(fn.name == "runtime.NumGoroutine")) = some true := by rw [Tryd.func52]; rfl
theorem fn35 : ((Tryd.prog.funcs[35]?).map fun fn => fn.body.isSome && !(fn.name == "runtime.NumGoroutine")) = some true := by rw [Tryd.func35]; rfl
theorem fn12 : ((Tryd.prog.funcs[12]?).map fun fn => fn.body.isSome && !(fn.name == "runtime.NumGoroutine")) = some true := by rw [Tryd.func12]; rfl
theorem fn13 : ((Tryd.prog.funcs[13]?).map fun fn => fn.body.isSome && !(fn.name == "runtime.NumGoroutine")) = some true := by rw [Tryd.func13]; rfl
theorem fn36 : ((Tryd.prog.funcs[36]?).map fun fn => fn.body.isSome && !(fn.name == "runtime.NumGoroutine")) = some true := by rw [Tryd.func36]; rfl
theorem fn37 : ((Tryd.prog.funcs[37]?).map fun fn => fn.body.isSome && !(fn.name == "runtime.NumGoroutine")) = some true := by rw [Tryd.func37]; rfl
theorem fn38 : ((Tryd.prog.funcs[38]?).map fun fn => fn.body.isSome && !(fn.name == "runtime.NumGoroutine")) = some true := by rw [Tryd.func38]; rfl
theorem fn39 : ((Tryd.prog.funcs[39]?).map fun fn => fn.body.isSome && !(fn.name == "runtime.NumGoroutine")) = some true := by rw [Tryd.func39]; rfl
theorem fn17 : ((Tryd.prog.funcs[17]?).map fun fn => fn.body.isSome && !(fn.name == "runtime.NumGoroutine")) = some true := by rw [Tryd.func17]; rfl
theorem fn18 : ((Tryd.prog.funcs[18]?).map fun fn => fn.body.isSome && !(fn.name == "runtime.NumGoroutine")) = some true := by rw [Tryd.func18]; rfl
theorem fn19 : ((Tryd.prog.funcs[19]?).map fun fn => fn.body.isSome && !(fn.name == "runtime.NumGoroutine")) = some true := by rw [Tryd.func19]; rfl
theorem fn20 : ((Tryd.prog.funcs[20]?).map fun fn => fn.body.isSome && !(fn.name == "runtime.NumGoroutine")) = some true := by rw [Tryd.func20]; rfl
theorem fn5 : ((Tryd.prog.funcs[5]?).map fun fn => fn.body.isSome && !(fn.name == "runtime.NumGoroutine")) = some true := by rw [Tryd.func5]; rfl
def tab0 : List arr88 := [(⟨0, 0⟩ : arr88), (⟨0, 31⟩ : arr88), (⟨0, 15⟩ : arr88), (⟨0, 3⟩ : arr88), (⟨0, 1024⟩ : arr88), (⟨0, 199⟩ : arr88), (⟨0, 15⟩ : arr88), (⟨0, 255⟩ : arr88), (⟨1, 100⟩ : arr88)]
/-! ### capstan/capstanlaw09.row: function 40 -/
inductive capstanlaw09_row.S where
  | start
  | l1 (l22 : List api_Instr) (x24 : Int)

def capstanlaw09_row.F (l_0 : (List Int)) : capstanlaw09_row.S → Option (capstanlaw09_row.S ⊕ (List api_Instr))
  | .start => some (.inl (.l1 [] 0))
  | .l1 l22 x24 => if (IntKind.i64.wrap (x24 + 1)) < (l_0.length : Int) then ((elt l_0 x24).bind fun x28 => (elt l_0 (IntKind.i64.wrap (x24 + 1))).bind fun x32 => if (l22.length + [(⟨IntKind.u8.wrap x28, x32, 0⟩ : api_Instr)].length) * 24 ≤ 140737488355328 then (some (.inl (.l1 (l22 ++ [(⟨IntKind.u8.wrap x28, x32, 0⟩ : api_Instr)]) (IntKind.i64.wrap (x24 + 2))))) else none) else (some (.inr l22))

def capstanlaw09_row.f (l_0 : (List Int)) : Option (List api_Instr) := runF (capstanlaw09_row.F l_0) .start
theorem capstanlaw09_row.ok (l_0 : (List Int)) (v_l_0 : Value) (r : (List api_Instr)) (H : capstanlaw09_row.f l_0 = some r) (w : World) (hV : Hp) (sV : Sub hV (hp w)) (h0 : slR (kInt .i64) hV v_l_0 l_0) :
    Trip Tryd.prog 40 [v_l_0].toArray em hV w (fun v => HO.ex fun u0 : Value => HO.pand (v = u0) (HO.seps [slO k_api_Instr 52 u0 r])) := by
  have see : Sees w em hV := ⟨sV, Dj.em_right _⟩
  refine Trip.of (P := Tryd.prog) (n := ⟨27, []⟩) Tryd.func40 rfl ⟨rfl, rfl⟩ rfl (St.begin (All.cons (x := slP (kInt .i64) v_l_0 l_0) h0 (All.nil _))) ?_
  obtain ⟨n0, hi⟩ := runF_iff.1 H
  obtain ⟨m0, o, hm0, ho, hr⟩ := iter_some hi
  clear hi
  refine CP.seq ?_
  refine CP.region ?_
  refine SP.val (Val.assign rfl) rfl rfl rfl ?_
  refine SP.nil ?_
  refine QE.then ?_
  refine CP.seq ?_
  refine CP.region ?_
  refine SP.val (Val.assign rfl) rfl rfl rfl ?_
  refine SP.nil ?_
  refine QE.then ?_
  refine CP.seq ?_
  refine CP.seq ?_
  refine CP.region ?_
  refine SP.val (Val.assign rfl) rfl rfl rfl ?_
  refine SP.nil ?_
  refine QE.then ?_
  refine CP.block ?_
  obtain rfl := Option.some.inj ho
  refine CP.loop (fun cl1 a w2 => ∃ l22 : List api_Instr, ∃ x24 : Int, ∃ v23 : Value, cl1 ≤ m0 ∧ iter (capstanlaw09_row.F l_0) cl1 (.l1 l22 x24) = some r ∧ Env ⟨27, []⟩ [(0, v_l_0), (3, v23), (4, .int .i64 x24)] a ∧ St w em hV [slP (kInt .i64) v_l_0 l_0] [slO k_api_Instr 52 v23 l22] w2) m0 (fun a w2 ha hw => ⟨[], 0, (.slice none 0 0), Nat.le_refl _, hr, ha.sub ⟨rfl, rfl, rfl, trivial⟩, (St.addO (slO.nil k_api_Instr 52) hw)⟩) ?_
  clear hr
  rintro cl1 a w2 ⟨l22, x24, v23, hc_l1, hi, ha, hw⟩
  obtain ⟨m25, o, hm_m25, ho, hr⟩ := iter_some hi
  refine CP.app ha hw ?_
  clear ha hw a w2 hi
  refine CP.seq ?_
  refine CP.seq ?_
  refine CP.region ?_
  refine SP.val (Val.move rfl) rfl rfl rfl ?_
  refine SP.val (Val.add rfl rfl) rfl rfl rfl ?_
  refine SP.val (Val.move rfl) rfl rfl rfl ?_
  refine SP.val (Val.lenP see 0 rfl Tryd.underlying27 rfl) rfl rfl rfl ?_
  refine SP.val (Val.lss rfl rfl) rfl rfl rfl ?_
  refine SP.nil ?_
  refine QE.then ?_
  rcases if_some ho with ⟨hc, ho⟩ | ⟨hc, ho⟩
  · refine CP.condT rfl (decide_eq_true hc) ?_
    refine CP.skip ?_
    refine QE.then ?_
    refine CP.seq ?_
    refine CP.block ?_
    refine CP.drawA (by kernel_rfl) (fun w2 k h => h.drawn k) ?_
    obtain ⟨x28, hx, ho⟩ := bind_some ho
    have hx := elt_some hx
    refine DA.ghost (fun w2 h => h.elem see 0 rfl hx.1 hx.2) (fun p26 h_p26 => ?_)
    clear hx
    refine DA.ghost (fun w2 h => h.openE see 0 rfl (fun _ : Unit => [.int .i64 x28]) (fun _ => []) (fun h cs e => ⟨(), e, All.nil _⟩)) (fun _ _ => ?_)
    obtain ⟨x32, hx, ho⟩ := bind_some ho
    have hx := elt_some hx
    refine DA.ghost (fun w2 h => h.elem see 2 rfl hx.1 hx.2) (fun p30 h_p30 => ?_)
    clear hx
    refine DA.ghost (fun w2 h => h.openE see 0 rfl (fun _ : Unit => [.int .i64 x32]) (fun _ => []) (fun h cs e => ⟨(), e, All.nil _⟩)) (fun _ _ => ?_)
    refine DA.phase (fun i => Nat.ble 0 i && Nat.blt i 13) (fun w2 => St w em hV [atP p30 [.int .i64 x32], elP (kInt .i64) p30 x32, atP p26 [.int .i64 x28], elP (kInt .i64) p26 x28, slP (kInt .i64) v_l_0 l_0] [slO k_api_Instr 52 v23 l22] w2) ?_
    refine DT.take 0 rfl rfl rfl rfl (by kernel_rfl) (fun _ _ _ h => h) (Val.move rfl) (fun w2 hw => hw) ?_
    refine DT.take 1 rfl rfl rfl rfl (by kernel_rfl) (fun _ _ _ h => h) (Val.move rfl) (fun w2 hw => hw) ?_
    refine DT.take 2 rfl rfl rfl rfl (by kernel_rfl) (fun _ _ _ h => h) (Val.move rfl) (fun w2 hw => hw) ?_
    refine DT.take 3 rfl rfl rfl rfl (by kernel_rfl) (fun _ _ _ h => h) (Val.indexE h_p26 Tryd.underlying27 sz3 rfl rfl) (fun w2 hw => hw) ?_
    refine DT.take 4 rfl rfl rfl rfl (by kernel_rfl) (fun _ _ _ h => h) (Val.loadAt1 see 2 rfl Tryd.underlying3 rfl rfl) (fun w2 hw => hw) ?_
    refine DT.take 5 rfl rfl rfl rfl (by kernel_rfl) (fun _ _ _ h => h) (Val.conv (by rw [Tryd.underlying3]; rfl) Tryd.underlying5 rfl) (fun w2 hw => hw) ?_
    refine DT.take 6 rfl rfl rfl rfl (by kernel_rfl) (fun _ _ _ h => h) (Val.move rfl) (fun w2 hw => hw) ?_
    refine DT.take 7 rfl rfl rfl rfl (by kernel_rfl) (fun _ _ _ h => h) (Val.move rfl) (fun w2 hw => hw) ?_
    refine DT.take 8 rfl rfl rfl rfl (by kernel_rfl) (fun _ _ _ h => h) (Val.add rfl rfl) (fun w2 hw => hw) ?_
    refine DT.take 9 rfl rfl rfl rfl (by kernel_rfl) (fun _ _ _ h => h) (Val.indexE h_p30 Tryd.underlying27 sz3 rfl rfl) (fun w2 hw => hw) ?_
    refine DT.take 10 rfl rfl rfl rfl (by kernel_rfl) (fun _ _ _ h => h) (Val.loadAt1 see 0 rfl Tryd.underlying3 rfl rfl) (fun w2 hw => hw) ?_
    refine DT.take 11 rfl rfl rfl rfl (by kernel_rfl) (fun _ _ _ h => h) (Val.buildC (us := [(0, .int .u8 (IntKind.u8.wrap x28)), (1, .int .i64 x32)]) (ucs := [(0, [.int .u8 (IntKind.u8.wrap x28)]), (1, [.int .i64 x32])]) (cs := [.int .u8 (IntKind.u8.wrap x28), .int .i64 x32, .int .i64 0]) bt52 rfl rfl ⟨rfl, rfl, ⟨rfl, rfl, trivial⟩⟩ (by rfl)) (fun w2 hw => hw) ?_
    refine DT.one 12 rfl (by kernel_rfl) rfl ?_
    refine SP.lit (k := k_api_Instr) (xs := [(⟨IntKind.u8.wrap x28, x32, 0⟩ : api_Instr)]) (vs := [.agg #[.int .u8 (IntKind.u8.wrap x28), .int .i64 x32, .int .i64 0]]) (cells := [.int .u8 (IntKind.u8.wrap x28), .int .i64 x32, .int .i64 0]) Tryd.underlying22 inf52 rfl rfl rfl rfl rfl rfl rfl rfl (fun _ ap => ⟨[.int .u8 (IntKind.u8.wrap x28), .int .i64 x32, .int .i64 0], _, rfl, rfl, rfl⟩) rfl rfl rfl (fun v38 => ?_)
    refine SP.nil ?_
    refine QE.atT (fun w2 hw => (St.selO [1] rfl rfl hw)) ?_
    refine DT.next (by kernel_rfl) ?_
    refine DA.one 13 rfl (by kernel_rfl) ?_
    refine SP.freezeS see 0 rfl ?_
    obtain ⟨hb, ho⟩ := must_some ho
    refine SP.append see 0 rfl 0 rfl Tryd.underlying22 inf52 rfl rfl hb rfl rfl rfl rfl rfl (fun v40 => ?_)
    clear hb
    refine SP.nil ?_
    refine QE.atA ?_
    refine DA.one 14 rfl (by kernel_rfl) ?_
    refine SP.val (Val.assign rfl) rfl rfl rfl ?_
    refine SP.nil ?_
    refine QE.atA ?_
    refine DA.done (by kernel_rfl) ?_
    refine QE.blockN ?_
    refine QE.then ?_
    refine CP.region ?_
    refine SP.val (Val.move rfl) rfl rfl rfl ?_
    refine SP.val (Val.add rfl rfl) rfl rfl rfl ?_
    refine SP.val (Val.assign rfl) rfl rfl rfl ?_
    refine SP.nil ?_
    obtain rfl := Option.some.inj ho
    exact QE.lower m25 (by omega) fun a w2 ha hw => ⟨(l22 ++ [(⟨IntKind.u8.wrap x28, x32, 0⟩ : api_Instr)]), (IntKind.i64.wrap (x24 + 2)), v40, (by omega), hr, ha.sub ⟨rfl, rfl, rfl, trivial⟩, (St.selP [5] rfl hw)⟩
  · refine CP.condF rfl (decide_eq_false hc) ?_
    refine CP.exit ?_
    refine QE.thru (by intro e; cases e) ?_
    refine QE.thru (by intro e; cases e) ?_
    refine QE.blockE ?_
    refine QE.then ?_
    refine CP.seq ?_
    refine CP.region ?_
    refine SP.val (Val.move rfl) rfl rfl rfl ?_
    refine SP.val (Val.assign rfl) rfl rfl rfl ?_
    refine SP.nil ?_
    refine QE.then ?_
    refine CP.ret ?_
    obtain rfl := Option.some.inj ho
    obtain rfl := Option.some.inj hr
    exact QE.rets (rs := [.tmp 2]) (vs := [v23]) Tryd.results40 rfl ⟨RVs.tmp rfl, trivial⟩ (fun w2 h => St.done (fun a b p s => ⟨_, rfl, s⟩) (St.selO [0] rfl rfl h))
/-! ### capstan/op.Known: function 53 -/
def op_Known.f (op_0 : Int) : Option Bool :=
  some (decide ((IntKind.i64.wrap op_0) < 33))
theorem op_Known.ok (op_0 : Int)  (r : Bool) (H : op_Known.f op_0 = some r) (w : World) (hV : Hp) (sV : Sub hV (hp w))  :
    Trip Tryd.prog 53 [.int .u8 op_0].toArray em hV w (fun v => HO.pure (v = .bool r)) := by
  have see : Sees w em hV := ⟨sV, Dj.em_right _⟩
  refine Trip.of (P := Tryd.prog) (n := ⟨6, []⟩) Tryd.func53 rfl ⟨rfl, rfl⟩ rfl (St.begin (All.nil _)) ?_
  have ho := H
  refine CP.seq ?_
  refine CP.region ?_
  refine SP.val (Val.assign rfl) rfl rfl rfl ?_
  refine SP.nil ?_
  refine QE.then ?_
  refine CP.seq ?_
  refine CP.region ?_
  refine SP.val (Val.move rfl) rfl rfl rfl ?_
  refine SP.val (Val.conv (by rw [Tryd.underlying5]; rfl) Tryd.underlying3 rfl) rfl rfl rfl ?_
  refine SP.val (Val.lss rfl rfl) rfl rfl rfl ?_
  refine SP.val (Val.assign rfl) rfl rfl rfl ?_
  refine SP.nil ?_
  refine QE.then ?_
  refine CP.ret ?_
  obtain rfl := Option.some.inj ho
  exact QE.rets (rs := [.tmp 2]) (vs := [.bool (decide ((IntKind.i64.wrap op_0) < 33))]) Tryd.results53 rfl ⟨RVs.tmp rfl, trivial⟩ (fun w2 h => St.done (fun a b p s => rfl) h)
/-! ### capstan/op.sign: function 54 -/
def op_sign.j3 (op_0 : Int) (b3 : Bool) : Option Int :=
  if b3 = true then (some 5) else (if op_0 = 30 then (some 6) else (if op_0 = 32 then (some 7) else (if op_0 = 28 then (some 8) else (some 0))))

def op_sign.j2 (op_0 : Int) (b2 : Bool) : Option Int :=
  if b2 = true then (some 3) else (if op_0 = 22 then (some 4) else (if op_0 = 26 then (op_sign.j3 op_0 (decide (op_0 = 26))) else (if op_0 = 27 then (op_sign.j3 op_0 (decide (op_0 = 27))) else (op_sign.j3 op_0 (decide (op_0 = 29))))))

def op_sign.j1 (op_0 : Int) (b1 : Bool) : Option Int :=
  if b1 = true then (some 2) else (if op_0 = 4 then (op_sign.j2 op_0 (decide (op_0 = 4))) else (op_sign.j2 op_0 (decide (op_0 = 5))))

def op_sign.f (op_0 : Int) : Option Int :=
  if op_0 = 1 then (some 1) else (if op_0 = 2 then (op_sign.j1 op_0 (decide (op_0 = 2))) else (op_sign.j1 op_0 (decide (op_0 = 3))))
theorem op_sign.ok (op_0 : Int)  (r : Int) (H : op_sign.f op_0 = some r) (w : World) (hV : Hp) (sV : Sub hV (hp w))  :
    Trip Tryd.prog 54 [.int .u8 op_0].toArray em hV w (fun v => HO.pure (v = .int .i64 r)) := by
  have see : Sees w em hV := ⟨sV, Dj.em_right _⟩
  refine Trip.of (P := Tryd.prog) (n := ⟨24, []⟩) Tryd.func54 rfl ⟨rfl, rfl⟩ rfl (St.begin (All.nil _)) ?_
  have ho := H
  refine CP.seq ?_
  refine CP.region ?_
  refine SP.val (Val.assign rfl) rfl rfl rfl ?_
  refine SP.nil ?_
  refine QE.then ?_
  refine CP.seq ?_
  refine CP.seq ?_
  refine CP.region ?_
  refine SP.val (Val.move rfl) rfl rfl rfl ?_
  refine SP.nil ?_
  refine QE.then ?_
  refine CP.block ?_
  refine CP.seq ?_
  refine CP.region ?_
  refine SP.val (Val.eql rfl rfl) rfl rfl rfl ?_
  refine SP.val (Val.assign rfl) rfl rfl rfl ?_
  refine SP.nil ?_
  refine QE.then ?_
  rcases if_some ho with ⟨hc, ho⟩ | ⟨hc, ho⟩
  · refine CP.condT rfl (decide_eq_true hc) ?_
    refine CP.seq ?_
    refine CP.region ?_
    refine SP.val (Val.assign rfl) rfl rfl rfl ?_
    refine SP.nil ?_
    refine QE.then ?_
    refine CP.ret ?_
    refine QE.blockR ?_
    refine QE.thru (by intro e; cases e) ?_
    obtain rfl := Option.some.inj ho
    exact QE.rets (rs := [.tmp 2]) (vs := [.int .i64 1]) Tryd.results54 rfl ⟨RVs.tmp rfl, trivial⟩ (fun w2 h => St.done (fun a b p s => rfl) h)
  · refine CP.condF rfl (decide_eq_false hc) ?_
    refine CP.join (fun a w2 => ∃ b1 : Bool, op_sign.j1 op_0 b1 = some r ∧ Env ⟨24, []⟩ [(3, .int .u8 op_0), (6, .bool b1)] a ∧ St w em hV [] [] w2) ?_ ?_
    · rintro a w2 ⟨b1, ho, ha, hw⟩
      refine CP.app ha hw ?_
      clear ha hw a w2
      rcases if_some ho with ⟨hc, ho⟩ | ⟨hc, ho⟩
      · refine CP.condT rfl hc ?_
        refine CP.seq ?_
        refine CP.region ?_
        refine SP.val (Val.assign rfl) rfl rfl rfl ?_
        refine SP.nil ?_
        refine QE.then ?_
        refine CP.ret ?_
        refine QE.blockR ?_
        refine QE.thru (by intro e; cases e) ?_
        obtain rfl := Option.some.inj ho
        exact QE.rets (rs := [.tmp 2]) (vs := [.int .i64 2]) Tryd.results54 rfl ⟨RVs.tmp rfl, trivial⟩ (fun w2 h => St.done (fun a b p s => rfl) h)
      · refine CP.condF rfl (bf hc) ?_
        refine CP.join (fun a w2 => ∃ b2 : Bool, op_sign.j2 op_0 b2 = some r ∧ Env ⟨24, []⟩ [(3, .int .u8 op_0), (9, .bool b2)] a ∧ St w em hV [] [] w2) ?_ ?_
        · rintro a w2 ⟨b2, ho, ha, hw⟩
          refine CP.app ha hw ?_
          clear ha hw a w2
          rcases if_some ho with ⟨hc, ho⟩ | ⟨hc, ho⟩
          · refine CP.condT rfl hc ?_
            refine CP.seq ?_
            refine CP.region ?_
            refine SP.val (Val.assign rfl) rfl rfl rfl ?_
            refine SP.nil ?_
            refine QE.then ?_
            refine CP.ret ?_
            refine QE.blockR ?_
            refine QE.thru (by intro e; cases e) ?_
            obtain rfl := Option.some.inj ho
            exact QE.rets (rs := [.tmp 2]) (vs := [.int .i64 3]) Tryd.results54 rfl ⟨RVs.tmp rfl, trivial⟩ (fun w2 h => St.done (fun a b p s => rfl) h)
          · refine CP.condF rfl (bf hc) ?_
            refine CP.seq ?_
            refine CP.region ?_
            refine SP.val (Val.eql rfl rfl) rfl rfl rfl ?_
            refine SP.val (Val.assign rfl) rfl rfl rfl ?_
            refine SP.nil ?_
            refine QE.then ?_
            rcases if_some ho with ⟨hc, ho⟩ | ⟨hc, ho⟩
            · refine CP.condT rfl (decide_eq_true hc) ?_
              refine CP.seq ?_
              refine CP.region ?_
              refine SP.val (Val.assign rfl) rfl rfl rfl ?_
              refine SP.nil ?_
              refine QE.then ?_
              refine CP.ret ?_
              refine QE.blockR ?_
              refine QE.thru (by intro e; cases e) ?_
              obtain rfl := Option.some.inj ho
              exact QE.rets (rs := [.tmp 2]) (vs := [.int .i64 4]) Tryd.results54 rfl ⟨RVs.tmp rfl, trivial⟩ (fun w2 h => St.done (fun a b p s => rfl) h)
            · refine CP.condF rfl (decide_eq_false hc) ?_
              refine CP.join (fun a w2 => ∃ b3 : Bool, op_sign.j3 op_0 b3 = some r ∧ Env ⟨24, []⟩ [(3, .int .u8 op_0), (14, .bool b3)] a ∧ St w em hV [] [] w2) ?_ ?_
              · rintro a w2 ⟨b3, ho, ha, hw⟩
                refine CP.app ha hw ?_
                clear ha hw a w2
                rcases if_some ho with ⟨hc, ho⟩ | ⟨hc, ho⟩
                · refine CP.condT rfl hc ?_
                  refine CP.seq ?_
                  refine CP.region ?_
                  refine SP.val (Val.assign rfl) rfl rfl rfl ?_
                  refine SP.nil ?_
                  refine QE.then ?_
                  refine CP.ret ?_
                  refine QE.blockR ?_
                  refine QE.thru (by intro e; cases e) ?_
                  obtain rfl := Option.some.inj ho
                  exact QE.rets (rs := [.tmp 2]) (vs := [.int .i64 5]) Tryd.results54 rfl ⟨RVs.tmp rfl, trivial⟩ (fun w2 h => St.done (fun a b p s => rfl) h)
                · refine CP.condF rfl (bf hc) ?_
                  refine CP.seq ?_
                  refine CP.region ?_
                  refine SP.val (Val.eql rfl rfl) rfl rfl rfl ?_
                  refine SP.val (Val.assign rfl) rfl rfl rfl ?_
                  refine SP.nil ?_
                  refine QE.then ?_
                  rcases if_some ho with ⟨hc, ho⟩ | ⟨hc, ho⟩
                  · refine CP.condT rfl (decide_eq_true hc) ?_
                    refine CP.seq ?_
                    refine CP.region ?_
                    refine SP.val (Val.assign rfl) rfl rfl rfl ?_
                    refine SP.nil ?_
                    refine QE.then ?_
                    refine CP.ret ?_
                    refine QE.blockR ?_
                    refine QE.thru (by intro e; cases e) ?_
                    obtain rfl := Option.some.inj ho
                    exact QE.rets (rs := [.tmp 2]) (vs := [.int .i64 6]) Tryd.results54 rfl ⟨RVs.tmp rfl, trivial⟩ (fun w2 h => St.done (fun a b p s => rfl) h)
                  · refine CP.condF rfl (decide_eq_false hc) ?_
                    refine CP.seq ?_
                    refine CP.region ?_
                    refine SP.val (Val.eql rfl rfl) rfl rfl rfl ?_
                    refine SP.val (Val.assign rfl) rfl rfl rfl ?_
                    refine SP.nil ?_
                    refine QE.then ?_
                    rcases if_some ho with ⟨hc, ho⟩ | ⟨hc, ho⟩
                    · refine CP.condT rfl (decide_eq_true hc) ?_
                      refine CP.seq ?_
                      refine CP.region ?_
                      refine SP.val (Val.assign rfl) rfl rfl rfl ?_
                      refine SP.nil ?_
                      refine QE.then ?_
                      refine CP.ret ?_
                      refine QE.blockR ?_
                      refine QE.thru (by intro e; cases e) ?_
                      obtain rfl := Option.some.inj ho
                      exact QE.rets (rs := [.tmp 2]) (vs := [.int .i64 7]) Tryd.results54 rfl ⟨RVs.tmp rfl, trivial⟩ (fun w2 h => St.done (fun a b p s => rfl) h)
                    · refine CP.condF rfl (decide_eq_false hc) ?_
                      refine CP.seq ?_
                      refine CP.region ?_
                      refine SP.val (Val.eql rfl rfl) rfl rfl rfl ?_
                      refine SP.val (Val.assign rfl) rfl rfl rfl ?_
                      refine SP.nil ?_
                      refine QE.then ?_
                      rcases if_some ho with ⟨hc, ho⟩ | ⟨hc, ho⟩
                      · refine CP.condT rfl (decide_eq_true hc) ?_
                        refine CP.seq ?_
                        refine CP.region ?_
                        refine SP.val (Val.assign rfl) rfl rfl rfl ?_
                        refine SP.nil ?_
                        refine QE.then ?_
                        refine CP.ret ?_
                        refine QE.blockR ?_
                        refine QE.thru (by intro e; cases e) ?_
                        obtain rfl := Option.some.inj ho
                        exact QE.rets (rs := [.tmp 2]) (vs := [.int .i64 8]) Tryd.results54 rfl ⟨RVs.tmp rfl, trivial⟩ (fun w2 h => St.done (fun a b p s => rfl) h)
                      · refine CP.condF rfl (decide_eq_false hc) ?_
                        refine CP.skip ?_
                        refine QE.blockN ?_
                        refine QE.then ?_
                        refine CP.seq ?_
                        refine CP.region ?_
                        refine SP.val (Val.assign rfl) rfl rfl rfl ?_
                        refine SP.nil ?_
                        refine QE.then ?_
                        refine CP.ret ?_
                        obtain rfl := Option.some.inj ho
                        exact QE.rets (rs := [.tmp 2]) (vs := [.int .i64 0]) Tryd.results54 rfl ⟨RVs.tmp rfl, trivial⟩ (fun w2 h => St.done (fun a b p s => rfl) h)
              · refine CP.seq ?_
                refine CP.region ?_
                refine SP.val (Val.eql rfl rfl) rfl rfl rfl ?_
                refine SP.val (Val.assign rfl) rfl rfl rfl ?_
                refine SP.nil ?_
                refine QE.then ?_
                rcases if_some ho with ⟨hc, ho⟩ | ⟨hc, ho⟩
                · refine CP.condT rfl (decide_eq_true hc) ?_
                  refine CP.skip ?_
                  exact QE.meet fun a w2 ha hw => ⟨(decide (op_0 = 26)), ho, ha.sub ⟨rfl, rfl, trivial⟩, hw⟩
                · refine CP.condF rfl (decide_eq_false hc) ?_
                  refine CP.seq ?_
                  refine CP.region ?_
                  refine SP.val (Val.eql rfl rfl) rfl rfl rfl ?_
                  refine SP.val (Val.assign rfl) rfl rfl rfl ?_
                  refine SP.nil ?_
                  refine QE.then ?_
                  rcases if_some ho with ⟨hc, ho⟩ | ⟨hc, ho⟩
                  · refine CP.condT rfl (decide_eq_true hc) ?_
                    refine CP.skip ?_
                    exact QE.meet fun a w2 ha hw => ⟨(decide (op_0 = 27)), ho, ha.sub ⟨rfl, rfl, trivial⟩, hw⟩
                  · refine CP.condF rfl (decide_eq_false hc) ?_
                    refine CP.region ?_
                    refine SP.val (Val.eql rfl rfl) rfl rfl rfl ?_
                    refine SP.val (Val.assign rfl) rfl rfl rfl ?_
                    refine SP.nil ?_
                    exact QE.meet fun a w2 ha hw => ⟨(decide (op_0 = 29)), ho, ha.sub ⟨rfl, rfl, trivial⟩, hw⟩
        · refine CP.seq ?_
          refine CP.region ?_
          refine SP.val (Val.eql rfl rfl) rfl rfl rfl ?_
          refine SP.val (Val.assign rfl) rfl rfl rfl ?_
          refine SP.nil ?_
          refine QE.then ?_
          rcases if_some ho with ⟨hc, ho⟩ | ⟨hc, ho⟩
          · refine CP.condT rfl (decide_eq_true hc) ?_
            refine CP.skip ?_
            exact QE.meet fun a w2 ha hw => ⟨(decide (op_0 = 4)), ho, ha.sub ⟨rfl, rfl, trivial⟩, hw⟩
          · refine CP.condF rfl (decide_eq_false hc) ?_
            refine CP.region ?_
            refine SP.val (Val.eql rfl rfl) rfl rfl rfl ?_
            refine SP.val (Val.assign rfl) rfl rfl rfl ?_
            refine SP.nil ?_
            exact QE.meet fun a w2 ha hw => ⟨(decide (op_0 = 5)), ho, ha.sub ⟨rfl, rfl, trivial⟩, hw⟩
    · refine CP.seq ?_
      refine CP.region ?_
      refine SP.val (Val.eql rfl rfl) rfl rfl rfl ?_
      refine SP.val (Val.assign rfl) rfl rfl rfl ?_
      refine SP.nil ?_
      refine QE.then ?_
      rcases if_some ho with ⟨hc, ho⟩ | ⟨hc, ho⟩
      · refine CP.condT rfl (decide_eq_true hc) ?_
        refine CP.skip ?_
        exact QE.meet fun a w2 ha hw => ⟨(decide (op_0 = 2)), ho, ha.sub ⟨rfl, rfl, trivial⟩, hw⟩
      · refine CP.condF rfl (decide_eq_false hc) ?_
        refine CP.region ?_
        refine SP.val (Val.eql rfl rfl) rfl rfl rfl ?_
        refine SP.val (Val.assign rfl) rfl rfl rfl ?_
        refine SP.nil ?_
        exact QE.meet fun a w2 ha hw => ⟨(decide (op_0 = 3)), ho, ha.sub ⟨rfl, rfl, trivial⟩, hw⟩
/-! ### capstan/op.Bounds: function 45 -/
def op_Bounds.f (op_0 : Int) : Option (Int × Int) :=
  (op_Known.f op_0).bind fun t1 => if (!t1) = true then (some (0, (-1))) else ((op_sign.f op_0).bind fun t2 => (elt tab0 t2).bind fun x5 => some (x5.e0, x5.e1))
theorem op_Bounds.ok (op_0 : Int)  (r : Int × Int) (H : op_Bounds.f op_0 = some r) (w : World) (hV : Hp) (sV : Sub hV (hp w)) (h0 : (arrP k_arr88 0 tab0).p hV) :
    Trip Tryd.prog 45 [.int .u8 op_0].toArray em hV w (fun v => HO.pure (v = .tuple #[.int .i64 r.1, .int .i64 r.2])) := by
  have see : Sees w em hV := ⟨sV, Dj.em_right _⟩
  refine Trip.of (P := Tryd.prog) (n := ⟨16, []⟩) Tryd.func45 rfl ⟨rfl, rfl⟩ rfl (St.begin (All.cons (x := arrP k_arr88 0 tab0) h0 (All.nil _))) ?_
  have ho := H
  refine CP.seq ?_
  refine CP.region ?_
  refine SP.val (Val.assign rfl) rfl rfl rfl ?_
  refine SP.val (Val.assign rfl) rfl rfl rfl ?_
  refine SP.nil ?_
  refine QE.then ?_
  refine CP.seq ?_
  refine CP.seq ?_
  refine CP.region ?_
  refine SP.val (Val.move rfl) rfl rfl rfl ?_
  obtain ⟨t1, hc, ho⟩ := bind_some (x := op_Known.f op_0) ho
  refine SP.callV see (caps := []) (.bool t1) fn53 rfl rfl rfl rfl (fun w2 hP hs sub ap => op_Known.ok op_0  _ hc w2 hP sub ) ?_
  clear hc
  refine SP.val (Val.notB rfl) rfl rfl rfl ?_
  refine SP.nil ?_
  refine QE.then ?_
  rcases if_some ho with ⟨hc, ho⟩ | ⟨hc, ho⟩
  · refine CP.condT rfl hc ?_
    refine CP.seq ?_
    refine CP.region ?_
    refine SP.val (Val.assign rfl) rfl rfl rfl ?_
    refine SP.val (Val.assign rfl) rfl rfl rfl ?_
    refine SP.nil ?_
    refine QE.then ?_
    refine CP.ret ?_
    refine QE.thru (by intro e; cases e) ?_
    obtain rfl := Option.some.inj ho
    exact QE.rets (rs := [.tmp 2, .tmp 3]) (vs := [.int .i64 0, .int .i64 (-1)]) Tryd.results45 rfl ⟨RVs.tmp rfl, RVs.tmp rfl, trivial⟩ (fun w2 h => St.done (fun a b p s => rfl) h)
  · refine CP.condF rfl (bf hc) ?_
    refine CP.skip ?_
    refine QE.then ?_
    refine CP.seq ?_
    refine CP.region ?_
    refine SP.val (Val.move rfl) rfl rfl rfl ?_
    obtain ⟨t2, hc, ho⟩ := bind_some (x := op_sign.f op_0) ho
    refine SP.callV see (caps := []) (.int .i64 t2) fn54 rfl rfl rfl rfl (fun w2 hP hs sub ap => op_sign.ok op_0  _ hc w2 hP sub ) ?_
    clear hc
    obtain ⟨x5, hx, ho⟩ := bind_some ho
    have hx := elt_some hx
    refine SP.indexG see 0 rfl Tryd.underlying89 rfl sz88 hx.1 hx.2 rfl rfl rfl rfl (fun p3 => ?_)
    clear hx
    refine k_arr88.load see 0 rfl Tryd.underlying88 rfl sz88 rfl rfl rfl ?_
    refine SP.alloc (cs := [.int .i64 0, .int .i64 0]) inf88 rfl rfl (fun b6 => ?_)
    refine SP.store (v := .agg #[.int .i64 x5.e0, .int .i64 x5.e1]) (vs := [.int .i64 x5.e0, .int .i64 x5.e1]) 0 (by rfl) sz88 (by rfl) (by rfl) (by rfl) (by rfl) (by rfl) (by rfl) ?_
    refine SP.nil ?_
    refine QE.then ?_
    refine CP.seq ?_
    refine CP.drawA (by kernel_rfl) (fun w2 k h => h.drawn k) ?_
    refine DA.phase (fun i => Nat.ble 0 i && Nat.blt i 5) (fun w2 => St w em hV [elP k_arr88 p3 x5, arrP k_arr88 0 tab0] [boxO b6 [.int .i64 x5.e0, .int .i64 x5.e1] 88] w2) ?_
    refine DT.take 0 rfl rfl rfl rfl (by kernel_rfl) (fun _ _ _ h => h) (Val.indexC (off2 := 0) Tryd.underlying88 sz3 (by decide) rfl rfl rfl) (fun w2 hw => hw) ?_
    refine DT.take 1 rfl rfl rfl rfl (by kernel_rfl) (fun _ _ _ h => h) (Val.load1 0 rfl Tryd.underlying3 rfl rfl rfl) (fun w2 hw => hw) ?_
    refine DT.take 2 rfl rfl rfl rfl (by kernel_rfl) (fun _ _ _ h => h) (Val.indexC (off2 := 1) Tryd.underlying88 sz3 (by decide) rfl rfl rfl) (fun w2 hw => hw) ?_
    refine DT.take 3 rfl rfl rfl rfl (by kernel_rfl) (fun _ _ _ h => h) (Val.load1 0 rfl Tryd.underlying3 rfl rfl rfl) (fun w2 hw => hw) ?_
    refine DT.take 4 rfl rfl rfl rfl (by kernel_rfl) (fun _ _ _ h => h) (Val.assign rfl) (fun w2 hw => hw) ?_
    refine DT.next (by kernel_rfl) ?_
    refine DA.one 5 rfl (by kernel_rfl) ?_
    refine SP.val (Val.assign rfl) rfl rfl rfl ?_
    refine SP.nil ?_
    refine QE.atA ?_
    refine DA.done (by kernel_rfl) ?_
    refine QE.then ?_
    refine CP.ret ?_
    obtain rfl := Option.some.inj ho
    exact QE.rets (rs := [.tmp 2, .tmp 3]) (vs := [.int .i64 x5.e0, .int .i64 x5.e1]) Tryd.results45 rfl ⟨RVs.tmp rfl, RVs.tmp rfl, trivial⟩ (fun w2 h => St.done (fun a b p s => rfl) h)
/-! ### capstan/op.May: function 27 -/
def op_May.f (i_0 : api_Instr) : Option Bool :=
  (op_Bounds.f i_0.Op).bind fun t3 => some (((decide (i_0.A ≥ t3.1)) && (decide (i_0.A ≤ t3.2))) && (decide (i_0.B = 0)))
theorem op_May.ok (i_0 : api_Instr)  (r : Bool) (H : op_May.f i_0 = some r) (w : World) (hV : Hp) (sV : Sub hV (hp w)) (h0 : (arrP k_arr88 0 tab0).p hV) :
    Trip Tryd.prog 27 [.agg #[.int .u8 i_0.Op, .int .i64 i_0.A, .int .i64 i_0.B]].toArray em hV w (fun v => HO.pure (v = .bool r)) := by
  have see : Sees w em hV := ⟨sV, Dj.em_right _⟩
  refine Trip.of (P := Tryd.prog) (n := ⟨26, []⟩) Tryd.func27 rfl ⟨rfl, rfl⟩ rfl (St.begin (All.cons (x := arrP k_arr88 0 tab0) h0 (All.nil _))) ?_
  have ho := H
  refine CP.seq ?_
  refine CP.region ?_
  refine SP.box (cs := [.int .u8 i_0.Op, .int .i64 i_0.A, .int .i64 i_0.B]) rfl rfl rfl rfl (fun b1 => ?_)
  refine SP.val (Val.assign rfl) rfl rfl rfl ?_
  refine SP.nil ?_
  refine QE.then ?_
  refine CP.seq ?_
  refine CP.region ?_
  refine SP.val (Val.fieldAddr Tryd.underlying52 rfl sz5 rfl) rfl rfl rfl ?_
  refine SP.val (Val.load1 0 rfl Tryd.underlying5 rfl rfl rfl) rfl rfl rfl ?_
  obtain ⟨t3, hc, ho⟩ := bind_some (x := op_Bounds.f i_0.Op) ho
  refine SP.callV see (caps := []) (.tuple #[.int .i64 t3.1, .int .i64 t3.2]) fn45 rfl rfl rfl rfl (fun w2 hP hs sub ap => op_Bounds.ok i_0.Op  _ hc w2 hP sub (ap.get 0 rfl)) ?_
  clear hc
  refine SP.val (Val.move rfl) rfl rfl rfl ?_
  refine SP.val (Val.extract rfl rfl) rfl rfl rfl ?_
  refine SP.val (Val.extract rfl rfl) rfl rfl rfl ?_
  refine SP.val (Val.assign rfl) rfl rfl rfl ?_
  refine SP.val (Val.assign rfl) rfl rfl rfl ?_
  refine SP.nil ?_
  refine QE.then ?_
  refine CP.seq ?_
  refine CP.region ?_
  refine SP.val (Val.fieldAddr Tryd.underlying52 rfl sz3 rfl) rfl rfl rfl ?_
  refine SP.val (Val.load1 0 rfl Tryd.underlying3 rfl rfl rfl) rfl rfl rfl ?_
  refine SP.val (Val.move rfl) rfl rfl rfl ?_
  refine SP.val (Val.geq rfl rfl) rfl rfl rfl ?_
  refine SP.val (Val.move rfl) rfl rfl rfl ?_
  refine SP.join 5 (fun a w2 => Env ⟨26, []⟩ [(1, .pointer (some ⟨b1, 0, none⟩)), (20, .bool ((decide (i_0.A ≥ t3.1)) && (decide (i_0.A ≤ t3.2))))] a ∧ St w em hV [arrP k_arr88 0 tab0] [boxO b1 [.int .u8 i_0.Op, .int .i64 i_0.A, .int .i64 i_0.B] 52] w2) ?_ ?_
  · rintro a w2 ⟨ha, hw⟩
    refine SP.app ha hw ?_
    clear ha hw a w2
    refine SP.val (Val.move rfl) rfl rfl rfl ?_
    refine SP.join 4 (fun a w2 => Env ⟨26, []⟩ [(25, .bool (((decide (i_0.A ≥ t3.1)) && (decide (i_0.A ≤ t3.2))) && (decide (i_0.B = 0))))] a ∧ St w em hV [arrP k_arr88 0 tab0] [boxO b1 [.int .u8 i_0.Op, .int .i64 i_0.A, .int .i64 i_0.B] 52] w2) ?_ ?_
    · rintro a w2 ⟨ha, hw⟩
      refine SP.app ha hw ?_
      clear ha hw a w2
      refine SP.val (Val.assign rfl) rfl rfl rfl ?_
      refine SP.nil ?_
      refine QE.then ?_
      refine CP.ret ?_
      obtain rfl := Option.some.inj ho
      exact QE.rets (rs := [.tmp 2]) (vs := [.bool (((decide (i_0.A ≥ t3.1)) && (decide (i_0.A ≤ t3.2))) && (decide (i_0.B = 0)))]) Tryd.results27 rfl ⟨RVs.tmp rfl, trivial⟩ (fun w2 h => St.done (fun a b p s => rfl) h)
    · intro J
      by_cases hc : ((decide (i_0.A ≥ t3.1)) && (decide (i_0.A ≤ t3.2))) = true
      · have hq7 := hc
        refine SP.isT (d := 21) rfl hq7 ?_
        refine SP.val (Val.fieldAddr Tryd.underlying52 rfl sz3 rfl) rfl rfl rfl ?_
        refine SP.val (Val.load1 0 rfl Tryd.underlying3 rfl rfl rfl) rfl rfl rfl ?_
        refine SP.val (Val.eql rfl rfl) rfl rfl rfl ?_
        refine SP.val (Val.pickT rfl rfl) rfl rfl rfl ?_
        exact J fun a w2 ha hw => ⟨ha.sub ⟨congrArg (fun z => some (Value.bool z)) (and_t hq7 rfl), trivial⟩, hw⟩
      · have hq7 := (bf hc)
        refine SP.isF (d := 21) rfl hq7 ?_
        refine SP.not rfl rfl rfl ?_
        refine SP.not rfl rfl rfl ?_
        refine SP.not rfl rfl rfl ?_
        refine SP.val (Val.pickF rfl rfl) rfl rfl rfl ?_
        exact J fun a w2 ha hw => ⟨ha.sub ⟨congrArg (fun z => some (Value.bool z)) (and_f hq7), trivial⟩, hw⟩
  · intro J
    by_cases hc : i_0.A ≥ t3.1
    · have hq5 := (decide_eq_true hc)
      refine SP.isT (d := 15) rfl hq5 ?_
      refine SP.val (Val.fieldAddr Tryd.underlying52 rfl sz3 rfl) rfl rfl rfl ?_
      refine SP.val (Val.load1 0 rfl Tryd.underlying3 rfl rfl rfl) rfl rfl rfl ?_
      refine SP.val (Val.move rfl) rfl rfl rfl ?_
      refine SP.val (Val.leq rfl rfl) rfl rfl rfl ?_
      refine SP.val (Val.pickT rfl rfl) rfl rfl rfl ?_
      exact J fun a w2 ha hw => ⟨ha.sub ⟨rfl, congrArg (fun z => some (Value.bool z)) (and_t hq5 rfl), trivial⟩, hw⟩
    · have hq5 := (decide_eq_false hc)
      refine SP.isF (d := 15) rfl hq5 ?_
      refine SP.not rfl rfl rfl ?_
      refine SP.not rfl rfl rfl ?_
      refine SP.not rfl rfl rfl ?_
      refine SP.not rfl rfl rfl ?_
      refine SP.val (Val.pickF rfl rfl) rfl rfl rfl ?_
      exact J fun a w2 ha hw => ⟨ha.sub ⟨rfl, congrArg (fun z => some (Value.bool z)) (and_f hq5), trivial⟩, hw⟩
/-! ### capstan/flow.Loops$1: function 26 -/
def flow_Loops_1.f (i_0 : api_Instr) : Option Bool :=
  (op_May.f i_0).bind fun t3 => some (!t3)
theorem flow_Loops_1.ok (i_0 : api_Instr)  (r : Bool) (H : flow_Loops_1.f i_0 = some r) (w : World) (hV : Hp) (sV : Sub hV (hp w)) (h0 : (arrP k_arr88 0 tab0).p hV) :
    Trip Tryd.prog 26 [.agg #[.int .u8 i_0.Op, .int .i64 i_0.A, .int .i64 i_0.B]].toArray em hV w (fun v => HO.pure (v = .bool r)) := by
  have see : Sees w em hV := ⟨sV, Dj.em_right _⟩
  refine Trip.of (P := Tryd.prog) (n := ⟨6, []⟩) Tryd.func26 rfl ⟨rfl, rfl⟩ rfl (St.begin (All.cons (x := arrP k_arr88 0 tab0) h0 (All.nil _))) ?_
  have ho := H
  refine CP.seq ?_
  refine CP.region ?_
  refine SP.box (cs := [.int .u8 i_0.Op, .int .i64 i_0.A, .int .i64 i_0.B]) rfl rfl rfl rfl (fun b1 => ?_)
  refine SP.val (Val.assign rfl) rfl rfl rfl ?_
  refine SP.nil ?_
  refine QE.then ?_
  refine CP.seq ?_
  refine CP.region ?_
  refine SP.val (Val.loadA 0 rfl Tryd.underlying52 rfl sz52 rfl rfl rfl) rfl rfl rfl ?_
  obtain ⟨t3, hc, ho⟩ := bind_some (x := op_May.f i_0) ho
  refine SP.callV see (caps := []) (.bool t3) fn27 rfl rfl rfl rfl (fun w2 hP hs sub ap => op_May.ok i_0  _ hc w2 hP sub (ap.get 0 rfl)) ?_
  clear hc
  refine SP.val (Val.notB rfl) rfl rfl rfl ?_
  refine SP.val (Val.assign rfl) rfl rfl rfl ?_
  refine SP.nil ?_
  refine QE.then ?_
  refine CP.ret ?_
  obtain rfl := Option.some.inj ho
  exact QE.rets (rs := [.tmp 2]) (vs := [.bool (!t3)]) Tryd.results26 rfl ⟨RVs.tmp rfl, trivial⟩ (fun w2 h => St.done (fun a b p s => rfl) h)
/-! ### slices.IndexFunc[[]capstan/api.Instr,capstan/api.Instr]: function 44 -/
inductive slices_IndexFunc_api_Instr_api_Instr_s1.S where
  | start
  | l1 (x7 : Int)

def slices_IndexFunc_api_Instr_api_Instr_s1.F (s_0 : (List api_Instr)) : slices_IndexFunc_api_Instr_api_Instr_s1.S → Option (slices_IndexFunc_api_Instr_api_Instr_s1.S ⊕ Int)
  | .start => some (.inl (.l1 0))
  | .l1 x7 => if x7 < (s_0.length : Int) then ((elt s_0 x7).bind fun x11 => (flow_Loops_1.f x11).bind fun t12 => if t12 = true then (some (.inr x7)) else (some (.inl (.l1 (IntKind.i64.wrap (x7 + 1)))))) else (some (.inr (-1)))

def slices_IndexFunc_api_Instr_api_Instr_s1.f (s_0 : (List api_Instr)) : Option Int := runF (slices_IndexFunc_api_Instr_api_Instr_s1.F s_0) .start
theorem slices_IndexFunc_api_Instr_api_Instr_s1.ok (s_0 : (List api_Instr)) (v_s_0 : Value)  (r : Int) (H : slices_IndexFunc_api_Instr_api_Instr_s1.f s_0 = some r) (w : World) (hV : Hp) (sV : Sub hV (hp w)) (h0 : slR k_api_Instr hV v_s_0 s_0) (h1 : (arrP k_arr88 0 tab0).p hV) :
    Trip Tryd.prog 44 [v_s_0, .func (.func 26) #[] #[]].toArray em hV w (fun v => HO.pure (v = .int .i64 r)) := by
  have see : Sees w em hV := ⟨sV, Dj.em_right _⟩
  refine Trip.of (P := Tryd.prog) (n := ⟨19, []⟩) Tryd.func44 rfl ⟨rfl, rfl⟩ rfl (St.begin (All.cons (x := slP k_api_Instr v_s_0 s_0) h0 (All.cons (x := arrP k_arr88 0 tab0) h1 (All.nil _)))) ?_
  obtain ⟨n0, hi⟩ := runF_iff.1 H
  obtain ⟨m0, o, hm0, ho, hr⟩ := iter_some hi
  clear hi
  refine CP.seq ?_
  refine CP.region ?_
  refine SP.val (Val.assign rfl) rfl rfl rfl ?_
  refine SP.nil ?_
  refine QE.then ?_
  refine CP.seq ?_
  refine CP.seq ?_
  refine CP.region ?_
  refine SP.val (Val.move rfl) rfl rfl rfl ?_
  refine SP.val (Val.lenP see 0 rfl Tryd.underlying22 rfl) rfl rfl rfl ?_
  refine SP.val (Val.move rfl) rfl rfl rfl ?_
  refine SP.nil ?_
  refine QE.then ?_
  refine CP.block ?_
  obtain rfl := Option.some.inj ho
  refine CP.loop (fun cl1 a w2 => ∃ x7 : Int, cl1 ≤ m0 ∧ iter (slices_IndexFunc_api_Instr_api_Instr_s1.F s_0) cl1 (.l1 x7) = some r ∧ Env ⟨19, []⟩ [(0, v_s_0), (1, .func (.func 26) #[] #[]), (7, .int .i64 (s_0.length : Int)), (8, .int .i64 x7)] a ∧ St w em hV [slP k_api_Instr v_s_0 s_0, arrP k_arr88 0 tab0] [] w2) m0 (fun a w2 ha hw => ⟨0, Nat.le_refl _, hr, ha.sub ⟨rfl, rfl, rfl, rfl, trivial⟩, hw⟩) ?_
  clear hr
  rintro cl1 a w2 ⟨x7, hc_l1, hi, ha, hw⟩
  obtain ⟨m8, o, hm_m8, ho, hr⟩ := iter_some hi
  refine CP.app ha hw ?_
  clear ha hw a w2 hi
  refine CP.seq ?_
  refine CP.region ?_
  refine SP.val (Val.lss rfl rfl) rfl rfl rfl ?_
  refine SP.nil ?_
  refine QE.then ?_
  refine CP.seq ?_
  rcases if_some ho with ⟨hc, ho⟩ | ⟨hc, ho⟩
  · refine CP.condT rfl (decide_eq_true hc) ?_
    refine CP.skip ?_
    refine QE.then ?_
    refine CP.seq ?_
    refine CP.block ?_
    refine CP.seq ?_
    refine CP.region ?_
    refine SP.val (Val.move rfl) rfl rfl rfl ?_
    refine SP.val (Val.assign rfl) rfl rfl rfl ?_
    refine SP.nil ?_
    refine QE.then ?_
    refine CP.seq ?_
    refine CP.region ?_
    refine SP.val (Val.move rfl) rfl rfl rfl ?_
    refine SP.val (Val.move rfl) rfl rfl rfl ?_
    refine SP.val (Val.move rfl) rfl rfl rfl ?_
    obtain ⟨x11, hx, ho⟩ := bind_some ho
    have hx := elt_some hx
    refine SP.indexP see 0 rfl Tryd.underlying22 sz52 hx.1 hx.2 rfl rfl rfl rfl (fun p9 => ?_)
    clear hx
    refine k_api_Instr.load see 0 rfl Tryd.underlying52 rfl sz52 rfl rfl rfl ?_
    obtain ⟨t12, hc, ho⟩ := bind_some (x := flow_Loops_1.f x11) ho
    refine SP.callV see (caps := []) (.bool t12) fn26 rfl rfl rfl rfl (fun w2 hP hs sub ap => flow_Loops_1.ok x11  _ hc w2 hP sub (ap.get 2 rfl)) ?_
    clear hc
    refine SP.nil ?_
    refine QE.then ?_
    rcases if_some ho with ⟨hc, ho⟩ | ⟨hc, ho⟩
    · refine CP.condT rfl hc ?_
      refine CP.seq ?_
      refine CP.region ?_
      refine SP.val (Val.move rfl) rfl rfl rfl ?_
      refine SP.val (Val.assign rfl) rfl rfl rfl ?_
      refine SP.nil ?_
      refine QE.then ?_
      refine CP.ret ?_
      refine QE.blockR ?_
      refine QE.thru (by intro e; cases e) ?_
      refine QE.thru (by intro e; cases e) ?_
      refine QE.blockR ?_
      refine QE.thru (by intro e; cases e) ?_
      obtain rfl := Option.some.inj ho
      obtain rfl := Option.some.inj hr
      exact QE.rets (rs := [.tmp 4]) (vs := [.int .i64 x7]) Tryd.results44 rfl ⟨RVs.tmp rfl, trivial⟩ (fun w2 h => St.done (fun a b p s => rfl) h)
    · refine CP.condF rfl (bf hc) ?_
      refine CP.skip ?_
      refine QE.blockN ?_
      refine QE.then ?_
      refine CP.region ?_
      refine SP.val (Val.add rfl rfl) rfl rfl rfl ?_
      refine SP.val (Val.move rfl) rfl rfl rfl ?_
      refine SP.nil ?_
      obtain rfl := Option.some.inj ho
      exact QE.lower m8 (by omega) fun a w2 ha hw => ⟨(IntKind.i64.wrap (x7 + 1)), (by omega), hr, ha.sub ⟨rfl, rfl, rfl, rfl, trivial⟩, (St.selP [1, 2] rfl hw)⟩
  · refine CP.condF rfl (decide_eq_false hc) ?_
    refine CP.exit ?_
    refine QE.thru (by intro e; cases e) ?_
    refine QE.thru (by intro e; cases e) ?_
    refine QE.blockE ?_
    refine QE.then ?_
    refine CP.seq ?_
    refine CP.region ?_
    refine SP.val (Val.assign rfl) rfl rfl rfl ?_
    refine SP.nil ?_
    refine QE.then ?_
    refine CP.ret ?_
    obtain rfl := Option.some.inj ho
    obtain rfl := Option.some.inj hr
    exact QE.rets (rs := [.tmp 4]) (vs := [.int .i64 (-1)]) Tryd.results44 rfl ⟨RVs.tmp rfl, trivial⟩ (fun w2 h => St.done (fun a b p s => rfl) h)
/-! ### slices.ContainsFunc[[]capstan/api.Instr,capstan/api.Instr]: function 25 -/
def slices_ContainsFunc_api_Instr_api_Instr_s1.f (s_0 : (List api_Instr)) : Option Bool :=
  (slices_IndexFunc_api_Instr_api_Instr_s1.f s_0).bind fun t2 => some (decide (t2 ≥ 0))
theorem slices_ContainsFunc_api_Instr_api_Instr_s1.ok (s_0 : (List api_Instr)) (v_s_0 : Value)  (r : Bool) (H : slices_ContainsFunc_api_Instr_api_Instr_s1.f s_0 = some r) (w : World) (hV : Hp) (sV : Sub hV (hp w)) (h0 : slR k_api_Instr hV v_s_0 s_0) (h1 : (arrP k_arr88 0 tab0).p hV) :
    Trip Tryd.prog 25 [v_s_0, .func (.func 26) #[] #[]].toArray em hV w (fun v => HO.pure (v = .bool r)) := by
  have see : Sees w em hV := ⟨sV, Dj.em_right _⟩
  refine Trip.of (P := Tryd.prog) (n := ⟨9, []⟩) Tryd.func25 rfl ⟨rfl, rfl⟩ rfl (St.begin (All.cons (x := slP k_api_Instr v_s_0 s_0) h0 (All.cons (x := arrP k_arr88 0 tab0) h1 (All.nil _)))) ?_
  have ho := H
  refine CP.seq ?_
  refine CP.region ?_
  refine SP.val (Val.assign rfl) rfl rfl rfl ?_
  refine SP.nil ?_
  refine QE.then ?_
  refine CP.seq ?_
  refine CP.region ?_
  refine SP.val (Val.move rfl) rfl rfl rfl ?_
  refine SP.val (Val.move rfl) rfl rfl rfl ?_
  obtain ⟨t2, hc, ho⟩ := bind_some (x := slices_IndexFunc_api_Instr_api_Instr_s1.f s_0) ho
  refine SP.callV see (caps := []) (.int .i64 t2) fn44 rfl rfl rfl rfl (fun w2 hP hs sub ap => slices_IndexFunc_api_Instr_api_Instr_s1.ok s_0 _ _ hc w2 hP sub (ap.get 0 rfl) (ap.get 1 rfl)) ?_
  clear hc
  refine SP.val (Val.geq rfl rfl) rfl rfl rfl ?_
  refine SP.val (Val.assign rfl) rfl rfl rfl ?_
  refine SP.nil ?_
  refine QE.then ?_
  refine CP.ret ?_
  obtain rfl := Option.some.inj ho
  exact QE.rets (rs := [.tmp 4]) (vs := [.bool (decide (t2 ≥ 0))]) Tryd.results25 rfl ⟨RVs.tmp rfl, trivial⟩ (fun w2 h => St.done (fun a b p s => rfl) h)
/-! ### (*capstan/flow.open).push: function 28 -/
def flow_open_push_s2.f (l2 : List Int) (a0_3 : Int) (a1 : Int) : Option (Bool × (List Int) × Int) :=
  if a0_3 = 4 then (some (false, l2, a0_3)) else ((elt l2 a0_3).bind fun x4 => some (true, l2.set a0_3.toNat a1, IntKind.i64.wrap (a0_3 + 1)))
theorem flow_open_push_s2.ok (l2 : List Int) (a0_3 : Int) (a1 : Int)  (r : Bool × (List Int) × Int) (H : flow_open_push_s2.f l2 a0_3 a1 = some r) (w : World) (hV : Hp) (sV : Sub hV (hp w))  (b1 : Nat) (hA : Hp) (sA : Sub hA (hp w)) (dA : Dj hV hA) (hI : (arrO b1 [] (fun z : Int => Value.int .i64 z) 4 l2 [.int .i64 a0_3] 63).p hV hA) :
    Trip Tryd.prog 28 [.pointer (some ⟨b1, 0, none⟩), .int .i64 a1].toArray hA hV w (fun v => HO.pand (v = .bool r.1) (HO.seps [arrO b1 [] (fun z : Int => Value.int .i64 z) 4 r.2.1 [.int .i64 r.2.2] 63])) := by
  have see : Sees w hA hV := ⟨sV, dA⟩
  refine Trip.of (P := Tryd.prog) (n := ⟨26, []⟩) Tryd.func28 rfl ⟨rfl, rfl⟩ rfl (St.beginA (os := [arrO b1 [] (fun z : Int => Value.int .i64 z) 4 l2 [.int .i64 a0_3] 63]) sA (All.nil _) ⟨hA, em, Dj.em_right _, Sub.refl _, Sub.em _, hI, trivial⟩) ?_
  have ho := H
  refine CP.seq ?_
  refine CP.region ?_
  refine SP.val (Val.assign rfl) rfl rfl rfl ?_
  refine SP.nil ?_
  refine QE.then ?_
  refine CP.seq ?_
  refine CP.seq ?_
  refine CP.region ?_
  refine SP.val (Val.move rfl) rfl rfl rfl ?_
  refine SP.val (Val.nilCheck rfl) rfl rfl rfl ?_
  refine SP.val (Val.fieldAddr Tryd.underlying63 rfl sz3 rfl) rfl rfl rfl ?_
  refine SP.val (Val.loadArrPost (k := 0) 0 rfl Tryd.underlying3 rfl rfl rfl rfl) rfl rfl rfl ?_
  refine SP.val (Val.eql rfl rfl) rfl rfl rfl ?_
  refine SP.nil ?_
  refine QE.then ?_
  rcases if_some ho with ⟨hc, ho⟩ | ⟨hc, ho⟩
  · refine CP.condT rfl (decide_eq_true hc) ?_
    refine CP.seq ?_
    refine CP.region ?_
    refine SP.val (Val.assign rfl) rfl rfl rfl ?_
    refine SP.nil ?_
    refine QE.then ?_
    refine CP.ret ?_
    refine QE.thru (by intro e; cases e) ?_
    obtain rfl := Option.some.inj ho
    exact QE.rets (rs := [.tmp 4]) (vs := [.bool false]) Tryd.results28 rfl ⟨RVs.tmp rfl, trivial⟩ (fun w2 h => St.done (fun a b p s => ⟨rfl, s⟩) (St.selO [0] rfl rfl h))
  · refine CP.condF rfl (decide_eq_false hc) ?_
    refine CP.skip ?_
    refine QE.then ?_
    refine CP.seq ?_
    refine CP.drawA (by kernel_rfl) (fun w2 k h => h.drawn k) ?_
    refine DA.phase (fun i => Nat.ble 0 i && Nat.blt i 8) (fun w2 => St w hA hV [] [arrO b1 [] (fun z : Int => Value.int .i64 z) 4 l2 [.int .i64 a0_3] 63] w2) ?_
    refine DT.take 0 rfl rfl rfl rfl (by kernel_rfl) (fun _ _ _ h => h) (Val.move rfl) (fun w2 hw => hw) ?_
    refine DT.take 1 rfl rfl rfl rfl (by kernel_rfl) (fun _ _ _ h => h) (Val.move rfl) (fun w2 hw => hw) ?_
    refine DT.take 2 rfl rfl rfl rfl (by kernel_rfl) (fun _ _ _ h => h) (Val.nilCheck rfl) (fun w2 hw => hw) ?_
    refine DT.take 3 rfl rfl rfl rfl (by kernel_rfl) (fun _ _ _ h => h) (Val.fieldAddr Tryd.underlying63 rfl sz3 rfl) (fun w2 hw => hw) ?_
    refine DT.take 4 rfl rfl rfl rfl (by kernel_rfl) (fun _ _ _ h => h) (Val.loadArrPost (k := 0) 0 rfl Tryd.underlying3 rfl rfl rfl rfl) (fun w2 hw => hw) ?_
    refine DT.take 5 rfl rfl rfl rfl (by kernel_rfl) (fun _ _ _ h => h) (Val.move rfl) (fun w2 hw => hw) ?_
    refine DT.take 6 rfl rfl rfl rfl (by kernel_rfl) (fun _ _ _ h => h) (Val.nilCheck rfl) (fun w2 hw => hw) ?_
    refine DT.take 7 rfl rfl rfl rfl (by kernel_rfl) (fun _ _ _ h => h) (Val.fieldAddr Tryd.underlying63 rfl sz61 rfl) (fun w2 hw => hw) ?_
    refine DT.next (by kernel_rfl) ?_
    refine DA.one 8 rfl (by kernel_rfl) ?_
    obtain ⟨x4, hx_x4, ho⟩ := bind_some ho
    have hx_x4 := elt_some hx_x4
    refine SP.val (Val.indexArr 0 rfl Tryd.underlying61 sz3 hx_x4.1 hx_x4.2 rfl rfl rfl) rfl rfl rfl ?_
    refine SP.nil ?_
    refine QE.atA ?_
    refine DA.one 9 rfl (by kernel_rfl) ?_
    refine SP.storeArr 0 rfl sz3 rfl hx_x4.2 rfl rfl rfl (fun _ => rfl) (fun _ => rfl) ?_
    refine SP.nil ?_
    refine QE.atA ?_
    refine DA.done (by kernel_rfl) ?_
    refine QE.then ?_
    refine CP.seq ?_
    refine CP.region ?_
    refine SP.val (Val.move rfl) rfl rfl rfl ?_
    refine SP.val (Val.nilCheck rfl) rfl rfl rfl ?_
    refine SP.val (Val.fieldAddr Tryd.underlying63 rfl sz3 rfl) rfl rfl rfl ?_
    refine SP.val (Val.loadArrPost (k := 0) 0 rfl Tryd.underlying3 rfl rfl rfl rfl) rfl rfl rfl ?_
    refine SP.val (Val.add rfl rfl) rfl rfl rfl ?_
    refine SP.val (Val.nilCheck rfl) rfl rfl rfl ?_
    refine SP.val (Val.fieldAddr Tryd.underlying63 rfl sz3 rfl) rfl rfl rfl ?_
    refine SP.storeArrPost (k := 0) 0 rfl sz3 rfl rfl rfl rfl rfl rfl rfl ?_
    refine SP.nil ?_
    refine QE.then ?_
    refine CP.seq ?_
    refine CP.region ?_
    refine SP.val (Val.assign rfl) rfl rfl rfl ?_
    refine SP.nil ?_
    refine QE.then ?_
    refine CP.ret ?_
    obtain rfl := Option.some.inj ho
    exact QE.rets (rs := [.tmp 4]) (vs := [.bool true]) Tryd.results28 rfl ⟨RVs.tmp rfl, trivial⟩ (fun w2 h => St.done (fun a b p s => ⟨rfl, s⟩) (St.selO [0] rfl rfl h))
/-! ### (*capstan/flow.open).pop: function 29 -/
def flow_open_pop_s2.j1 (l2 : List Int) (a0_3 : Int) (a1 : Int) (b10 : Bool) : Option (Bool × (List Int) × Int) :=
  if b10 = true then (some (false, l2, a0_3)) else (some (true, l2, IntKind.i64.wrap (a0_3 - 1)))

def flow_open_pop_s2.f (l2 : List Int) (a0_3 : Int) (a1 : Int) : Option (Bool × (List Int) × Int) :=
  if a0_3 = 0 then (flow_open_pop_s2.j1 l2 a0_3 a1 true) else ((elt l2 (IntKind.i64.wrap (a0_3 - 1))).bind fun x9 => flow_open_pop_s2.j1 l2 a0_3 a1 (decide (x9 ≠ a1)))
theorem flow_open_pop_s2.ok (l2 : List Int) (a0_3 : Int) (a1 : Int)  (r : Bool × (List Int) × Int) (H : flow_open_pop_s2.f l2 a0_3 a1 = some r) (w : World) (hV : Hp) (sV : Sub hV (hp w))  (b1 : Nat) (hA : Hp) (sA : Sub hA (hp w)) (dA : Dj hV hA) (hI : (arrO b1 [] (fun z : Int => Value.int .i64 z) 4 l2 [.int .i64 a0_3] 63).p hV hA) :
    Trip Tryd.prog 29 [.pointer (some ⟨b1, 0, none⟩), .int .i64 a1].toArray hA hV w (fun v => HO.pand (v = .bool r.1) (HO.seps [arrO b1 [] (fun z : Int => Value.int .i64 z) 4 r.2.1 [.int .i64 r.2.2] 63])) := by
  have see : Sees w hA hV := ⟨sV, dA⟩
  refine Trip.of (P := Tryd.prog) (n := ⟨31, []⟩) Tryd.func29 rfl ⟨rfl, rfl⟩ rfl (St.beginA (os := [arrO b1 [] (fun z : Int => Value.int .i64 z) 4 l2 [.int .i64 a0_3] 63]) sA (All.nil _) ⟨hA, em, Dj.em_right _, Sub.refl _, Sub.em _, hI, trivial⟩) ?_
  have ho := H
  refine CP.seq ?_
  refine CP.region ?_
  refine SP.val (Val.assign rfl) rfl rfl rfl ?_
  refine SP.nil ?_
  refine QE.then ?_
  refine CP.seq ?_
  refine CP.join (fun a w2 => ∃ b10 : Bool, flow_open_pop_s2.j1 l2 a0_3 a1 b10 = some r ∧ Env ⟨31, []⟩ [(0, .pointer (some ⟨b1, 0, none⟩)), (23, .bool b10)] a ∧ St w hA hV [] [arrO b1 [] (fun z : Int => Value.int .i64 z) 4 l2 [.int .i64 a0_3] 63] w2) ?_ ?_
  · rintro a w2 ⟨b10, ho, ha, hw⟩
    refine CP.app ha hw ?_
    clear ha hw a w2
    rcases if_some ho with ⟨hc, ho⟩ | ⟨hc, ho⟩
    · refine CP.condT rfl hc ?_
      refine CP.seq ?_
      refine CP.region ?_
      refine SP.val (Val.assign rfl) rfl rfl rfl ?_
      refine SP.nil ?_
      refine QE.then ?_
      refine CP.ret ?_
      refine QE.thru (by intro e; cases e) ?_
      obtain rfl := Option.some.inj ho
      exact QE.rets (rs := [.tmp 4]) (vs := [.bool false]) Tryd.results29 rfl ⟨RVs.tmp rfl, trivial⟩ (fun w2 h => St.done (fun a b p s => ⟨rfl, s⟩) (St.selO [0] rfl rfl h))
    · refine CP.condF rfl (bf hc) ?_
      refine CP.skip ?_
      refine QE.then ?_
      refine CP.seq ?_
      refine CP.region ?_
      refine SP.val (Val.move rfl) rfl rfl rfl ?_
      refine SP.val (Val.nilCheck rfl) rfl rfl rfl ?_
      refine SP.val (Val.fieldAddr Tryd.underlying63 rfl sz3 rfl) rfl rfl rfl ?_
      refine SP.val (Val.loadArrPost (k := 0) 0 rfl Tryd.underlying3 rfl rfl rfl rfl) rfl rfl rfl ?_
      refine SP.val (Val.sub rfl rfl) rfl rfl rfl ?_
      refine SP.val (Val.nilCheck rfl) rfl rfl rfl ?_
      refine SP.val (Val.fieldAddr Tryd.underlying63 rfl sz3 rfl) rfl rfl rfl ?_
      refine SP.storeArrPost (k := 0) 0 rfl sz3 rfl rfl rfl rfl rfl rfl rfl ?_
      refine SP.nil ?_
      refine QE.then ?_
      refine CP.seq ?_
      refine CP.region ?_
      refine SP.val (Val.assign rfl) rfl rfl rfl ?_
      refine SP.nil ?_
      refine QE.then ?_
      refine CP.ret ?_
      obtain rfl := Option.some.inj ho
      exact QE.rets (rs := [.tmp 4]) (vs := [.bool true]) Tryd.results29 rfl ⟨RVs.tmp rfl, trivial⟩ (fun w2 h => St.done (fun a b p s => ⟨rfl, s⟩) (St.selO [0] rfl rfl h))
  · refine CP.drawA (by kernel_rfl) (fun w2 k h => h.drawn k) ?_
    refine DA.one 0 rfl (by kernel_rfl) ?_
    refine SP.val (Val.move rfl) rfl rfl rfl ?_
    refine SP.nil ?_
    refine QE.atA ?_
    refine DA.one 1 rfl (by kernel_rfl) ?_
    refine SP.val (Val.nilCheck rfl) rfl rfl rfl ?_
    refine SP.nil ?_
    refine QE.atA ?_
    refine DA.one 2 rfl (by kernel_rfl) ?_
    refine SP.val (Val.fieldAddr Tryd.underlying63 rfl sz3 rfl) rfl rfl rfl ?_
    refine SP.nil ?_
    refine QE.atA ?_
    refine DA.one 3 rfl (by kernel_rfl) ?_
    refine SP.val (Val.loadArrPost (k := 0) 0 rfl Tryd.underlying3 rfl rfl rfl rfl) rfl rfl rfl ?_
    refine SP.nil ?_
    refine QE.atA ?_
    refine DA.one 4 rfl (by kernel_rfl) ?_
    refine SP.val (Val.eql rfl rfl) rfl rfl rfl ?_
    refine SP.nil ?_
    refine QE.atA ?_
    refine DA.one 5 rfl (by kernel_rfl) ?_
    refine SP.val (Val.move rfl) rfl rfl rfl ?_
    refine SP.nil ?_
    refine QE.atA ?_
    rcases if_some ho with ⟨hc, ho⟩ | ⟨hc, ho⟩
    · have hg4 := (decide_eq_true hc)
      clear hc
      refine DA.phase (fun i => Nat.ble 6 i && Nat.blt i 17) (fun w2 => St w hA hV [] [arrO b1 [] (fun z : Int => Value.int .i64 z) 4 l2 [.int .i64 a0_3] 63] w2) ?_
      refine DT.is (d := 10) (b := true) rfl hg4 ?_
      refine DT.not 6 rfl rfl rfl rfl (by kernel_rfl) (fun _ _ _ h => h) (fun w2 hw => hw) ?_
      refine DT.not 7 rfl rfl rfl rfl (by kernel_rfl) (fun _ _ _ h => h) (fun w2 hw => hw) ?_
      refine DT.not 8 rfl rfl rfl rfl (by kernel_rfl) (fun _ _ _ h => h) (fun w2 hw => hw) ?_
      refine DT.not 9 rfl rfl rfl rfl (by kernel_rfl) (fun _ _ _ h => h) (fun w2 hw => hw) ?_
      refine DT.not 10 rfl rfl rfl rfl (by kernel_rfl) (fun _ _ _ h => h) (fun w2 hw => hw) ?_
      refine DT.not 11 rfl rfl rfl rfl (by kernel_rfl) (fun _ _ _ h => h) (fun w2 hw => hw) ?_
      refine DT.not 12 rfl rfl rfl rfl (by kernel_rfl) (fun _ _ _ h => h) (fun w2 hw => hw) ?_
      refine DT.not 13 rfl rfl rfl rfl (by kernel_rfl) (fun _ _ _ h => h) (fun w2 hw => hw) ?_
      refine DT.not 14 rfl rfl rfl rfl (by kernel_rfl) (fun _ _ _ h => h) (fun w2 hw => hw) ?_
      refine DT.not 15 rfl rfl rfl rfl (by kernel_rfl) (fun _ _ _ h => h) (fun w2 hw => hw) ?_
      refine DT.not 16 rfl rfl rfl rfl (by kernel_rfl) (fun _ _ _ h => h) (fun w2 hw => hw) ?_
      refine DT.next (by kernel_rfl) ?_
      refine DA.phase (fun i => Nat.ble 17 i && Nat.blt i 18) (fun w2 => St w hA hV [] [arrO b1 [] (fun z : Int => Value.int .i64 z) 4 l2 [.int .i64 a0_3] 63] w2) ?_
      refine DT.not 17 rfl rfl rfl rfl (by kernel_rfl) (fun _ _ _ h => h) (fun w2 hw => hw) ?_
      refine DT.next (by kernel_rfl) ?_
      refine DA.one 18 rfl (by kernel_rfl) ?_
      refine SP.val (Val.pickT rfl rfl) rfl rfl rfl ?_
      refine SP.nil ?_
      refine QE.atA ?_
      refine DA.done (by kernel_rfl) ?_
      exact QE.meet fun a w2 ha hw => ⟨true, ho, ha.sub ⟨rfl, rfl, trivial⟩, hw⟩
    · have hg5 := (decide_eq_false hc)
      clear hc
      refine DA.phase (fun i => Nat.ble 6 i && Nat.blt i 17) (fun w2 => St w hA hV [] [arrO b1 [] (fun z : Int => Value.int .i64 z) 4 l2 [.int .i64 a0_3] 63] w2) ?_
      refine DT.is (d := 10) (b := false) rfl hg5 ?_
      refine DT.take 6 rfl rfl rfl rfl (by kernel_rfl) (fun _ _ _ h => h) (Val.move rfl) (fun w2 hw => hw) ?_
      refine DT.take 7 rfl rfl rfl rfl (by kernel_rfl) (fun _ _ _ h => h) (Val.move rfl) (fun w2 hw => hw) ?_
      refine DT.take 8 rfl rfl rfl rfl (by kernel_rfl) (fun _ _ _ h => h) (Val.nilCheck rfl) (fun w2 hw => hw) ?_
      refine DT.take 9 rfl rfl rfl rfl (by kernel_rfl) (fun _ _ _ h => h) (Val.fieldAddr Tryd.underlying63 rfl sz3 rfl) (fun w2 hw => hw) ?_
      refine DT.take 10 rfl rfl rfl rfl (by kernel_rfl) (fun _ _ _ h => h) (Val.loadArrPost (k := 0) 0 rfl Tryd.underlying3 rfl rfl rfl rfl) (fun w2 hw => hw) ?_
      refine DT.take 11 rfl rfl rfl rfl (by kernel_rfl) (fun _ _ _ h => h) (Val.sub rfl rfl) (fun w2 hw => hw) ?_
      refine DT.take 12 rfl rfl rfl rfl (by kernel_rfl) (fun _ _ _ h => h) (Val.nilCheck rfl) (fun w2 hw => hw) ?_
      refine DT.take 13 rfl rfl rfl rfl (by kernel_rfl) (fun _ _ _ h => h) (Val.fieldAddr Tryd.underlying63 rfl sz61 rfl) (fun w2 hw => hw) ?_
      refine DT.take 16 rfl rfl rfl rfl (by kernel_rfl) (fun _ _ _ h => h) (Val.move rfl) (fun w2 hw => hw) ?_
      refine DT.one 14 rfl (by kernel_rfl) rfl ?_
      obtain ⟨x9, hx_x9, ho⟩ := bind_some ho
      have hx_x9 := elt_some hx_x9
      refine SP.val (Val.indexArr 0 rfl Tryd.underlying61 sz3 hx_x9.1 hx_x9.2 rfl rfl rfl) rfl rfl rfl ?_
      refine SP.nil ?_
      refine QE.atT (fun w2 hw => hw) ?_
      refine DT.take 15 rfl rfl rfl rfl (by kernel_rfl) (fun _ _ _ h => h) (Val.loadArr 0 rfl Tryd.underlying3 rfl hx_x9.2 rfl rfl) (fun w2 hw => hw) ?_
      refine DT.next (by kernel_rfl) ?_
      refine DA.one 17 rfl (by kernel_rfl) ?_
      refine SP.val (Val.neq rfl rfl) rfl rfl rfl ?_
      refine SP.nil ?_
      refine QE.atA ?_
      refine DA.one 18 rfl (by kernel_rfl) ?_
      refine SP.val (Val.pickF rfl rfl) rfl rfl rfl ?_
      refine SP.nil ?_
      refine QE.atA ?_
      refine DA.done (by kernel_rfl) ?_
      exact QE.meet fun a w2 ha hw => ⟨(decide (x9 ≠ a1)), ho, ha.sub ⟨rfl, rfl, trivial⟩, hw⟩
/-! ### capstan/flow.last: function 30 -/
def flow_last.f (i_0 : api_Instr) : Option Bool :=
  some ((decide (i_0.Op = 31)) || (decide (i_0.Op = 32)))
theorem flow_last.ok (i_0 : api_Instr)  (r : Bool) (H : flow_last.f i_0 = some r) (w : World) (hV : Hp) (sV : Sub hV (hp w))  :
    Trip Tryd.prog 30 [.agg #[.int .u8 i_0.Op, .int .i64 i_0.A, .int .i64 i_0.B]].toArray em hV w (fun v => HO.pure (v = .bool r)) := by
  have see : Sees w em hV := ⟨sV, Dj.em_right _⟩
  refine Trip.of (P := Tryd.prog) (n := ⟨11, []⟩) Tryd.func30 rfl ⟨rfl, rfl⟩ rfl (St.begin (All.nil _)) ?_
  have ho := H
  refine CP.seq ?_
  refine CP.region ?_
  refine SP.box (cs := [.int .u8 i_0.Op, .int .i64 i_0.A, .int .i64 i_0.B]) rfl rfl rfl rfl (fun b1 => ?_)
  refine SP.val (Val.assign rfl) rfl rfl rfl ?_
  refine SP.nil ?_
  refine QE.then ?_
  refine CP.seq ?_
  refine CP.region ?_
  refine SP.val (Val.fieldAddr Tryd.underlying52 rfl sz5 rfl) rfl rfl rfl ?_
  refine SP.val (Val.load1 0 rfl Tryd.underlying5 rfl rfl rfl) rfl rfl rfl ?_
  refine SP.val (Val.eql rfl rfl) rfl rfl rfl ?_
  refine SP.val (Val.move rfl) rfl rfl rfl ?_
  refine SP.join 4 (fun a w2 => Env ⟨11, []⟩ [(10, .bool ((decide (i_0.Op = 31)) || (decide (i_0.Op = 32))))] a ∧ St w em hV [] [boxO b1 [.int .u8 i_0.Op, .int .i64 i_0.A, .int .i64 i_0.B] 52] w2) ?_ ?_
  · rintro a w2 ⟨ha, hw⟩
    refine SP.app ha hw ?_
    clear ha hw a w2
    refine SP.val (Val.assign rfl) rfl rfl rfl ?_
    refine SP.nil ?_
    refine QE.then ?_
    refine CP.ret ?_
    obtain rfl := Option.some.inj ho
    exact QE.rets (rs := [.tmp 2]) (vs := [.bool ((decide (i_0.Op = 31)) || (decide (i_0.Op = 32)))]) Tryd.results30 rfl ⟨RVs.tmp rfl, trivial⟩ (fun w2 h => St.done (fun a b p s => rfl) h)
  · intro J
    by_cases hc : i_0.Op = 31
    · have hq4 := (decide_eq_true hc)
      refine SP.isT (d := 6) rfl hq4 ?_
      refine SP.not rfl rfl rfl ?_
      refine SP.not rfl rfl rfl ?_
      refine SP.not rfl rfl rfl ?_
      refine SP.val (Val.pickT rfl rfl) rfl rfl rfl ?_
      exact J fun a w2 ha hw => ⟨ha.sub ⟨congrArg (fun z => some (Value.bool z)) (or_t hq4), trivial⟩, hw⟩
    · have hq4 := (decide_eq_false hc)
      refine SP.isF (d := 6) rfl hq4 ?_
      refine SP.val (Val.fieldAddr Tryd.underlying52 rfl sz5 rfl) rfl rfl rfl ?_
      refine SP.val (Val.load1 0 rfl Tryd.underlying5 rfl rfl rfl) rfl rfl rfl ?_
      refine SP.val (Val.eql rfl rfl) rfl rfl rfl ?_
      refine SP.val (Val.pickF rfl rfl) rfl rfl rfl ?_
      exact J fun a w2 ha hw => ⟨ha.sub ⟨congrArg (fun z => some (Value.bool z)) (or_f hq4 rfl), trivial⟩, hw⟩
/-! ### (capstan/flow.Loop).has: function 47 -/
def flow_Loop_has.f (x_0 : flow_Loop) (a1 : Int) : Option Bool :=
  some ((decide (a1 > x_0.From)) && (decide (a1 ≤ x_0.To)))
theorem flow_Loop_has.ok (x_0 : flow_Loop) (a1 : Int)  (r : Bool) (H : flow_Loop_has.f x_0 a1 = some r) (w : World) (hV : Hp) (sV : Sub hV (hp w))  :
    Trip Tryd.prog 47 [.agg #[.int .i64 x_0.From, .int .i64 x_0.To, .int .i64 x_0.Turns], .int .i64 a1].toArray em hV w (fun v => HO.pure (v = .bool r)) := by
  have see : Sees w em hV := ⟨sV, Dj.em_right _⟩
  refine Trip.of (P := Tryd.prog) (n := ⟨15, []⟩) Tryd.func47 rfl ⟨rfl, rfl⟩ rfl (St.begin (All.nil _)) ?_
  have ho := H
  refine CP.seq ?_
  refine CP.region ?_
  refine SP.box (cs := [.int .i64 x_0.From, .int .i64 x_0.To, .int .i64 x_0.Turns]) rfl rfl rfl rfl (fun b1 => ?_)
  refine SP.val (Val.assign rfl) rfl rfl rfl ?_
  refine SP.nil ?_
  refine QE.then ?_
  refine CP.seq ?_
  refine CP.region ?_
  refine SP.val (Val.move rfl) rfl rfl rfl ?_
  refine SP.val (Val.fieldAddr Tryd.underlying40 rfl sz3 rfl) rfl rfl rfl ?_
  refine SP.val (Val.load1 0 rfl Tryd.underlying3 rfl rfl rfl) rfl rfl rfl ?_
  refine SP.val (Val.gtr rfl rfl) rfl rfl rfl ?_
  refine SP.val (Val.move rfl) rfl rfl rfl ?_
  refine SP.join 5 (fun a w2 => Env ⟨15, []⟩ [(14, .bool ((decide (a1 > x_0.From)) && (decide (a1 ≤ x_0.To))))] a ∧ St w em hV [] [boxO b1 [.int .i64 x_0.From, .int .i64 x_0.To, .int .i64 x_0.Turns] 40] w2) ?_ ?_
  · rintro a w2 ⟨ha, hw⟩
    refine SP.app ha hw ?_
    clear ha hw a w2
    refine SP.val (Val.assign rfl) rfl rfl rfl ?_
    refine SP.nil ?_
    refine QE.then ?_
    refine CP.ret ?_
    obtain rfl := Option.some.inj ho
    exact QE.rets (rs := [.tmp 4]) (vs := [.bool ((decide (a1 > x_0.From)) && (decide (a1 ≤ x_0.To)))]) Tryd.results47 rfl ⟨RVs.tmp rfl, trivial⟩ (fun w2 h => St.done (fun a b p s => rfl) h)
  · intro J
    by_cases hc : a1 > x_0.From
    · have hq4 := (decide_eq_true hc)
      refine SP.isT (d := 9) rfl hq4 ?_
      refine SP.val (Val.move rfl) rfl rfl rfl ?_
      refine SP.val (Val.fieldAddr Tryd.underlying40 rfl sz3 rfl) rfl rfl rfl ?_
      refine SP.val (Val.load1 0 rfl Tryd.underlying3 rfl rfl rfl) rfl rfl rfl ?_
      refine SP.val (Val.leq rfl rfl) rfl rfl rfl ?_
      refine SP.val (Val.pickT rfl rfl) rfl rfl rfl ?_
      exact J fun a w2 ha hw => ⟨ha.sub ⟨congrArg (fun z => some (Value.bool z)) (and_t hq4 rfl), trivial⟩, hw⟩
    · have hq4 := (decide_eq_false hc)
      refine SP.isF (d := 9) rfl hq4 ?_
      refine SP.not rfl rfl rfl ?_
      refine SP.not rfl rfl rfl ?_
      refine SP.not rfl rfl rfl ?_
      refine SP.not rfl rfl rfl ?_
      refine SP.val (Val.pickF rfl rfl) rfl rfl rfl ?_
      exact J fun a w2 ha hw => ⟨ha.sub ⟨congrArg (fun z => some (Value.bool z)) (and_f hq4), trivial⟩, hw⟩
/-! ### capstan/flow.jumps$1: function 46 -/
def flow_jumps_1_s1.f (x_0 : flow_Loop) (c0_1 : Int) (c0_2 : Int) (c0_3 : Int) (c1_6 : Int) : Option Bool :=
  (flow_Loop_has.f x_0 c0_2).bind fun t11 => (if t11 = true then ((flow_Loop_has.f x_0 c1_6).bind fun t14 => some (!t14)) else (some false)).bind fun t15 => some t15
theorem flow_jumps_1_s1.ok (x_0 : flow_Loop) (c0_1 : Int) (c0_2 : Int) (c0_3 : Int) (c1_6 : Int) (b4 : Nat) (b7 : Nat) (r : Bool) (H : flow_jumps_1_s1.f x_0 c0_1 c0_2 c0_3 c1_6 = some r) (w : World) (hV : Hp) (sV : Sub hV (hp w)) (h0 : (boxP b4 [.int .u8 c0_1, .int .i64 c0_2, .int .i64 c0_3] 52).p hV) (h1 : (boxP b7 [.int .i64 c1_6] 3).p hV) :
    Trip Tryd.prog 46 [.agg #[.int .i64 x_0.From, .int .i64 x_0.To, .int .i64 x_0.Turns], .pointer (some ⟨b4, 0, none⟩), .pointer (some ⟨b7, 0, none⟩)].toArray em hV w (fun v => HO.pure (v = .bool r)) := by
  have see : Sees w em hV := ⟨sV, Dj.em_right _⟩
  refine Trip.of (P := Tryd.prog) (n := ⟨15, []⟩) Tryd.func46 rfl ⟨rfl, rfl⟩ rfl (St.begin (All.cons (x := boxP b4 [.int .u8 c0_1, .int .i64 c0_2, .int .i64 c0_3] 52) h0 (All.cons (x := boxP b7 [.int .i64 c1_6] 3) h1 (All.nil _)))) ?_
  have ho := H
  refine CP.seq ?_
  refine CP.region ?_
  refine SP.box (cs := [.int .i64 x_0.From, .int .i64 x_0.To, .int .i64 x_0.Turns]) rfl rfl rfl rfl (fun b9 => ?_)
  refine SP.val (Val.assign rfl) rfl rfl rfl ?_
  refine SP.nil ?_
  refine QE.then ?_
  refine CP.seq ?_
  refine CP.region ?_
  refine SP.val (Val.loadA 0 rfl Tryd.underlying40 rfl sz40 rfl rfl rfl) rfl rfl rfl ?_
  refine SP.val (Val.fieldAddr Tryd.underlying52 rfl sz3 rfl) rfl rfl rfl ?_
  refine SP.val (Val.loadB1 see 0 rfl Tryd.underlying3 rfl rfl rfl) rfl rfl rfl ?_
  obtain ⟨t11, hc, ho⟩ := bind_some (x := flow_Loop_has.f x_0 c0_2) ho
  refine SP.callV see (caps := []) (.bool t11) fn47 rfl rfl rfl rfl (fun w2 hP hs sub ap => flow_Loop_has.ok x_0 c0_2  _ hc w2 hP sub ) ?_
  clear hc
  refine SP.val (Val.move rfl) rfl rfl rfl ?_
  obtain ⟨t15, hg_t15, ho⟩ := bind_some ho
  refine SP.join 5 (fun a w2 => Env ⟨15, []⟩ [(14, .bool t15)] a ∧ St w em hV [boxP b4 [.int .u8 c0_1, .int .i64 c0_2, .int .i64 c0_3] 52, boxP b7 [.int .i64 c1_6] 3] [boxO b9 [.int .i64 x_0.From, .int .i64 x_0.To, .int .i64 x_0.Turns] 40] w2) ?_ ?_
  · rintro a w2 ⟨ha, hw⟩
    refine SP.app ha hw ?_
    clear ha hw a w2 hg_t15
    refine SP.val (Val.assign rfl) rfl rfl rfl ?_
    refine SP.nil ?_
    refine QE.then ?_
    refine CP.ret ?_
    obtain rfl := Option.some.inj ho
    exact QE.rets (rs := [.tmp 4]) (vs := [.bool t15]) Tryd.results46 rfl ⟨RVs.tmp rfl, trivial⟩ (fun w2 h => St.done (fun a b p s => rfl) h)
  · intro J
    clear ho
    have ho := hg_t15
    clear hg_t15
    rcases if_some ho with ⟨hc, ho⟩ | ⟨hc, ho⟩
    · have hq13 := hc
      refine SP.isT (d := 9) rfl hq13 ?_
      refine SP.val (Val.loadA 0 rfl Tryd.underlying40 rfl sz40 rfl rfl rfl) rfl rfl rfl ?_
      refine SP.val (Val.loadB1 see 1 rfl Tryd.underlying3 rfl rfl rfl) rfl rfl rfl ?_
      obtain ⟨t14, hc, ho⟩ := bind_some (x := flow_Loop_has.f x_0 c1_6) ho
      refine SP.callV see (caps := []) (.bool t14) fn47 rfl rfl rfl rfl (fun w2 hP hs sub ap => flow_Loop_has.ok x_0 c1_6  _ hc w2 hP sub ) ?_
      clear hc
      refine SP.val (Val.notB rfl) rfl rfl rfl ?_
      refine SP.val (Val.pickT rfl rfl) rfl rfl rfl ?_
      obtain rfl := Option.some.inj ho
      exact J fun a w2 ha hw => ⟨ha.sub ⟨rfl, trivial⟩, hw⟩
    · have hq13 := (bf hc)
      refine SP.isF (d := 9) rfl hq13 ?_
      refine SP.not rfl rfl rfl ?_
      refine SP.not rfl rfl rfl ?_
      refine SP.not rfl rfl rfl ?_
      refine SP.not rfl rfl rfl ?_
      refine SP.val (Val.pickF rfl rfl) rfl rfl rfl ?_
      obtain rfl := Option.some.inj ho
      exact J fun a w2 ha hw => ⟨ha.sub ⟨rfl, trivial⟩, hw⟩
/-! ### slices.IndexFunc[[]capstan/flow.Loop,capstan/flow.Loop]: function 57 -/
inductive slices_IndexFunc_flow_Loop_flow_Loop_s1.S where
  | start
  | l1 (x15 : Int)

def slices_IndexFunc_flow_Loop_flow_Loop_s1.F (s_0 : (List flow_Loop)) (f_1_2 : Int) (f_1_3 : Int) (f_1_4 : Int) (f_1_7 : Int) : slices_IndexFunc_flow_Loop_flow_Loop_s1.S → Option (slices_IndexFunc_flow_Loop_flow_Loop_s1.S ⊕ Int)
  | .start => some (.inl (.l1 0))
  | .l1 x15 => if x15 < (s_0.length : Int) then ((elt s_0 x15).bind fun x19 => (flow_jumps_1_s1.f x19 f_1_2 f_1_3 f_1_4 f_1_7).bind fun t20 => if t20 = true then (some (.inr x15)) else (some (.inl (.l1 (IntKind.i64.wrap (x15 + 1)))))) else (some (.inr (-1)))

def slices_IndexFunc_flow_Loop_flow_Loop_s1.f (s_0 : (List flow_Loop)) (f_1_2 : Int) (f_1_3 : Int) (f_1_4 : Int) (f_1_7 : Int) : Option Int := runF (slices_IndexFunc_flow_Loop_flow_Loop_s1.F s_0 f_1_2 f_1_3 f_1_4 f_1_7) .start
theorem slices_IndexFunc_flow_Loop_flow_Loop_s1.ok (s_0 : (List flow_Loop)) (f_1_2 : Int) (f_1_3 : Int) (f_1_4 : Int) (f_1_7 : Int) (v_s_0 : Value) (b5 : Nat) (b8 : Nat) (r : Int) (H : slices_IndexFunc_flow_Loop_flow_Loop_s1.f s_0 f_1_2 f_1_3 f_1_4 f_1_7 = some r) (w : World) (hV : Hp) (sV : Sub hV (hp w)) (h0 : slR k_flow_Loop hV v_s_0 s_0) (h1 : (boxP b5 [.int .u8 f_1_2, .int .i64 f_1_3, .int .i64 f_1_4] 52).p hV) (h2 : (boxP b8 [.int .i64 f_1_7] 3).p hV) :
    Trip Tryd.prog 57 [v_s_0, .func (.func 46) #[] #[.pointer (some ⟨b5, 0, none⟩), .pointer (some ⟨b8, 0, none⟩)]].toArray em hV w (fun v => HO.pure (v = .int .i64 r)) := by
  have see : Sees w em hV := ⟨sV, Dj.em_right _⟩
  refine Trip.of (P := Tryd.prog) (n := ⟨19, []⟩) Tryd.func57 rfl ⟨rfl, rfl⟩ rfl (St.begin (All.cons (x := slP k_flow_Loop v_s_0 s_0) h0 (All.cons (x := boxP b5 [.int .u8 f_1_2, .int .i64 f_1_3, .int .i64 f_1_4] 52) h1 (All.cons (x := boxP b8 [.int .i64 f_1_7] 3) h2 (All.nil _))))) ?_
  obtain ⟨n0, hi⟩ := runF_iff.1 H
  obtain ⟨m0, o, hm0, ho, hr⟩ := iter_some hi
  clear hi
  refine CP.seq ?_
  refine CP.region ?_
  refine SP.val (Val.assign rfl) rfl rfl rfl ?_
  refine SP.nil ?_
  refine QE.then ?_
  refine CP.seq ?_
  refine CP.seq ?_
  refine CP.region ?_
  refine SP.val (Val.move rfl) rfl rfl rfl ?_
  refine SP.val (Val.lenP see 0 rfl Tryd.underlying30 rfl) rfl rfl rfl ?_
  refine SP.val (Val.move rfl) rfl rfl rfl ?_
  refine SP.nil ?_
  refine QE.then ?_
  refine CP.block ?_
  obtain rfl := Option.some.inj ho
  refine CP.loop (fun cl1 a w2 => ∃ x15 : Int, cl1 ≤ m0 ∧ iter (slices_IndexFunc_flow_Loop_flow_Loop_s1.F s_0 f_1_2 f_1_3 f_1_4 f_1_7) cl1 (.l1 x15) = some r ∧ Env ⟨19, []⟩ [(0, v_s_0), (1, .func (.func 46) #[] #[.pointer (some ⟨b5, 0, none⟩), .pointer (some ⟨b8, 0, none⟩)]), (7, .int .i64 (s_0.length : Int)), (8, .int .i64 x15)] a ∧ St w em hV [slP k_flow_Loop v_s_0 s_0, boxP b5 [.int .u8 f_1_2, .int .i64 f_1_3, .int .i64 f_1_4] 52, boxP b8 [.int .i64 f_1_7] 3] [] w2) m0 (fun a w2 ha hw => ⟨0, Nat.le_refl _, hr, ha.sub ⟨rfl, rfl, rfl, rfl, trivial⟩, hw⟩) ?_
  clear hr
  rintro cl1 a w2 ⟨x15, hc_l1, hi, ha, hw⟩
  obtain ⟨m16, o, hm_m16, ho, hr⟩ := iter_some hi
  refine CP.app ha hw ?_
  clear ha hw a w2 hi
  refine CP.seq ?_
  refine CP.region ?_
  refine SP.val (Val.lss rfl rfl) rfl rfl rfl ?_
  refine SP.nil ?_
  refine QE.then ?_
  refine CP.seq ?_
  rcases if_some ho with ⟨hc, ho⟩ | ⟨hc, ho⟩
  · refine CP.condT rfl (decide_eq_true hc) ?_
    refine CP.skip ?_
    refine QE.then ?_
    refine CP.seq ?_
    refine CP.block ?_
    refine CP.seq ?_
    refine CP.region ?_
    refine SP.val (Val.move rfl) rfl rfl rfl ?_
    refine SP.val (Val.assign rfl) rfl rfl rfl ?_
    refine SP.nil ?_
    refine QE.then ?_
    refine CP.seq ?_
    refine CP.region ?_
    refine SP.val (Val.move rfl) rfl rfl rfl ?_
    refine SP.val (Val.move rfl) rfl rfl rfl ?_
    refine SP.val (Val.move rfl) rfl rfl rfl ?_
    obtain ⟨x19, hx, ho⟩ := bind_some ho
    have hx := elt_some hx
    refine SP.indexP see 0 rfl Tryd.underlying30 sz40 hx.1 hx.2 rfl rfl rfl rfl (fun p17 => ?_)
    clear hx
    refine k_flow_Loop.load see 0 rfl Tryd.underlying40 rfl sz40 rfl rfl rfl ?_
    obtain ⟨t20, hc, ho⟩ := bind_some (x := flow_jumps_1_s1.f x19 f_1_2 f_1_3 f_1_4 f_1_7) ho
    refine SP.callV see (caps := [.pointer (some ⟨b5, 0, none⟩), .pointer (some ⟨b8, 0, none⟩)]) (.bool t20) fn46 rfl rfl rfl rfl (fun w2 hP hs sub ap => flow_jumps_1_s1.ok x19 f_1_2 f_1_3 f_1_4 f_1_7 _ _ _ hc w2 hP sub (ap.get 2 rfl) (ap.get 3 rfl)) ?_
    clear hc
    refine SP.nil ?_
    refine QE.then ?_
    rcases if_some ho with ⟨hc, ho⟩ | ⟨hc, ho⟩
    · refine CP.condT rfl hc ?_
      refine CP.seq ?_
      refine CP.region ?_
      refine SP.val (Val.move rfl) rfl rfl rfl ?_
      refine SP.val (Val.assign rfl) rfl rfl rfl ?_
      refine SP.nil ?_
      refine QE.then ?_
      refine CP.ret ?_
      refine QE.blockR ?_
      refine QE.thru (by intro e; cases e) ?_
      refine QE.thru (by intro e; cases e) ?_
      refine QE.blockR ?_
      refine QE.thru (by intro e; cases e) ?_
      obtain rfl := Option.some.inj ho
      obtain rfl := Option.some.inj hr
      exact QE.rets (rs := [.tmp 4]) (vs := [.int .i64 x15]) Tryd.results57 rfl ⟨RVs.tmp rfl, trivial⟩ (fun w2 h => St.done (fun a b p s => rfl) h)
    · refine CP.condF rfl (bf hc) ?_
      refine CP.skip ?_
      refine QE.blockN ?_
      refine QE.then ?_
      refine CP.region ?_
      refine SP.val (Val.add rfl rfl) rfl rfl rfl ?_
      refine SP.val (Val.move rfl) rfl rfl rfl ?_
      refine SP.nil ?_
      obtain rfl := Option.some.inj ho
      exact QE.lower m16 (by omega) fun a w2 ha hw => ⟨(IntKind.i64.wrap (x15 + 1)), (by omega), hr, ha.sub ⟨rfl, rfl, rfl, rfl, trivial⟩, (St.selP [1, 2, 3] rfl hw)⟩
  · refine CP.condF rfl (decide_eq_false hc) ?_
    refine CP.exit ?_
    refine QE.thru (by intro e; cases e) ?_
    refine QE.thru (by intro e; cases e) ?_
    refine QE.blockE ?_
    refine QE.then ?_
    refine CP.seq ?_
    refine CP.region ?_
    refine SP.val (Val.assign rfl) rfl rfl rfl ?_
    refine SP.nil ?_
    refine QE.then ?_
    refine CP.ret ?_
    obtain rfl := Option.some.inj ho
    obtain rfl := Option.some.inj hr
    exact QE.rets (rs := [.tmp 4]) (vs := [.int .i64 (-1)]) Tryd.results57 rfl ⟨RVs.tmp rfl, trivial⟩ (fun w2 h => St.done (fun a b p s => rfl) h)
/-! ### slices.ContainsFunc[[]capstan/flow.Loop,capstan/flow.Loop]: function 48 -/
def slices_ContainsFunc_flow_Loop_flow_Loop_s1.f (s_0 : (List flow_Loop)) (f_1_2 : Int) (f_1_3 : Int) (f_1_4 : Int) (f_1_7 : Int) : Option Bool :=
  (slices_IndexFunc_flow_Loop_flow_Loop_s1.f s_0 f_1_2 f_1_3 f_1_4 f_1_7).bind fun t10 => some (decide (t10 ≥ 0))
theorem slices_ContainsFunc_flow_Loop_flow_Loop_s1.ok (s_0 : (List flow_Loop)) (f_1_2 : Int) (f_1_3 : Int) (f_1_4 : Int) (f_1_7 : Int) (v_s_0 : Value) (b5 : Nat) (b8 : Nat) (r : Bool) (H : slices_ContainsFunc_flow_Loop_flow_Loop_s1.f s_0 f_1_2 f_1_3 f_1_4 f_1_7 = some r) (w : World) (hV : Hp) (sV : Sub hV (hp w)) (h0 : slR k_flow_Loop hV v_s_0 s_0) (h1 : (boxP b5 [.int .u8 f_1_2, .int .i64 f_1_3, .int .i64 f_1_4] 52).p hV) (h2 : (boxP b8 [.int .i64 f_1_7] 3).p hV) :
    Trip Tryd.prog 48 [v_s_0, .func (.func 46) #[] #[.pointer (some ⟨b5, 0, none⟩), .pointer (some ⟨b8, 0, none⟩)]].toArray em hV w (fun v => HO.pure (v = .bool r)) := by
  have see : Sees w em hV := ⟨sV, Dj.em_right _⟩
  refine Trip.of (P := Tryd.prog) (n := ⟨9, []⟩) Tryd.func48 rfl ⟨rfl, rfl⟩ rfl (St.begin (All.cons (x := slP k_flow_Loop v_s_0 s_0) h0 (All.cons (x := boxP b5 [.int .u8 f_1_2, .int .i64 f_1_3, .int .i64 f_1_4] 52) h1 (All.cons (x := boxP b8 [.int .i64 f_1_7] 3) h2 (All.nil _))))) ?_
  have ho := H
  refine CP.seq ?_
  refine CP.region ?_
  refine SP.val (Val.assign rfl) rfl rfl rfl ?_
  refine SP.nil ?_
  refine QE.then ?_
  refine CP.seq ?_
  refine CP.region ?_
  refine SP.val (Val.move rfl) rfl rfl rfl ?_
  refine SP.val (Val.move rfl) rfl rfl rfl ?_
  obtain ⟨t10, hc, ho⟩ := bind_some (x := slices_IndexFunc_flow_Loop_flow_Loop_s1.f s_0 f_1_2 f_1_3 f_1_4 f_1_7) ho
  refine SP.callV see (caps := []) (.int .i64 t10) fn57 rfl rfl rfl rfl (fun w2 hP hs sub ap => slices_IndexFunc_flow_Loop_flow_Loop_s1.ok s_0 f_1_2 f_1_3 f_1_4 f_1_7 _ _ _ _ hc w2 hP sub (ap.get 0 rfl) (ap.get 1 rfl) (ap.get 2 rfl)) ?_
  clear hc
  refine SP.val (Val.geq rfl rfl) rfl rfl rfl ?_
  refine SP.val (Val.assign rfl) rfl rfl rfl ?_
  refine SP.nil ?_
  refine QE.then ?_
  refine CP.ret ?_
  obtain rfl := Option.some.inj ho
  exact QE.rets (rs := [.tmp 4]) (vs := [.bool (decide (t10 ≥ 0))]) Tryd.results48 rfl ⟨RVs.tmp rfl, trivial⟩ (fun w2 h => St.done (fun a b p s => rfl) h)
/-! ### capstan/flow.jumps: function 31 -/
inductive flow_jumps.S where
  | start
  | l1 (x27 : Int)

def flow_jumps.j1 (l_0 : (List api_Instr)) (loops_1 : (List flow_Loop)) (x27 : Int) : Option (flow_jumps.S ⊕ Bool) :=
  some (.inl (.l1 (IntKind.i64.wrap (x27 + 1))))

def flow_jumps.F (l_0 : (List api_Instr)) (loops_1 : (List flow_Loop)) : flow_jumps.S → Option (flow_jumps.S ⊕ Bool)
  | .start => some (.inl (.l1 0))
  | .l1 x27 => if x27 < (l_0.length : Int) then ((elt l_0 x27).bind fun x31 => if ((decide (x31.Op ≠ 26)) && (decide (x31.Op ≠ 27))) = true then (flow_jumps.j1 l_0 loops_1 x27) else ((if ((decide (x31.A ≤ x27)) || (decide (x31.A ≥ (l_0.length : Int)))) = true then (some true) else ((slices_ContainsFunc_flow_Loop_flow_Loop_s1.f loops_1 x31.Op x31.A x31.B x27).bind fun t49 => some t49)).bind fun t50 => if t50 = true then (some (.inr false)) else (flow_jumps.j1 l_0 loops_1 x27))) else (some (.inr true))

def flow_jumps.f (l_0 : (List api_Instr)) (loops_1 : (List flow_Loop)) : Option Bool := runF (flow_jumps.F l_0 loops_1) .start
theorem flow_jumps.ok (l_0 : (List api_Instr)) (loops_1 : (List flow_Loop)) (v_l_0 : Value) (v_loops_1 : Value) (r : Bool) (H : flow_jumps.f l_0 loops_1 = some r) (w : World) (hV : Hp) (sV : Sub hV (hp w)) (h0 : slR k_api_Instr hV v_l_0 l_0) (h1 : slR k_flow_Loop hV v_loops_1 loops_1) :
    Trip Tryd.prog 31 [v_l_0, v_loops_1].toArray em hV w (fun v => HO.pure (v = .bool r)) := by
  have see : Sees w em hV := ⟨sV, Dj.em_right _⟩
  refine Trip.of (P := Tryd.prog) (n := ⟨41, []⟩) Tryd.func31 rfl ⟨rfl, rfl⟩ rfl (St.begin (All.cons (x := slP k_api_Instr v_l_0 l_0) h0 (All.cons (x := slP k_flow_Loop v_loops_1 loops_1) h1 (All.nil _)))) ?_
  obtain ⟨n0, hi⟩ := runF_iff.1 H
  obtain ⟨m0, o, hm0, ho, hr⟩ := iter_some hi
  clear hi
  refine CP.seq ?_
  refine CP.region ?_
  refine SP.val (Val.assign rfl) rfl rfl rfl ?_
  refine SP.nil ?_
  refine QE.then ?_
  refine CP.seq ?_
  refine CP.seq ?_
  refine CP.region ?_
  refine SP.val (Val.move rfl) rfl rfl rfl ?_
  refine SP.val (Val.lenP see 0 rfl Tryd.underlying22 rfl) rfl rfl rfl ?_
  refine SP.val (Val.move rfl) rfl rfl rfl ?_
  refine SP.nil ?_
  refine QE.then ?_
  refine CP.block ?_
  obtain rfl := Option.some.inj ho
  refine CP.loop (fun cl1 a w2 => ∃ x27 : Int, cl1 ≤ m0 ∧ iter (flow_jumps.F l_0 loops_1) cl1 (.l1 x27) = some r ∧ Env ⟨41, []⟩ [(0, v_l_0), (1, v_loops_1), (8, v_l_0), (9, .int .i64 (l_0.length : Int)), (10, .int .i64 x27)] a ∧ St w em hV [slP k_api_Instr v_l_0 l_0, slP k_flow_Loop v_loops_1 loops_1] [] w2) m0 (fun a w2 ha hw => ⟨0, Nat.le_refl _, hr, ha.sub ⟨rfl, rfl, rfl, rfl, rfl, trivial⟩, hw⟩) ?_
  clear hr
  rintro cl1 a w2 ⟨x27, hc_l1, hi, ha, hw⟩
  obtain ⟨m28, o, hm_m28, ho, hr⟩ := iter_some hi
  refine CP.app ha hw ?_
  clear ha hw a w2 hi
  refine CP.seq ?_
  refine CP.region ?_
  refine SP.val (Val.lss rfl rfl) rfl rfl rfl ?_
  refine SP.nil ?_
  refine QE.then ?_
  refine CP.seq ?_
  rcases if_some ho with ⟨hc, ho⟩ | ⟨hc, ho⟩
  · refine CP.condT rfl (decide_eq_true hc) ?_
    refine CP.skip ?_
    refine QE.then ?_
    refine CP.join (fun a w2 => ∃ (m51 : Nat) (o : (flow_jumps.S ⊕ Bool)), m51 ≤ m28 ∧ flow_jumps.j1 l_0 loops_1 x27 = some o ∧ next (flow_jumps.F l_0 loops_1) m51 o = some r ∧ Env ⟨41, []⟩ [(0, v_l_0), (1, v_loops_1), (8, v_l_0), (9, .int .i64 (l_0.length : Int)), (10, .int .i64 x27)] a ∧ St w em hV [slP k_api_Instr v_l_0 l_0, slP k_flow_Loop v_loops_1 loops_1] [] w2) ?_ ?_
    · rintro a w2 ⟨m51, o, hm_m51, ho, hr, ha, hw⟩
      refine CP.app ha hw ?_
      clear ha hw a w2
      refine CP.region ?_
      refine SP.val (Val.add rfl rfl) rfl rfl rfl ?_
      refine SP.val (Val.move rfl) rfl rfl rfl ?_
      refine SP.nil ?_
      obtain rfl := Option.some.inj ho
      exact QE.lower m51 (by omega) fun a w2 ha hw => ⟨(IntKind.i64.wrap (x27 + 1)), (by omega), hr, ha.sub ⟨rfl, rfl, rfl, rfl, rfl, trivial⟩, hw⟩
    · refine CP.block ?_
      refine CP.seq ?_
      refine CP.region ?_
      refine SP.val (Val.move rfl) rfl rfl rfl ?_
      obtain ⟨x31, hx, ho⟩ := bind_some ho
      have hx := elt_some hx
      refine SP.indexP see 0 rfl Tryd.underlying22 sz52 hx.1 hx.2 rfl rfl rfl rfl (fun p29 => ?_)
      clear hx
      refine k_api_Instr.load see 0 rfl Tryd.underlying52 rfl sz52 rfl rfl rfl ?_
      refine SP.alloc (cs := [.int .i64 0]) inf3 rfl rfl (fun b32 => ?_)
      refine SP.alloc (cs := [.int .u8 0, .int .i64 0, .int .i64 0]) inf52 rfl rfl (fun b34 => ?_)
      refine SP.store (v := .int .i64 x27) (vs := [.int .i64 x27]) 1 (by rfl) sz3 (by rfl) (by rfl) (by rfl) (by rfl) (by rfl) (by rfl) ?_
      refine SP.store (v := .agg #[.int .u8 x31.Op, .int .i64 x31.A, .int .i64 x31.B]) (vs := [.int .u8 x31.Op, .int .i64 x31.A, .int .i64 x31.B]) 0 (by rfl) sz52 (by rfl) (by rfl) (by rfl) (by rfl) (by rfl) (by rfl) ?_
      refine SP.nil ?_
      refine QE.then ?_
      refine CP.seq ?_
      refine CP.seq ?_
      refine CP.region ?_
      refine SP.val (Val.fieldAddr Tryd.underlying52 rfl sz5 rfl) rfl rfl rfl ?_
      refine SP.val (Val.load1 0 rfl Tryd.underlying5 rfl rfl rfl) rfl rfl rfl ?_
      refine SP.val (Val.neq rfl rfl) rfl rfl rfl ?_
      refine SP.val (Val.move rfl) rfl rfl rfl ?_
      refine SP.join 4 (fun a w2 => Env ⟨41, []⟩ [(0, v_l_0), (1, v_loops_1), (8, v_l_0), (9, .int .i64 (l_0.length : Int)), (10, .int .i64 x27), (5, .pointer (some ⟨b32, 0, none⟩)), (6, .pointer (some ⟨b34, 0, none⟩)), (22, .bool ((decide (x31.Op ≠ 26)) && (decide (x31.Op ≠ 27))))] a ∧ St w em hV [elP k_api_Instr p29 x31, slP k_api_Instr v_l_0 l_0, slP k_flow_Loop v_loops_1 loops_1] [boxO b34 [.int .u8 x31.Op, .int .i64 x31.A, .int .i64 x31.B] 52, boxO b32 [.int .i64 x27] 3] w2) ?_ ?_
      · rintro a w2 ⟨ha, hw⟩
        refine SP.app ha hw ?_
        clear ha hw a w2
        refine SP.nil ?_
        refine QE.then ?_
        rcases if_some ho with ⟨hc, ho⟩ | ⟨hc, ho⟩
        · refine CP.condT rfl hc ?_
          refine CP.exit ?_
          refine QE.thru (by intro e; cases e) ?_
          refine QE.blockE ?_
          exact QE.meet fun a w2 ha hw => ⟨m28, _, (by omega), ho, hr, ha.sub ⟨rfl, rfl, rfl, rfl, rfl, trivial⟩, (St.selP [1, 2] rfl (St.selO [] rfl rfl hw))⟩
        · refine CP.condF rfl (bf hc) ?_
          refine CP.skip ?_
          refine QE.then ?_
          refine CP.seq ?_
          refine CP.region ?_
          refine SP.val (Val.makeFunc (us := []) (vs := [.pointer (some ⟨b34, 0, none⟩), .pointer (some ⟨b32, 0, none⟩)]) rfl rfl) rfl rfl rfl ?_
          refine SP.val (Val.assign rfl) rfl rfl rfl ?_
          refine SP.nil ?_
          refine QE.then ?_
          refine CP.seq ?_
          refine CP.region ?_
          refine SP.val (Val.fieldAddr Tryd.underlying52 rfl sz3 rfl) rfl rfl rfl ?_
          refine SP.val (Val.load1 0 rfl Tryd.underlying3 rfl rfl rfl) rfl rfl rfl ?_
          refine SP.val (Val.load1 1 rfl Tryd.underlying3 rfl rfl rfl) rfl rfl rfl ?_
          refine SP.val (Val.leq rfl rfl) rfl rfl rfl ?_
          refine SP.val (Val.move rfl) rfl rfl rfl ?_
          refine SP.join 6 (fun a w2 => Env ⟨41, []⟩ [(0, v_l_0), (1, v_loops_1), (8, v_l_0), (9, .int .i64 (l_0.length : Int)), (10, .int .i64 x27), (7, .func (.func 46) #[] #[.pointer (some ⟨b34, 0, none⟩), .pointer (some ⟨b32, 0, none⟩)]), (34, .bool ((decide (x31.A ≤ x27)) || (decide (x31.A ≥ (l_0.length : Int)))))] a ∧ St w em hV [elP k_api_Instr p29 x31, slP k_api_Instr v_l_0 l_0, slP k_flow_Loop v_loops_1 loops_1] [boxO b34 [.int .u8 x31.Op, .int .i64 x31.A, .int .i64 x31.B] 52, boxO b32 [.int .i64 x27] 3] w2) ?_ ?_
          · rintro a w2 ⟨ha, hw⟩
            refine SP.app ha hw ?_
            clear ha hw a w2
            refine SP.val (Val.move rfl) rfl rfl rfl ?_
            refine SP.freezeB see 0 rfl ?_
            refine SP.freezeB see 0 rfl ?_
            obtain ⟨t50, hg_t50, ho⟩ := bind_some ho
            refine SP.join 4 (fun a w2 => Env ⟨41, []⟩ [(0, v_l_0), (1, v_loops_1), (8, v_l_0), (9, .int .i64 (l_0.length : Int)), (10, .int .i64 x27), (39, .bool t50)] a ∧ St w em hV [boxP b32 [.int .i64 x27] 3, boxP b34 [.int .u8 x31.Op, .int .i64 x31.A, .int .i64 x31.B] 52, elP k_api_Instr p29 x31, slP k_api_Instr v_l_0 l_0, slP k_flow_Loop v_loops_1 loops_1] [] w2) ?_ ?_
            · rintro a w2 ⟨ha, hw⟩
              refine SP.app ha hw ?_
              clear ha hw a w2 hg_t50
              refine SP.nil ?_
              refine QE.then ?_
              rcases if_some ho with ⟨hc, ho⟩ | ⟨hc, ho⟩
              · refine CP.condT rfl hc ?_
                refine CP.seq ?_
                refine CP.region ?_
                refine SP.val (Val.assign rfl) rfl rfl rfl ?_
                refine SP.nil ?_
                refine QE.then ?_
                refine CP.ret ?_
                refine QE.blockR ?_
                refine QE.thru (by intro e; cases e) ?_
                refine QE.thru (by intro e; cases e) ?_
                refine QE.blockR ?_
                refine QE.thru (by intro e; cases e) ?_
                obtain rfl := Option.some.inj ho
                obtain rfl := Option.some.inj hr
                exact QE.rets (rs := [.tmp 4]) (vs := [.bool false]) Tryd.results31 rfl ⟨RVs.tmp rfl, trivial⟩ (fun w2 h => St.done (fun a b p s => rfl) h)
              · refine CP.condF rfl (bf hc) ?_
                refine CP.skip ?_
                refine QE.blockN ?_
                exact QE.meet fun a w2 ha hw => ⟨m28, _, (by omega), ho, hr, ha.sub ⟨rfl, rfl, rfl, rfl, rfl, trivial⟩, (St.selP [3, 4] rfl hw)⟩
            · intro J
              clear ho
              have ho := hg_t50
              clear hg_t50
              rcases if_some ho with ⟨hc, ho⟩ | ⟨hc, ho⟩
              · have hq48 := hc
                refine SP.isT (d := 35) rfl hq48 ?_
                refine SP.not rfl rfl rfl ?_
                refine SP.not rfl rfl rfl ?_
                refine SP.not rfl rfl rfl ?_
                refine SP.val (Val.pickT rfl rfl) rfl rfl rfl ?_
                obtain rfl := Option.some.inj ho
                exact J fun a w2 ha hw => ⟨ha.sub ⟨rfl, rfl, rfl, rfl, rfl, rfl, trivial⟩, hw⟩
              · have hq48 := (bf hc)
                refine SP.isF (d := 35) rfl hq48 ?_
                refine SP.val (Val.move rfl) rfl rfl rfl ?_
                refine SP.val (Val.move rfl) rfl rfl rfl ?_
                obtain ⟨t49, hc, ho⟩ := bind_some (x := slices_ContainsFunc_flow_Loop_flow_Loop_s1.f loops_1 x31.Op x31.A x31.B x27) ho
                refine SP.callV see (caps := []) (.bool t49) fn48 rfl rfl rfl rfl (fun w2 hP hs sub ap => slices_ContainsFunc_flow_Loop_flow_Loop_s1.ok loops_1 x31.Op x31.A x31.B x27 _ _ _ _ hc w2 hP sub (ap.get 4 rfl) (ap.get 1 rfl) (ap.get 0 rfl)) ?_
                clear hc
                refine SP.val (Val.pickF rfl rfl) rfl rfl rfl ?_
                obtain rfl := Option.some.inj ho
                exact J fun a w2 ha hw => ⟨ha.sub ⟨rfl, rfl, rfl, rfl, rfl, rfl, trivial⟩, hw⟩
          · intro J
            by_cases hc : x31.A ≤ x27
            · have hq39 := (decide_eq_true hc)
              refine SP.isT (d := 28) rfl hq39 ?_
              refine SP.not rfl rfl rfl ?_
              refine SP.not rfl rfl rfl ?_
              refine SP.not rfl rfl rfl ?_
              refine SP.not rfl rfl rfl ?_
              refine SP.not rfl rfl rfl ?_
              refine SP.val (Val.pickT rfl rfl) rfl rfl rfl ?_
              exact J fun a w2 ha hw => ⟨ha.sub ⟨rfl, rfl, rfl, rfl, rfl, rfl, congrArg (fun z => some (Value.bool z)) (or_t hq39), trivial⟩, hw⟩
            · have hq39 := (decide_eq_false hc)
              refine SP.isF (d := 28) rfl hq39 ?_
              refine SP.val (Val.fieldAddr Tryd.underlying52 rfl sz3 rfl) rfl rfl rfl ?_
              refine SP.val (Val.load1 0 rfl Tryd.underlying3 rfl rfl rfl) rfl rfl rfl ?_
              refine SP.val (Val.move rfl) rfl rfl rfl ?_
              refine SP.val (Val.lenP see 1 rfl Tryd.underlying22 rfl) rfl rfl rfl ?_
              refine SP.val (Val.geq rfl rfl) rfl rfl rfl ?_
              refine SP.val (Val.pickF rfl rfl) rfl rfl rfl ?_
              exact J fun a w2 ha hw => ⟨ha.sub ⟨rfl, rfl, rfl, rfl, rfl, rfl, congrArg (fun z => some (Value.bool z)) (or_f hq39 rfl), trivial⟩, hw⟩
      · intro J
        by_cases hc : x31.Op ≠ 26
        · have hq37 := (decide_eq_true hc)
          refine SP.isT (d := 18) rfl hq37 ?_
          refine SP.val (Val.fieldAddr Tryd.underlying52 rfl sz5 rfl) rfl rfl rfl ?_
          refine SP.val (Val.load1 0 rfl Tryd.underlying5 rfl rfl rfl) rfl rfl rfl ?_
          refine SP.val (Val.neq rfl rfl) rfl rfl rfl ?_
          refine SP.val (Val.pickT rfl rfl) rfl rfl rfl ?_
          exact J fun a w2 ha hw => ⟨ha.sub ⟨rfl, rfl, rfl, rfl, rfl, rfl, rfl, congrArg (fun z => some (Value.bool z)) (and_t hq37 rfl), trivial⟩, hw⟩
        · have hq37 := (decide_eq_false hc)
          refine SP.isF (d := 18) rfl hq37 ?_
          refine SP.not rfl rfl rfl ?_
          refine SP.not rfl rfl rfl ?_
          refine SP.not rfl rfl rfl ?_
          refine SP.val (Val.pickF rfl rfl) rfl rfl rfl ?_
          exact J fun a w2 ha hw => ⟨ha.sub ⟨rfl, rfl, rfl, rfl, rfl, rfl, rfl, congrArg (fun z => some (Value.bool z)) (and_f hq37), trivial⟩, hw⟩
  · refine CP.condF rfl (decide_eq_false hc) ?_
    refine CP.exit ?_
    refine QE.thru (by intro e; cases e) ?_
    refine QE.thru (by intro e; cases e) ?_
    refine QE.blockE ?_
    refine QE.then ?_
    refine CP.seq ?_
    refine CP.region ?_
    refine SP.val (Val.assign rfl) rfl rfl rfl ?_
    refine SP.nil ?_
    refine QE.then ?_
    refine CP.ret ?_
    obtain rfl := Option.some.inj ho
    obtain rfl := Option.some.inj hr
    exact QE.rets (rs := [.tmp 4]) (vs := [.bool true]) Tryd.results31 rfl ⟨RVs.tmp rfl, trivial⟩ (fun w2 h => St.done (fun a b p s => rfl) h)
/-! ### slices.SortFunc[[]capstan/flow.Loop,capstan/flow.Loop]: function 32 -/
shelf_lay_g SlLaysF0.n6 Slsf 6 at Tryd 32 as Tryd.sort32
shelf_lay_g SlLaysC2.n5 Slgc 5 at Tryd 34 as Tryd.cmp34
shelf_lay Lays.n125 Nm 125 at Tryd as Tryd.bitsLen50
instance : Inhabited flow_Loop := ⟨flow_Loop.zero⟩
def enc32 (x : flow_Loop) : List Value := [.int .i64 x.From, .int .i64 x.To, .int .i64 x.Turns]
def cf32 (x y : flow_Loop) : Int := Lib.compareInt x.From y.From
theorem lt32 (x y : flow_Loop) : Go.Proofs.ltOf cf32 x y = decide (x.From < y.From) := by
  unfold Go.Proofs.ltOf cf32 Lib.compareInt
  by_cases h1 : x.From < y.From
  · simp [h1]
  · by_cases h2 : y.From < x.From <;> simp [h1, h2]
theorem swo32 : Go.Sort.SWO (Go.Proofs.ltOf cf32) where
  irrefl x := by rw [lt32]; simp
  trans x y z h1 h2 := by rw [lt32] at *; simp at *; omega
  ntrans x y z h1 h2 := by rw [lt32] at *; simp at *; omega
set_option maxHeartbeats 1000000 in
theorem clos32 (x y : flow_Loop) (W : World) : Calls Tryd.prog 33 #[.agg (enc32 x).toArray, .agg (enc32 y).toArray] W fun e w' => e = .returned (.int .i64 (cf32 x y)) ∧ ∃ q os', w' = Go.Sort.grow (W.drewN q) os' := by
  have hcon := fun W' => Go.Proofs.AnyG.cmp_Compare_int Tryd.cmp34 x.From y.From W'
  change ∀ W', Calls Tryd.prog 34 _ _ _ at hcon
  unfold cf32 enc32
  generalize Lib.compareInt x.From y.From = r at hcon ⊢
  go_enter Tryd.func33, Tryd.ntmps33
  go_wp2_with (go_at_call 34; refine (hcon _).mono ?_; rintro e w' ⟨rfl, rfl⟩)
  go_ret
  exact ⟨rfl, 0, _, by rw [Go.Sort.alloc_eq_grow, Go.Sort.alloc_eq_grow, Go.Sort.grow_grow]; rfl⟩
/-- The library's sort, of a plain row. -/
def srt32 (d : Array flow_Loop) : Array flow_Loop := Go.Sort.pdq (Go.Proofs.ltOf cf32) d 0 d.size (Lib.bitLen d.size) true true
theorem srt32_sorts (d : Array flow_Loop) : Go.Sort.PermIn 0 d.size d (srt32 d) ∧ Go.Sort.SortedIn (Go.Proofs.ltOf cf32) 0 d.size (srt32 d) :=
  Go.Sort.pdq_sorts (Go.Proofs.ltOf cf32) swo32 d 0 d.size (Lib.bitLen d.size) true true (Nat.zero_le _) (Nat.le_refl _) (Or.inl rfl)
theorem ins32_nil (F : Value) (w : World) : Calls Tryd.prog 58 #[.slice none 0 0, .int .i64 0, .int .i64 0, F] w fun e w' => e = .returned (.tuple #[]) ∧ w' = w := by
  go_enter Tryd.func58, Tryd.ntmps58
  go_wp2
  refine wp_loop_rounds 1 ?_
  rw [rounds_succ]
  go_wp2
  go_end0
  exact ⟨rfl, rfl⟩
theorem pdq32_nil (F : Value) (w : World) : Calls Tryd.prog 49 #[.slice none 0 0, .int .i64 0, .int .i64 0, .int .i64 0, F] w fun e w' => e = .returned (.tuple #[]) ∧ w' = w := by
  have hi := ins32_nil F w
  go_enter Tryd.func49, Tryd.ntmps49
  go_wp2
  refine wp_loop_rounds 1 ?_
  rw [rounds_succ]
  go_wp2_with (go_at_call 58; refine hi.mono ?_; rintro e w' ⟨rfl, rfl⟩)
  (try simp only [Exit.inBlock, Exit.then]); refine bodyPost_ret (results_none rfl _ _ _) rfl ?_
  exact ⟨rfl, rfl⟩
theorem srt32_nil (F : Value) (w : World) : Calls Tryd.prog 32 #[.slice none 0 0, F] w fun e w' => e = .returned (.tuple #[]) ∧ w' = w := by
  have hi := pdq32_nil F w
  have hl : Calls Tryd.prog 50 #[.int .u64 0] w fun e w' => e = .returned (.int .i64 0) ∧ w' = w := by
    have h := Any.bits_Len Tryd.bitsLen50 0 w (by omega) (by omega)
    exact h
  go_enter Tryd.func32, Tryd.ntmps32
  go_wp2_with (first | (go_at_call 50; refine hl.mono ?_; rintro e w' ⟨rfl, rfl⟩) | (go_at_call 49; refine hi.mono ?_; rintro e w' ⟨rfl, rfl⟩))
  go_end0
  exact ⟨rfl, rfl⟩
theorem srt32_nilT (F : Value) (w : World) (hV : Hp) : Trip Tryd.prog 32 #[.slice none 0 0, F] em hV w (fun v => HO.pure (v = .tuple #[])) :=
  (srt32_nil F w).mono fun e w' ⟨he, hw⟩ => by
    subst hw
    exact ⟨_, he, Met.refl _, fun _ _ e _ => e, em, em, fun _ _ _ => rfl, fun _ _ _ => rfl, Dj.em_left _, Sub.em _, Sub.em _, rfl⟩
/-- A row of one's own, sorted where it lies. -/
theorem srt32_trip {v : Value} {l : List flow_Loop} (hll : l.length < 4611686018427387904) {w : World} {hP h1 : Hp} (sub : Sub hP (hp w)) (s1 : Sub h1 (hp w)) (dj : Dj hP h1) (hI : (slO k_flow_Loop 40 v l).p hP h1) :
    Trip Tryd.prog 32 #[v, .func (.func 33) #[] #[]] h1 hP w (fun r => HO.pand (r = .tuple #[]) (HO.seps [slO k_flow_Loop 40 v (srt32 l.toArray).toList])) := by
  refine slO.rowTrip (fun v => #[v, .func (.func 33) #[] #[]]) (fun _ => .tuple #[]) enc32 (fun h cs x => Iff.rfl) srt32 (fun d => (srt32_sorts d).1.1) (fun blk cap d w hH hb hsz _ _ => ?_) (fun _ w hV sV => ?_) hll sub s1 dj hI
  · exact AnyQ.slices_SortFunc_eq Tryd.sort32 3 Tryd.isAgg40 Tryd.sizeOf40 enc32 (fun _ => rfl) (fun x v hv => by simp [enc32] at hv; rcases hv with rfl | rfl | rfl <;> rfl) cf32 swo32 33 #[] blk 0 cap d w (enters_of Tryd.func33 (by kernel_rfl) rfl) (fun _ _ _ _ x y => clos32 x y _) hH hb hsz
  · exact srt32_nilT _ w hV


/-! ### capstan/flow.Loops: function 11 -/
inductive flow_Loops.S where
  | start
  | l1 (l52 : List Int) (x53 : Int) (l55 : List flow_Loop) (x57 : Int)

def flow_Loops.j1 (l_0 : (List api_Instr))  : Option (flow_Loops.S ⊕ ((List flow_Loop) × Int)) :=
  some (.inr ([], 90))

def flow_Loops.j2 (l_0 : (List api_Instr)) (x57 : Int) (l80 : List Int) (x81 : Int) (l83 : List flow_Loop) : Option (flow_Loops.S ⊕ ((List flow_Loop) × Int)) :=
  some (.inl (.l1 l80 x81 l83 (IntKind.i64.wrap (x57 + 1))))

def flow_Loops.F (l_0 : (List api_Instr)) : flow_Loops.S → Option (flow_Loops.S ⊕ ((List flow_Loop) × Int))
  | .start => (if ((decide ((l_0.length : Int) = 0)) || (decide ((l_0.length : Int) > 200))) = true then (some true) else ((slices_ContainsFunc_api_Instr_api_Instr_s1.f l_0).bind fun t6 => some t6)).bind fun t7 => if t7 = true then (some (.inr ([], 40))) else (some (.inl (.l1 (List.replicate 4 0 : List Int) 0 [] 0)))
  | .l1 l52 x53 l55 x57 => if x57 < (l_0.length : Int) then ((elt l_0 x57).bind fun x61 => if x61.Op = 28 then ((flow_open_push_s2.f l52 x53 x57).bind fun t64 => if (!t64.1) = true then (flow_Loops.j1 l_0) else (flow_Loops.j2 l_0 x57 t64.2.1 t64.2.2 l55)) else (if x61.Op = 29 then ((flow_open_pop_s2.f l52 x53 x61.A).bind fun t65 => if (!t65.1) = true then (flow_Loops.j1 l_0) else ((elt l_0 x61.A).bind fun x68 => if (l55.length + [(⟨x61.A, x57, x68.A⟩ : flow_Loop)].length) * 24 ≤ 140737488355328 then (flow_Loops.j2 l_0 x57 t65.2.1 t65.2.2 (l55 ++ [(⟨x61.A, x57, x68.A⟩ : flow_Loop)])) else none)) else (flow_Loops.j2 l_0 x57 l52 x53 l55))) else ((if x53 > 0 then (some true) else ((elt l_0 (IntKind.i64.wrap ((l_0.length : Int) - 1))).bind fun x90 => (flow_last.f x90).bind fun t91 => some (!t91))).bind fun t92 => (if t92 = true then (some true) else ((flow_jumps.f l_0 l55).bind fun t95 => some (!t95))).bind fun t96 => if t96 = true then (flow_Loops.j1 l_0) else (if l55.length < 4611686018427387904 then (some (.inr ((srt32 l55.toArray).toList, 0))) else none))

def flow_Loops.f (l_0 : (List api_Instr)) : Option ((List flow_Loop) × Int) := runF (flow_Loops.F l_0) .start
theorem flow_Loops.ok (l_0 : (List api_Instr)) (v_l_0 : Value)  (r : (List flow_Loop) × Int) (H : flow_Loops.f l_0 = some r) (w : World) (hV : Hp) (sV : Sub hV (hp w)) (h0 : slR k_api_Instr hV v_l_0 l_0) (h1 : (arrP k_arr88 0 tab0).p hV) :
    Trip Tryd.prog 11 [v_l_0].toArray em hV w (fun v => HO.ex fun u0 : Value => HO.pand (v = .tuple #[u0, .int .i64 r.2]) (HO.seps [slO k_flow_Loop 40 u0 r.1])) := by
  have see : Sees w em hV := ⟨sV, Dj.em_right _⟩
  refine Trip.of (P := Tryd.prog) (n := ⟨76, []⟩) Tryd.func11 rfl ⟨rfl, rfl⟩ rfl (St.begin (All.cons (x := slP k_api_Instr v_l_0 l_0) h0 (All.cons (x := arrP k_arr88 0 tab0) h1 (All.nil _)))) ?_
  obtain ⟨n0, hi⟩ := runF_iff.1 H
  obtain ⟨m0, o, hm0, ho, hr⟩ := iter_some hi
  clear hi
  refine CP.seq ?_
  refine CP.region ?_
  refine SP.val (Val.assign rfl) rfl rfl rfl ?_
  refine SP.val (Val.assign rfl) rfl rfl rfl ?_
  refine SP.nil ?_
  refine QE.then ?_
  refine CP.scope 0 (fun a w2 => ∃ (m107 : Nat) (o : (flow_Loops.S ⊕ ((List flow_Loop) × Int))), m107 ≤ m0 ∧ flow_Loops.j1 l_0 = some o ∧ next (flow_Loops.F l_0) m107 o = some r ∧ Env ⟨76, []⟩ [] a ∧ St w em hV [arrP k_arr88 0 tab0] [] w2) rfl (fun _ _ _ h => h) ?_ ?_
  · rintro a w2 ⟨m107, o, hm_m107, ho, hr, ha, hw⟩
    refine CP.app ha hw ?_
    clear ha hw a w2
    refine CP.seq ?_
    refine CP.skip ?_
    refine QE.then ?_
    refine CP.seq ?_
    refine CP.region ?_
    refine SP.val (Val.assign rfl) rfl rfl rfl ?_
    refine SP.val (Val.assign rfl) rfl rfl rfl ?_
    refine SP.nil ?_
    refine QE.then ?_
    refine CP.ret ?_
    obtain rfl := Option.some.inj ho
    obtain rfl := Option.some.inj hr
    exact QE.rets (rs := [.tmp 2, .tmp 3]) (vs := [(.slice none 0 0), .int .i64 90]) Tryd.results11 rfl ⟨RVs.tmp rfl, RVs.tmp rfl, trivial⟩ (fun w2 h => St.done (fun a b p s => ⟨_, rfl, s⟩) (St.selO [0] rfl rfl (St.addO (slO.nil k_flow_Loop 40) h)))
  · refine CP.seq ?_
    refine CP.seq ?_
    refine CP.region ?_
    refine SP.val (Val.move rfl) rfl rfl rfl ?_
    refine SP.val (Val.lenP see 0 rfl Tryd.underlying22 rfl) rfl rfl rfl ?_
    refine SP.val (Val.eql rfl rfl) rfl rfl rfl ?_
    refine SP.val (Val.move rfl) rfl rfl rfl ?_
    refine SP.join 4 (fun a w2 => Env ⟨76, []⟩ [(0, v_l_0), (15, .bool ((decide ((l_0.length : Int) = 0)) || (decide ((l_0.length : Int) > 200))))] a ∧ St w em hV [slP k_api_Instr v_l_0 l_0, arrP k_arr88 0 tab0] [] w2) ?_ ?_
    · rintro a w2 ⟨ha, hw⟩
      refine SP.app ha hw ?_
      clear ha hw a w2
      refine SP.val (Val.move rfl) rfl rfl rfl ?_
      obtain ⟨t7, hg_t7, ho⟩ := bind_some ho
      refine SP.join 3 (fun a w2 => Env ⟨76, []⟩ [(0, v_l_0), (19, .bool t7)] a ∧ St w em hV [slP k_api_Instr v_l_0 l_0, arrP k_arr88 0 tab0] [] w2) ?_ ?_
      · rintro a w2 ⟨ha, hw⟩
        refine SP.app ha hw ?_
        clear ha hw a w2 hg_t7
        refine SP.nil ?_
        refine QE.then ?_
        rcases if_some ho with ⟨hc, ho⟩ | ⟨hc, ho⟩
        · refine CP.condT rfl hc ?_
          refine CP.seq ?_
          refine CP.region ?_
          refine SP.val (Val.assign rfl) rfl rfl rfl ?_
          refine SP.val (Val.assign rfl) rfl rfl rfl ?_
          refine SP.nil ?_
          refine QE.then ?_
          refine CP.ret ?_
          refine QE.thru (by intro e; cases e) ?_
          refine QE.scopeX rfl ?_
          obtain rfl := Option.some.inj ho
          obtain rfl := Option.some.inj hr
          exact QE.rets (rs := [.tmp 2, .tmp 3]) (vs := [(.slice none 0 0), .int .i64 40]) Tryd.results11 rfl ⟨RVs.tmp rfl, RVs.tmp rfl, trivial⟩ (fun w2 h => St.done (fun a b p s => ⟨_, rfl, s⟩) (St.selO [0] rfl rfl (St.addO (slO.nil k_flow_Loop 40) h)))
        · refine CP.condF rfl (bf hc) ?_
          refine CP.skip ?_
          refine QE.then ?_
          refine CP.seq ?_
          refine CP.region ?_
          refine SP.val (Val.assign rfl) rfl rfl rfl ?_
          refine SP.nil ?_
          refine QE.then ?_
          refine CP.seq ?_
          refine CP.region ?_
          refine SP.alloc (cs := [.int .i64 0, .int .i64 0, .int .i64 0, .int .i64 0, .int .i64 0]) inf63 rfl rfl (fun b9 => ?_)
          refine SP.nil ?_
          refine QE.then ?_
          refine CP.seq ?_
          refine CP.seq ?_
          refine CP.region ?_
          refine SP.val (Val.move rfl) rfl rfl rfl ?_
          refine SP.val (Val.lenP see 0 rfl Tryd.underlying22 rfl) rfl rfl rfl ?_
          refine SP.val (Val.move rfl) rfl rfl rfl ?_
          refine SP.nil ?_
          refine QE.then ?_
          refine CP.block ?_
          obtain rfl := Option.some.inj ho
          refine CP.loop (fun cl1 a w2 => ∃ l52 : List Int, ∃ x53 : Int, ∃ l55 : List flow_Loop, ∃ x57 : Int, ∃ v56 : Value, cl1 ≤ m0 ∧ iter (flow_Loops.F l_0) cl1 (.l1 l52 x53 l55 x57) = some r ∧ Env ⟨76, []⟩ [(0, v_l_0), (4, v56), (5, .pointer (some ⟨b9, 0, none⟩)), (20, v_l_0), (21, .int .i64 (l_0.length : Int)), (22, .int .i64 x57)] a ∧ St w em hV [slP k_api_Instr v_l_0 l_0, arrP k_arr88 0 tab0] [slO k_flow_Loop 40 v56 l55, arrO b9 [] (fun z : Int => Value.int .i64 z) 4 l52 [.int .i64 x53] 63] w2) m0 (fun a w2 ha hw => ⟨(List.replicate 4 0 : List Int), 0, [], 0, (.slice none 0 0), Nat.le_refl _, hr, ha.sub ⟨rfl, rfl, rfl, rfl, rfl, rfl, trivial⟩, (St.addO (slO.nil k_flow_Loop 40) (St.arr (f := (fun z : Int => Value.int .i64 z)) 0 rfl (List.replicate 4 0 : List Int) [] [.int .i64 0] rfl rfl hw))⟩) ?_
          clear hr
          rintro cl1 a w2 ⟨l52, x53, l55, x57, v56, hc_l1, hi, ha, hw⟩
          obtain ⟨m58, o, hm_m58, ho, hr⟩ := iter_some hi
          refine CP.app ha hw ?_
          clear ha hw a w2 hi
          refine CP.seq ?_
          refine CP.region ?_
          refine SP.val (Val.lss rfl rfl) rfl rfl rfl ?_
          refine SP.nil ?_
          refine QE.then ?_
          refine CP.seq ?_
          rcases if_some ho with ⟨hc, ho⟩ | ⟨hc, ho⟩
          · refine CP.condT rfl (decide_eq_true hc) ?_
            refine CP.skip ?_
            refine QE.then ?_
            refine CP.join (fun a w2 => ∃ l80 : List Int, ∃ x81 : Int, ∃ l83 : List flow_Loop, ∃ v84 : Value, ∃ (m85 : Nat) (o : (flow_Loops.S ⊕ ((List flow_Loop) × Int))), m85 ≤ m58 ∧ flow_Loops.j2 l_0 x57 l80 x81 l83 = some o ∧ next (flow_Loops.F l_0) m85 o = some r ∧ Env ⟨76, []⟩ [(0, v_l_0), (4, v84), (5, .pointer (some ⟨b9, 0, none⟩)), (20, v_l_0), (21, .int .i64 (l_0.length : Int)), (22, .int .i64 x57)] a ∧ St w em hV [slP k_api_Instr v_l_0 l_0, arrP k_arr88 0 tab0] [slO k_flow_Loop 40 v84 l83, arrO b9 [] (fun z : Int => Value.int .i64 z) 4 l80 [.int .i64 x81] 63] w2) ?_ ?_
            · rintro a w2 ⟨l80, x81, l83, v84, m85, o, hm_m85, ho, hr, ha, hw⟩
              refine CP.app ha hw ?_
              clear ha hw a w2
              refine CP.region ?_
              refine SP.val (Val.add rfl rfl) rfl rfl rfl ?_
              refine SP.val (Val.move rfl) rfl rfl rfl ?_
              refine SP.nil ?_
              obtain rfl := Option.some.inj ho
              exact QE.lower m85 (by omega) fun a w2 ha hw => ⟨l80, x81, l83, (IntKind.i64.wrap (x57 + 1)), v84, (by omega), hr, ha.sub ⟨rfl, rfl, rfl, rfl, rfl, rfl, trivial⟩, hw⟩
            · refine CP.block ?_
              refine CP.seq ?_
              refine CP.region ?_
              refine SP.val (Val.move rfl) rfl rfl rfl ?_
              obtain ⟨x61, hx, ho⟩ := bind_some ho
              have hx := elt_some hx
              refine SP.indexP see 0 rfl Tryd.underlying22 sz52 hx.1 hx.2 rfl rfl rfl rfl (fun p59 => ?_)
              clear hx
              refine k_api_Instr.load see 0 rfl Tryd.underlying52 rfl sz52 rfl rfl rfl ?_
              refine SP.alloc (cs := [.int .u8 0, .int .i64 0, .int .i64 0]) inf52 rfl rfl (fun b62 => ?_)
              refine SP.val (Val.assign rfl) rfl rfl rfl ?_
              refine SP.store (v := .agg #[.int .u8 x61.Op, .int .i64 x61.A, .int .i64 x61.B]) (vs := [.int .u8 x61.Op, .int .i64 x61.A, .int .i64 x61.B]) 0 (by rfl) sz52 (by rfl) (by rfl) (by rfl) (by rfl) (by rfl) (by rfl) ?_
              refine SP.nil ?_
              refine QE.then ?_
              refine CP.seq ?_
              refine CP.region ?_
              refine SP.val (Val.fieldAddr Tryd.underlying52 rfl sz5 rfl) rfl rfl rfl ?_
              refine SP.val (Val.load1 0 rfl Tryd.underlying5 rfl rfl rfl) rfl rfl rfl ?_
              refine SP.nil ?_
              refine QE.then ?_
              refine CP.block ?_
              refine CP.seq ?_
              refine CP.region ?_
              refine SP.val (Val.eql rfl rfl) rfl rfl rfl ?_
              refine SP.val (Val.assign rfl) rfl rfl rfl ?_
              refine SP.nil ?_
              refine QE.then ?_
              rcases if_some ho with ⟨hc, ho⟩ | ⟨hc, ho⟩
              · refine CP.condT rfl (decide_eq_true hc) ?_
                refine CP.seq ?_
                refine CP.region ?_
                refine SP.val (Val.move rfl) rfl rfl rfl ?_
                refine SP.imp (fun w2 hw => St.selO [2, 0, 1] rfl rfl hw) ?_
                obtain ⟨t64, hc, ho⟩ := bind_some (x := flow_open_push_s2.f l52 x53 x57) ho
                refine SP.callA see (caps := []) (X := arrO b9 [] (fun z : Int => Value.int .i64 z) 4 l52 [.int .i64 x53] 63) _ fn28 rfl rfl rfl rfl (fun w2 hP h1 sub s1 d1 ap hI => flow_open_push_s2.ok l52 x53 x57  _ hc w2 hP sub  _ h1 s1 d1 hI) (fun vr => ?_)
                refine SP.have (fun w2 h => (St.pand h).1.symm) (fun er => ?_)
                subst er
                refine SP.imp (fun w2 h => St.seps (St.pand h).2) ?_
                clear hc
                refine SP.val (Val.notB rfl) rfl rfl rfl ?_
                refine SP.nil ?_
                refine QE.then ?_
                rcases if_some ho with ⟨hc, ho⟩ | ⟨hc, ho⟩
                · refine CP.condT rfl hc ?_
                  refine CP.goto ?_
                  refine QE.blockG ?_
                  refine QE.blockG ?_
                  refine QE.thru (by intro e; cases e) ?_
                  refine QE.thru (by intro e; cases e) ?_
                  refine QE.blockG ?_
                  refine QE.thru (by intro e; cases e) ?_
                  exact QE.jump fun a w2 ha hw => ⟨m58, _, (by omega), ho, hr, ha.sub trivial, (St.selP [2] rfl (St.selO [] rfl rfl hw))⟩
                · refine CP.condF rfl (bf hc) ?_
                  refine CP.skip ?_
                  refine QE.blockN ?_
                  refine QE.blockN ?_
                  exact QE.meet fun a w2 ha hw => ⟨t64.2.1, t64.2.2, l55, v56, m58, _, (by omega), ho, hr, ha.sub ⟨rfl, rfl, rfl, rfl, rfl, rfl, trivial⟩, (St.selP [1, 2] rfl (St.selO [2, 0] rfl rfl hw))⟩
              · refine CP.condF rfl (decide_eq_false hc) ?_
                refine CP.seq ?_
                refine CP.region ?_
                refine SP.val (Val.eql rfl rfl) rfl rfl rfl ?_
                refine SP.val (Val.assign rfl) rfl rfl rfl ?_
                refine SP.nil ?_
                refine QE.then ?_
                rcases if_some ho with ⟨hc, ho⟩ | ⟨hc, ho⟩
                · refine CP.condT rfl (decide_eq_true hc) ?_
                  refine CP.seq ?_
                  refine CP.seq ?_
                  refine CP.region ?_
                  refine SP.val (Val.fieldAddr Tryd.underlying52 rfl sz3 rfl) rfl rfl rfl ?_
                  refine SP.val (Val.load1 0 rfl Tryd.underlying3 rfl rfl rfl) rfl rfl rfl ?_
                  refine SP.imp (fun w2 hw => St.selO [2, 0, 1] rfl rfl hw) ?_
                  obtain ⟨t65, hc, ho⟩ := bind_some (x := flow_open_pop_s2.f l52 x53 x61.A) ho
                  refine SP.callA see (caps := []) (X := arrO b9 [] (fun z : Int => Value.int .i64 z) 4 l52 [.int .i64 x53] 63) _ fn29 rfl rfl rfl rfl (fun w2 hP h1 sub s1 d1 ap hI => flow_open_pop_s2.ok l52 x53 x61.A  _ hc w2 hP sub  _ h1 s1 d1 hI) (fun vr => ?_)
                  refine SP.have (fun w2 h => (St.pand h).1.symm) (fun er => ?_)
                  subst er
                  refine SP.imp (fun w2 h => St.seps (St.pand h).2) ?_
                  clear hc
                  refine SP.val (Val.notB rfl) rfl rfl rfl ?_
                  refine SP.nil ?_
                  refine QE.then ?_
                  rcases if_some ho with ⟨hc, ho⟩ | ⟨hc, ho⟩
                  · refine CP.condT rfl hc ?_
                    refine CP.goto ?_
                    refine QE.thru (by intro e; cases e) ?_
                    refine QE.blockG ?_
                    refine QE.blockG ?_
                    refine QE.thru (by intro e; cases e) ?_
                    refine QE.thru (by intro e; cases e) ?_
                    refine QE.blockG ?_
                    refine QE.thru (by intro e; cases e) ?_
                    exact QE.jump fun a w2 ha hw => ⟨m58, _, (by omega), ho, hr, ha.sub trivial, (St.selP [2] rfl (St.selO [] rfl rfl hw))⟩
                  · refine CP.condF rfl (bf hc) ?_
                    refine CP.skip ?_
                    refine QE.then ?_
                    refine CP.drawA (by kernel_rfl) (fun w2 k h => h.drawn k) ?_
                    obtain ⟨x68, hx, ho⟩ := bind_some ho
                    have hx := elt_some hx
                    refine DA.ghost (fun w2 h => h.elem see 1 rfl hx.1 hx.2) (fun p66 h_p66 => ?_)
                    clear hx
                    refine DA.ghost (fun w2 h => h.fieldE see 0 rfl k_api_Instr.part_A) (fun p69 h_p69 => ?_)
                    refine DA.ghost (fun w2 h => h.openE see 0 rfl (fun _ : Unit => [.int .i64 x68.A]) (fun _ => []) (fun h cs e => ⟨(), e, All.nil _⟩)) (fun _ _ => ?_)
                    refine DA.phase (fun i => Nat.ble 0 i && Nat.blt i 12) (fun w2 => St w em hV [atP p69 [.int .i64 x68.A], elP (kInt .i64) p69 x68.A, elP k_api_Instr p66 x68, elP k_api_Instr p59 x61, slP k_api_Instr v_l_0 l_0, arrP k_arr88 0 tab0] [arrO b9 [] (fun z : Int => Value.int .i64 z) 4 t65.2.1 [.int .i64 t65.2.2] 63, boxO b62 [.int .u8 x61.Op, .int .i64 x61.A, .int .i64 x61.B] 52, slO k_flow_Loop 40 v56 l55] w2) ?_
                    refine DT.take 0 rfl rfl rfl rfl (by kernel_rfl) (fun _ _ _ h => h) (Val.move rfl) (fun w2 hw => hw) ?_
                    refine DT.take 1 rfl rfl rfl rfl (by kernel_rfl) (fun _ _ _ h => h) (Val.fieldAddr Tryd.underlying52 rfl sz3 rfl) (fun w2 hw => hw) ?_
                    refine DT.take 2 rfl rfl rfl rfl (by kernel_rfl) (fun _ _ _ h => h) (Val.load1 1 rfl Tryd.underlying3 rfl rfl rfl) (fun w2 hw => hw) ?_
                    refine DT.take 3 rfl rfl rfl rfl (by kernel_rfl) (fun _ _ _ h => h) (Val.move rfl) (fun w2 hw => hw) ?_
                    refine DT.take 4 rfl rfl rfl rfl (by kernel_rfl) (fun _ _ _ h => h) (Val.move rfl) (fun w2 hw => hw) ?_
                    refine DT.take 5 rfl rfl rfl rfl (by kernel_rfl) (fun _ _ _ h => h) (Val.fieldAddr Tryd.underlying52 rfl sz3 rfl) (fun w2 hw => hw) ?_
                    refine DT.take 6 rfl rfl rfl rfl (by kernel_rfl) (fun _ _ _ h => h) (Val.load1 1 rfl Tryd.underlying3 rfl rfl rfl) (fun w2 hw => hw) ?_
                    refine DT.take 7 rfl rfl rfl rfl (by kernel_rfl) (fun _ _ _ h => h) (Val.indexE h_p66 Tryd.underlying22 sz52 rfl rfl) (fun w2 hw => hw) ?_
                    refine DT.take 8 rfl rfl rfl rfl (by kernel_rfl) (fun _ _ _ h => h) (Val.fieldE h_p69 Tryd.underlying52 rfl rfl sz3 rfl) (fun w2 hw => hw) ?_
                    refine DT.take 9 rfl rfl rfl rfl (by kernel_rfl) (fun _ _ _ h => h) (Val.loadAt1 see 0 rfl Tryd.underlying3 rfl rfl) (fun w2 hw => hw) ?_
                    refine DT.take 10 rfl rfl rfl rfl (by kernel_rfl) (fun _ _ _ h => h) (Val.buildC (us := [(0, .int .i64 x61.A), (1, .int .i64 x57), (2, .int .i64 x68.A)]) (ucs := [(0, [.int .i64 x61.A]), (1, [.int .i64 x57]), (2, [.int .i64 x68.A])]) (cs := [.int .i64 x61.A, .int .i64 x57, .int .i64 x68.A]) bt40 rfl rfl ⟨rfl, rfl, ⟨rfl, rfl, ⟨rfl, rfl, trivial⟩⟩⟩ (by rfl)) (fun w2 hw => hw) ?_
                    refine DT.one 11 rfl (by kernel_rfl) rfl ?_
                    refine SP.lit (k := k_flow_Loop) (xs := [(⟨x61.A, x57, x68.A⟩ : flow_Loop)]) (vs := [.agg #[.int .i64 x61.A, .int .i64 x57, .int .i64 x68.A]]) (cells := [.int .i64 x61.A, .int .i64 x57, .int .i64 x68.A]) Tryd.underlying30 inf40 rfl rfl rfl rfl rfl rfl rfl rfl (fun _ ap => ⟨[.int .i64 x61.A, .int .i64 x57, .int .i64 x68.A], _, rfl, rfl, rfl⟩) rfl rfl rfl (fun v76 => ?_)
                    refine SP.nil ?_
                    refine QE.atT (fun w2 hw => (St.selO [1, 2, 3] rfl rfl hw)) ?_
                    refine DT.next (by kernel_rfl) ?_
                    refine DA.one 12 rfl (by kernel_rfl) ?_
                    refine SP.freezeS see 0 rfl ?_
                    obtain ⟨hb, ho⟩ := must_some ho
                    refine SP.append see 2 rfl 0 rfl Tryd.underlying30 inf40 rfl rfl hb rfl rfl rfl rfl rfl (fun v78 => ?_)
                    clear hb
                    refine SP.nil ?_
                    refine QE.atA ?_
                    refine DA.one 13 rfl (by kernel_rfl) ?_
                    refine SP.val (Val.assign rfl) rfl rfl rfl ?_
                    refine SP.nil ?_
                    refine QE.atA ?_
                    refine DA.done (by kernel_rfl) ?_
                    refine QE.blockN ?_
                    refine QE.blockN ?_
                    exact QE.meet fun a w2 ha hw => ⟨t65.2.1, t65.2.2, (l55 ++ [(⟨x61.A, x57, x68.A⟩ : flow_Loop)]), v78, m58, _, (by omega), ho, hr, ha.sub ⟨rfl, rfl, rfl, rfl, rfl, rfl, trivial⟩, (St.selP [5, 6] rfl (St.selO [2, 0] rfl rfl hw))⟩
                · refine CP.condF rfl (decide_eq_false hc) ?_
                  refine CP.skip ?_
                  refine QE.blockN ?_
                  refine QE.blockN ?_
                  exact QE.meet fun a w2 ha hw => ⟨l52, x53, l55, v56, m58, _, (by omega), ho, hr, ha.sub ⟨rfl, rfl, rfl, rfl, rfl, rfl, trivial⟩, (St.selP [1, 2] rfl (St.selO [1, 2] rfl rfl hw))⟩
          · refine CP.condF rfl (decide_eq_false hc) ?_
            refine CP.exit ?_
            refine QE.thru (by intro e; cases e) ?_
            refine QE.thru (by intro e; cases e) ?_
            refine QE.blockE ?_
            refine QE.then ?_
            refine CP.seq ?_
            refine CP.seq ?_
            refine CP.region ?_
            refine SP.val (Val.fieldAddr Tryd.underlying63 rfl sz3 rfl) rfl rfl rfl ?_
            refine SP.val (Val.loadArrPost (k := 0) 1 rfl Tryd.underlying3 rfl rfl rfl rfl) rfl rfl rfl ?_
            refine SP.val (Val.gtr rfl rfl) rfl rfl rfl ?_
            refine SP.val (Val.move rfl) rfl rfl rfl ?_
            obtain ⟨t92, hg_t92, ho⟩ := bind_some ho
            refine SP.join 9 (fun a w2 => Env ⟨76, []⟩ [(0, v_l_0), (4, v56), (66, .bool t92)] a ∧ St w em hV [slP k_api_Instr v_l_0 l_0, arrP k_arr88 0 tab0] [slO k_flow_Loop 40 v56 l55, arrO b9 [] (fun z : Int => Value.int .i64 z) 4 l52 [.int .i64 x53] 63] w2) ?_ ?_
            · rintro a w2 ⟨ha, hw⟩
              refine SP.app ha hw ?_
              clear ha hw a w2 hg_t92
              refine SP.val (Val.move rfl) rfl rfl rfl ?_
              obtain ⟨t96, hg_t96, ho⟩ := bind_some ho
              refine SP.join 5 (fun a w2 => Env ⟨76, []⟩ [(4, v56), (72, .bool t96)] a ∧ St w em hV [slP k_api_Instr v_l_0 l_0, arrP k_arr88 0 tab0] [slO k_flow_Loop 40 v56 l55, arrO b9 [] (fun z : Int => Value.int .i64 z) 4 l52 [.int .i64 x53] 63] w2) ?_ ?_
              · rintro a w2 ⟨ha, hw⟩
                refine SP.app ha hw ?_
                clear ha hw a w2 hg_t96
                refine SP.nil ?_
                refine QE.then ?_
                rcases if_some ho with ⟨hc, ho⟩ | ⟨hc, ho⟩
                · refine CP.condT rfl hc ?_
                  refine CP.goto ?_
                  refine QE.thru (by intro e; cases e) ?_
                  exact QE.jump fun a w2 ha hw => ⟨m58, _, (by omega), ho, hr, ha.sub trivial, (St.selP [1] rfl (St.selO [] rfl rfl hw))⟩
                · refine CP.condF rfl (bf hc) ?_
                  refine CP.skip ?_
                  refine QE.then ?_
                  refine CP.seq ?_
                  refine CP.region ?_
                  refine SP.val (Val.move rfl) rfl rfl rfl ?_
                  obtain ⟨hb, ho⟩ := must_some ho
                  refine SP.callA see (caps := []) (X := slO k_flow_Loop 40 v56 l55) (fun r => HO.pand (r = .tuple #[]) (HO.seps [slO k_flow_Loop 40 v56 ((srt32 l55.toArray).toList)])) fn32 rfl rfl rfl rfl (fun w2 hP h1 sub s1 d1 ap hI => srt32_trip hb sub s1 d1 hI) (fun vr => ?_)
                  refine SP.have (fun w2 h => (St.pand h).1.symm) (fun er => ?_)
                  subst er
                  refine SP.imp (fun w2 h => St.seps (St.pand h).2) ?_
                  clear hb
                  refine SP.nil ?_
                  refine QE.then ?_
                  refine CP.seq ?_
                  refine CP.seq ?_
                  refine CP.region ?_
                  refine SP.val (Val.move rfl) rfl rfl rfl ?_
                  refine SP.val (Val.assign rfl) rfl rfl rfl ?_
                  refine SP.val (Val.assign rfl) rfl rfl rfl ?_
                  refine SP.nil ?_
                  refine QE.then ?_
                  refine CP.ret ?_
                  refine QE.thru (by intro e; cases e) ?_
                  refine QE.scopeX rfl ?_
                  obtain rfl := Option.some.inj ho
                  obtain rfl := Option.some.inj hr
                  exact QE.rets (rs := [.tmp 2, .tmp 3]) (vs := [v56, .int .i64 0]) Tryd.results11 rfl ⟨RVs.tmp rfl, RVs.tmp rfl, trivial⟩ (fun w2 h => St.done (fun a b p s => ⟨_, rfl, s⟩) (St.selO [0] rfl rfl h))
              · intro J
                clear ho
                have ho := hg_t96
                clear hg_t96
                rcases if_some ho with ⟨hc, ho⟩ | ⟨hc, ho⟩
                · have hq94 := hc
                  refine SP.isT (d := 67) rfl hq94 ?_
                  refine SP.not rfl rfl rfl ?_
                  refine SP.not rfl rfl rfl ?_
                  refine SP.not rfl rfl rfl ?_
                  refine SP.not rfl rfl rfl ?_
                  refine SP.val (Val.pickT rfl rfl) rfl rfl rfl ?_
                  obtain rfl := Option.some.inj ho
                  exact J fun a w2 ha hw => ⟨ha.sub ⟨rfl, rfl, trivial⟩, hw⟩
                · have hq94 := (bf hc)
                  refine SP.isF (d := 67) rfl hq94 ?_
                  refine SP.val (Val.move rfl) rfl rfl rfl ?_
                  refine SP.val (Val.move rfl) rfl rfl rfl ?_
                  obtain ⟨t95, hc, ho⟩ := bind_some (x := flow_jumps.f l_0 l55) ho
                  refine SP.callVO see (caps := []) (.bool t95) fn31 rfl rfl rfl rfl (fun w2 hs => flow_jumps.ok l_0 l55 _ _ _ hc w2 (hp w2) (Sub.refl _) ((St.pers 0 rfl see.sub see.dj hs)) (slO.read (St.own 0 rfl see.sub see.dj hs) (Sub.refl _) (Sub.refl _))) ?_
                  clear hc
                  refine SP.val (Val.notB rfl) rfl rfl rfl ?_
                  refine SP.val (Val.pickF rfl rfl) rfl rfl rfl ?_
                  obtain rfl := Option.some.inj ho
                  exact J fun a w2 ha hw => ⟨ha.sub ⟨rfl, rfl, trivial⟩, hw⟩
            · intro J
              clear ho
              have ho := hg_t92
              clear hg_t92
              rcases if_some ho with ⟨hc, ho⟩ | ⟨hc, ho⟩
              · have hq87 := (decide_eq_true hc)
                refine SP.isT (d := 57) rfl hq87 ?_
                refine SP.not rfl rfl rfl ?_
                refine SP.not rfl rfl rfl ?_
                refine SP.not rfl rfl rfl ?_
                refine SP.not rfl rfl rfl ?_
                refine SP.not rfl rfl rfl ?_
                refine SP.not rfl rfl rfl ?_
                refine SP.not rfl rfl rfl ?_
                refine SP.not rfl rfl rfl ?_
                refine SP.val (Val.pickT rfl rfl) rfl rfl rfl ?_
                obtain rfl := Option.some.inj ho
                exact J fun a w2 ha hw => ⟨ha.sub ⟨rfl, rfl, rfl, trivial⟩, hw⟩
              · have hq87 := (decide_eq_false hc)
                refine SP.isF (d := 57) rfl hq87 ?_
                refine SP.val (Val.move rfl) rfl rfl rfl ?_
                refine SP.val (Val.move rfl) rfl rfl rfl ?_
                refine SP.val (Val.lenP see 0 rfl Tryd.underlying22 rfl) rfl rfl rfl ?_
                refine SP.val (Val.sub rfl rfl) rfl rfl rfl ?_
                obtain ⟨x90, hx, ho⟩ := bind_some ho
                have hx := elt_some hx
                refine SP.indexP see 0 rfl Tryd.underlying22 sz52 hx.1 hx.2 rfl rfl rfl rfl (fun p88 => ?_)
                clear hx
                refine k_api_Instr.load see 0 rfl Tryd.underlying52 rfl sz52 rfl rfl rfl ?_
                obtain ⟨t91, hc, ho⟩ := bind_some (x := flow_last.f x90) ho
                refine SP.callV see (caps := []) (.bool t91) fn30 rfl rfl rfl rfl (fun w2 hP hs sub ap => flow_last.ok x90  _ hc w2 hP sub ) ?_
                clear hc
                refine SP.val (Val.notB rfl) rfl rfl rfl ?_
                refine SP.val (Val.pickF rfl rfl) rfl rfl rfl ?_
                obtain rfl := Option.some.inj ho
                exact J fun a w2 ha hw => ⟨ha.sub ⟨rfl, rfl, rfl, trivial⟩, (St.selP [1, 2] rfl hw)⟩
      · intro J
        clear ho
        have ho := hg_t7
        clear hg_t7
        rcases if_some ho with ⟨hc, ho⟩ | ⟨hc, ho⟩
        · have hq5 := hc
          refine SP.isT (d := 16) rfl hq5 ?_
          refine SP.not rfl rfl rfl ?_
          refine SP.not rfl rfl rfl ?_
          refine SP.val (Val.pickT rfl rfl) rfl rfl rfl ?_
          obtain rfl := Option.some.inj ho
          exact J fun a w2 ha hw => ⟨ha.sub ⟨rfl, rfl, trivial⟩, hw⟩
        · have hq5 := (bf hc)
          refine SP.isF (d := 16) rfl hq5 ?_
          refine SP.val (Val.move rfl) rfl rfl rfl ?_
          obtain ⟨t6, hc, ho⟩ := bind_some (x := slices_ContainsFunc_api_Instr_api_Instr_s1.f l_0) ho
          refine SP.callV see (caps := []) (.bool t6) fn25 rfl rfl rfl rfl (fun w2 hP hs sub ap => slices_ContainsFunc_api_Instr_api_Instr_s1.ok l_0 _ _ hc w2 hP sub (ap.get 0 rfl) (ap.get 1 rfl)) ?_
          clear hc
          refine SP.val (Val.pickF rfl rfl) rfl rfl rfl ?_
          obtain rfl := Option.some.inj ho
          exact J fun a w2 ha hw => ⟨ha.sub ⟨rfl, rfl, trivial⟩, hw⟩
    · intro J
      by_cases hc : (l_0.length : Int) = 0
      · have hq3 := (decide_eq_true hc)
        refine SP.isT (d := 11) rfl hq3 ?_
        refine SP.not rfl rfl rfl ?_
        refine SP.not rfl rfl rfl ?_
        refine SP.not rfl rfl rfl ?_
        refine SP.val (Val.pickT rfl rfl) rfl rfl rfl ?_
        exact J fun a w2 ha hw => ⟨ha.sub ⟨rfl, congrArg (fun z => some (Value.bool z)) (or_t hq3), trivial⟩, hw⟩
      · have hq3 := (decide_eq_false hc)
        refine SP.isF (d := 11) rfl hq3 ?_
        refine SP.val (Val.move rfl) rfl rfl rfl ?_
        refine SP.val (Val.lenP see 0 rfl Tryd.underlying22 rfl) rfl rfl rfl ?_
        refine SP.val (Val.gtr rfl rfl) rfl rfl rfl ?_
        refine SP.val (Val.pickF rfl rfl) rfl rfl rfl ?_
        exact J fun a w2 ha hw => ⟨ha.sub ⟨rfl, congrArg (fun z => some (Value.bool z)) (or_f hq3 rfl), trivial⟩, hw⟩
/-! ### math/bits.Mul: function 52 -/
shelf_lay Lays.n212 Nm 212 at Tryd as Tryd.bitsMul52
def math_bits_Mul.f (x : Int) (y : Int) : Option (Int × Int) := if 0 ≤ x ∧ x < 18446744073709551616 ∧ 0 ≤ y ∧ y < 18446744073709551616 then some (x * y / 18446744073709551616, x * y % 18446744073709551616) else none
theorem math_bits_Mul.ok (x : Int) (y : Int) (r : Int × Int) (H : math_bits_Mul.f x y = some r) (w : World) (hV : Hp) (sV : Sub hV (hp w)) :
    Trip Tryd.prog 52 [.int .u64 x, .int .u64 y].toArray em hV w (fun v => HO.pure (v = .tuple #[.int .u64 r.1, .int .u64 r.2])) := by
  unfold math_bits_Mul.f at H
  obtain ⟨⟨h1, h2, h3, h4⟩, H⟩ := must_some H
  obtain rfl := Option.some.inj H
  obtain ⟨a, rfl⟩ := Int.eq_ofNat_of_zero_le h1
  obtain ⟨b, rfl⟩ := Int.eq_ofNat_of_zero_le h3
  refine (Any.bits_Mul Tryd.bitsMul52 a b (by omega) (by omega) w).mono fun e w' ⟨he, hw⟩ => ?_
  subst hw
  refine ⟨_, he, Met.refl _, fun _ _ e _ => e, em, em, fun _ _ _ => rfl, fun _ _ _ => rfl, Dj.em_left _, Sub.em _, Sub.em _, ?_⟩
  show Value.tuple _ = Value.tuple _
  simp


/-! ### slices.Repeat[[]int,int]: function 35 -/
inductive slices_Repeat_int_int.S where
  | start
  | l1 (l12 : List Int) (x14 : Int)

def slices_Repeat_int_int.j2 (x_0 : (List Int)) (count_1 : Int) (t3 : Int × Int) : Option (slices_Repeat_int_int.S ⊕ (List Int)) :=
  if (0 : Int) ≤ (IntKind.i64.wrap t3.2) ∧ (8 : Int) * (IntKind.i64.wrap t3.2) ≤ 281474976710656 ∧ ((IntKind.i64.wrap t3.2) : Int) ≤ 9223372036854775807 then (some (.inl (.l1 (x_0.take (List.replicate (IntKind.i64.wrap t3.2 : Int).toNat 0 : List Int).length ++ (List.replicate (IntKind.i64.wrap t3.2 : Int).toNat 0 : List Int).drop x_0.length) ((min x_0.length (List.replicate (IntKind.i64.wrap t3.2 : Int).toNat 0 : List Int).length : Nat) : Int)))) else none

def slices_Repeat_int_int.j1 (x_0 : (List Int)) (count_1 : Int)  : Option (slices_Repeat_int_int.S ⊕ (List Int)) :=
  (math_bits_Mul.f (IntKind.u64.wrap (x_0.length : Int)) (IntKind.u64.wrap count_1)).bind fun t3 => if ((decide (t3.1 > 0)) || (decide (t3.2 > 9223372036854775807))) = true then (none) else (slices_Repeat_int_int.j2 x_0 count_1 t3)

def slices_Repeat_int_int.F (x_0 : (List Int)) (count_1 : Int) : slices_Repeat_int_int.S → Option (slices_Repeat_int_int.S ⊕ (List Int))
  | .start => if count_1 < 0 then (none) else (slices_Repeat_int_int.j1 x_0 count_1)
  | .l1 l12 x14 => if x14 < (l12.length : Int) then (if (0 : Int) ≤ x14 ∧ x14 ≤ (l12.length : Int) then (if (0 : Int) ≤ x14 ∧ x14 ≤ (l12.length : Int) then (some (.inl (.l1 (l12.take (x14 : Int).toNat ++ l12.take (min (x14 : Int).toNat (l12.length - (x14 : Int).toNat)) ++ l12.drop ((x14 : Int).toNat + min (x14 : Int).toNat (l12.length - (x14 : Int).toNat))) (IntKind.i64.wrap (x14 + ((min (x14 : Int).toNat (l12.length - (x14 : Int).toNat) : Nat) : Int)))))) else none) else none) else (some (.inr l12))

def slices_Repeat_int_int.f (x_0 : (List Int)) (count_1 : Int) : Option (List Int) := runF (slices_Repeat_int_int.F x_0 count_1) .start
theorem slices_Repeat_int_int.ok (x_0 : (List Int)) (count_1 : Int) (v_x_0 : Value) (r : (List Int)) (H : slices_Repeat_int_int.f x_0 count_1 = some r) (w : World) (hV : Hp) (sV : Sub hV (hp w)) (h0 : slR (kInt .i64) hV v_x_0 x_0) :
    Trip Tryd.prog 35 [v_x_0, .int .i64 count_1].toArray em hV w (fun v => HO.ex fun u0 : Value => HO.pand (v = u0) (HO.seps [slO (kInt .i64) 3 u0 r])) := by
  have see : Sees w em hV := ⟨sV, Dj.em_right _⟩
  refine Trip.of (P := Tryd.prog) (n := ⟨48, []⟩) Tryd.func35 rfl ⟨rfl, rfl⟩ rfl (St.begin (All.cons (x := slP (kInt .i64) v_x_0 x_0) h0 (All.nil _))) ?_
  obtain ⟨n0, hi⟩ := runF_iff.1 H
  obtain ⟨m0, o, hm0, ho, hr⟩ := iter_some hi
  clear hi
  refine CP.seq ?_
  refine CP.region ?_
  refine SP.val (Val.assign rfl) rfl rfl rfl ?_
  refine SP.nil ?_
  refine QE.then ?_
  refine CP.join (fun a w2 => ∃ (m2 : Nat) (o : (slices_Repeat_int_int.S ⊕ (List Int))), m2 ≤ m0 ∧ slices_Repeat_int_int.j1 x_0 count_1 = some o ∧ next (slices_Repeat_int_int.F x_0 count_1) m2 o = some r ∧ Env ⟨48, []⟩ [(0, v_x_0), (1, .int .i64 count_1)] a ∧ St w em hV [slP (kInt .i64) v_x_0 x_0] [] w2) ?_ ?_
  · rintro a w2 ⟨m2, o, hm_m2, ho, hr, ha, hw⟩
    refine CP.app ha hw ?_
    clear ha hw a w2
    refine CP.seq ?_
    refine CP.region ?_
    refine SP.val (Val.move rfl) rfl rfl rfl ?_
    refine SP.val (Val.lenP see 0 rfl Tryd.underlying27 rfl) rfl rfl rfl ?_
    refine SP.val (Val.conv (by rw [Tryd.underlying3]; rfl) Tryd.underlying83 rfl) rfl rfl rfl ?_
    refine SP.val (Val.move rfl) rfl rfl rfl ?_
    refine SP.val (Val.conv (by rw [Tryd.underlying3]; rfl) Tryd.underlying83 rfl) rfl rfl rfl ?_
    obtain ⟨t3, hc, ho⟩ := bind_some (x := math_bits_Mul.f (IntKind.u64.wrap (x_0.length : Int)) (IntKind.u64.wrap count_1)) ho
    refine SP.callV see (caps := []) (.tuple #[.int .u64 t3.1, .int .u64 t3.2]) fn52 rfl rfl rfl rfl (fun w2 hP hs sub ap => math_bits_Mul.ok (IntKind.u64.wrap (x_0.length : Int)) (IntKind.u64.wrap count_1)  _ hc w2 hP sub ) ?_
    clear hc
    refine SP.val (Val.move rfl) rfl rfl rfl ?_
    refine SP.val (Val.extract rfl rfl) rfl rfl rfl ?_
    refine SP.val (Val.extract rfl rfl) rfl rfl rfl ?_
    refine SP.val (Val.assign rfl) rfl rfl rfl ?_
    refine SP.val (Val.assign rfl) rfl rfl rfl ?_
    refine SP.nil ?_
    refine QE.then ?_
    refine CP.join (fun a w2 => ∃ (m6 : Nat) (o : (slices_Repeat_int_int.S ⊕ (List Int))), m6 ≤ m2 ∧ slices_Repeat_int_int.j2 x_0 count_1 t3 = some o ∧ next (slices_Repeat_int_int.F x_0 count_1) m6 o = some r ∧ Env ⟨48, []⟩ [(0, v_x_0), (6, .int .u64 t3.2)] a ∧ St w em hV [slP (kInt .i64) v_x_0 x_0] [] w2) ?_ ?_
    · rintro a w2 ⟨m6, o, hm_m6, ho, hr, ha, hw⟩
      refine CP.app ha hw ?_
      clear ha hw a w2
      refine CP.seq ?_
      refine CP.region ?_
      refine SP.val (Val.move rfl) rfl rfl rfl ?_
      refine SP.val (Val.conv (by rw [Tryd.underlying83]; rfl) Tryd.underlying3 rfl) rfl rfl rfl ?_
      obtain ⟨hb, ho⟩ := must_some ho
      refine SP.makeO (k := (kInt .i64)) (z := 0) Tryd.underlying27 inf3 rfl (fun _ => rfl) rfl rfl rfl rfl hb (fun v7 => ?_)
      clear hb
      refine SP.val (Val.assign rfl) rfl rfl rfl ?_
      refine SP.nil ?_
      refine QE.then ?_
      refine CP.seq ?_
      refine CP.region ?_
      refine SP.val (Val.move rfl) rfl rfl rfl ?_
      refine SP.val (Val.move rfl) rfl rfl rfl ?_
      refine SP.copyIn see 0 rfl 0 rfl Tryd.underlying27 sz3 rfl rfl rfl rfl rfl ?_
      refine SP.val (Val.assign rfl) rfl rfl rfl ?_
      refine SP.nil ?_
      refine QE.then ?_
      refine CP.seq ?_
      refine CP.block ?_
      obtain rfl := Option.some.inj ho
      refine CP.loop (fun cl1 a w2 => ∃ l12 : List Int, ∃ x14 : Int, ∃ v13 : Value, cl1 ≤ m6 ∧ iter (slices_Repeat_int_int.F x_0 count_1) cl1 (.l1 l12 x14) = some r ∧ Env ⟨48, []⟩ [(7, v13), (8, .int .i64 x14)] a ∧ St w em hV [] [slO (kInt .i64) 3 v13 l12] w2) m6 (fun a w2 ha hw => ⟨(x_0.take (List.replicate (IntKind.i64.wrap t3.2 : Int).toNat 0 : List Int).length ++ (List.replicate (IntKind.i64.wrap t3.2 : Int).toNat 0 : List Int).drop x_0.length), ((min x_0.length (List.replicate (IntKind.i64.wrap t3.2 : Int).toNat 0 : List Int).length : Nat) : Int), v7, Nat.le_refl _, hr, ha.sub ⟨rfl, rfl, trivial⟩, (St.selP [] rfl hw)⟩) ?_
      clear hr
      rintro cl1 a w2 ⟨l12, x14, v13, hc_l1, hi, ha, hw⟩
      obtain ⟨m15, o, hm_m15, ho, hr⟩ := iter_some hi
      refine CP.app ha hw ?_
      clear ha hw a w2 hi
      refine CP.seq ?_
      refine CP.seq ?_
      refine CP.region ?_
      refine SP.val (Val.move rfl) rfl rfl rfl ?_
      refine SP.val (Val.move rfl) rfl rfl rfl ?_
      refine SP.val (Val.lenW (fun w2 hw => slO.whole (St.own 0 rfl see.sub see.dj hw)) Tryd.underlying27 rfl) rfl rfl rfl ?_
      refine SP.val (Val.lss rfl rfl) rfl rfl rfl ?_
      refine SP.nil ?_
      refine QE.then ?_
      rcases if_some ho with ⟨hc, ho⟩ | ⟨hc, ho⟩
      · refine CP.condT rfl (decide_eq_true hc) ?_
        refine CP.skip ?_
        refine QE.then ?_
        refine CP.block ?_
        refine CP.drawA (by kernel_rfl) (fun w2 k h => h.drawn k) ?_
        refine DA.phase (fun _ => true) (fun _ => True) ?_
        refine DT.take 0 rfl rfl rfl rfl (by kernel_rfl) (fun _ _ _ h => h) (Val.move rfl) (fun _ _ => trivial) ?_
        refine DT.take 1 rfl rfl rfl rfl (by kernel_rfl) (fun _ _ _ h => h) (Val.move rfl) (fun _ _ => trivial) ?_
        refine DT.take 2 rfl rfl rfl rfl (by kernel_rfl) (fun _ _ _ h => h) (Val.move rfl) (fun _ _ => trivial) ?_
        refine DT.take 4 rfl rfl rfl rfl (by kernel_rfl) (fun _ _ _ h => h) (Val.move rfl) (fun _ _ => trivial) ?_
        refine DT.take 5 rfl rfl rfl rfl (by kernel_rfl) (fun _ _ _ h => h) (Val.move rfl) (fun _ _ => trivial) ?_
        refine DT.list (l2 := #[true, true, true, false, true, true, false, false, false, false]) (by kernel_rfl) ?_
        refine DT.free ?_
        obtain ⟨hz16, ho⟩ := must_some ho
        obtain ⟨hz17, ho⟩ := must_some ho
        refine DA.phase (fun i => Nat.ble 0 i && Nat.blt i 7) (fun w2 => St w em hV [] [slO (kInt .i64) 3 v13 l12] w2) ?_
        refine DT.take 3 rfl rfl rfl rfl (by kernel_rfl) (fun _ _ _ h => h) (Val.sliceFrom see 0 rfl Tryd.underlying27 sz3 rfl rfl hz16) (fun w2 hw => hw) ?_
        refine DT.take 6 rfl rfl rfl rfl (by kernel_rfl) (fun _ _ _ h => h) (Val.sliceTo see 0 rfl Tryd.underlying27 sz3 rfl rfl hz17) (fun w2 hw => hw) ?_
        refine DT.next (by kernel_rfl) ?_
        refine DA.one 7 rfl (by kernel_rfl) ?_
        refine SP.copyOver see 0 rfl Tryd.underlying27 sz3 rfl (by omega) rfl rfl rfl rfl ?_
        refine SP.nil ?_
        refine QE.atA ?_
        refine DA.one 8 rfl (by kernel_rfl) ?_
        refine SP.val (Val.add rfl rfl) rfl rfl rfl ?_
        refine SP.nil ?_
        refine QE.atA ?_
        refine DA.one 9 rfl (by kernel_rfl) ?_
        refine SP.val (Val.assign rfl) rfl rfl rfl ?_
        refine SP.nil ?_
        refine QE.atA ?_
        refine DA.done (by kernel_rfl) ?_
        refine QE.blockN ?_
        obtain rfl := Option.some.inj ho
        exact QE.lower m15 (by omega) fun a w2 ha hw => ⟨(l12.take (x14 : Int).toNat ++ l12.take (min (x14 : Int).toNat (l12.length - (x14 : Int).toNat)) ++ l12.drop ((x14 : Int).toNat + min (x14 : Int).toNat (l12.length - (x14 : Int).toNat))), (IntKind.i64.wrap (x14 + ((min (x14 : Int).toNat (l12.length - (x14 : Int).toNat) : Nat) : Int))), v13, (by omega), hr, ha.sub ⟨rfl, rfl, trivial⟩, hw⟩
      · refine CP.condF rfl (decide_eq_false hc) ?_
        refine CP.exit ?_
        refine QE.thru (by intro e; cases e) ?_
        refine QE.thru (by intro e; cases e) ?_
        refine QE.blockE ?_
        refine QE.then ?_
        refine CP.seq ?_
        refine CP.region ?_
        refine SP.val (Val.move rfl) rfl rfl rfl ?_
        refine SP.val (Val.assign rfl) rfl rfl rfl ?_
        refine SP.nil ?_
        refine QE.then ?_
        refine CP.ret ?_
        obtain rfl := Option.some.inj ho
        obtain rfl := Option.some.inj hr
        exact QE.rets (rs := [.tmp 4]) (vs := [v13]) Tryd.results35 rfl ⟨RVs.tmp rfl, trivial⟩ (fun w2 h => St.done (fun a b p s => ⟨_, rfl, s⟩) (St.selO [0] rfl rfl h))
    · refine CP.seq ?_
      refine CP.region ?_
      refine SP.val (Val.move rfl) rfl rfl rfl ?_
      refine SP.val (Val.gtr rfl rfl) rfl rfl rfl ?_
      refine SP.val (Val.move rfl) rfl rfl rfl ?_
      refine SP.join 3 (fun a w2 => Env ⟨48, []⟩ [(0, v_x_0), (6, .int .u64 t3.2), (26, .bool ((decide (t3.1 > 0)) || (decide (t3.2 > 9223372036854775807))))] a ∧ St w em hV [slP (kInt .i64) v_x_0 x_0] [] w2) ?_ ?_
      · rintro a w2 ⟨ha, hw⟩
        refine SP.app ha hw ?_
        clear ha hw a w2
        refine SP.nil ?_
        refine QE.then ?_
        rcases if_some ho with ⟨hc, ho⟩ | ⟨hc, ho⟩
        · refine CP.condT rfl hc ?_
          cases ho
        · refine CP.condF rfl (bf hc) ?_
          refine CP.skip ?_
          exact QE.meet fun a w2 ha hw => ⟨m2, _, (by omega), ho, hr, ha.sub ⟨rfl, rfl, trivial⟩, hw⟩
      · intro J
        by_cases hc : t3.1 > 0
        · have hq5 := (decide_eq_true hc)
          refine SP.isT (d := 23) rfl hq5 ?_
          refine SP.not rfl rfl rfl ?_
          refine SP.not rfl rfl rfl ?_
          refine SP.val (Val.pickT rfl rfl) rfl rfl rfl ?_
          exact J fun a w2 ha hw => ⟨ha.sub ⟨rfl, rfl, congrArg (fun z => some (Value.bool z)) (or_t hq5), trivial⟩, hw⟩
        · have hq5 := (decide_eq_false hc)
          refine SP.isF (d := 23) rfl hq5 ?_
          refine SP.val (Val.move rfl) rfl rfl rfl ?_
          refine SP.val (Val.gtr rfl rfl) rfl rfl rfl ?_
          refine SP.val (Val.pickF rfl rfl) rfl rfl rfl ?_
          exact J fun a w2 ha hw => ⟨ha.sub ⟨rfl, rfl, congrArg (fun z => some (Value.bool z)) (or_f hq5 rfl), trivial⟩, hw⟩
  · refine CP.seq ?_
    refine CP.region ?_
    refine SP.val (Val.move rfl) rfl rfl rfl ?_
    refine SP.val (Val.lss rfl rfl) rfl rfl rfl ?_
    refine SP.nil ?_
    refine QE.then ?_
    rcases if_some ho with ⟨hc, ho⟩ | ⟨hc, ho⟩
    · refine CP.condT rfl (decide_eq_true hc) ?_
      cases ho
    · refine CP.condF rfl (decide_eq_false hc) ?_
      refine CP.skip ?_
      exact QE.meet fun a w2 ha hw => ⟨m0, _, (by omega), ho, hr, ha.sub ⟨rfl, rfl, trivial⟩, hw⟩
/-! ### capstan/flow.Times: function 12 -/
inductive flow_Times.S where
  | start
  | l1 (t2 : (List flow_Loop) × Int) (l32 : List Int) (x34 : Int)
  | l2 (t2 : (List flow_Loop) × Int) (x34 : Int) (x37 : flow_Loop) (l45 : List Int) (x47 : Int)

def flow_Times.F (l_0 : (List api_Instr)) : flow_Times.S → Option (flow_Times.S ⊕ ((List Int) × Int))
  | .start => (flow_Loops.f l_0).bind fun t2 => if t2.2 ≠ 0 then (some (.inr ([], t2.2))) else ((slices_Repeat_int_int.f [1] (l_0.length : Int)).bind fun t8 => some (.inl (.l1 t2 t8 0)))
  | .l1 t2 l32 x34 => if x34 < (t2.1.length : Int) then ((elt t2.1 x34).bind fun x37 => some (.inl (.l2 t2 x34 x37 l32 (IntKind.i64.wrap (x37.From + 1))))) else (some (.inr (l32, 0)))
  | .l2 t2 x34 x37 l45 x47 => if x47 ≤ x37.To then ((elt l45 x47).bind fun x50 => (elt l45 x47).bind fun x52 => some (.inl (.l2 t2 x34 x37 (l45.set x47.toNat (IntKind.i64.wrap (x50 * x37.Turns))) (IntKind.i64.wrap (x47 + 1))))) else (some (.inl (.l1 t2 l45 (IntKind.i64.wrap (x34 + 1)))))

def flow_Times.f (l_0 : (List api_Instr)) : Option ((List Int) × Int) := runF (flow_Times.F l_0) .start
theorem flow_Times.ok (l_0 : (List api_Instr)) (v_l_0 : Value)  (r : (List Int) × Int) (H : flow_Times.f l_0 = some r) (w : World) (hV : Hp) (sV : Sub hV (hp w)) (h0 : slR k_api_Instr hV v_l_0 l_0) (h1 : (arrP k_arr88 0 tab0).p hV) :
    Trip Tryd.prog 12 [v_l_0].toArray em hV w (fun v => HO.ex fun u0 : Value => HO.pand (v = .tuple #[u0, .int .i64 r.2]) (HO.seps [slO (kInt .i64) 3 u0 r.1])) := by
  have see : Sees w em hV := ⟨sV, Dj.em_right _⟩
  refine Trip.of (P := Tryd.prog) (n := ⟨47, []⟩) Tryd.func12 rfl ⟨rfl, rfl⟩ rfl (St.begin (All.cons (x := slP k_api_Instr v_l_0 l_0) h0 (All.cons (x := arrP k_arr88 0 tab0) h1 (All.nil _)))) ?_
  obtain ⟨n0, hi⟩ := runF_iff.1 H
  obtain ⟨m0, o, hm0, ho, hr⟩ := iter_some hi
  clear hi
  refine CP.seq ?_
  refine CP.region ?_
  refine SP.val (Val.assign rfl) rfl rfl rfl ?_
  refine SP.val (Val.assign rfl) rfl rfl rfl ?_
  refine SP.nil ?_
  refine QE.then ?_
  refine CP.seq ?_
  refine CP.region ?_
  refine SP.val (Val.move rfl) rfl rfl rfl ?_
  obtain ⟨t2, hc, ho⟩ := bind_some (x := flow_Loops.f l_0) ho
  refine SP.callK see (caps := []) _ fn11 rfl rfl rfl rfl (fun w2 hP hs sub ap => flow_Loops.ok l_0 _ _ hc w2 hP sub (ap.get 0 rfl) (ap.get 1 rfl)) (fun vr => ?_)
  refine SP.ex (fun w2 h => St.open h) (fun v3 => ?_)
  refine SP.have (fun w2 h => (St.pand h).1.symm) (fun er => ?_)
  subst er
  refine SP.imp (fun w2 h => St.seps (St.pand h).2) ?_
  clear hc
  refine SP.val (Val.move rfl) rfl rfl rfl ?_
  refine SP.val (Val.extract rfl rfl) rfl rfl rfl ?_
  refine SP.val (Val.extract rfl rfl) rfl rfl rfl ?_
  refine SP.val (Val.assign rfl) rfl rfl rfl ?_
  refine SP.val (Val.assign rfl) rfl rfl rfl ?_
  refine SP.nil ?_
  refine QE.then ?_
  refine CP.seq ?_
  refine CP.seq ?_
  refine CP.region ?_
  refine SP.val (Val.move rfl) rfl rfl rfl ?_
  refine SP.val (Val.neq rfl rfl) rfl rfl rfl ?_
  refine SP.nil ?_
  refine QE.then ?_
  rcases if_some ho with ⟨hc, ho⟩ | ⟨hc, ho⟩
  · refine CP.condT rfl (decide_eq_true hc) ?_
    refine CP.seq ?_
    refine CP.region ?_
    refine SP.val (Val.move rfl) rfl rfl rfl ?_
    refine SP.val (Val.assign rfl) rfl rfl rfl ?_
    refine SP.val (Val.assign rfl) rfl rfl rfl ?_
    refine SP.nil ?_
    refine QE.then ?_
    refine CP.ret ?_
    refine QE.thru (by intro e; cases e) ?_
    obtain rfl := Option.some.inj ho
    obtain rfl := Option.some.inj hr
    exact QE.rets (rs := [.tmp 2, .tmp 3]) (vs := [(.slice none 0 0), .int .i64 t2.2]) Tryd.results12 rfl ⟨RVs.tmp rfl, RVs.tmp rfl, trivial⟩ (fun w2 h => St.done (fun a b p s => ⟨_, rfl, s⟩) (St.selO [0] rfl rfl (St.addO (slO.nil (kInt .i64) 3) h)))
  · refine CP.condF rfl (decide_eq_false hc) ?_
    refine CP.skip ?_
    refine QE.then ?_
    refine CP.seq ?_
    refine CP.region ?_
    refine SP.lit (k := (kInt .i64)) (xs := [1]) (vs := [.int .i64 1]) (cells := [.int .i64 1]) Tryd.underlying27 inf3 rfl rfl rfl rfl rfl rfl rfl rfl (fun _ ap => ⟨[.int .i64 1], _, rfl, rfl, rfl⟩) rfl rfl rfl (fun v6 => ?_)
    refine SP.val (Val.move rfl) rfl rfl rfl ?_
    refine SP.val (Val.lenP see 0 rfl Tryd.underlying22 rfl) rfl rfl rfl ?_
    obtain ⟨t8, hc, ho⟩ := bind_some (x := slices_Repeat_int_int.f [1] (l_0.length : Int)) ho
    refine SP.callKO see (caps := []) _ fn35 rfl rfl rfl rfl (fun w2 hs => slices_Repeat_int_int.ok [1] (l_0.length : Int) _ _ hc w2 (hp w2) (Sub.refl _) (slO.read (St.own 0 rfl see.sub see.dj hs) (Sub.refl _) (Sub.refl _))) (fun v a a2 b ⟨v9, e, h⟩ => ⟨v9, e, (Sep.fcons (fun _ => slO.flip (fun _ _ _ _ h => h)) (fun _ => Sep.fnil)) h⟩) (fun vr => ?_)
    refine SP.ex (fun w2 h => St.open h) (fun v9 => ?_)
    refine SP.have (fun w2 h => (St.pand h).1.symm) (fun er => ?_)
    subst er
    refine SP.imp (fun w2 h => St.seps (St.pand h).2) ?_
    clear hc
    refine SP.val (Val.assign rfl) rfl rfl rfl ?_
    refine SP.nil ?_
    refine QE.then ?_
    refine CP.seq ?_
    refine CP.seq ?_
    refine CP.region ?_
    refine SP.val (Val.move rfl) rfl rfl rfl ?_
    refine SP.val (Val.lenW (fun w2 hw => slO.whole (St.own 2 rfl see.sub see.dj hw)) Tryd.underlying30 rfl) rfl rfl rfl ?_
    refine SP.val (Val.move rfl) rfl rfl rfl ?_
    refine SP.nil ?_
    refine QE.then ?_
    refine CP.block ?_
    obtain rfl := Option.some.inj ho
    refine CP.loop (fun cl1 a w2 => ∃ l32 : List Int, ∃ x34 : Int, ∃ v33 : Value, cl1 ≤ m0 ∧ iter (flow_Times.F l_0) cl1 (.l1 t2 l32 x34) = some r ∧ Env ⟨47, []⟩ [(6, v33), (22, v3), (23, .int .i64 (t2.1.length : Int)), (24, .int .i64 x34)] a ∧ St w em hV [arrP k_arr88 0 tab0] [slO (kInt .i64) 3 v33 l32, slO k_flow_Loop 40 v3 t2.1] w2) m0 (fun a w2 ha hw => ⟨t8, 0, v9, Nat.le_refl _, hr, ha.sub ⟨rfl, rfl, rfl, rfl, trivial⟩, (St.selP [1] rfl (St.selO [0, 2] rfl rfl hw))⟩) ?_
    clear hr
    rintro cl1 a w2 ⟨l32, x34, v33, hc_l1, hi, ha, hw⟩
    obtain ⟨m35, o, hm_m35, ho, hr⟩ := iter_some hi
    refine CP.app ha hw ?_
    clear ha hw a w2 hi
    refine CP.seq ?_
    refine CP.region ?_
    refine SP.val (Val.lss rfl rfl) rfl rfl rfl ?_
    refine SP.nil ?_
    refine QE.then ?_
    refine CP.seq ?_
    rcases if_some ho with ⟨hc, ho⟩ | ⟨hc, ho⟩
    · refine CP.condT rfl (decide_eq_true hc) ?_
      refine CP.skip ?_
      refine QE.then ?_
      refine CP.seq ?_
      refine CP.block ?_
      refine CP.seq ?_
      refine CP.region ?_
      obtain ⟨x37, hx_x37, ho⟩ := bind_some ho
      have hx_x37 := elt_some hx_x37
      refine SP.indexW (fun w2 hw => slO.whole (St.own 1 rfl see.sub see.dj hw)) Tryd.underlying30 sz40 hx_x37.1 hx_x37.2 rfl rfl rfl rfl (fun p36 h_p36 => ?_)
      refine SP.val (Val.loadOA see 1 rfl hx_x37.2 h_p36 (fun _ _ e => e) Tryd.underlying40 rfl sz40 rfl) rfl rfl rfl ?_
      refine SP.alloc (cs := [.int .i64 0, .int .i64 0, .int .i64 0]) inf40 rfl rfl (fun b38 => ?_)
      refine SP.store (v := .agg #[.int .i64 x37.From, .int .i64 x37.To, .int .i64 x37.Turns]) (vs := [.int .i64 x37.From, .int .i64 x37.To, .int .i64 x37.Turns]) 0 (by rfl) sz40 (by rfl) (by rfl) (by rfl) (by rfl) (by rfl) (by rfl) ?_
      refine SP.nil ?_
      refine QE.then ?_
      refine CP.seq ?_
      refine CP.region ?_
      refine SP.val (Val.fieldAddr Tryd.underlying40 rfl sz3 rfl) rfl rfl rfl ?_
      refine SP.val (Val.load1 0 rfl Tryd.underlying3 rfl rfl rfl) rfl rfl rfl ?_
      refine SP.val (Val.add rfl rfl) rfl rfl rfl ?_
      refine SP.val (Val.assign rfl) rfl rfl rfl ?_
      refine SP.nil ?_
      refine QE.then ?_
      refine CP.block ?_
      obtain rfl := Option.some.inj ho
      refine CP.loop (fun cl2 a w2 => ∃ l45 : List Int, ∃ x47 : Int, ∃ v46 : Value, cl2 ≤ m35 ∧ iter (flow_Times.F l_0) cl2 (.l2 t2 x34 x37 l45 x47) = some r ∧ Env ⟨47, []⟩ [(6, v46), (8, .pointer (some ⟨b38, 0, none⟩)), (9, .int .i64 x47), (22, v3), (23, .int .i64 (t2.1.length : Int)), (24, .int .i64 x34)] a ∧ St w em hV [arrP k_arr88 0 tab0] [boxO b38 [.int .i64 x37.From, .int .i64 x37.To, .int .i64 x37.Turns] 40, slO (kInt .i64) 3 v46 l45, slO k_flow_Loop 40 v3 t2.1] w2) m35 (fun a w2 ha hw => ⟨l32, (IntKind.i64.wrap (x37.From + 1)), v33, Nat.le_refl _, hr, ha.sub ⟨rfl, rfl, rfl, rfl, rfl, rfl, trivial⟩, hw⟩) ?_
      clear hr
      rintro cl2 a w2 ⟨l45, x47, v46, hc_l2, hi, ha, hw⟩
      obtain ⟨m48, o, hm_m48, ho, hr⟩ := iter_some hi
      refine CP.app ha hw ?_
      clear ha hw a w2 hi
      refine CP.seq ?_
      refine CP.seq ?_
      refine CP.region ?_
      refine SP.val (Val.move rfl) rfl rfl rfl ?_
      refine SP.val (Val.fieldAddr Tryd.underlying40 rfl sz3 rfl) rfl rfl rfl ?_
      refine SP.val (Val.load1 0 rfl Tryd.underlying3 rfl rfl rfl) rfl rfl rfl ?_
      refine SP.val (Val.leq rfl rfl) rfl rfl rfl ?_
      refine SP.nil ?_
      refine QE.then ?_
      rcases if_some ho with ⟨hc, ho⟩ | ⟨hc, ho⟩
      · refine CP.condT rfl (decide_eq_true hc) ?_
        refine CP.skip ?_
        refine QE.then ?_
        refine CP.seq ?_
        refine CP.block ?_
        refine CP.drawA (by kernel_rfl) (fun w2 k h => h.drawn k) ?_
        obtain ⟨x50, hx_x50, ho⟩ := bind_some ho
        have hx_x50 := elt_some hx_x50
        refine DA.ghost (fun w2 hw => let ⟨z, hz⟩ := ixC ((fun w2 hw => slO.whole (St.own 1 rfl see.sub see.dj hw)) w2 hw) hx_x50.1 hx_x50.2; ⟨z, hz, hw⟩) (fun p49 i_p49 => ?_)
        have h_p49 := i_p49.1
        refine DA.phase (fun i => Nat.ble 0 i && Nat.blt i 6) (fun w2 => St w em hV [arrP k_arr88 0 tab0] [boxO b38 [.int .i64 x37.From, .int .i64 x37.To, .int .i64 x37.Turns] 40, slO (kInt .i64) 3 v46 l45, slO k_flow_Loop 40 v3 t2.1] w2) ?_
        refine DT.take 0 rfl rfl rfl rfl (by kernel_rfl) (fun _ _ _ h => h) (Val.move rfl) (fun w2 hw => hw) ?_
        refine DT.take 1 rfl rfl rfl rfl (by kernel_rfl) (fun _ _ _ h => h) (Val.move rfl) (fun w2 hw => hw) ?_
        refine DT.take 2 rfl rfl rfl rfl (by kernel_rfl) (fun _ _ _ h => h) (Val.indexC' i_p49 Tryd.underlying27 sz3 rfl rfl) (fun w2 hw => hw) ?_
        refine DT.take 3 rfl rfl rfl rfl (by kernel_rfl) (fun _ _ _ h => h) (Val.loadW1 (off := 0) (k := (kInt .i64)) (fun w2 hw => slO.whole (St.own 1 rfl see.sub see.dj hw)) hx_x50.2 h_p49 (fun _ _ e => by subst e; rfl) Tryd.underlying3 rfl rfl) (fun w2 hw => hw) ?_
        refine DT.take 4 rfl rfl rfl rfl (by kernel_rfl) (fun _ _ _ h => h) (Val.fieldAddr Tryd.underlying40 rfl sz3 rfl) (fun w2 hw => hw) ?_
        refine DT.take 5 rfl rfl rfl rfl (by kernel_rfl) (fun _ _ _ h => h) (Val.load1 0 rfl Tryd.underlying3 rfl rfl rfl) (fun w2 hw => hw) ?_
        refine DT.next (by kernel_rfl) ?_
        refine DA.one 6 rfl (by kernel_rfl) ?_
        refine SP.val (Val.mul rfl rfl) rfl rfl rfl ?_
        refine SP.nil ?_
        refine QE.atA ?_
        refine DA.one 7 rfl (by kernel_rfl) ?_
        obtain ⟨x52, hx_x52, ho⟩ := bind_some ho
        have hx_x52 := elt_some hx_x52
        refine SP.indexW (fun w2 hw => slO.whole (St.own 1 rfl see.sub see.dj hw)) Tryd.underlying27 sz3 hx_x52.1 hx_x52.2 rfl rfl rfl rfl (fun p51 h_p51 => ?_)
        refine SP.nil ?_
        refine QE.atA ?_
        refine DA.one 8 rfl (by kernel_rfl) ?_
        refine SP.storeO (z0 := IntKind.i64.wrap (x50 * x37.Turns)) (off := 0) (vs := [.int .i64 (IntKind.i64.wrap (x50 * x37.Turns))]) see 1 rfl hx_x52.2 h_p51 rfl rfl sz3 rfl (fun a cs _ e => by subst e; rfl) rfl rfl rfl ?_
        refine SP.nil ?_
        refine QE.atA ?_
        refine DA.done (by kernel_rfl) ?_
        refine QE.blockN ?_
        refine QE.then ?_
        refine CP.region ?_
        refine SP.val (Val.move rfl) rfl rfl rfl ?_
        refine SP.val (Val.add rfl rfl) rfl rfl rfl ?_
        refine SP.val (Val.assign rfl) rfl rfl rfl ?_
        refine SP.nil ?_
        obtain rfl := Option.some.inj ho
        exact QE.lower m48 (by omega) fun a w2 ha hw => ⟨(l45.set x47.toNat (IntKind.i64.wrap (x50 * x37.Turns))), (IntKind.i64.wrap (x47 + 1)), v46, (by omega), hr, ha.sub ⟨rfl, rfl, rfl, rfl, rfl, rfl, trivial⟩, hw⟩
      · refine CP.condF rfl (decide_eq_false hc) ?_
        refine CP.exit ?_
        refine QE.thru (by intro e; cases e) ?_
        refine QE.thru (by intro e; cases e) ?_
        refine QE.blockE ?_
        refine QE.blockN ?_
        refine QE.then ?_
        refine CP.region ?_
        refine SP.val (Val.add rfl rfl) rfl rfl rfl ?_
        refine SP.val (Val.move rfl) rfl rfl rfl ?_
        refine SP.nil ?_
        obtain rfl := Option.some.inj ho
        exact QE.lower m48 (by omega) fun a w2 ha hw => ⟨l45, (IntKind.i64.wrap (x34 + 1)), v46, (by omega), hr, ha.sub ⟨rfl, rfl, rfl, rfl, trivial⟩, (St.selO [1, 2] rfl rfl hw)⟩
    · refine CP.condF rfl (decide_eq_false hc) ?_
      refine CP.exit ?_
      refine QE.thru (by intro e; cases e) ?_
      refine QE.thru (by intro e; cases e) ?_
      refine QE.blockE ?_
      refine QE.then ?_
      refine CP.seq ?_
      refine CP.region ?_
      refine SP.val (Val.move rfl) rfl rfl rfl ?_
      refine SP.val (Val.assign rfl) rfl rfl rfl ?_
      refine SP.val (Val.assign rfl) rfl rfl rfl ?_
      refine SP.nil ?_
      refine QE.then ?_
      refine CP.ret ?_
      obtain rfl := Option.some.inj ho
      obtain rfl := Option.some.inj hr
      exact QE.rets (rs := [.tmp 2, .tmp 3]) (vs := [v33, .int .i64 0]) Tryd.results12 rfl ⟨RVs.tmp rfl, RVs.tmp rfl, trivial⟩ (fun w2 h => St.done (fun a b p s => ⟨_, rfl, s⟩) (St.selO [0] rfl rfl h))
/-! ### capstan/flow.Check: function 13 -/
def flow_Check.f (l_0 : (List api_Instr)) : Option Int :=
  (flow_Loops.f l_0).bind fun t2 => some t2.2
theorem flow_Check.ok (l_0 : (List api_Instr)) (v_l_0 : Value)  (r : Int) (H : flow_Check.f l_0 = some r) (w : World) (hV : Hp) (sV : Sub hV (hp w)) (h0 : slR k_api_Instr hV v_l_0 l_0) (h1 : (arrP k_arr88 0 tab0).p hV) :
    Trip Tryd.prog 13 [v_l_0].toArray em hV w (fun v => HO.pure (v = .int .i64 r)) := by
  have see : Sees w em hV := ⟨sV, Dj.em_right _⟩
  refine Trip.of (P := Tryd.prog) (n := ⟨11, []⟩) Tryd.func13 rfl ⟨rfl, rfl⟩ rfl (St.begin (All.cons (x := slP k_api_Instr v_l_0 l_0) h0 (All.cons (x := arrP k_arr88 0 tab0) h1 (All.nil _)))) ?_
  have ho := H
  refine CP.seq ?_
  refine CP.region ?_
  refine SP.val (Val.assign rfl) rfl rfl rfl ?_
  refine SP.nil ?_
  refine QE.then ?_
  refine CP.seq ?_
  refine CP.region ?_
  refine SP.val (Val.move rfl) rfl rfl rfl ?_
  obtain ⟨t2, hc, ho⟩ := bind_some (x := flow_Loops.f l_0) ho
  refine SP.callK see (caps := []) _ fn11 rfl rfl rfl rfl (fun w2 hP hs sub ap => flow_Loops.ok l_0 _ _ hc w2 hP sub (ap.get 0 rfl) (ap.get 1 rfl)) (fun vr => ?_)
  refine SP.ex (fun w2 h => St.open h) (fun v3 => ?_)
  refine SP.have (fun w2 h => (St.pand h).1.symm) (fun er => ?_)
  subst er
  refine SP.imp (fun w2 h => St.seps (St.pand h).2) ?_
  clear hc
  refine SP.val (Val.move rfl) rfl rfl rfl ?_
  refine SP.val (Val.extract rfl rfl) rfl rfl rfl ?_
  refine SP.val (Val.extract rfl rfl) rfl rfl rfl ?_
  refine SP.val (Val.assign rfl) rfl rfl rfl ?_
  refine SP.val (Val.assign rfl) rfl rfl rfl ?_
  refine SP.nil ?_
  refine QE.then ?_
  refine CP.seq ?_
  refine CP.region ?_
  refine SP.val (Val.move rfl) rfl rfl rfl ?_
  refine SP.val (Val.assign rfl) rfl rfl rfl ?_
  refine SP.nil ?_
  refine QE.then ?_
  refine CP.ret ?_
  obtain rfl := Option.some.inj ho
  exact QE.rets (rs := [.tmp 2]) (vs := [.int .i64 t2.2]) Tryd.results13 rfl ⟨RVs.tmp rfl, trivial⟩ (fun w2 h => St.done (fun a b p s => rfl) h)
/-! ### capstan/op.Goes: function 36 -/
def op_Goes.f (op_0 : Int) : Option Bool :=
  (op_Known.f op_0).bind fun t1 => some (((t1 && (decide (op_0 ≠ 26))) && (decide (op_0 ≠ 31))) && (decide (op_0 ≠ 32)))
theorem op_Goes.ok (op_0 : Int)  (r : Bool) (H : op_Goes.f op_0 = some r) (w : World) (hV : Hp) (sV : Sub hV (hp w))  :
    Trip Tryd.prog 36 [.int .u8 op_0].toArray em hV w (fun v => HO.pure (v = .bool r)) := by
  have see : Sees w em hV := ⟨sV, Dj.em_right _⟩
  refine Trip.of (P := Tryd.prog) (n := ⟨17, []⟩) Tryd.func36 rfl ⟨rfl, rfl⟩ rfl (St.begin (All.nil _)) ?_
  have ho := H
  refine CP.seq ?_
  refine CP.region ?_
  refine SP.val (Val.assign rfl) rfl rfl rfl ?_
  refine SP.nil ?_
  refine QE.then ?_
  refine CP.seq ?_
  refine CP.region ?_
  refine SP.val (Val.move rfl) rfl rfl rfl ?_
  obtain ⟨t1, hc, ho⟩ := bind_some (x := op_Known.f op_0) ho
  refine SP.callV see (caps := []) (.bool t1) fn53 rfl rfl rfl rfl (fun w2 hP hs sub ap => op_Known.ok op_0  _ hc w2 hP sub ) ?_
  clear hc
  refine SP.val (Val.move rfl) rfl rfl rfl ?_
  refine SP.join 3 (fun a w2 => Env ⟨17, []⟩ [(0, .int .u8 op_0), (8, .bool (t1 && (decide (op_0 ≠ 26))))] a ∧ St w em hV [] [] w2) ?_ ?_
  · rintro a w2 ⟨ha, hw⟩
    refine SP.app ha hw ?_
    clear ha hw a w2
    refine SP.val (Val.move rfl) rfl rfl rfl ?_
    refine SP.join 3 (fun a w2 => Env ⟨17, []⟩ [(0, .int .u8 op_0), (12, .bool ((t1 && (decide (op_0 ≠ 26))) && (decide (op_0 ≠ 31))))] a ∧ St w em hV [] [] w2) ?_ ?_
    · rintro a w2 ⟨ha, hw⟩
      refine SP.app ha hw ?_
      clear ha hw a w2
      refine SP.val (Val.move rfl) rfl rfl rfl ?_
      refine SP.join 3 (fun a w2 => Env ⟨17, []⟩ [(16, .bool (((t1 && (decide (op_0 ≠ 26))) && (decide (op_0 ≠ 31))) && (decide (op_0 ≠ 32))))] a ∧ St w em hV [] [] w2) ?_ ?_
      · rintro a w2 ⟨ha, hw⟩
        refine SP.app ha hw ?_
        clear ha hw a w2
        refine SP.val (Val.assign rfl) rfl rfl rfl ?_
        refine SP.nil ?_
        refine QE.then ?_
        refine CP.ret ?_
        obtain rfl := Option.some.inj ho
        exact QE.rets (rs := [.tmp 2]) (vs := [.bool (((t1 && (decide (op_0 ≠ 26))) && (decide (op_0 ≠ 31))) && (decide (op_0 ≠ 32)))]) Tryd.results36 rfl ⟨RVs.tmp rfl, trivial⟩ (fun w2 h => St.done (fun a b p s => rfl) h)
      · intro J
        by_cases hc : ((t1 && (decide (op_0 ≠ 26))) && (decide (op_0 ≠ 31))) = true
        · have hq7 := hc
          refine SP.isT (d := 13) rfl hq7 ?_
          refine SP.val (Val.move rfl) rfl rfl rfl ?_
          refine SP.val (Val.neq rfl rfl) rfl rfl rfl ?_
          refine SP.val (Val.pickT rfl rfl) rfl rfl rfl ?_
          exact J fun a w2 ha hw => ⟨ha.sub ⟨congrArg (fun z => some (Value.bool z)) (and_t hq7 rfl), trivial⟩, hw⟩
        · have hq7 := (bf hc)
          refine SP.isF (d := 13) rfl hq7 ?_
          refine SP.not rfl rfl rfl ?_
          refine SP.not rfl rfl rfl ?_
          refine SP.val (Val.pickF rfl rfl) rfl rfl rfl ?_
          exact J fun a w2 ha hw => ⟨ha.sub ⟨congrArg (fun z => some (Value.bool z)) (and_f hq7), trivial⟩, hw⟩
    · intro J
      by_cases hc : (t1 && (decide (op_0 ≠ 26))) = true
      · have hq5 := hc
        refine SP.isT (d := 9) rfl hq5 ?_
        refine SP.val (Val.move rfl) rfl rfl rfl ?_
        refine SP.val (Val.neq rfl rfl) rfl rfl rfl ?_
        refine SP.val (Val.pickT rfl rfl) rfl rfl rfl ?_
        exact J fun a w2 ha hw => ⟨ha.sub ⟨rfl, congrArg (fun z => some (Value.bool z)) (and_t hq5 rfl), trivial⟩, hw⟩
      · have hq5 := (bf hc)
        refine SP.isF (d := 9) rfl hq5 ?_
        refine SP.not rfl rfl rfl ?_
        refine SP.not rfl rfl rfl ?_
        refine SP.val (Val.pickF rfl rfl) rfl rfl rfl ?_
        exact J fun a w2 ha hw => ⟨ha.sub ⟨rfl, congrArg (fun z => some (Value.bool z)) (and_f hq5), trivial⟩, hw⟩
  · intro J
    by_cases hc : t1 = true
    · have hq3 := hc
      refine SP.isT (d := 5) rfl hq3 ?_
      refine SP.val (Val.move rfl) rfl rfl rfl ?_
      refine SP.val (Val.neq rfl rfl) rfl rfl rfl ?_
      refine SP.val (Val.pickT rfl rfl) rfl rfl rfl ?_
      exact J fun a w2 ha hw => ⟨ha.sub ⟨rfl, congrArg (fun z => some (Value.bool z)) (and_t hq3 rfl), trivial⟩, hw⟩
    · have hq3 := (bf hc)
      refine SP.isF (d := 5) rfl hq3 ?_
      refine SP.not rfl rfl rfl ?_
      refine SP.not rfl rfl rfl ?_
      refine SP.val (Val.pickF rfl rfl) rfl rfl rfl ?_
      exact J fun a w2 ha hw => ⟨ha.sub ⟨rfl, congrArg (fun z => some (Value.bool z)) (and_f hq3), trivial⟩, hw⟩
/-! ### capstan/op.Leads: function 37 -/
def op_Leads.f (op_0 : Int) : Option Bool :=
  (op_sign.f op_0).bind fun t1 => some (decide (t1 = 5))
theorem op_Leads.ok (op_0 : Int)  (r : Bool) (H : op_Leads.f op_0 = some r) (w : World) (hV : Hp) (sV : Sub hV (hp w))  :
    Trip Tryd.prog 37 [.int .u8 op_0].toArray em hV w (fun v => HO.pure (v = .bool r)) := by
  have see : Sees w em hV := ⟨sV, Dj.em_right _⟩
  refine Trip.of (P := Tryd.prog) (n := ⟨6, []⟩) Tryd.func37 rfl ⟨rfl, rfl⟩ rfl (St.begin (All.nil _)) ?_
  have ho := H
  refine CP.seq ?_
  refine CP.region ?_
  refine SP.val (Val.assign rfl) rfl rfl rfl ?_
  refine SP.nil ?_
  refine QE.then ?_
  refine CP.seq ?_
  refine CP.region ?_
  refine SP.val (Val.move rfl) rfl rfl rfl ?_
  obtain ⟨t1, hc, ho⟩ := bind_some (x := op_sign.f op_0) ho
  refine SP.callV see (caps := []) (.int .i64 t1) fn54 rfl rfl rfl rfl (fun w2 hP hs sub ap => op_sign.ok op_0  _ hc w2 hP sub ) ?_
  clear hc
  refine SP.val (Val.eql rfl rfl) rfl rfl rfl ?_
  refine SP.val (Val.assign rfl) rfl rfl rfl ?_
  refine SP.nil ?_
  refine QE.then ?_
  refine CP.ret ?_
  obtain rfl := Option.some.inj ho
  exact QE.rets (rs := [.tmp 2]) (vs := [.bool (decide (t1 = 5))]) Tryd.results37 rfl ⟨RVs.tmp rfl, trivial⟩ (fun w2 h => St.done (fun a b p s => rfl) h)
/-! ### slices.Sort[[]int,int]: function 38 -/
shelf_lay_g SlLaysM.n5 Slgm 5 at Tryd 38 as Tryd.sorti38
/-- A row of numbers of one's own, sorted where it lies. -/
theorem srti38_trip {v : Value} {l : List Int} (hll : l.length < 4611686018427387904) {w : World} {hP h1 : Hp} (sub : Sub hP (hp w)) (s1 : Sub h1 (hp w)) (dj : Dj hP h1) (hI : (slO (kInt .i64) 3 v l).p hP h1) :
    Trip Tryd.prog 38 #[v] h1 hP w (fun r => HO.pand (r = .tuple #[]) (HO.seps [slO (kInt .i64) 3 v (l.mergeSort fun x y => decide (x ≤ y))])) := by
  have h := slO.rowTrip (P := Tryd.prog) (f := 38) (fun v => #[v]) (fun _ => .tuple #[]) (fun x => [Value.int .i64 x]) (fun h cs x => Iff.rfl) (fun d : Array Int => (d.toList.mergeSort fun x y => decide (x ≤ y)).toArray) (fun d => by simp) (fun blk cap d w hH hb hsz _ _ => ?_) (fun _ w hV sV => ?_) hll sub s1 dj hI
  · simpa using h
  · have := AnyM.slices_Sort_int Tryd.sorti38 blk 0 cap d.toList w (holdsOne.1 hH) hb (by simpa using hsz)
    refine this.mono fun e w' ⟨h1, n, os, h2⟩ => ⟨h1, n, os, h2.trans (Eq.symm sortOne)⟩
  · refine (AnyM.slices_Sort_int_none Tryd.sorti38 none 0 w).mono fun e w' ⟨he, hw⟩ => ?_
    subst hw
    exact ⟨_, he, Met.refl _, fun _ _ e _ => e, em, em, fun _ _ _ => rfl, fun _ _ _ => rfl, Dj.em_left _, Sub.em _, Sub.em _, rfl⟩


/-! ### slices.Compact[[]int,int]: function 39 -/
shelf_lay_g SlLaysN.n43 Slgn 43 at Tryd 39 as Tryd.compacti39
/-- A row of numbers of one's own, of which none stands behind its like. -/
theorem compacti39_trip {v : Value} {l : List Int} (hll : l.length < 4611686018427387904) {w : World} {hP h1 : Hp} (sub : Sub hP (hp w)) (s1 : Sub h1 (hp w)) (dj : Dj hP h1) (hI : (slO (kInt .i64) 3 v l).p hP h1) :
    Trip Tryd.prog 39 #[v] h1 hP w (fun r => HO.ex fun u : Value => HO.pand (r = u) (HO.seps [slO (kInt .i64) 3 u (Lib.compact l)])) := by
  have hle : (Lib.compact l).length ≤ l.length := compact_le l
  have h := slO.rowTrip (P := Tryd.prog) (f := 39) (fun v => #[v]) (fun v => shrinkV v (Lib.compact l).length) (fun x => [Value.int .i64 x]) (fun h cs x => Iff.rfl) (fun d : Array Int => (Lib.compact d.toList ++ List.replicate (d.size - (Lib.compact d.toList).length) 0).toArray) (fun d => by have := compact_le d.toList; simp at this ⊢; omega) (fun blk cap d w hH hb hsz hcap hd => ?_) (fun h0 w hV sV => ?_) hll sub s1 dj hI
  · exact slO.shrinkT (by simp only [List.length_append]; omega) (by simp) h
  · have := AnyG.slices_Compact_int Tryd.compacti39 blk 0 cap d.toList w (holdsOne.1 hH) (by simp; omega) (by simpa using hcap)
    refine this.mono fun e w' ⟨h1, n, h2⟩ => ⟨?_, n, #[], h2.trans (Eq.trans ?_ (Eq.symm sortOne))⟩
    · rw [h1, hd]; rfl
    · rw [grow_none]; simp
  · refine (AnyG.slices_Compact_int_empty Tryd.compacti39 none 0 w).mono fun e w' ⟨he, hw⟩ => ?_
    subst hw
    exact ⟨_, he, Met.refl _, fun _ _ e _ => e, em, em, fun _ _ _ => rfl, fun _ _ _ => rfl, Dj.em_left _, Sub.em _, Sub.em _, rfl⟩


/-! ### capstan/flow.Ways: function 17 -/
def flow_Ways.j2 (l_0 : (List api_Instr)) (a1 : Int) (l31 : List Int) : Option ((List Int) × Int) :=
  if l31.length < 4611686018427387904 then (if (l31.mergeSort fun x y => decide (x ≤ y)).length < 4611686018427387904 then (some ((Lib.compact (l31.mergeSort fun x y => decide (x ≤ y))), 0)) else none) else none

def flow_Ways.j1 (l_0 : (List api_Instr)) (a1 : Int) (x9 : api_Instr) (l19 : List Int) : Option ((List Int) × Int) :=
  if x9.Op = 29 then (if (l19.length + [IntKind.i64.wrap (x9.A + 1)].length) * 8 ≤ 140737488355328 then (flow_Ways.j2 l_0 a1 (l19 ++ [IntKind.i64.wrap (x9.A + 1)])) else none) else ((op_Leads.f x9.Op).bind fun t25 => if t25 = true then (if (l19.length + [x9.A].length) * 8 ≤ 140737488355328 then (flow_Ways.j2 l_0 a1 (l19 ++ [x9.A])) else none) else (flow_Ways.j2 l_0 a1 l19))

def flow_Ways.f (l_0 : (List api_Instr)) (a1 : Int) : Option ((List Int) × Int) :=
  (flow_Check.f l_0).bind fun t2 => if t2 ≠ 0 then (some ([], t2)) else (if ((decide (a1 < 0)) || (decide (a1 ≥ (l_0.length : Int)))) = true then (some ([], 2)) else ((elt l_0 a1).bind fun x9 => (op_Goes.f x9.Op).bind fun t12 => if t12 = true then (if (([] : List Int).length + [IntKind.i64.wrap (a1 + 1)].length) * 8 ≤ 140737488355328 then (flow_Ways.j1 l_0 a1 x9 (([] : List Int) ++ [IntKind.i64.wrap (a1 + 1)])) else none) else (flow_Ways.j1 l_0 a1 x9 [])))
theorem flow_Ways.ok (l_0 : (List api_Instr)) (a1 : Int) (v_l_0 : Value)  (r : (List Int) × Int) (H : flow_Ways.f l_0 a1 = some r) (w : World) (hV : Hp) (sV : Sub hV (hp w)) (h0 : slR k_api_Instr hV v_l_0 l_0) (h1 : (arrP k_arr88 0 tab0).p hV) :
    Trip Tryd.prog 17 [v_l_0, .int .i64 a1].toArray em hV w (fun v => HO.ex fun u0 : Value => HO.pand (v = .tuple #[u0, .int .i64 r.2]) (HO.seps [slO (kInt .i64) 3 u0 r.1])) := by
  have see : Sees w em hV := ⟨sV, Dj.em_right _⟩
  refine Trip.of (P := Tryd.prog) (n := ⟨57, []⟩) Tryd.func17 rfl ⟨rfl, rfl⟩ rfl (St.begin (All.cons (x := slP k_api_Instr v_l_0 l_0) h0 (All.cons (x := arrP k_arr88 0 tab0) h1 (All.nil _)))) ?_
  have ho := H
  refine CP.seq ?_
  refine CP.region ?_
  refine SP.val (Val.assign rfl) rfl rfl rfl ?_
  refine SP.val (Val.assign rfl) rfl rfl rfl ?_
  refine SP.nil ?_
  refine QE.then ?_
  refine CP.seq ?_
  refine CP.seq ?_
  refine CP.region ?_
  refine SP.val (Val.move rfl) rfl rfl rfl ?_
  obtain ⟨t2, hc, ho⟩ := bind_some (x := flow_Check.f l_0) ho
  refine SP.callV see (caps := []) (.int .i64 t2) fn13 rfl rfl rfl rfl (fun w2 hP hs sub ap => flow_Check.ok l_0 _ _ hc w2 hP sub (ap.get 0 rfl) (ap.get 1 rfl)) ?_
  clear hc
  refine SP.val (Val.assign rfl) rfl rfl rfl ?_
  refine SP.nil ?_
  refine QE.then ?_
  refine CP.seq ?_
  refine CP.region ?_
  refine SP.val (Val.move rfl) rfl rfl rfl ?_
  refine SP.val (Val.neq rfl rfl) rfl rfl rfl ?_
  refine SP.nil ?_
  refine QE.then ?_
  rcases if_some ho with ⟨hc, ho⟩ | ⟨hc, ho⟩
  · refine CP.condT rfl (decide_eq_true hc) ?_
    refine CP.seq ?_
    refine CP.region ?_
    refine SP.val (Val.move rfl) rfl rfl rfl ?_
    refine SP.val (Val.assign rfl) rfl rfl rfl ?_
    refine SP.val (Val.assign rfl) rfl rfl rfl ?_
    refine SP.nil ?_
    refine QE.then ?_
    refine CP.ret ?_
    refine QE.thru (by intro e; cases e) ?_
    obtain rfl := Option.some.inj ho
    exact QE.rets (rs := [.tmp 4, .tmp 5]) (vs := [(.slice none 0 0), .int .i64 t2]) Tryd.results17 rfl ⟨RVs.tmp rfl, RVs.tmp rfl, trivial⟩ (fun w2 h => St.done (fun a b p s => ⟨_, rfl, s⟩) (St.selO [0] rfl rfl (St.addO (slO.nil (kInt .i64) 3) h)))
  · refine CP.condF rfl (decide_eq_false hc) ?_
    refine CP.skip ?_
    refine QE.then ?_
    refine CP.seq ?_
    refine CP.seq ?_
    refine CP.region ?_
    refine SP.val (Val.move rfl) rfl rfl rfl ?_
    refine SP.val (Val.lss rfl rfl) rfl rfl rfl ?_
    refine SP.val (Val.move rfl) rfl rfl rfl ?_
    refine SP.join 5 (fun a w2 => Env ⟨57, []⟩ [(0, v_l_0), (1, .int .i64 a1), (21, .bool ((decide (a1 < 0)) || (decide (a1 ≥ (l_0.length : Int)))))] a ∧ St w em hV [slP k_api_Instr v_l_0 l_0, arrP k_arr88 0 tab0] [] w2) ?_ ?_
    · rintro a w2 ⟨ha, hw⟩
      refine SP.app ha hw ?_
      clear ha hw a w2
      refine SP.nil ?_
      refine QE.then ?_
      rcases if_some ho with ⟨hc, ho⟩ | ⟨hc, ho⟩
      · refine CP.condT rfl hc ?_
        refine CP.seq ?_
        refine CP.region ?_
        refine SP.val (Val.assign rfl) rfl rfl rfl ?_
        refine SP.val (Val.assign rfl) rfl rfl rfl ?_
        refine SP.nil ?_
        refine QE.then ?_
        refine CP.ret ?_
        refine QE.thru (by intro e; cases e) ?_
        obtain rfl := Option.some.inj ho
        exact QE.rets (rs := [.tmp 4, .tmp 5]) (vs := [(.slice none 0 0), .int .i64 2]) Tryd.results17 rfl ⟨RVs.tmp rfl, RVs.tmp rfl, trivial⟩ (fun w2 h => St.done (fun a b p s => ⟨_, rfl, s⟩) (St.selO [0] rfl rfl (St.addO (slO.nil (kInt .i64) 3) h)))
      · refine CP.condF rfl (bf hc) ?_
        refine CP.skip ?_
        refine QE.then ?_
        refine CP.seq ?_
        refine CP.region ?_
        refine SP.val (Val.assign rfl) rfl rfl rfl ?_
        refine SP.nil ?_
        refine QE.then ?_
        refine CP.seq ?_
        refine CP.region ?_
        refine SP.val (Val.move rfl) rfl rfl rfl ?_
        refine SP.val (Val.move rfl) rfl rfl rfl ?_
        obtain ⟨x9, hx, ho⟩ := bind_some ho
        have hx := elt_some hx
        refine SP.indexP see 0 rfl Tryd.underlying22 sz52 hx.1 hx.2 rfl rfl rfl rfl (fun p7 => ?_)
        clear hx
        refine k_api_Instr.load see 0 rfl Tryd.underlying52 rfl sz52 rfl rfl rfl ?_
        refine SP.alloc (cs := [.int .u8 0, .int .i64 0, .int .i64 0]) inf52 rfl rfl (fun b10 => ?_)
        refine SP.store (v := .agg #[.int .u8 x9.Op, .int .i64 x9.A, .int .i64 x9.B]) (vs := [.int .u8 x9.Op, .int .i64 x9.A, .int .i64 x9.B]) 0 (by rfl) sz52 (by rfl) (by rfl) (by rfl) (by rfl) (by rfl) (by rfl) ?_
        refine SP.nil ?_
        refine QE.then ?_
        refine CP.join (fun a w2 => ∃ l19 : List Int, ∃ v20 : Value, flow_Ways.j1 l_0 a1 x9 l19 = some r ∧ Env ⟨57, []⟩ [(7, v20), (8, .pointer (some ⟨b10, 0, none⟩))] a ∧ St w em hV [arrP k_arr88 0 tab0] [slO (kInt .i64) 3 v20 l19, boxO b10 [.int .u8 x9.Op, .int .i64 x9.A, .int .i64 x9.B] 52] w2) ?_ ?_
        · rintro a w2 ⟨l19, v20, ho, ha, hw⟩
          refine CP.app ha hw ?_
          clear ha hw a w2
          refine CP.join (fun a w2 => ∃ l31 : List Int, ∃ v32 : Value, flow_Ways.j2 l_0 a1 l31 = some r ∧ Env ⟨57, []⟩ [(7, v32)] a ∧ St w em hV [arrP k_arr88 0 tab0] [slO (kInt .i64) 3 v32 l31] w2) ?_ ?_
          · rintro a w2 ⟨l31, v32, ho, ha, hw⟩
            refine CP.app ha hw ?_
            clear ha hw a w2
            refine CP.seq ?_
            refine CP.region ?_
            refine SP.val (Val.move rfl) rfl rfl rfl ?_
            obtain ⟨hb, ho⟩ := must_some ho
            refine SP.callA see (caps := []) (X := slO (kInt .i64) 3 v32 l31) (fun r => HO.pand (r = .tuple #[]) (HO.seps [slO (kInt .i64) 3 v32 (l31.mergeSort fun x y => decide (x ≤ y))])) fn38 rfl rfl rfl rfl (fun w2 hP h1 sub s1 d1 ap hI => srti38_trip hb sub s1 d1 hI) (fun vr => ?_)
            refine SP.have (fun w2 h => (St.pand h).1.symm) (fun er => ?_)
            subst er
            refine SP.imp (fun w2 h => St.seps (St.pand h).2) ?_
            clear hb
            refine SP.nil ?_
            refine QE.then ?_
            refine CP.seq ?_
            refine CP.region ?_
            refine SP.val (Val.move rfl) rfl rfl rfl ?_
            obtain ⟨hb, ho⟩ := must_some ho
            refine SP.callA see (caps := []) (X := slO (kInt .i64) 3 v32 (l31.mergeSort fun x y => decide (x ≤ y))) (fun r => HO.ex fun u : Value => HO.pand (r = u) (HO.seps [slO (kInt .i64) 3 u (Lib.compact (l31.mergeSort fun x y => decide (x ≤ y)))])) fn39 rfl rfl rfl rfl (fun w2 hP h1 sub s1 d1 ap hI => compacti39_trip hb sub s1 d1 hI) (fun vr => ?_)
            refine SP.ex (fun w2 h => St.open h) (fun v35 => ?_)
            refine SP.have (fun w2 h => (St.pand h).1.symm) (fun er => ?_)
            subst er
            refine SP.imp (fun w2 h => St.seps (St.pand h).2) ?_
            clear hb
            refine SP.val (Val.assign rfl) rfl rfl rfl ?_
            refine SP.val (Val.assign rfl) rfl rfl rfl ?_
            refine SP.nil ?_
            refine QE.then ?_
            refine CP.ret ?_
            obtain rfl := Option.some.inj ho
            exact QE.rets (rs := [.tmp 4, .tmp 5]) (vs := [v35, .int .i64 0]) Tryd.results17 rfl ⟨RVs.tmp rfl, RVs.tmp rfl, trivial⟩ (fun w2 h => St.done (fun a b p s => ⟨_, rfl, s⟩) (St.selO [0] rfl rfl h))
          · refine CP.block ?_
            refine CP.seq ?_
            refine CP.region ?_
            refine SP.val (Val.fieldAddr Tryd.underlying52 rfl sz5 rfl) rfl rfl rfl ?_
            refine SP.val (Val.load1 1 rfl Tryd.underlying5 rfl rfl rfl) rfl rfl rfl ?_
            refine SP.val (Val.eql rfl rfl) rfl rfl rfl ?_
            refine SP.val (Val.assign rfl) rfl rfl rfl ?_
            refine SP.nil ?_
            refine QE.then ?_
            rcases if_some ho with ⟨hc, ho⟩ | ⟨hc, ho⟩
            · refine CP.condT rfl (decide_eq_true hc) ?_
              refine CP.region ?_
              refine SP.val (Val.move rfl) rfl rfl rfl ?_
              refine SP.val (Val.fieldAddr Tryd.underlying52 rfl sz3 rfl) rfl rfl rfl ?_
              refine SP.val (Val.load1 1 rfl Tryd.underlying3 rfl rfl rfl) rfl rfl rfl ?_
              refine SP.val (Val.add rfl rfl) rfl rfl rfl ?_
              refine SP.lit (k := (kInt .i64)) (xs := [IntKind.i64.wrap (x9.A + 1)]) (vs := [.int .i64 (IntKind.i64.wrap (x9.A + 1))]) (cells := [.int .i64 (IntKind.i64.wrap (x9.A + 1))]) Tryd.underlying27 inf3 rfl rfl rfl rfl rfl rfl rfl rfl (fun _ ap => ⟨[.int .i64 (IntKind.i64.wrap (x9.A + 1))], _, rfl, rfl, rfl⟩) rfl rfl rfl (fun v21 => ?_)
              refine SP.freezeS see 0 rfl ?_
              obtain ⟨hb, ho⟩ := must_some ho
              refine SP.append see 0 rfl 0 rfl Tryd.underlying27 inf3 rfl rfl hb rfl rfl rfl rfl rfl (fun v23 => ?_)
              clear hb
              refine SP.val (Val.assign rfl) rfl rfl rfl ?_
              refine SP.nil ?_
              refine QE.blockN ?_
              exact QE.meet fun a w2 ha hw => ⟨(l19 ++ [IntKind.i64.wrap (x9.A + 1)]), v23, ho, ha.sub ⟨rfl, trivial⟩, (St.selP [1] rfl (St.selO [0] rfl rfl hw))⟩
            · refine CP.condF rfl (decide_eq_false hc) ?_
              refine CP.seq ?_
              refine CP.region ?_
              refine SP.val (Val.fieldAddr Tryd.underlying52 rfl sz5 rfl) rfl rfl rfl ?_
              refine SP.val (Val.load1 1 rfl Tryd.underlying5 rfl rfl rfl) rfl rfl rfl ?_
              obtain ⟨t25, hc, ho⟩ := bind_some (x := op_Leads.f x9.Op) ho
              refine SP.callV see (caps := []) (.bool t25) fn37 rfl rfl rfl rfl (fun w2 hP hs sub ap => op_Leads.ok x9.Op  _ hc w2 hP sub ) ?_
              clear hc
              refine SP.val (Val.assign rfl) rfl rfl rfl ?_
              refine SP.nil ?_
              refine QE.then ?_
              rcases if_some ho with ⟨hc, ho⟩ | ⟨hc, ho⟩
              · refine CP.condT rfl hc ?_
                refine CP.region ?_
                refine SP.val (Val.move rfl) rfl rfl rfl ?_
                refine SP.val (Val.fieldAddr Tryd.underlying52 rfl sz3 rfl) rfl rfl rfl ?_
                refine SP.val (Val.load1 1 rfl Tryd.underlying3 rfl rfl rfl) rfl rfl rfl ?_
                refine SP.lit (k := (kInt .i64)) (xs := [x9.A]) (vs := [.int .i64 x9.A]) (cells := [.int .i64 x9.A]) Tryd.underlying27 inf3 rfl rfl rfl rfl rfl rfl rfl rfl (fun _ ap => ⟨[.int .i64 x9.A], _, rfl, rfl, rfl⟩) rfl rfl rfl (fun v26 => ?_)
                refine SP.freezeS see 0 rfl ?_
                obtain ⟨hb, ho⟩ := must_some ho
                refine SP.append see 0 rfl 0 rfl Tryd.underlying27 inf3 rfl rfl hb rfl rfl rfl rfl rfl (fun v28 => ?_)
                clear hb
                refine SP.val (Val.assign rfl) rfl rfl rfl ?_
                refine SP.nil ?_
                refine QE.blockN ?_
                exact QE.meet fun a w2 ha hw => ⟨(l19 ++ [x9.A]), v28, ho, ha.sub ⟨rfl, trivial⟩, (St.selP [1] rfl (St.selO [0] rfl rfl hw))⟩
              · refine CP.condF rfl (bf hc) ?_
                refine CP.skip ?_
                refine QE.blockN ?_
                exact QE.meet fun a w2 ha hw => ⟨l19, v20, ho, ha.sub ⟨rfl, trivial⟩, (St.selO [0] rfl rfl hw)⟩
        · refine CP.seq ?_
          refine CP.region ?_
          refine SP.val (Val.fieldAddr Tryd.underlying52 rfl sz5 rfl) rfl rfl rfl ?_
          refine SP.val (Val.load1 0 rfl Tryd.underlying5 rfl rfl rfl) rfl rfl rfl ?_
          obtain ⟨t12, hc, ho⟩ := bind_some (x := op_Goes.f x9.Op) ho
          refine SP.callV see (caps := []) (.bool t12) fn36 rfl rfl rfl rfl (fun w2 hP hs sub ap => op_Goes.ok x9.Op  _ hc w2 hP sub ) ?_
          clear hc
          refine SP.nil ?_
          refine QE.then ?_
          rcases if_some ho with ⟨hc, ho⟩ | ⟨hc, ho⟩
          · refine CP.condT rfl hc ?_
            refine CP.region ?_
            refine SP.val (Val.move rfl) rfl rfl rfl ?_
            refine SP.val (Val.move rfl) rfl rfl rfl ?_
            refine SP.val (Val.add rfl rfl) rfl rfl rfl ?_
            refine SP.lit (k := (kInt .i64)) (xs := [IntKind.i64.wrap (a1 + 1)]) (vs := [.int .i64 (IntKind.i64.wrap (a1 + 1))]) (cells := [.int .i64 (IntKind.i64.wrap (a1 + 1))]) Tryd.underlying27 inf3 rfl rfl rfl rfl rfl rfl rfl rfl (fun _ ap => ⟨[.int .i64 (IntKind.i64.wrap (a1 + 1))], _, rfl, rfl, rfl⟩) rfl rfl rfl (fun v13 => ?_)
            refine SP.imp (fun w2 hw => St.addO (slO.nil (kInt .i64) 3) hw) ?_
            refine SP.freezeS see 1 rfl ?_
            obtain ⟨hb, ho⟩ := must_some ho
            refine SP.append see 0 rfl 0 rfl Tryd.underlying27 inf3 rfl rfl hb rfl rfl rfl rfl rfl (fun v16 => ?_)
            clear hb
            refine SP.val (Val.assign rfl) rfl rfl rfl ?_
            refine SP.nil ?_
            exact QE.meet fun a w2 ha hw => ⟨(([] : List Int) ++ [IntKind.i64.wrap (a1 + 1)]), v16, ho, ha.sub ⟨rfl, rfl, trivial⟩, (St.selP [3] rfl hw)⟩
          · refine CP.condF rfl (bf hc) ?_
            refine CP.skip ?_
            exact QE.meet fun a w2 ha hw => ⟨[], (.slice none 0 0), ho, ha.sub ⟨rfl, rfl, trivial⟩, (St.selP [2] rfl (St.addO (slO.nil (kInt .i64) 3) hw))⟩
    · intro J
      by_cases hc : a1 < 0
      · have hq5 := (decide_eq_true hc)
        refine SP.isT (d := 16) rfl hq5 ?_
        refine SP.not rfl rfl rfl ?_
        refine SP.not rfl rfl rfl ?_
        refine SP.not rfl rfl rfl ?_
        refine SP.not rfl rfl rfl ?_
        refine SP.val (Val.pickT rfl rfl) rfl rfl rfl ?_
        exact J fun a w2 ha hw => ⟨ha.sub ⟨rfl, rfl, congrArg (fun z => some (Value.bool z)) (or_t hq5), trivial⟩, hw⟩
      · have hq5 := (decide_eq_false hc)
        refine SP.isF (d := 16) rfl hq5 ?_
        refine SP.val (Val.move rfl) rfl rfl rfl ?_
        refine SP.val (Val.move rfl) rfl rfl rfl ?_
        refine SP.val (Val.lenP see 0 rfl Tryd.underlying22 rfl) rfl rfl rfl ?_
        refine SP.val (Val.geq rfl rfl) rfl rfl rfl ?_
        refine SP.val (Val.pickF rfl rfl) rfl rfl rfl ?_
        exact J fun a w2 ha hw => ⟨ha.sub ⟨rfl, rfl, congrArg (fun z => some (Value.bool z)) (or_f hq5 rfl), trivial⟩, hw⟩
end Go.Proofs.YtbejlahmhloloaaDoor
end
