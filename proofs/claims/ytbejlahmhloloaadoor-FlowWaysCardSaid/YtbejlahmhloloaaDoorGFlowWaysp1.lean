/- Functions of the program as plain functions, with the proof that the code computes them: printed by gen.py of this session. -/
import Derived.Test.YtbejlahmhloloaaDoorProg
import Derived.Test.YtbejlahmhloloaaDoorQ26v13fef8
import Derived.Ground.NamesProg
import Derived.Ground.SlgcProg
import Derived.Ground.SlgmProg
import Derived.Ground.SlgnProg
import Derived.Ground.SlsfProg
import Derived.Shelf.Lay
import Derived.Shelf.SlGeneric
import Derived.Shelf.SlSortCmp.WholeK
import Derived.Shelf.SlicesG.Cmp
import Derived.Shelf.SlicesG.CompactI
import Derived.Shelf.Small.Bits
import Derived.Shelf.SortM.Plain
import Derived.Shelf.SortM.SortNone
set_option linter.unusedVariables false
set_option linter.unusedSimpArgs false
set_option maxRecDepth 20000
set_option maxHeartbeats 2000000
noncomputable section
namespace Go.Proofs.YtbejlahmhloloaaDoor
open Go.Q
structure api_Instr where
  Op : Int
  A : Int
  B : Int
def api_Instr.zero : api_Instr := ⟨0, 0, 0⟩
def k_api_Instr : Kd api_Instr := ⟨3, fun h cs x => cs = [.int .u8 x.Op, .int .i64 x.A, .int .i64 x.B], fun _ _ _ _ _ h => h, fun _ _ _ h => by simp [h], fun _ _ _ h => by subst h; rfl⟩
theorem k_api_Instr.part_Op : Part k_api_Instr 0 (kInt .u8) (fun x => x.Op) := fun h cs x e => ⟨[.int .u8 x.Op], rfl, by subst e; exact seg_get [.int .u8 x.Op, .int .i64 x.A, .int .i64 x.B] 0 1⟩
theorem k_api_Instr.part_A : Part k_api_Instr 1 (kInt .i64) (fun x => x.A) := fun h cs x e => ⟨[.int .i64 x.A], rfl, by subst e; exact seg_get [.int .u8 x.Op, .int .i64 x.A, .int .i64 x.B] 1 1⟩
theorem k_api_Instr.part_B : Part k_api_Instr 2 (kInt .i64) (fun x => x.B) := fun h cs x e => ⟨[.int .i64 x.B], rfl, by subst e; exact seg_get [.int .u8 x.Op, .int .i64 x.A, .int .i64 x.B] 2 1⟩
theorem k_api_Instr.load {P : Program} {n : Fr} {ρ : Option Nat} {σ : List (Nat × Value)} {w0 : World} {hA hV : Hp} {ps : List HP} {os : List HO} {L l : List Oper} {Q : Cont} {d : Nat} {t tr : TypeId} {x : Operand} {pos : String} {af : Array Edge} {g : Option (Nat × Bool)} {v : Value} (see : Sees w0 hA hV) (i : Nat) {x0 : api_Instr} (hi : ps[i]? = some (elP k_api_Instr v x0)) {dsc : TypeDesc} (hu : P.underlying t = some dsc) (hd : (match dsc with | .struct _ | .array _ _ => true | _ => false) = true) (hs : (P.info? t).map (·.size) = some 3) (hg : gd L σ g = some true) (hn : Nat.blt d n.n = true) (hx : ev σ x = some v)
    (h : SP P n ρ ((d, .agg [.int .u8 x0.Op, .int .i64 x0.A, .int .i64 x0.B].toArray) :: σ) (St w0 hA hV (ps) os) L l Q) : SP P n ρ σ (St w0 hA hV ps os) L (⟨some d, .load t x, tr, pos, af, g⟩ :: l) Q :=
  SP.loadP see i hi hu hd hs hg hn hx fun cs a w ha hw => by
    obtain ⟨m, fr, hN, hO, n1, n2, dj, s1, s2, ap, s⟩ := hw
    obtain rfl := ap.get 0 rfl
    exact h a w ha ⟨m, fr, hN, hO, n1, n2, dj, s1, s2, (fun y hy => ap y (List.mem_cons_of_mem _ hy)), s⟩
structure capstanref09_Loop where
  From : Int
  To : Int
  Turns : Int
def capstanref09_Loop.zero : capstanref09_Loop := ⟨0, 0, 0⟩
def k_capstanref09_Loop : Kd capstanref09_Loop := ⟨3, fun h cs x => cs = [.int .i64 x.From, .int .i64 x.To, .int .i64 x.Turns], fun _ _ _ _ _ h => h, fun _ _ _ h => by simp [h], fun _ _ _ h => by subst h; rfl⟩
theorem k_capstanref09_Loop.part_From : Part k_capstanref09_Loop 0 (kInt .i64) (fun x => x.From) := fun h cs x e => ⟨[.int .i64 x.From], rfl, by subst e; exact seg_get [.int .i64 x.From, .int .i64 x.To, .int .i64 x.Turns] 0 1⟩
theorem k_capstanref09_Loop.part_To : Part k_capstanref09_Loop 1 (kInt .i64) (fun x => x.To) := fun h cs x e => ⟨[.int .i64 x.To], rfl, by subst e; exact seg_get [.int .i64 x.From, .int .i64 x.To, .int .i64 x.Turns] 1 1⟩
theorem k_capstanref09_Loop.part_Turns : Part k_capstanref09_Loop 2 (kInt .i64) (fun x => x.Turns) := fun h cs x e => ⟨[.int .i64 x.Turns], rfl, by subst e; exact seg_get [.int .i64 x.From, .int .i64 x.To, .int .i64 x.Turns] 2 1⟩
theorem k_capstanref09_Loop.load {P : Program} {n : Fr} {ρ : Option Nat} {σ : List (Nat × Value)} {w0 : World} {hA hV : Hp} {ps : List HP} {os : List HO} {L l : List Oper} {Q : Cont} {d : Nat} {t tr : TypeId} {x : Operand} {pos : String} {af : Array Edge} {g : Option (Nat × Bool)} {v : Value} (see : Sees w0 hA hV) (i : Nat) {x0 : capstanref09_Loop} (hi : ps[i]? = some (elP k_capstanref09_Loop v x0)) {dsc : TypeDesc} (hu : P.underlying t = some dsc) (hd : (match dsc with | .struct _ | .array _ _ => true | _ => false) = true) (hs : (P.info? t).map (·.size) = some 3) (hg : gd L σ g = some true) (hn : Nat.blt d n.n = true) (hx : ev σ x = some v)
    (h : SP P n ρ ((d, .agg [.int .i64 x0.From, .int .i64 x0.To, .int .i64 x0.Turns].toArray) :: σ) (St w0 hA hV (ps) os) L l Q) : SP P n ρ σ (St w0 hA hV ps os) L (⟨some d, .load t x, tr, pos, af, g⟩ :: l) Q :=
  SP.loadP see i hi hu hd hs hg hn hx fun cs a w ha hw => by
    obtain ⟨m, fr, hN, hO, n1, n2, dj, s1, s2, ap, s⟩ := hw
    obtain rfl := ap.get 0 rfl
    exact h a w ha ⟨m, fr, hN, hO, n1, n2, dj, s1, s2, (fun y hy => ap y (List.mem_cons_of_mem _ hy)), s⟩
structure flow_Loop where
  From : Int
  To : Int
  Turns : Int
def flow_Loop.zero : flow_Loop := ⟨0, 0, 0⟩
def k_flow_Loop : Kd flow_Loop := ⟨3, fun h cs x => cs = [.int .i64 x.From, .int .i64 x.To, .int .i64 x.Turns], fun _ _ _ _ _ h => h, fun _ _ _ h => by simp [h], fun _ _ _ h => by subst h; rfl⟩
theorem k_flow_Loop.part_From : Part k_flow_Loop 0 (kInt .i64) (fun x => x.From) := fun h cs x e => ⟨[.int .i64 x.From], rfl, by subst e; exact seg_get [.int .i64 x.From, .int .i64 x.To, .int .i64 x.Turns] 0 1⟩
theorem k_flow_Loop.part_To : Part k_flow_Loop 1 (kInt .i64) (fun x => x.To) := fun h cs x e => ⟨[.int .i64 x.To], rfl, by subst e; exact seg_get [.int .i64 x.From, .int .i64 x.To, .int .i64 x.Turns] 1 1⟩
theorem k_flow_Loop.part_Turns : Part k_flow_Loop 2 (kInt .i64) (fun x => x.Turns) := fun h cs x e => ⟨[.int .i64 x.Turns], rfl, by subst e; exact seg_get [.int .i64 x.From, .int .i64 x.To, .int .i64 x.Turns] 2 1⟩
theorem k_flow_Loop.load {P : Program} {n : Fr} {ρ : Option Nat} {σ : List (Nat × Value)} {w0 : World} {hA hV : Hp} {ps : List HP} {os : List HO} {L l : List Oper} {Q : Cont} {d : Nat} {t tr : TypeId} {x : Operand} {pos : String} {af : Array Edge} {g : Option (Nat × Bool)} {v : Value} (see : Sees w0 hA hV) (i : Nat) {x0 : flow_Loop} (hi : ps[i]? = some (elP k_flow_Loop v x0)) {dsc : TypeDesc} (hu : P.underlying t = some dsc) (hd : (match dsc with | .struct _ | .array _ _ => true | _ => false) = true) (hs : (P.info? t).map (·.size) = some 3) (hg : gd L σ g = some true) (hn : Nat.blt d n.n = true) (hx : ev σ x = some v)
    (h : SP P n ρ ((d, .agg [.int .i64 x0.From, .int .i64 x0.To, .int .i64 x0.Turns].toArray) :: σ) (St w0 hA hV (ps) os) L l Q) : SP P n ρ σ (St w0 hA hV ps os) L (⟨some d, .load t x, tr, pos, af, g⟩ :: l) Q :=
  SP.loadP see i hi hu hd hs hg hn hx fun cs a w ha hw => by
    obtain ⟨m, fr, hN, hO, n1, n2, dj, s1, s2, ap, s⟩ := hw
    obtain rfl := ap.get 0 rfl
    exact h a w ha ⟨m, fr, hN, hO, n1, n2, dj, s1, s2, (fun y hy => ap y (List.mem_cons_of_mem _ hy)), s⟩
structure arr88 where
  e0 : Int
  e1 : Int
def arr88.zero : arr88 := ⟨0, 0⟩
def k_arr88 : Kd arr88 := ⟨2, fun h cs x => cs = [.int .i64 x.e0, .int .i64 x.e1], fun _ _ _ _ _ h => h, fun _ _ _ h => by simp [h], fun _ _ _ h => by subst h; rfl⟩
theorem k_arr88.part_e0 : Part k_arr88 0 (kInt .i64) (fun x => x.e0) := fun h cs x e => ⟨[.int .i64 x.e0], rfl, by subst e; exact seg_get [.int .i64 x.e0, .int .i64 x.e1] 0 1⟩
theorem k_arr88.part_e1 : Part k_arr88 1 (kInt .i64) (fun x => x.e1) := fun h cs x e => ⟨[.int .i64 x.e1], rfl, by subst e; exact seg_get [.int .i64 x.e0, .int .i64 x.e1] 1 1⟩
theorem k_arr88.load {P : Program} {n : Fr} {ρ : Option Nat} {σ : List (Nat × Value)} {w0 : World} {hA hV : Hp} {ps : List HP} {os : List HO} {L l : List Oper} {Q : Cont} {d : Nat} {t tr : TypeId} {x : Operand} {pos : String} {af : Array Edge} {g : Option (Nat × Bool)} {v : Value} (see : Sees w0 hA hV) (i : Nat) {x0 : arr88} (hi : ps[i]? = some (elP k_arr88 v x0)) {dsc : TypeDesc} (hu : P.underlying t = some dsc) (hd : (match dsc with | .struct _ | .array _ _ => true | _ => false) = true) (hs : (P.info? t).map (·.size) = some 2) (hg : gd L σ g = some true) (hn : Nat.blt d n.n = true) (hx : ev σ x = some v)
    (h : SP P n ρ ((d, .agg [.int .i64 x0.e0, .int .i64 x0.e1].toArray) :: σ) (St w0 hA hV (ps) os) L l Q) : SP P n ρ σ (St w0 hA hV ps os) L (⟨some d, .load t x, tr, pos, af, g⟩ :: l) Q :=
  SP.loadP see i hi hu hd hs hg hn hx fun cs a w ha hw => by
    obtain ⟨m, fr, hN, hO, n1, n2, dj, s1, s2, ap, s⟩ := hw
    obtain rfl := ap.get 0 rfl
    exact h a w ha ⟨m, fr, hN, hO, n1, n2, dj, s1, s2, (fun y hy => ap y (List.mem_cons_of_mem _ hy)), s⟩
theorem sz3 : (Tryd.prog.info? 3).map (·.size) = some 1 := by kernel_rfl
theorem sz5 : (Tryd.prog.info? 5).map (·.size) = some 1 := by kernel_rfl
theorem sz40 : (Tryd.prog.info? 40).map (·.size) = some 3 := by kernel_rfl
theorem sz41 : (Tryd.prog.info? 41).map (·.size) = some 3 := by kernel_rfl
theorem sz52 : (Tryd.prog.info? 52).map (·.size) = some 3 := by kernel_rfl
theorem sz61 : (Tryd.prog.info? 61).map (·.size) = some 4 := by kernel_rfl
theorem sz88 : (Tryd.prog.info? 88).map (·.size) = some 2 := by kernel_rfl
theorem inf3 : (Tryd.prog.info? 3).map (fun i => ((i.zero.map fun z => z.cells.toList), i.size, i.bytes)) = some (some [.int .i64 0], 1, 8) := by kernel_rfl
theorem inf40 : (Tryd.prog.info? 40).map (fun i => ((i.zero.map fun z => z.cells.toList), i.size, i.bytes)) = some (some [.int .i64 0, .int .i64 0, .int .i64 0], 3, 24) := by kernel_rfl
theorem inf41 : (Tryd.prog.info? 41).map (fun i => ((i.zero.map fun z => z.cells.toList), i.size, i.bytes)) = some (some [.int .i64 0, .int .i64 0, .int .i64 0], 3, 24) := by kernel_rfl
theorem inf52 : (Tryd.prog.info? 52).map (fun i => ((i.zero.map fun z => z.cells.toList), i.size, i.bytes)) = some (some [.int .u8 0, .int .i64 0, .int .i64 0], 3, 24) := by kernel_rfl
theorem inf63 : (Tryd.prog.info? 63).map (fun i => ((i.zero.map fun z => z.cells.toList), i.size, i.bytes)) = some (some [.int .i64 0, .int .i64 0, .int .i64 0, .int .i64 0, .int .i64 0], 5, 40) := by kernel_rfl
theorem inf88 : (Tryd.prog.info? 88).map (fun i => ((i.zero.map fun z => z.cells.toList), i.size, i.bytes)) = some (some [.int .i64 0, .int .i64 0], 2, 16) := by kernel_rfl
theorem bt40 : shapeOf Tryd.prog 40 = some ([.int .i64 0, .int .i64 0, .int .i64 0], [(0, 1), (1, 1), (2, 1)]) := by kernel_rfl
theorem bt41 : shapeOf Tryd.prog 41 = some ([.int .i64 0, .int .i64 0, .int .i64 0], [(0, 1), (1, 1), (2, 1)]) := by kernel_rfl
theorem fn56 : ((Tryd.prog.funcs[56]?).map fun fn => fn.body.isSome && !(fn.name == "runtime.NumGoroutine")) = some true := by rw [Tryd.func56]; rfl
theorem fn41 : ((Tryd.prog.funcs[41]?).map fun fn => fn.body.isSome && !(fn.name == "runtime.NumGoroutine")) = some true := by rw [Tryd.func41]; rfl
theorem fn21 : ((Tryd.prog.funcs[21]?).map fun fn => fn.body.isSome && !(fn.name == "runtime.NumGoroutine")) = some true := by rw [Tryd.func21]; rfl
theorem fn22 : ((Tryd.prog.funcs[22]?).map fun fn => fn.body.isSome && !(fn.name == "runtime.NumGoroutine")) = some true := by rw [Tryd.func22]; rfl
theorem fn24 : ((Tryd.prog.funcs[24]?).map fun fn => fn.body.isSome && !(fn.name == "runtime.NumGoroutine")) = some true := by rw [Tryd.func24]; rfl
theorem fn42 : ((Tryd.prog.funcs[42]?).map fun fn => fn.body.isSome && !(fn.name == "runtime.NumGoroutine")) = some true := by rw [Tryd.func42]; rfl
theorem fn43 : ((Tryd.prog.funcs[43]?).map fun fn => fn.body.isSome && !(fn.name == "runtime.NumGoroutine")) = some true := by rw [Tryd.func43]; rfl
theorem fn23 : ((Tryd.prog.funcs[23]?).map fun fn => fn.body.isSome && !(fn.name == "runtime.NumGoroutine")) = some true := by rw [Tryd.func23]; rfl
theorem fn9 : ((Tryd.prog.funcs[9]?).map fun fn => fn.body.isSome && !(fn.name == "runtime.NumGoroutine")) = some true := by rw [Tryd.func9]; rfl
theorem fn16 : ((Tryd.prog.funcs[16]?).map fun fn => fn.body.isSome && !(fn.name == "runtime.NumGoroutine")) = some true := by rw [Tryd.func16]; rfl
theorem fn53 : ((Tryd.prog.funcs[53]?).map fun fn => fn.body.isSome && !(fn.name == "runtime.NumGoroutine")) = some true := by rw [Tryd.func53]; rfl
theorem fn54 : ((Tryd.prog.funcs[54]?).map fun fn => fn.body.isSome && !(fn.name == "runtime.NumGoroutine")) = some true := by rw [Tryd.func54]; rfl
theorem fn45 : ((Tryd.prog.funcs[45]?).map fun fn => fn.body.isSome && !(fn.name == "runtime.NumGoroutine")) = some true := by rw [Tryd.func45]; rfl
theorem fn27 : ((Tryd.prog.funcs[27]?).map fun fn => fn.body.isSome && !(fn.name == "runtime.NumGoroutine")) = some true := by rw [Tryd.func27]; rfl
theorem fn26 : ((Tryd.prog.funcs[26]?).map fun fn => fn.body.isSome && !(fn.name == "runtime.NumGoroutine")) = some true := by rw [Tryd.func26]; rfl
theorem fn44 : ((Tryd.prog.funcs[44]?).map fun fn => fn.body.isSome && !(fn.name == "runtime.NumGoroutine")) = some true := by rw [Tryd.func44]; rfl
theorem fn25 : ((Tryd.prog.funcs[25]?).map fun fn => fn.body.isSome && !(fn.name == "runtime.NumGoroutine")) = some true := by rw [Tryd.func25]; rfl
theorem fn28 : ((Tryd.prog.funcs[28]?).map fun fn => fn.body.isSome && !(fn.name == "runtime.NumGoroutine")) = some true := by rw [Tryd.func28]; rfl
theorem fn29 : ((Tryd.prog.funcs[29]?).map fun fn => fn.body.isSome && !(fn.name == "runtime.NumGoroutine")) = some true := by rw [Tryd.func29]; rfl
theorem fn30 : ((Tryd.prog.funcs[30]?).map fun fn => fn.body.isSome && !(fn.name == "runtime.NumGoroutine")) = some true := by rw [Tryd.func30]; rfl
theorem fn47 : ((Tryd.prog.funcs[47]?).map fun fn => fn.body.isSome && !(fn.name == "runtime.NumGoroutine")) = some true := by rw [Tryd.func47]; rfl
theorem fn46 : ((Tryd.prog.funcs[46]?).map fun fn => fn.body.isSome && !(fn.name == "runtime.NumGoroutine")) = some true := by rw [Tryd.func46]; rfl
theorem fn57 : ((Tryd.prog.funcs[57]?).map fun fn => fn.body.isSome && !(fn.name == "runtime.NumGoroutine")) = some true := by rw [Tryd.func57]; rfl
theorem fn48 : ((Tryd.prog.funcs[48]?).map fun fn => fn.body.isSome && !(fn.name == "runtime.NumGoroutine")) = some true := by rw [Tryd.func48]; rfl
theorem fn31 : ((Tryd.prog.funcs[31]?).map fun fn => fn.body.isSome && !(fn.name == "runtime.NumGoroutine")) = some true := by rw [Tryd.func31]; rfl
theorem fn32 : ((Tryd.prog.funcs[32]?).map fun fn => fn.body.isSome && !(fn.name == "runtime.NumGoroutine")) = some true := by rw [Tryd.func32]; rfl
theorem fn11 : ((Tryd.prog.funcs[11]?).map fun fn => fn.body.isSome && !(fn.name == "runtime.NumGoroutine")) = some true := by rw [Tryd.func11]; rfl
theorem fn13 : ((Tryd.prog.funcs[13]?).map fun fn => fn.body.isSome && !(fn.name == "runtime.NumGoroutine")) = some true := by rw [Tryd.func13]; rfl
theorem fn36 : ((Tryd.prog.funcs[36]?).map fun fn => fn.body.isSome && !(fn.name == "runtime.NumGoroutine")) = some true := by rw [Tryd.func36]; rfl
theorem fn37 : ((Tryd.prog.funcs[37]?).map fun fn => fn.body.isSome && !(fn.name == "runtime.NumGoroutine")) = some true := by rw [Tryd.func37]; rfl
theorem fn38 : ((Tryd.prog.funcs[38]?).map fun fn => fn.body.isSome && !(fn.name == "runtime.NumGoroutine")) = some true := by rw [Tryd.func38]; rfl
theorem fn39 : ((Tryd.prog.funcs[39]?).map fun fn => fn.body.isSome && !(fn.name == "runtime.NumGoroutine")) = some true := by rw [Tryd.func39]; rfl
theorem fn17 : ((Tryd.prog.funcs[17]?).map fun fn => fn.body.isSome && !(fn.name == "runtime.NumGoroutine")) = some true := by rw [Tryd.func17]; rfl
theorem fn14 : ((Tryd.prog.funcs[14]?).map fun fn => fn.body.isSome && !(fn.name == "runtime.NumGoroutine")) = some true := by rw [Tryd.func14]; rfl
theorem fn4 : ((Tryd.prog.funcs[4]?).map fun fn => fn.body.isSome && !(fn.name == "runtime.NumGoroutine")) = some true := by rw [Tryd.func4]; rfl
def tab0 : List arr88 := [(⟨0, 0⟩ : arr88), (⟨0, 31⟩ : arr88), (⟨0, 15⟩ : arr88), (⟨0, 3⟩ : arr88), (⟨0, 1024⟩ : arr88), (⟨0, 199⟩ : arr88), (⟨0, 15⟩ : arr88), (⟨0, 255⟩ : arr88), (⟨1, 100⟩ : arr88)]
/-! ### capstan/capstanref04.Known: function 56 -/
def capstanref04_Known.f (op_0 : Int) : Option Bool :=
  some (decide (op_0 < 33))
theorem capstanref04_Known.ok (op_0 : Int)  (r : Bool) (H : capstanref04_Known.f op_0 = some r) (w : World) (hV : Hp) (sV : Sub hV (hp w))  :
    Trip Tryd.prog 56 [.int .u8 op_0].toArray em hV w (fun v => HO.pure (v = .bool r)) := by
  have see : Sees w em hV := ⟨sV, Dj.em_right _⟩
  refine Trip.of (P := Tryd.prog) (n := ⟨5, []⟩) Tryd.func56 rfl ⟨rfl, rfl⟩ rfl (St.begin (All.nil _)) ?_
  have ho := H
  refine CP.seq ?_
  refine CP.region ?_
  refine SP.val (Val.assign rfl) rfl rfl rfl ?_
  refine SP.nil ?_
  refine QE.then ?_
  refine CP.seq ?_
  refine CP.region ?_
  refine SP.val (Val.move rfl) rfl rfl rfl ?_
  refine SP.val (Val.lss rfl rfl) rfl rfl rfl ?_
  refine SP.val (Val.assign rfl) rfl rfl rfl ?_
  refine SP.nil ?_
  refine QE.then ?_
  refine CP.ret ?_
  obtain rfl := Option.some.inj ho
  exact QE.rets (rs := [.tmp 2]) (vs := [.bool (decide (op_0 < 33))]) Tryd.results56 rfl ⟨RVs.tmp rfl, trivial⟩ (fun w2 h => St.done (fun a b p s => rfl) h)
/-! ### capstan/capstanref04.Bounds: function 41 -/
def capstanref04_Bounds.j3 (op_0 : Int) (b3 : Bool) : Option (Int × Int) :=
  if b3 = true then (some (0, 199)) else (if op_0 = 32 then (some (0, 255)) else (if op_0 = 28 then (some (1, 100)) else ((capstanref04_Known.f op_0).bind fun t4 => if (!t4) = true then (some (0, (-1))) else (some (0, 0)))))

def capstanref04_Bounds.j2 (op_0 : Int) (b2 : Bool) : Option (Int × Int) :=
  if b2 = true then (some (0, 3)) else (if op_0 = 22 then (some (0, 1024)) else (if op_0 = 26 then (capstanref04_Bounds.j3 op_0 (decide (op_0 = 26))) else (if op_0 = 27 then (capstanref04_Bounds.j3 op_0 (decide (op_0 = 27))) else (capstanref04_Bounds.j3 op_0 (decide (op_0 = 29))))))

def capstanref04_Bounds.j1 (op_0 : Int) (b1 : Bool) : Option (Int × Int) :=
  if b1 = true then (some (0, 15)) else (if op_0 = 4 then (capstanref04_Bounds.j2 op_0 (decide (op_0 = 4))) else (capstanref04_Bounds.j2 op_0 (decide (op_0 = 5))))

def capstanref04_Bounds.f (op_0 : Int) : Option (Int × Int) :=
  if op_0 = 1 then (some (0, 31)) else (if op_0 = 2 then (capstanref04_Bounds.j1 op_0 (decide (op_0 = 2))) else (if op_0 = 3 then (capstanref04_Bounds.j1 op_0 (decide (op_0 = 3))) else (capstanref04_Bounds.j1 op_0 (decide (op_0 = 30)))))
theorem capstanref04_Bounds.ok (op_0 : Int)  (r : Int × Int) (H : capstanref04_Bounds.f op_0 = some r) (w : World) (hV : Hp) (sV : Sub hV (hp w))  :
    Trip Tryd.prog 41 [.int .u8 op_0].toArray em hV w (fun v => HO.pure (v = .tuple #[.int .i64 r.1, .int .i64 r.2])) := by
  have see : Sees w em hV := ⟨sV, Dj.em_right _⟩
  refine Trip.of (P := Tryd.prog) (n := ⟨27, []⟩) Tryd.func41 rfl ⟨rfl, rfl⟩ rfl (St.begin (All.nil _)) ?_
  have ho := H
  refine CP.seq ?_
  refine CP.region ?_
  refine SP.val (Val.assign rfl) rfl rfl rfl ?_
  refine SP.val (Val.assign rfl) rfl rfl rfl ?_
  refine SP.nil ?_
  refine QE.then ?_
  refine CP.seq ?_
  refine CP.seq ?_
  refine CP.region ?_
  refine SP.val (Val.move rfl) rfl rfl rfl ?_
  refine SP.nil ?_
  refine QE.then ?_
  refine CP.block ?_
  refine CP.seq ?_
  refine CP.region ?_
  refine SP.val (Val.eql rfl rfl) rfl rfl rfl ?_
  refine SP.val (Val.assign rfl) rfl rfl rfl ?_
  refine SP.nil ?_
  refine QE.then ?_
  rcases if_some ho with ⟨hc, ho⟩ | ⟨hc, ho⟩
  · refine CP.condT rfl (decide_eq_true hc) ?_
    refine CP.seq ?_
    refine CP.region ?_
    refine SP.val (Val.assign rfl) rfl rfl rfl ?_
    refine SP.val (Val.assign rfl) rfl rfl rfl ?_
    refine SP.nil ?_
    refine QE.then ?_
    refine CP.ret ?_
    refine QE.blockR ?_
    refine QE.thru (by intro e; cases e) ?_
    obtain rfl := Option.some.inj ho
    exact QE.rets (rs := [.tmp 2, .tmp 3]) (vs := [.int .i64 0, .int .i64 31]) Tryd.results41 rfl ⟨RVs.tmp rfl, RVs.tmp rfl, trivial⟩ (fun w2 h => St.done (fun a b p s => rfl) h)
  · refine CP.condF rfl (decide_eq_false hc) ?_
    refine CP.join (fun a w2 => ∃ b1 : Bool, capstanref04_Bounds.j1 op_0 b1 = some r ∧ Env ⟨27, []⟩ [(0, .int .u8 op_0), (4, .int .u8 op_0), (7, .bool b1)] a ∧ St w em hV [] [] w2) ?_ ?_
    · rintro a w2 ⟨b1, ho, ha, hw⟩
      refine CP.app ha hw ?_
      clear ha hw a w2
      rcases if_some ho with ⟨hc, ho⟩ | ⟨hc, ho⟩
      · refine CP.condT rfl hc ?_
        refine CP.seq ?_
        refine CP.region ?_
        refine SP.val (Val.assign rfl) rfl rfl rfl ?_
        refine SP.val (Val.assign rfl) rfl rfl rfl ?_
        refine SP.nil ?_
        refine QE.then ?_
        refine CP.ret ?_
        refine QE.blockR ?_
        refine QE.thru (by intro e; cases e) ?_
        obtain rfl := Option.some.inj ho
        exact QE.rets (rs := [.tmp 2, .tmp 3]) (vs := [.int .i64 0, .int .i64 15]) Tryd.results41 rfl ⟨RVs.tmp rfl, RVs.tmp rfl, trivial⟩ (fun w2 h => St.done (fun a b p s => rfl) h)
      · refine CP.condF rfl (bf hc) ?_
        refine CP.join (fun a w2 => ∃ b2 : Bool, capstanref04_Bounds.j2 op_0 b2 = some r ∧ Env ⟨27, []⟩ [(0, .int .u8 op_0), (4, .int .u8 op_0), (11, .bool b2)] a ∧ St w em hV [] [] w2) ?_ ?_
        · rintro a w2 ⟨b2, ho, ha, hw⟩
          refine CP.app ha hw ?_
          clear ha hw a w2
          rcases if_some ho with ⟨hc, ho⟩ | ⟨hc, ho⟩
          · refine CP.condT rfl hc ?_
            refine CP.seq ?_
            refine CP.region ?_
            refine SP.val (Val.assign rfl) rfl rfl rfl ?_
            refine SP.val (Val.assign rfl) rfl rfl rfl ?_
            refine SP.nil ?_
            refine QE.then ?_
            refine CP.ret ?_
            refine QE.blockR ?_
            refine QE.thru (by intro e; cases e) ?_
            obtain rfl := Option.some.inj ho
            exact QE.rets (rs := [.tmp 2, .tmp 3]) (vs := [.int .i64 0, .int .i64 3]) Tryd.results41 rfl ⟨RVs.tmp rfl, RVs.tmp rfl, trivial⟩ (fun w2 h => St.done (fun a b p s => rfl) h)
          · refine CP.condF rfl (bf hc) ?_
            refine CP.seq ?_
            refine CP.region ?_
            refine SP.val (Val.eql rfl rfl) rfl rfl rfl ?_
            refine SP.val (Val.assign rfl) rfl rfl rfl ?_
            refine SP.nil ?_
            refine QE.then ?_
            rcases if_some ho with ⟨hc, ho⟩ | ⟨hc, ho⟩
            · refine CP.condT rfl (decide_eq_true hc) ?_
              refine CP.seq ?_
              refine CP.region ?_
              refine SP.val (Val.assign rfl) rfl rfl rfl ?_
              refine SP.val (Val.assign rfl) rfl rfl rfl ?_
              refine SP.nil ?_
              refine QE.then ?_
              refine CP.ret ?_
              refine QE.blockR ?_
              refine QE.thru (by intro e; cases e) ?_
              obtain rfl := Option.some.inj ho
              exact QE.rets (rs := [.tmp 2, .tmp 3]) (vs := [.int .i64 0, .int .i64 1024]) Tryd.results41 rfl ⟨RVs.tmp rfl, RVs.tmp rfl, trivial⟩ (fun w2 h => St.done (fun a b p s => rfl) h)
            · refine CP.condF rfl (decide_eq_false hc) ?_
              refine CP.join (fun a w2 => ∃ b3 : Bool, capstanref04_Bounds.j3 op_0 b3 = some r ∧ Env ⟨27, []⟩ [(0, .int .u8 op_0), (4, .int .u8 op_0), (16, .bool b3)] a ∧ St w em hV [] [] w2) ?_ ?_
              · rintro a w2 ⟨b3, ho, ha, hw⟩
                refine CP.app ha hw ?_
                clear ha hw a w2
                rcases if_some ho with ⟨hc, ho⟩ | ⟨hc, ho⟩
                · refine CP.condT rfl hc ?_
                  refine CP.seq ?_
                  refine CP.region ?_
                  refine SP.val (Val.assign rfl) rfl rfl rfl ?_
                  refine SP.val (Val.assign rfl) rfl rfl rfl ?_
                  refine SP.nil ?_
                  refine QE.then ?_
                  refine CP.ret ?_
                  refine QE.blockR ?_
                  refine QE.thru (by intro e; cases e) ?_
                  obtain rfl := Option.some.inj ho
                  exact QE.rets (rs := [.tmp 2, .tmp 3]) (vs := [.int .i64 0, .int .i64 199]) Tryd.results41 rfl ⟨RVs.tmp rfl, RVs.tmp rfl, trivial⟩ (fun w2 h => St.done (fun a b p s => rfl) h)
                · refine CP.condF rfl (bf hc) ?_
                  refine CP.seq ?_
                  refine CP.region ?_
                  refine SP.val (Val.eql rfl rfl) rfl rfl rfl ?_
                  refine SP.val (Val.assign rfl) rfl rfl rfl ?_
                  refine SP.nil ?_
                  refine QE.then ?_
                  rcases if_some ho with ⟨hc, ho⟩ | ⟨hc, ho⟩
                  · refine CP.condT rfl (decide_eq_true hc) ?_
                    refine CP.seq ?_
                    refine CP.region ?_
                    refine SP.val (Val.assign rfl) rfl rfl rfl ?_
                    refine SP.val (Val.assign rfl) rfl rfl rfl ?_
                    refine SP.nil ?_
                    refine QE.then ?_
                    refine CP.ret ?_
                    refine QE.blockR ?_
                    refine QE.thru (by intro e; cases e) ?_
                    obtain rfl := Option.some.inj ho
                    exact QE.rets (rs := [.tmp 2, .tmp 3]) (vs := [.int .i64 0, .int .i64 255]) Tryd.results41 rfl ⟨RVs.tmp rfl, RVs.tmp rfl, trivial⟩ (fun w2 h => St.done (fun a b p s => rfl) h)
                  · refine CP.condF rfl (decide_eq_false hc) ?_
                    refine CP.seq ?_
                    refine CP.region ?_
                    refine SP.val (Val.eql rfl rfl) rfl rfl rfl ?_
                    refine SP.val (Val.assign rfl) rfl rfl rfl ?_
                    refine SP.nil ?_
                    refine QE.then ?_
                    rcases if_some ho with ⟨hc, ho⟩ | ⟨hc, ho⟩
                    · refine CP.condT rfl (decide_eq_true hc) ?_
                      refine CP.seq ?_
                      refine CP.region ?_
                      refine SP.val (Val.assign rfl) rfl rfl rfl ?_
                      refine SP.val (Val.assign rfl) rfl rfl rfl ?_
                      refine SP.nil ?_
                      refine QE.then ?_
                      refine CP.ret ?_
                      refine QE.blockR ?_
                      refine QE.thru (by intro e; cases e) ?_
                      obtain rfl := Option.some.inj ho
                      exact QE.rets (rs := [.tmp 2, .tmp 3]) (vs := [.int .i64 1, .int .i64 100]) Tryd.results41 rfl ⟨RVs.tmp rfl, RVs.tmp rfl, trivial⟩ (fun w2 h => St.done (fun a b p s => rfl) h)
                    · refine CP.condF rfl (decide_eq_false hc) ?_
                      refine CP.skip ?_
                      refine QE.blockN ?_
                      refine QE.then ?_
                      refine CP.seq ?_
                      refine CP.seq ?_
                      refine CP.region ?_
                      refine SP.val (Val.move rfl) rfl rfl rfl ?_
                      obtain ⟨t4, hc, ho⟩ := bind_some (x := capstanref04_Known.f op_0) ho
                      refine SP.callV see (caps := []) (.bool t4) fn56 rfl rfl rfl rfl (fun w2 hP hs sub ap => capstanref04_Known.ok op_0  _ hc w2 hP sub ) ?_
                      clear hc
                      refine SP.val (Val.notB rfl) rfl rfl rfl ?_
                      refine SP.nil ?_
                      refine QE.then ?_
                      rcases if_some ho with ⟨hc, ho⟩ | ⟨hc, ho⟩
                      · refine CP.condT rfl hc ?_
                        refine CP.seq ?_
                        refine CP.region ?_
                        refine SP.val (Val.assign rfl) rfl rfl rfl ?_
                        refine SP.val (Val.assign rfl) rfl rfl rfl ?_
                        refine SP.nil ?_
                        refine QE.then ?_
                        refine CP.ret ?_
                        refine QE.thru (by intro e; cases e) ?_
                        obtain rfl := Option.some.inj ho
                        exact QE.rets (rs := [.tmp 2, .tmp 3]) (vs := [.int .i64 0, .int .i64 (-1)]) Tryd.results41 rfl ⟨RVs.tmp rfl, RVs.tmp rfl, trivial⟩ (fun w2 h => St.done (fun a b p s => rfl) h)
                      · refine CP.condF rfl (bf hc) ?_
                        refine CP.skip ?_
                        refine QE.then ?_
                        refine CP.seq ?_
                        refine CP.region ?_
                        refine SP.val (Val.assign rfl) rfl rfl rfl ?_
                        refine SP.val (Val.assign rfl) rfl rfl rfl ?_
                        refine SP.nil ?_
                        refine QE.then ?_
                        refine CP.ret ?_
                        obtain rfl := Option.some.inj ho
                        exact QE.rets (rs := [.tmp 2, .tmp 3]) (vs := [.int .i64 0, .int .i64 0]) Tryd.results41 rfl ⟨RVs.tmp rfl, RVs.tmp rfl, trivial⟩ (fun w2 h => St.done (fun a b p s => rfl) h)
              · refine CP.seq ?_
                refine CP.region ?_
                refine SP.val (Val.eql rfl rfl) rfl rfl rfl ?_
                refine SP.val (Val.assign rfl) rfl rfl rfl ?_
                refine SP.nil ?_
                refine QE.then ?_
                rcases if_some ho with ⟨hc, ho⟩ | ⟨hc, ho⟩
                · refine CP.condT rfl (decide_eq_true hc) ?_
                  refine CP.skip ?_
                  exact QE.meet fun a w2 ha hw => ⟨(decide (op_0 = 26)), ho, ha.sub ⟨rfl, rfl, rfl, trivial⟩, hw⟩
                · refine CP.condF rfl (decide_eq_false hc) ?_
                  refine CP.seq ?_
                  refine CP.region ?_
                  refine SP.val (Val.eql rfl rfl) rfl rfl rfl ?_
                  refine SP.val (Val.assign rfl) rfl rfl rfl ?_
                  refine SP.nil ?_
                  refine QE.then ?_
                  rcases if_some ho with ⟨hc, ho⟩ | ⟨hc, ho⟩
                  · refine CP.condT rfl (decide_eq_true hc) ?_
                    refine CP.skip ?_
                    exact QE.meet fun a w2 ha hw => ⟨(decide (op_0 = 27)), ho, ha.sub ⟨rfl, rfl, rfl, trivial⟩, hw⟩
                  · refine CP.condF rfl (decide_eq_false hc) ?_
                    refine CP.region ?_
                    refine SP.val (Val.eql rfl rfl) rfl rfl rfl ?_
                    refine SP.val (Val.assign rfl) rfl rfl rfl ?_
                    refine SP.nil ?_
                    exact QE.meet fun a w2 ha hw => ⟨(decide (op_0 = 29)), ho, ha.sub ⟨rfl, rfl, rfl, trivial⟩, hw⟩
        · refine CP.seq ?_
          refine CP.region ?_
          refine SP.val (Val.eql rfl rfl) rfl rfl rfl ?_
          refine SP.val (Val.assign rfl) rfl rfl rfl ?_
          refine SP.nil ?_
          refine QE.then ?_
          rcases if_some ho with ⟨hc, ho⟩ | ⟨hc, ho⟩
          · refine CP.condT rfl (decide_eq_true hc) ?_
            refine CP.skip ?_
            exact QE.meet fun a w2 ha hw => ⟨(decide (op_0 = 4)), ho, ha.sub ⟨rfl, rfl, rfl, trivial⟩, hw⟩
          · refine CP.condF rfl (decide_eq_false hc) ?_
            refine CP.region ?_
            refine SP.val (Val.eql rfl rfl) rfl rfl rfl ?_
            refine SP.val (Val.assign rfl) rfl rfl rfl ?_
            refine SP.nil ?_
            exact QE.meet fun a w2 ha hw => ⟨(decide (op_0 = 5)), ho, ha.sub ⟨rfl, rfl, rfl, trivial⟩, hw⟩
    · refine CP.seq ?_
      refine CP.region ?_
      refine SP.val (Val.eql rfl rfl) rfl rfl rfl ?_
      refine SP.val (Val.assign rfl) rfl rfl rfl ?_
      refine SP.nil ?_
      refine QE.then ?_
      rcases if_some ho with ⟨hc, ho⟩ | ⟨hc, ho⟩
      · refine CP.condT rfl (decide_eq_true hc) ?_
        refine CP.skip ?_
        exact QE.meet fun a w2 ha hw => ⟨(decide (op_0 = 2)), ho, ha.sub ⟨rfl, rfl, rfl, trivial⟩, hw⟩
      · refine CP.condF rfl (decide_eq_false hc) ?_
        refine CP.seq ?_
        refine CP.region ?_
        refine SP.val (Val.eql rfl rfl) rfl rfl rfl ?_
        refine SP.val (Val.assign rfl) rfl rfl rfl ?_
        refine SP.nil ?_
        refine QE.then ?_
        rcases if_some ho with ⟨hc, ho⟩ | ⟨hc, ho⟩
        · refine CP.condT rfl (decide_eq_true hc) ?_
          refine CP.skip ?_
          exact QE.meet fun a w2 ha hw => ⟨(decide (op_0 = 3)), ho, ha.sub ⟨rfl, rfl, rfl, trivial⟩, hw⟩
        · refine CP.condF rfl (decide_eq_false hc) ?_
          refine CP.region ?_
          refine SP.val (Val.eql rfl rfl) rfl rfl rfl ?_
          refine SP.val (Val.assign rfl) rfl rfl rfl ?_
          refine SP.nil ?_
          exact QE.meet fun a w2 ha hw => ⟨(decide (op_0 = 30)), ho, ha.sub ⟨rfl, rfl, rfl, trivial⟩, hw⟩
/-! ### capstan/capstanref04.May: function 21 -/
def capstanref04_May.f (i_0 : api_Instr) : Option Bool :=
  (capstanref04_Bounds.f i_0.Op).bind fun t3 => some (((decide (i_0.B = 0)) && (decide (t3.1 ≤ i_0.A))) && (decide (i_0.A ≤ t3.2)))
theorem capstanref04_May.ok (i_0 : api_Instr)  (r : Bool) (H : capstanref04_May.f i_0 = some r) (w : World) (hV : Hp) (sV : Sub hV (hp w))  :
    Trip Tryd.prog 21 [.agg #[.int .u8 i_0.Op, .int .i64 i_0.A, .int .i64 i_0.B]].toArray em hV w (fun v => HO.pure (v = .bool r)) := by
  have see : Sees w em hV := ⟨sV, Dj.em_right _⟩
  refine Trip.of (P := Tryd.prog) (n := ⟨26, []⟩) Tryd.func21 rfl ⟨rfl, rfl⟩ rfl (St.begin (All.nil _)) ?_
  have ho := H
  refine CP.seq ?_
  refine CP.region ?_
  refine SP.box (cs := [.int .u8 i_0.Op, .int .i64 i_0.A, .int .i64 i_0.B]) rfl rfl rfl rfl (fun b1 => ?_)
  refine SP.val (Val.assign rfl) rfl rfl rfl ?_
  refine SP.nil ?_
  refine QE.then ?_
  refine CP.seq ?_
  refine CP.region ?_
  refine SP.val (Val.fieldAddr Tryd.underlying52 rfl sz5 rfl) rfl rfl rfl ?_
  refine SP.val (Val.load1 0 rfl Tryd.underlying5 rfl rfl rfl) rfl rfl rfl ?_
  obtain ⟨t3, hc, ho⟩ := bind_some (x := capstanref04_Bounds.f i_0.Op) ho
  refine SP.callV see (caps := []) (.tuple #[.int .i64 t3.1, .int .i64 t3.2]) fn41 rfl rfl rfl rfl (fun w2 hP hs sub ap => capstanref04_Bounds.ok i_0.Op  _ hc w2 hP sub ) ?_
  clear hc
  refine SP.val (Val.move rfl) rfl rfl rfl ?_
  refine SP.val (Val.extract rfl rfl) rfl rfl rfl ?_
  refine SP.val (Val.extract rfl rfl) rfl rfl rfl ?_
  refine SP.val (Val.assign rfl) rfl rfl rfl ?_
  refine SP.val (Val.assign rfl) rfl rfl rfl ?_
  refine SP.nil ?_
  refine QE.then ?_
  refine CP.seq ?_
  refine CP.region ?_
  refine SP.val (Val.fieldAddr Tryd.underlying52 rfl sz3 rfl) rfl rfl rfl ?_
  refine SP.val (Val.load1 0 rfl Tryd.underlying3 rfl rfl rfl) rfl rfl rfl ?_
  refine SP.val (Val.eql rfl rfl) rfl rfl rfl ?_
  refine SP.val (Val.move rfl) rfl rfl rfl ?_
  refine SP.join 5 (fun a w2 => Env ⟨26, []⟩ [(1, .pointer (some ⟨b1, 0, none⟩)), (4, .int .i64 t3.2), (19, .bool ((decide (i_0.B = 0)) && (decide (t3.1 ≤ i_0.A))))] a ∧ St w em hV [] [boxO b1 [.int .u8 i_0.Op, .int .i64 i_0.A, .int .i64 i_0.B] 52] w2) ?_ ?_
  · rintro a w2 ⟨ha, hw⟩
    refine SP.app ha hw ?_
    clear ha hw a w2
    refine SP.val (Val.move rfl) rfl rfl rfl ?_
    refine SP.join 5 (fun a w2 => Env ⟨26, []⟩ [(25, .bool (((decide (i_0.B = 0)) && (decide (t3.1 ≤ i_0.A))) && (decide (i_0.A ≤ t3.2))))] a ∧ St w em hV [] [boxO b1 [.int .u8 i_0.Op, .int .i64 i_0.A, .int .i64 i_0.B] 52] w2) ?_ ?_
    · rintro a w2 ⟨ha, hw⟩
      refine SP.app ha hw ?_
      clear ha hw a w2
      refine SP.val (Val.assign rfl) rfl rfl rfl ?_
      refine SP.nil ?_
      refine QE.then ?_
      refine CP.ret ?_
      obtain rfl := Option.some.inj ho
      exact QE.rets (rs := [.tmp 2]) (vs := [.bool (((decide (i_0.B = 0)) && (decide (t3.1 ≤ i_0.A))) && (decide (i_0.A ≤ t3.2)))]) Tryd.results21 rfl ⟨RVs.tmp rfl, trivial⟩ (fun w2 h => St.done (fun a b p s => rfl) h)
    · intro J
      by_cases hc : ((decide (i_0.B = 0)) && (decide (t3.1 ≤ i_0.A))) = true
      · have hq7 := hc
        refine SP.isT (d := 20) rfl hq7 ?_
        refine SP.val (Val.fieldAddr Tryd.underlying52 rfl sz3 rfl) rfl rfl rfl ?_
        refine SP.val (Val.load1 0 rfl Tryd.underlying3 rfl rfl rfl) rfl rfl rfl ?_
        refine SP.val (Val.move rfl) rfl rfl rfl ?_
        refine SP.val (Val.leq rfl rfl) rfl rfl rfl ?_
        refine SP.val (Val.pickT rfl rfl) rfl rfl rfl ?_
        exact J fun a w2 ha hw => ⟨ha.sub ⟨congrArg (fun z => some (Value.bool z)) (and_t hq7 rfl), trivial⟩, hw⟩
      · have hq7 := (bf hc)
        refine SP.isF (d := 20) rfl hq7 ?_
        refine SP.not rfl rfl rfl ?_
        refine SP.not rfl rfl rfl ?_
        refine SP.not rfl rfl rfl ?_
        refine SP.not rfl rfl rfl ?_
        refine SP.val (Val.pickF rfl rfl) rfl rfl rfl ?_
        exact J fun a w2 ha hw => ⟨ha.sub ⟨congrArg (fun z => some (Value.bool z)) (and_f hq7), trivial⟩, hw⟩
  · intro J
    by_cases hc : i_0.B = 0
    · have hq5 := (decide_eq_true hc)
      refine SP.isT (d := 14) rfl hq5 ?_
      refine SP.val (Val.move rfl) rfl rfl rfl ?_
      refine SP.val (Val.fieldAddr Tryd.underlying52 rfl sz3 rfl) rfl rfl rfl ?_
      refine SP.val (Val.load1 0 rfl Tryd.underlying3 rfl rfl rfl) rfl rfl rfl ?_
      refine SP.val (Val.leq rfl rfl) rfl rfl rfl ?_
      refine SP.val (Val.pickT rfl rfl) rfl rfl rfl ?_
      exact J fun a w2 ha hw => ⟨ha.sub ⟨rfl, rfl, congrArg (fun z => some (Value.bool z)) (and_t hq5 rfl), trivial⟩, hw⟩
    · have hq5 := (decide_eq_false hc)
      refine SP.isF (d := 14) rfl hq5 ?_
      refine SP.not rfl rfl rfl ?_
      refine SP.not rfl rfl rfl ?_
      refine SP.not rfl rfl rfl ?_
      refine SP.not rfl rfl rfl ?_
      refine SP.val (Val.pickF rfl rfl) rfl rfl rfl ?_
      exact J fun a w2 ha hw => ⟨ha.sub ⟨rfl, rfl, congrArg (fun z => some (Value.bool z)) (and_f hq5), trivial⟩, hw⟩
/-! ### capstan/capstanref09.all: function 22 -/
inductive capstanref09_all.S where
  | start
  | l1 (l151 : List capstanref09_Loop) (x153 : Int)
  | l2 (x153 : Int) (l190 : List capstanref09_Loop) (x192 : Int) (x193 : Int)
  | l3 (l151 : List capstanref09_Loop) (x266 : Int)

def capstanref09_all.j1 (l_0 : (List api_Instr)) (x153 : Int) (l235 : List capstanref09_Loop) : Option (capstanref09_all.S ⊕ ((List capstanref09_Loop) × Bool)) :=
  some (.inl (.l1 l235 (IntKind.i64.wrap (x153 + 1))))

def capstanref09_all.j2 (l_0 : (List api_Instr)) (x153 : Int) (x193 : Int) (l218 : List capstanref09_Loop) (x220 : Int) : Option (capstanref09_all.S ⊕ ((List capstanref09_Loop) × Bool)) :=
  some (.inl (.l2 x153 l218 x220 (IntKind.i64.wrap (x193 + 1))))

def capstanref09_all.F (l_0 : (List api_Instr)) : capstanref09_all.S → Option (capstanref09_all.S ⊕ ((List capstanref09_Loop) × Bool))
  | .start => some (.inl (.l1 [] 0))
  | .l1 l151 x153 => if x153 < (l_0.length : Int) then ((elt l_0 x153).bind fun x157 => if x157.Op ≠ 28 then (capstanref09_all.j1 l_0 x153 l151) else (some (.inl (.l2 x153 l151 0 0)))) else (some (.inl (.l3 l151 0)))
  | .l2 x153 l190 x192 x193 => if x193 < (l_0.length : Int) then ((elt l_0 x193).bind fun x197 => (if x197.Op = 29 then ((elt l_0 x193).bind fun x204 => some (decide (x204.A = x153))) else (some false)).bind fun t207 => if t207 = true then ((elt l_0 x153).bind fun x210 => if (l190.length + [(⟨x153, x193, x210.A⟩ : capstanref09_Loop)].length) * 24 ≤ 140737488355328 then (capstanref09_all.j2 l_0 x153 x193 (l190 ++ [(⟨x153, x193, x210.A⟩ : capstanref09_Loop)]) (IntKind.i64.wrap (x192 + 1))) else none) else (capstanref09_all.j2 l_0 x153 x193 l190 x192)) else ((if x192 ≠ 1 then (some true) else ((elt l190 (IntKind.i64.wrap ((l190.length : Int) - 1))).bind fun x225 => some (decide (x225.To < x153)))).bind fun t227 => if t227 = true then (some (.inr ([], false))) else (capstanref09_all.j1 l_0 x153 l190))
  | .l3 l151 x266 => if x266 < (l_0.length : Int) then ((elt l_0 x266).bind fun x270 => (if x270.Op = 29 then ((elt l_0 x266).bind fun x277 => (if x277.A ≥ (l_0.length : Int) then (some true) else ((elt l_0 x266).bind fun x284 => (elt l_0 x284.A).bind fun x289 => some (decide (x289.Op ≠ 28)))).bind fun t292 => some t292) else (some false)).bind fun t293 => if t293 = true then (some (.inr ([], false))) else (some (.inl (.l3 l151 (IntKind.i64.wrap (x266 + 1)))))) else (some (.inr (l151, true)))

def capstanref09_all.f (l_0 : (List api_Instr)) : Option ((List capstanref09_Loop) × Bool) := runF (capstanref09_all.F l_0) .start
theorem capstanref09_all.ok (l_0 : (List api_Instr)) (v_l_0 : Value) (r : (List capstanref09_Loop) × Bool) (H : capstanref09_all.f l_0 = some r) (w : World) (hV : Hp) (sV : Sub hV (hp w)) (h0 : slR k_api_Instr hV v_l_0 l_0) :
    Trip Tryd.prog 22 [v_l_0].toArray em hV w (fun v => HO.ex fun u0 : Value => HO.pand (v = .tuple #[u0, .bool r.2]) (HO.seps [slO k_capstanref09_Loop 41 u0 r.1])) := by
  have see : Sees w em hV := ⟨sV, Dj.em_right _⟩
  refine Trip.of (P := Tryd.prog) (n := ⟨103, []⟩) Tryd.func22 rfl ⟨rfl, rfl⟩ rfl (St.begin (All.cons (x := slP k_api_Instr v_l_0 l_0) h0 (All.nil _))) ?_
  obtain ⟨n0, hi⟩ := runF_iff.1 H
  obtain ⟨m0, o, hm0, ho, hr⟩ := iter_some hi
  clear hi
  refine CP.seq ?_
  refine CP.region ?_
  refine SP.val (Val.assign rfl) rfl rfl rfl ?_
  refine SP.val (Val.assign rfl) rfl rfl rfl ?_
  refine SP.nil ?_
  refine QE.then ?_
  refine CP.seq ?_
  refine CP.region ?_
  refine SP.val (Val.assign rfl) rfl rfl rfl ?_
  refine SP.nil ?_
  refine QE.then ?_
  refine CP.seq ?_
  refine CP.seq ?_
  refine CP.region ?_
  refine SP.val (Val.assign rfl) rfl rfl rfl ?_
  refine SP.nil ?_
  refine QE.then ?_
  refine CP.block ?_
  obtain rfl := Option.some.inj ho
  refine CP.loop (fun cl1 a w2 => ∃ l151 : List capstanref09_Loop, ∃ x153 : Int, ∃ v152 : Value, cl1 ≤ m0 ∧ iter (capstanref09_all.F l_0) cl1 (.l1 l151 x153) = some r ∧ Env ⟨103, []⟩ [(0, v_l_0), (4, v152), (5, .int .i64 x153)] a ∧ St w em hV [slP k_api_Instr v_l_0 l_0] [slO k_capstanref09_Loop 41 v152 l151] w2) m0 (fun a w2 ha hw => ⟨[], 0, (.slice none 0 0), Nat.le_refl _, hr, ha.sub ⟨rfl, rfl, rfl, trivial⟩, (St.addO (slO.nil k_capstanref09_Loop 41) hw)⟩) ?_
  clear hr
  rintro cl1 a w2 ⟨l151, x153, v152, hc_l1, hi, ha, hw⟩
  obtain ⟨m154, o, hm_m154, ho, hr⟩ := iter_some hi
  refine CP.app ha hw ?_
  clear ha hw a w2 hi
  refine CP.seq ?_
  refine CP.seq ?_
  refine CP.region ?_
  refine SP.val (Val.move rfl) rfl rfl rfl ?_
  refine SP.val (Val.move rfl) rfl rfl rfl ?_
  refine SP.val (Val.lenP see 0 rfl Tryd.underlying22 rfl) rfl rfl rfl ?_
  refine SP.val (Val.lss rfl rfl) rfl rfl rfl ?_
  refine SP.nil ?_
  refine QE.then ?_
  rcases if_some ho with ⟨hc, ho⟩ | ⟨hc, ho⟩
  · refine CP.condT rfl (decide_eq_true hc) ?_
    refine CP.skip ?_
    refine QE.then ?_
    refine CP.join (fun a w2 => ∃ l235 : List capstanref09_Loop, ∃ v236 : Value, ∃ (m237 : Nat) (o : (capstanref09_all.S ⊕ ((List capstanref09_Loop) × Bool))), m237 ≤ m154 ∧ capstanref09_all.j1 l_0 x153 l235 = some o ∧ next (capstanref09_all.F l_0) m237 o = some r ∧ Env ⟨103, []⟩ [(0, v_l_0), (4, v236), (5, .int .i64 x153)] a ∧ St w em hV [slP k_api_Instr v_l_0 l_0] [slO k_capstanref09_Loop 41 v236 l235] w2) ?_ ?_
    · rintro a w2 ⟨l235, v236, m237, o, hm_m237, ho, hr, ha, hw⟩
      refine CP.app ha hw ?_
      clear ha hw a w2
      refine CP.region ?_
      refine SP.val (Val.move rfl) rfl rfl rfl ?_
      refine SP.val (Val.add rfl rfl) rfl rfl rfl ?_
      refine SP.val (Val.assign rfl) rfl rfl rfl ?_
      refine SP.nil ?_
      obtain rfl := Option.some.inj ho
      exact QE.lower m237 (by omega) fun a w2 ha hw => ⟨l235, (IntKind.i64.wrap (x153 + 1)), v236, (by omega), hr, ha.sub ⟨rfl, rfl, rfl, trivial⟩, hw⟩
    · refine CP.block ?_
      refine CP.seq ?_
      refine CP.seq ?_
      refine CP.region ?_
      refine SP.val (Val.move rfl) rfl rfl rfl ?_
      refine SP.val (Val.move rfl) rfl rfl rfl ?_
      obtain ⟨x157, hx, ho⟩ := bind_some ho
      have hx := elt_some hx
      refine SP.indexP see 0 rfl Tryd.underlying22 sz52 hx.1 hx.2 rfl rfl rfl rfl (fun p155 => ?_)
      clear hx
      refine SP.fieldP see 0 rfl Tryd.underlying52 rfl sz5 k_api_Instr.part_Op rfl rfl rfl (fun p158 => ?_)
      refine SP.val (Val.loadP1 see 0 rfl (fun _ _ e => e) Tryd.underlying5 rfl rfl) rfl rfl rfl ?_
      refine SP.val (Val.neq rfl rfl) rfl rfl rfl ?_
      refine SP.nil ?_
      refine QE.then ?_
      rcases if_some ho with ⟨hc, ho⟩ | ⟨hc, ho⟩
      · refine CP.condT rfl (decide_eq_true hc) ?_
        refine CP.exit ?_
        refine QE.thru (by intro e; cases e) ?_
        refine QE.blockE ?_
        exact QE.meet fun a w2 ha hw => ⟨l151, v152, m154, _, (by omega), ho, hr, ha.sub ⟨rfl, rfl, rfl, trivial⟩, (St.selP [2] rfl hw)⟩
      · refine CP.condF rfl (decide_eq_false hc) ?_
        refine CP.skip ?_
        refine QE.then ?_
        refine CP.seq ?_
        refine CP.region ?_
        refine SP.val (Val.assign rfl) rfl rfl rfl ?_
        refine SP.nil ?_
        refine QE.then ?_
        refine CP.seq ?_
        refine CP.seq ?_
        refine CP.region ?_
        refine SP.val (Val.assign rfl) rfl rfl rfl ?_
        refine SP.nil ?_
        refine QE.then ?_
        refine CP.block ?_
        obtain rfl := Option.some.inj ho
        refine CP.loop (fun cl2 a w2 => ∃ l190 : List capstanref09_Loop, ∃ x192 : Int, ∃ x193 : Int, ∃ v191 : Value, cl2 ≤ m154 ∧ iter (capstanref09_all.F l_0) cl2 (.l2 x153 l190 x192 x193) = some r ∧ Env ⟨103, []⟩ [(0, v_l_0), (4, v191), (5, .int .i64 x153), (6, .int .i64 x192), (7, .int .i64 x193)] a ∧ St w em hV [slP k_api_Instr v_l_0 l_0] [slO k_capstanref09_Loop 41 v191 l190] w2) m154 (fun a w2 ha hw => ⟨l151, 0, 0, v152, Nat.le_refl _, hr, ha.sub ⟨rfl, rfl, rfl, rfl, rfl, trivial⟩, (St.selP [2] rfl hw)⟩) ?_
        clear hr
        rintro cl2 a w2 ⟨l190, x192, x193, v191, hc_l2, hi, ha, hw⟩
        obtain ⟨m194, o, hm_m194, ho, hr⟩ := iter_some hi
        refine CP.app ha hw ?_
        clear ha hw a w2 hi
        refine CP.seq ?_
        refine CP.seq ?_
        refine CP.region ?_
        refine SP.val (Val.move rfl) rfl rfl rfl ?_
        refine SP.val (Val.move rfl) rfl rfl rfl ?_
        refine SP.val (Val.lenP see 0 rfl Tryd.underlying22 rfl) rfl rfl rfl ?_
        refine SP.val (Val.lss rfl rfl) rfl rfl rfl ?_
        refine SP.nil ?_
        refine QE.then ?_
        rcases if_some ho with ⟨hc, ho⟩ | ⟨hc, ho⟩
        · refine CP.condT rfl (decide_eq_true hc) ?_
          refine CP.skip ?_
          refine QE.then ?_
          refine CP.join (fun a w2 => ∃ l218 : List capstanref09_Loop, ∃ x220 : Int, ∃ v219 : Value, ∃ (m221 : Nat) (o : (capstanref09_all.S ⊕ ((List capstanref09_Loop) × Bool))), m221 ≤ m194 ∧ capstanref09_all.j2 l_0 x153 x193 l218 x220 = some o ∧ next (capstanref09_all.F l_0) m221 o = some r ∧ Env ⟨103, []⟩ [(0, v_l_0), (4, v219), (5, .int .i64 x153), (6, .int .i64 x220), (7, .int .i64 x193)] a ∧ St w em hV [slP k_api_Instr v_l_0 l_0] [slO k_capstanref09_Loop 41 v219 l218] w2) ?_ ?_
          · rintro a w2 ⟨l218, x220, v219, m221, o, hm_m221, ho, hr, ha, hw⟩
            refine CP.app ha hw ?_
            clear ha hw a w2
            refine CP.region ?_
            refine SP.val (Val.move rfl) rfl rfl rfl ?_
            refine SP.val (Val.add rfl rfl) rfl rfl rfl ?_
            refine SP.val (Val.assign rfl) rfl rfl rfl ?_
            refine SP.nil ?_
            obtain rfl := Option.some.inj ho
            exact QE.lower m221 (by omega) fun a w2 ha hw => ⟨l218, x220, (IntKind.i64.wrap (x193 + 1)), v219, (by omega), hr, ha.sub ⟨rfl, rfl, rfl, rfl, rfl, trivial⟩, hw⟩
          · refine CP.block ?_
            refine CP.seq ?_
            refine CP.region ?_
            refine SP.val (Val.move rfl) rfl rfl rfl ?_
            refine SP.val (Val.move rfl) rfl rfl rfl ?_
            obtain ⟨x197, hx, ho⟩ := bind_some ho
            have hx := elt_some hx
            refine SP.indexP see 0 rfl Tryd.underlying22 sz52 hx.1 hx.2 rfl rfl rfl rfl (fun p195 => ?_)
            clear hx
            refine SP.fieldP see 0 rfl Tryd.underlying52 rfl sz5 k_api_Instr.part_Op rfl rfl rfl (fun p198 => ?_)
            refine SP.val (Val.loadP1 see 0 rfl (fun _ _ e => e) Tryd.underlying5 rfl rfl) rfl rfl rfl ?_
            refine SP.val (Val.eql rfl rfl) rfl rfl rfl ?_
            refine SP.val (Val.move rfl) rfl rfl rfl ?_
            obtain ⟨t207, hg_t207, ho⟩ := bind_some ho
            refine SP.join 8 (fun a w2 => Env ⟨103, []⟩ [(0, v_l_0), (4, v191), (5, .int .i64 x153), (6, .int .i64 x192), (7, .int .i64 x193), (41, .bool t207)] a ∧ St w em hV [elP (kInt .u8) p198 x197.Op, elP k_api_Instr p195 x197, slP k_api_Instr v_l_0 l_0] [slO k_capstanref09_Loop 41 v191 l190] w2) ?_ ?_
            · rintro a w2 ⟨ha, hw⟩
              refine SP.app ha hw ?_
              clear ha hw a w2 hg_t207
              refine SP.nil ?_
              refine QE.then ?_
              rcases if_some ho with ⟨hc, ho⟩ | ⟨hc, ho⟩
              · refine CP.condT rfl hc ?_
                refine CP.seq ?_
                refine CP.region ?_
                refine SP.val (Val.move rfl) rfl rfl rfl ?_
                refine SP.val (Val.move rfl) rfl rfl rfl ?_
                refine SP.val (Val.move rfl) rfl rfl rfl ?_
                refine SP.val (Val.move rfl) rfl rfl rfl ?_
                refine SP.val (Val.move rfl) rfl rfl rfl ?_
                obtain ⟨x210, hx, ho⟩ := bind_some ho
                have hx := elt_some hx
                refine SP.indexP see 2 rfl Tryd.underlying22 sz52 hx.1 hx.2 rfl rfl rfl rfl (fun p208 => ?_)
                clear hx
                refine SP.fieldP see 0 rfl Tryd.underlying52 rfl sz3 k_api_Instr.part_A rfl rfl rfl (fun p211 => ?_)
                refine SP.val (Val.loadP1 see 0 rfl (fun _ _ e => e) Tryd.underlying3 rfl rfl) rfl rfl rfl ?_
                refine SP.val (Val.buildC (us := [(0, .int .i64 x153), (1, .int .i64 x193), (2, .int .i64 x210.A)]) (ucs := [(0, [.int .i64 x153]), (1, [.int .i64 x193]), (2, [.int .i64 x210.A])]) (cs := [.int .i64 x153, .int .i64 x193, .int .i64 x210.A]) bt41 rfl rfl ⟨rfl, rfl, ⟨rfl, rfl, ⟨rfl, rfl, trivial⟩⟩⟩ (by rfl)) rfl rfl rfl ?_
                refine SP.lit (k := k_capstanref09_Loop) (xs := [(⟨x153, x193, x210.A⟩ : capstanref09_Loop)]) (vs := [.agg #[.int .i64 x153, .int .i64 x193, .int .i64 x210.A]]) (cells := [.int .i64 x153, .int .i64 x193, .int .i64 x210.A]) Tryd.underlying24 inf41 rfl rfl rfl rfl rfl rfl rfl rfl (fun _ ap => ⟨[.int .i64 x153, .int .i64 x193, .int .i64 x210.A], _, rfl, rfl, rfl⟩) rfl rfl rfl (fun v213 => ?_)
                refine SP.freezeS see 0 rfl ?_
                obtain ⟨hb, ho⟩ := must_some ho
                refine SP.append see 0 rfl 0 rfl Tryd.underlying24 inf41 rfl rfl hb rfl rfl rfl rfl rfl (fun v215 => ?_)
                clear hb
                refine SP.val (Val.assign rfl) rfl rfl rfl ?_
                refine SP.nil ?_
                refine QE.then ?_
                refine CP.region ?_
                refine SP.val (Val.move rfl) rfl rfl rfl ?_
                refine SP.val (Val.add rfl rfl) rfl rfl rfl ?_
                refine SP.val (Val.assign rfl) rfl rfl rfl ?_
                refine SP.nil ?_
                refine QE.blockN ?_
                exact QE.meet fun a w2 ha hw => ⟨(l190 ++ [(⟨x153, x193, x210.A⟩ : capstanref09_Loop)]), (IntKind.i64.wrap (x192 + 1)), v215, m194, _, (by omega), ho, hr, ha.sub ⟨rfl, rfl, rfl, rfl, rfl, trivial⟩, (St.selP [5] rfl hw)⟩
              · refine CP.condF rfl (bf hc) ?_
                refine CP.skip ?_
                refine QE.blockN ?_
                exact QE.meet fun a w2 ha hw => ⟨l190, x192, v191, m194, _, (by omega), ho, hr, ha.sub ⟨rfl, rfl, rfl, rfl, rfl, trivial⟩, (St.selP [2] rfl hw)⟩
            · intro J
              clear ho
              have ho := hg_t207
              clear hg_t207
              rcases if_some ho with ⟨hc, ho⟩ | ⟨hc, ho⟩
              · have hq201 := (decide_eq_true hc)
                refine SP.isT (d := 33) rfl hq201 ?_
                refine SP.val (Val.move rfl) rfl rfl rfl ?_
                refine SP.val (Val.move rfl) rfl rfl rfl ?_
                obtain ⟨x204, hx, ho⟩ := bind_some ho
                have hx := elt_some hx
                refine SP.indexP see 2 rfl Tryd.underlying22 sz52 hx.1 hx.2 rfl rfl rfl rfl (fun p202 => ?_)
                clear hx
                refine SP.fieldP see 0 rfl Tryd.underlying52 rfl sz3 k_api_Instr.part_A rfl rfl rfl (fun p205 => ?_)
                refine SP.val (Val.loadP1 see 0 rfl (fun _ _ e => e) Tryd.underlying3 rfl rfl) rfl rfl rfl ?_
                refine SP.val (Val.move rfl) rfl rfl rfl ?_
                refine SP.val (Val.eql rfl rfl) rfl rfl rfl ?_
                refine SP.val (Val.pickT rfl rfl) rfl rfl rfl ?_
                obtain rfl := Option.some.inj ho
                exact J fun a w2 ha hw => ⟨ha.sub ⟨rfl, rfl, rfl, rfl, rfl, rfl, trivial⟩, (St.selP [2, 3, 4] rfl hw)⟩
              · have hq201 := (decide_eq_false hc)
                refine SP.isF (d := 33) rfl hq201 ?_
                refine SP.not rfl rfl rfl ?_
                refine SP.not rfl rfl rfl ?_
                refine SP.not rfl rfl rfl ?_
                refine SP.not rfl rfl rfl ?_
                refine SP.not rfl rfl rfl ?_
                refine SP.not rfl rfl rfl ?_
                refine SP.not rfl rfl rfl ?_
                refine SP.val (Val.pickF rfl rfl) rfl rfl rfl ?_
                obtain rfl := Option.some.inj ho
                exact J fun a w2 ha hw => ⟨ha.sub ⟨rfl, rfl, rfl, rfl, rfl, rfl, trivial⟩, hw⟩
        · refine CP.condF rfl (decide_eq_false hc) ?_
          refine CP.exit ?_
          refine QE.thru (by intro e; cases e) ?_
          refine QE.thru (by intro e; cases e) ?_
          refine QE.blockE ?_
          refine QE.then ?_
          refine CP.seq ?_
          refine CP.region ?_
          refine SP.val (Val.move rfl) rfl rfl rfl ?_
          refine SP.val (Val.neq rfl rfl) rfl rfl rfl ?_
          refine SP.val (Val.move rfl) rfl rfl rfl ?_
          obtain ⟨t227, hg_t227, ho⟩ := bind_some ho
          refine SP.join 10 (fun a w2 => Env ⟨103, []⟩ [(0, v_l_0), (4, v191), (5, .int .i64 x153), (67, .bool t227)] a ∧ St w em hV [slP k_api_Instr v_l_0 l_0] [slO k_capstanref09_Loop 41 v191 l190] w2) ?_ ?_
          · rintro a w2 ⟨ha, hw⟩
            refine SP.app ha hw ?_
            clear ha hw a w2 hg_t227
            refine SP.nil ?_
            refine QE.then ?_
            rcases if_some ho with ⟨hc, ho⟩ | ⟨hc, ho⟩
            · refine CP.condT rfl hc ?_
              refine CP.seq ?_
              refine CP.region ?_
              refine SP.val (Val.assign rfl) rfl rfl rfl ?_
              refine SP.val (Val.assign rfl) rfl rfl rfl ?_
              refine SP.nil ?_
              refine QE.then ?_
              refine CP.ret ?_
              refine QE.blockR ?_
              refine QE.thru (by intro e; cases e) ?_
              refine QE.thru (by intro e; cases e) ?_
              refine QE.blockR ?_
              refine QE.thru (by intro e; cases e) ?_
              obtain rfl := Option.some.inj ho
              obtain rfl := Option.some.inj hr
              exact QE.rets (rs := [.tmp 2, .tmp 3]) (vs := [(.slice none 0 0), .bool false]) Tryd.results22 rfl ⟨RVs.tmp rfl, RVs.tmp rfl, trivial⟩ (fun w2 h => St.done (fun a b p s => ⟨_, rfl, s⟩) (St.selO [0] rfl rfl (St.addO (slO.nil k_capstanref09_Loop 41) h)))
            · refine CP.condF rfl (bf hc) ?_
              refine CP.skip ?_
              refine QE.blockN ?_
              exact QE.meet fun a w2 ha hw => ⟨l190, v191, m194, _, (by omega), ho, hr, ha.sub ⟨rfl, rfl, rfl, trivial⟩, hw⟩
          · intro J
            clear ho
            have ho := hg_t227
            clear hg_t227
            rcases if_some ho with ⟨hc, ho⟩ | ⟨hc, ho⟩
            · have hq223 := (decide_eq_true hc)
              refine SP.isT (d := 57) rfl hq223 ?_
              refine SP.not rfl rfl rfl ?_
              refine SP.not rfl rfl rfl ?_
              refine SP.not rfl rfl rfl ?_
              refine SP.not rfl rfl rfl ?_
              refine SP.not rfl rfl rfl ?_
              refine SP.not rfl rfl rfl ?_
              refine SP.not rfl rfl rfl ?_
              refine SP.not rfl rfl rfl ?_
              refine SP.not rfl rfl rfl ?_
              refine SP.val (Val.pickT rfl rfl) rfl rfl rfl ?_
              obtain rfl := Option.some.inj ho
              exact J fun a w2 ha hw => ⟨ha.sub ⟨rfl, rfl, rfl, rfl, trivial⟩, hw⟩
            · have hq223 := (decide_eq_false hc)
              refine SP.isF (d := 57) rfl hq223 ?_
              refine SP.val (Val.move rfl) rfl rfl rfl ?_
              refine SP.val (Val.move rfl) rfl rfl rfl ?_
              refine SP.val (Val.lenW (fun w2 hw => slO.whole (St.own 0 rfl see.sub see.dj hw)) Tryd.underlying24 rfl) rfl rfl rfl ?_
              refine SP.val (Val.sub rfl rfl) rfl rfl rfl ?_
              obtain ⟨x225, hx_x225, ho⟩ := bind_some ho
              have hx_x225 := elt_some hx_x225
              refine SP.indexW (fun w2 hw => slO.whole (St.own 0 rfl see.sub see.dj hw)) Tryd.underlying24 sz41 hx_x225.1 hx_x225.2 rfl rfl rfl rfl (fun p224 h_p224 => ?_)
              refine SP.fieldO h_p224 Tryd.underlying41 rfl sz3 rfl rfl rfl (fun p226 h_p226 => ?_)
              refine SP.val (Val.loadW1 (off := 1) (k := k_capstanref09_Loop) (fun w2 hw => slO.whole (St.own 0 rfl see.sub see.dj hw)) hx_x225.2 h_p226 (fun _ _ e => by subst e; rfl) Tryd.underlying3 rfl rfl) rfl rfl rfl ?_
              refine SP.val (Val.move rfl) rfl rfl rfl ?_
              refine SP.val (Val.lss rfl rfl) rfl rfl rfl ?_
              refine SP.val (Val.pickF rfl rfl) rfl rfl rfl ?_
              obtain rfl := Option.some.inj ho
              exact J fun a w2 ha hw => ⟨ha.sub ⟨rfl, rfl, rfl, rfl, trivial⟩, hw⟩
  · refine CP.condF rfl (decide_eq_false hc) ?_
    refine CP.exit ?_
    refine QE.thru (by intro e; cases e) ?_
    refine QE.thru (by intro e; cases e) ?_
    refine QE.blockE ?_
    refine QE.then ?_
    refine CP.seq ?_
    refine CP.seq ?_
    refine CP.region ?_
    refine SP.val (Val.assign rfl) rfl rfl rfl ?_
    refine SP.nil ?_
    refine QE.then ?_
    refine CP.block ?_
    obtain rfl := Option.some.inj ho
    refine CP.loop (fun cl3 a w2 => ∃ x266 : Int, cl3 ≤ m154 ∧ iter (capstanref09_all.F l_0) cl3 (.l3 l151 x266) = some r ∧ Env ⟨103, []⟩ [(0, v_l_0), (4, v152), (8, .int .i64 x266)] a ∧ St w em hV [slP k_api_Instr v_l_0 l_0] [slO k_capstanref09_Loop 41 v152 l151] w2) m154 (fun a w2 ha hw => ⟨0, Nat.le_refl _, hr, ha.sub ⟨rfl, rfl, rfl, trivial⟩, hw⟩) ?_
    clear hr
    rintro cl3 a w2 ⟨x266, hc_l3, hi, ha, hw⟩
    obtain ⟨m267, o, hm_m267, ho, hr⟩ := iter_some hi
    refine CP.app ha hw ?_
    clear ha hw a w2 hi
    refine CP.seq ?_
    refine CP.seq ?_
    refine CP.region ?_
    refine SP.val (Val.move rfl) rfl rfl rfl ?_
    refine SP.val (Val.move rfl) rfl rfl rfl ?_
    refine SP.val (Val.lenP see 0 rfl Tryd.underlying22 rfl) rfl rfl rfl ?_
    refine SP.val (Val.lss rfl rfl) rfl rfl rfl ?_
    refine SP.nil ?_
    refine QE.then ?_
    rcases if_some ho with ⟨hc, ho⟩ | ⟨hc, ho⟩
    · refine CP.condT rfl (decide_eq_true hc) ?_
      refine CP.skip ?_
      refine QE.then ?_
      refine CP.seq ?_
      refine CP.block ?_
      refine CP.seq ?_
      refine CP.region ?_
      refine SP.val (Val.move rfl) rfl rfl rfl ?_
      refine SP.val (Val.move rfl) rfl rfl rfl ?_
      obtain ⟨x270, hx, ho⟩ := bind_some ho
      have hx := elt_some hx
      refine SP.indexP see 0 rfl Tryd.underlying22 sz52 hx.1 hx.2 rfl rfl rfl rfl (fun p268 => ?_)
      clear hx
      refine SP.fieldP see 0 rfl Tryd.underlying52 rfl sz5 k_api_Instr.part_Op rfl rfl rfl (fun p271 => ?_)
      refine SP.val (Val.loadP1 see 0 rfl (fun _ _ e => e) Tryd.underlying5 rfl rfl) rfl rfl rfl ?_
      refine SP.val (Val.eql rfl rfl) rfl rfl rfl ?_
      refine SP.val (Val.move rfl) rfl rfl rfl ?_
      obtain ⟨t293, hg_t293, ho⟩ := bind_some ho
      refine SP.join 21 (fun a w2 => Env ⟨103, []⟩ [(0, v_l_0), (4, v152), (8, .int .i64 x266), (101, .bool t293)] a ∧ St w em hV [elP (kInt .u8) p271 x270.Op, elP k_api_Instr p268 x270, slP k_api_Instr v_l_0 l_0] [slO k_capstanref09_Loop 41 v152 l151] w2) ?_ ?_
      · rintro a w2 ⟨ha, hw⟩
        refine SP.app ha hw ?_
        clear ha hw a w2 hg_t293
        refine SP.nil ?_
        refine QE.then ?_
        rcases if_some ho with ⟨hc, ho⟩ | ⟨hc, ho⟩
        · refine CP.condT rfl hc ?_
          refine CP.seq ?_
          refine CP.region ?_
          refine SP.val (Val.assign rfl) rfl rfl rfl ?_
          refine SP.val (Val.assign rfl) rfl rfl rfl ?_
          refine SP.nil ?_
          refine QE.then ?_
          refine CP.ret ?_
          refine QE.blockR ?_
          refine QE.thru (by intro e; cases e) ?_
          refine QE.thru (by intro e; cases e) ?_
          refine QE.blockR ?_
          refine QE.thru (by intro e; cases e) ?_
          obtain rfl := Option.some.inj ho
          obtain rfl := Option.some.inj hr
          exact QE.rets (rs := [.tmp 2, .tmp 3]) (vs := [(.slice none 0 0), .bool false]) Tryd.results22 rfl ⟨RVs.tmp rfl, RVs.tmp rfl, trivial⟩ (fun w2 h => St.done (fun a b p s => ⟨_, rfl, s⟩) (St.selO [0] rfl rfl (St.addO (slO.nil k_capstanref09_Loop 41) h)))
        · refine CP.condF rfl (bf hc) ?_
          refine CP.skip ?_
          refine QE.blockN ?_
          refine QE.then ?_
          refine CP.region ?_
          refine SP.val (Val.move rfl) rfl rfl rfl ?_
          refine SP.val (Val.add rfl rfl) rfl rfl rfl ?_
          refine SP.val (Val.assign rfl) rfl rfl rfl ?_
          refine SP.nil ?_
          obtain rfl := Option.some.inj ho
          exact QE.lower m267 (by omega) fun a w2 ha hw => ⟨(IntKind.i64.wrap (x266 + 1)), (by omega), hr, ha.sub ⟨rfl, rfl, rfl, trivial⟩, (St.selP [2] rfl hw)⟩
      · intro J
        clear ho
        have ho := hg_t293
        clear hg_t293
        rcases if_some ho with ⟨hc, ho⟩ | ⟨hc, ho⟩
        · have hq274 := (decide_eq_true hc)
          refine SP.isT (d := 80) rfl hq274 ?_
          refine SP.val (Val.move rfl) rfl rfl rfl ?_
          refine SP.val (Val.move rfl) rfl rfl rfl ?_
          obtain ⟨x277, hx, ho⟩ := bind_some ho
          have hx := elt_some hx
          refine SP.indexP see 2 rfl Tryd.underlying22 sz52 hx.1 hx.2 rfl rfl rfl rfl (fun p275 => ?_)
          clear hx
          refine SP.fieldP see 0 rfl Tryd.underlying52 rfl sz3 k_api_Instr.part_A rfl rfl rfl (fun p278 => ?_)
          refine SP.val (Val.loadP1 see 0 rfl (fun _ _ e => e) Tryd.underlying3 rfl rfl) rfl rfl rfl ?_
          refine SP.val (Val.move rfl) rfl rfl rfl ?_
          refine SP.val (Val.lenP see 4 rfl Tryd.underlying22 rfl) rfl rfl rfl ?_
          refine SP.val (Val.geq rfl rfl) rfl rfl rfl ?_
          refine SP.val (Val.move rfl) rfl rfl rfl ?_
          obtain ⟨t292, hg_t292, ho⟩ := bind_some ho
          refine SP.join 11 (fun a w2 => Env ⟨103, []⟩ [(0, v_l_0), (4, v152), (8, .int .i64 x266), (80, .bool true), (81, v_l_0), (82, .int .i64 x266), (83, p275), (84, p278), (85, .int .i64 x277.A), (86, v_l_0), (87, .int .i64 (l_0.length : Int)), (88, .bool (decide (x277.A ≥ (l_0.length : Int)))), (89, .bool (decide (x277.A ≥ (l_0.length : Int)))), (100, .bool t292)] a ∧ St w em hV [elP (kInt .i64) p278 x277.A, elP k_api_Instr p275 x277, elP (kInt .u8) p271 x270.Op, elP k_api_Instr p268 x270, slP k_api_Instr v_l_0 l_0] [slO k_capstanref09_Loop 41 v152 l151] w2) ?_ ?_
          · rintro a w2 ⟨ha, hw⟩
            refine SP.app ha hw ?_
            clear ha hw a w2 hg_t292
            refine SP.val (Val.pickT rfl rfl) rfl rfl rfl ?_
            obtain rfl := Option.some.inj ho
            exact J fun a w2 ha hw => ⟨ha.sub ⟨rfl, rfl, rfl, rfl, trivial⟩, (St.selP [2, 3, 4] rfl hw)⟩
          · intro J
            clear ho
            have ho := hg_t292
            clear hg_t292
            rcases if_some ho with ⟨hc, ho⟩ | ⟨hc, ho⟩
            · have hq281 := (decide_eq_true hc)
              refine SP.isT (d := 89) rfl hq281 ?_
              refine SP.not rfl rfl rfl ?_
              refine SP.not rfl rfl rfl ?_
              refine SP.not rfl rfl rfl ?_
              refine SP.not rfl rfl rfl ?_
              refine SP.not rfl rfl rfl ?_
              refine SP.not rfl rfl rfl ?_
              refine SP.not rfl rfl rfl ?_
              refine SP.not rfl rfl rfl ?_
              refine SP.not rfl rfl rfl ?_
              refine SP.not rfl rfl rfl ?_
              refine SP.val (Val.pickT rfl rfl) rfl rfl rfl ?_
              obtain rfl := Option.some.inj ho
              exact J fun a w2 ha hw => ⟨ha.sub ⟨rfl, rfl, rfl, rfl, rfl, rfl, rfl, rfl, rfl, rfl, rfl, rfl, congrArg (fun z => some (Value.bool z)) hq281.symm, rfl, trivial⟩, hw⟩
            · have hq281 := (decide_eq_false hc)
              refine SP.isF (d := 89) rfl hq281 ?_
              refine SP.val (Val.move rfl) rfl rfl rfl ?_
              refine SP.val (Val.move rfl) rfl rfl rfl ?_
              refine SP.val (Val.move rfl) rfl rfl rfl ?_
              obtain ⟨x284, hx, ho⟩ := bind_some ho
              have hx := elt_some hx
              refine SP.indexP see 4 rfl Tryd.underlying22 sz52 hx.1 hx.2 rfl rfl rfl rfl (fun p282 => ?_)
              clear hx
              refine SP.fieldP see 0 rfl Tryd.underlying52 rfl sz3 k_api_Instr.part_A rfl rfl rfl (fun p285 => ?_)
              refine SP.val (Val.loadP1 see 0 rfl (fun _ _ e => e) Tryd.underlying3 rfl rfl) rfl rfl rfl ?_
              obtain ⟨x289, hx, ho⟩ := bind_some ho
              have hx := elt_some hx
              refine SP.indexP see 6 rfl Tryd.underlying22 sz52 hx.1 hx.2 rfl rfl rfl rfl (fun p287 => ?_)
              clear hx
              refine SP.fieldP see 0 rfl Tryd.underlying52 rfl sz5 k_api_Instr.part_Op rfl rfl rfl (fun p290 => ?_)
              refine SP.val (Val.loadP1 see 0 rfl (fun _ _ e => e) Tryd.underlying5 rfl rfl) rfl rfl rfl ?_
              refine SP.val (Val.neq rfl rfl) rfl rfl rfl ?_
              refine SP.val (Val.pickF rfl rfl) rfl rfl rfl ?_
              obtain rfl := Option.some.inj ho
              exact J fun a w2 ha hw => ⟨ha.sub ⟨rfl, rfl, rfl, rfl, rfl, rfl, rfl, rfl, rfl, rfl, rfl, rfl, congrArg (fun z => some (Value.bool z)) hq281.symm, rfl, trivial⟩, (St.selP [4, 5, 6, 7, 8] rfl hw)⟩
        · have hq274 := (decide_eq_false hc)
          refine SP.isF (d := 80) rfl hq274 ?_
          refine SP.not rfl rfl rfl ?_
          refine SP.not rfl rfl rfl ?_
          refine SP.not rfl rfl rfl ?_
          refine SP.not rfl rfl rfl ?_
          refine SP.not rfl rfl rfl ?_
          refine SP.not rfl rfl rfl ?_
          refine SP.not rfl rfl rfl ?_
          refine SP.not rfl rfl rfl ?_
          refine SP.not rfl rfl rfl ?_
          refine SP.not rfl rfl rfl ?_
          refine SP.not rfl rfl rfl ?_
          refine SP.not rfl rfl rfl ?_
          refine SP.not rfl rfl rfl ?_
          refine SP.not rfl rfl rfl ?_
          refine SP.not rfl rfl rfl ?_
          refine SP.not rfl rfl rfl ?_
          refine SP.not rfl rfl rfl ?_
          refine SP.not rfl rfl rfl ?_
          refine SP.not rfl rfl rfl ?_
          refine SP.not rfl rfl rfl ?_
          refine SP.val (Val.pickF rfl rfl) rfl rfl rfl ?_
          obtain rfl := Option.some.inj ho
          exact J fun a w2 ha hw => ⟨ha.sub ⟨rfl, rfl, rfl, rfl, trivial⟩, hw⟩
    · refine CP.condF rfl (decide_eq_false hc) ?_
      refine CP.exit ?_
      refine QE.thru (by intro e; cases e) ?_
      refine QE.thru (by intro e; cases e) ?_
      refine QE.blockE ?_
      refine QE.then ?_
      refine CP.seq ?_
      refine CP.region ?_
      refine SP.val (Val.move rfl) rfl rfl rfl ?_
      refine SP.val (Val.assign rfl) rfl rfl rfl ?_
      refine SP.val (Val.assign rfl) rfl rfl rfl ?_
      refine SP.nil ?_
      refine QE.then ?_
      refine CP.ret ?_
      obtain rfl := Option.some.inj ho
      obtain rfl := Option.some.inj hr
      exact QE.rets (rs := [.tmp 2, .tmp 3]) (vs := [v152, .bool true]) Tryd.results22 rfl ⟨RVs.tmp rfl, RVs.tmp rfl, trivial⟩ (fun w2 h => St.done (fun a b p s => ⟨_, rfl, s⟩) (St.selO [0] rfl rfl h))
/-! ### capstan/capstanref09.within: function 24 -/
def capstanref09_within.f (x_0 : capstanref09_Loop) (a1 : Int) : Option Bool :=
  some ((decide (x_0.From < a1)) && (decide (a1 ≤ x_0.To)))
theorem capstanref09_within.ok (x_0 : capstanref09_Loop) (a1 : Int)  (r : Bool) (H : capstanref09_within.f x_0 a1 = some r) (w : World) (hV : Hp) (sV : Sub hV (hp w))  :
    Trip Tryd.prog 24 [.agg #[.int .i64 x_0.From, .int .i64 x_0.To, .int .i64 x_0.Turns], .int .i64 a1].toArray em hV w (fun v => HO.pure (v = .bool r)) := by
  have see : Sees w em hV := ⟨sV, Dj.em_right _⟩
  refine Trip.of (P := Tryd.prog) (n := ⟨15, []⟩) Tryd.func24 rfl ⟨rfl, rfl⟩ rfl (St.begin (All.nil _)) ?_
  have ho := H
  refine CP.seq ?_
  refine CP.region ?_
  refine SP.box (cs := [.int .i64 x_0.From, .int .i64 x_0.To, .int .i64 x_0.Turns]) rfl rfl rfl rfl (fun b1 => ?_)
  refine SP.val (Val.assign rfl) rfl rfl rfl ?_
  refine SP.nil ?_
  refine QE.then ?_
  refine CP.seq ?_
  refine CP.region ?_
  refine SP.val (Val.fieldAddr Tryd.underlying41 rfl sz3 rfl) rfl rfl rfl ?_
  refine SP.val (Val.load1 0 rfl Tryd.underlying3 rfl rfl rfl) rfl rfl rfl ?_
  refine SP.val (Val.move rfl) rfl rfl rfl ?_
  refine SP.val (Val.lss rfl rfl) rfl rfl rfl ?_
  refine SP.val (Val.move rfl) rfl rfl rfl ?_
  refine SP.join 5 (fun a w2 => Env ⟨15, []⟩ [(14, .bool ((decide (x_0.From < a1)) && (decide (a1 ≤ x_0.To))))] a ∧ St w em hV [] [boxO b1 [.int .i64 x_0.From, .int .i64 x_0.To, .int .i64 x_0.Turns] 41] w2) ?_ ?_
  · rintro a w2 ⟨ha, hw⟩
    refine SP.app ha hw ?_
    clear ha hw a w2
    refine SP.val (Val.assign rfl) rfl rfl rfl ?_
    refine SP.nil ?_
    refine QE.then ?_
    refine CP.ret ?_
    obtain rfl := Option.some.inj ho
    exact QE.rets (rs := [.tmp 4]) (vs := [.bool ((decide (x_0.From < a1)) && (decide (a1 ≤ x_0.To)))]) Tryd.results24 rfl ⟨RVs.tmp rfl, trivial⟩ (fun w2 h => St.done (fun a b p s => rfl) h)
  · intro J
    by_cases hc : x_0.From < a1
    · have hq4 := (decide_eq_true hc)
      refine SP.isT (d := 9) rfl hq4 ?_
      refine SP.val (Val.move rfl) rfl rfl rfl ?_
      refine SP.val (Val.fieldAddr Tryd.underlying41 rfl sz3 rfl) rfl rfl rfl ?_
      refine SP.val (Val.load1 0 rfl Tryd.underlying3 rfl rfl rfl) rfl rfl rfl ?_
      refine SP.val (Val.leq rfl rfl) rfl rfl rfl ?_
      refine SP.val (Val.pickT rfl rfl) rfl rfl rfl ?_
      exact J fun a w2 ha hw => ⟨ha.sub ⟨congrArg (fun z => some (Value.bool z)) (and_t hq4 rfl), trivial⟩, hw⟩
    · have hq4 := (decide_eq_false hc)
      refine SP.isF (d := 9) rfl hq4 ?_
      refine SP.not rfl rfl rfl ?_
      refine SP.not rfl rfl rfl ?_
      refine SP.not rfl rfl rfl ?_
      refine SP.not rfl rfl rfl ?_
      refine SP.val (Val.pickF rfl rfl) rfl rfl rfl ?_
      exact J fun a w2 ha hw => ⟨ha.sub ⟨congrArg (fun z => some (Value.bool z)) (and_f hq4), trivial⟩, hw⟩
/-! ### capstan/capstanref09.common: function 42 -/
def capstanref09_common.f (x_0 : capstanref09_Loop) (y_1 : capstanref09_Loop) : Option Bool :=
  some ((decide (x_0.From < y_1.To)) && (decide (y_1.From < x_0.To)))
theorem capstanref09_common.ok (x_0 : capstanref09_Loop) (y_1 : capstanref09_Loop)  (r : Bool) (H : capstanref09_common.f x_0 y_1 = some r) (w : World) (hV : Hp) (sV : Sub hV (hp w))  :
    Trip Tryd.prog 42 [.agg #[.int .i64 x_0.From, .int .i64 x_0.To, .int .i64 x_0.Turns], .agg #[.int .i64 y_1.From, .int .i64 y_1.To, .int .i64 y_1.Turns]].toArray em hV w (fun v => HO.pure (v = .bool r)) := by
  have see : Sees w em hV := ⟨sV, Dj.em_right _⟩
  refine Trip.of (P := Tryd.prog) (n := ⟨17, []⟩) Tryd.func42 rfl ⟨rfl, rfl⟩ rfl (St.begin (All.nil _)) ?_
  have ho := H
  refine CP.seq ?_
  refine CP.region ?_
  refine SP.box (cs := [.int .i64 x_0.From, .int .i64 x_0.To, .int .i64 x_0.Turns]) rfl rfl rfl rfl (fun b1 => ?_)
  refine SP.box (cs := [.int .i64 y_1.From, .int .i64 y_1.To, .int .i64 y_1.Turns]) rfl rfl rfl rfl (fun b3 => ?_)
  refine SP.val (Val.assign rfl) rfl rfl rfl ?_
  refine SP.nil ?_
  refine QE.then ?_
  refine CP.seq ?_
  refine CP.region ?_
  refine SP.val (Val.fieldAddr Tryd.underlying41 rfl sz3 rfl) rfl rfl rfl ?_
  refine SP.val (Val.load1 1 rfl Tryd.underlying3 rfl rfl rfl) rfl rfl rfl ?_
  refine SP.val (Val.fieldAddr Tryd.underlying41 rfl sz3 rfl) rfl rfl rfl ?_
  refine SP.val (Val.load1 0 rfl Tryd.underlying3 rfl rfl rfl) rfl rfl rfl ?_
  refine SP.val (Val.lss rfl rfl) rfl rfl rfl ?_
  refine SP.val (Val.move rfl) rfl rfl rfl ?_
  refine SP.join 6 (fun a w2 => Env ⟨17, []⟩ [(16, .bool ((decide (x_0.From < y_1.To)) && (decide (y_1.From < x_0.To))))] a ∧ St w em hV [] [boxO b3 [.int .i64 y_1.From, .int .i64 y_1.To, .int .i64 y_1.Turns] 41, boxO b1 [.int .i64 x_0.From, .int .i64 x_0.To, .int .i64 x_0.Turns] 41] w2) ?_ ?_
  · rintro a w2 ⟨ha, hw⟩
    refine SP.app ha hw ?_
    clear ha hw a w2
    refine SP.val (Val.assign rfl) rfl rfl rfl ?_
    refine SP.nil ?_
    refine QE.then ?_
    refine CP.ret ?_
    obtain rfl := Option.some.inj ho
    exact QE.rets (rs := [.tmp 4]) (vs := [.bool ((decide (x_0.From < y_1.To)) && (decide (y_1.From < x_0.To)))]) Tryd.results42 rfl ⟨RVs.tmp rfl, trivial⟩ (fun w2 h => St.done (fun a b p s => rfl) h)
  · intro J
    by_cases hc : x_0.From < y_1.To
    · have hq6 := (decide_eq_true hc)
      refine SP.isT (d := 10) rfl hq6 ?_
      refine SP.val (Val.fieldAddr Tryd.underlying41 rfl sz3 rfl) rfl rfl rfl ?_
      refine SP.val (Val.load1 0 rfl Tryd.underlying3 rfl rfl rfl) rfl rfl rfl ?_
      refine SP.val (Val.fieldAddr Tryd.underlying41 rfl sz3 rfl) rfl rfl rfl ?_
      refine SP.val (Val.load1 1 rfl Tryd.underlying3 rfl rfl rfl) rfl rfl rfl ?_
      refine SP.val (Val.lss rfl rfl) rfl rfl rfl ?_
      refine SP.val (Val.pickT rfl rfl) rfl rfl rfl ?_
      exact J fun a w2 ha hw => ⟨ha.sub ⟨congrArg (fun z => some (Value.bool z)) (and_t hq6 rfl), trivial⟩, hw⟩
    · have hq6 := (decide_eq_false hc)
      refine SP.isF (d := 10) rfl hq6 ?_
      refine SP.not rfl rfl rfl ?_
      refine SP.not rfl rfl rfl ?_
      refine SP.not rfl rfl rfl ?_
      refine SP.not rfl rfl rfl ?_
      refine SP.not rfl rfl rfl ?_
      refine SP.val (Val.pickF rfl rfl) rfl rfl rfl ?_
      exact J fun a w2 ha hw => ⟨ha.sub ⟨congrArg (fun z => some (Value.bool z)) (and_f hq6), trivial⟩, hw⟩
/-! ### capstan/capstanref09.inside: function 43 -/
def capstanref09_inside.f (x_0 : capstanref09_Loop) (y_1 : capstanref09_Loop) : Option Bool :=
  (capstanref09_within.f y_1 x_0.From).bind fun t5 => (if t5 = true then ((capstanref09_within.f y_1 x_0.To).bind fun t8 => some t8) else (some false)).bind fun t9 => some t9
theorem capstanref09_inside.ok (x_0 : capstanref09_Loop) (y_1 : capstanref09_Loop)  (r : Bool) (H : capstanref09_inside.f x_0 y_1 = some r) (w : World) (hV : Hp) (sV : Sub hV (hp w))  :
    Trip Tryd.prog 43 [.agg #[.int .i64 x_0.From, .int .i64 x_0.To, .int .i64 x_0.Turns], .agg #[.int .i64 y_1.From, .int .i64 y_1.To, .int .i64 y_1.Turns]].toArray em hV w (fun v => HO.pure (v = .bool r)) := by
  have see : Sees w em hV := ⟨sV, Dj.em_right _⟩
  refine Trip.of (P := Tryd.prog) (n := ⟨15, []⟩) Tryd.func43 rfl ⟨rfl, rfl⟩ rfl (St.begin (All.nil _)) ?_
  have ho := H
  refine CP.seq ?_
  refine CP.region ?_
  refine SP.box (cs := [.int .i64 x_0.From, .int .i64 x_0.To, .int .i64 x_0.Turns]) rfl rfl rfl rfl (fun b1 => ?_)
  refine SP.box (cs := [.int .i64 y_1.From, .int .i64 y_1.To, .int .i64 y_1.Turns]) rfl rfl rfl rfl (fun b3 => ?_)
  refine SP.val (Val.assign rfl) rfl rfl rfl ?_
  refine SP.nil ?_
  refine QE.then ?_
  refine CP.seq ?_
  refine CP.region ?_
  refine SP.val (Val.loadA 0 rfl Tryd.underlying41 rfl sz41 rfl rfl rfl) rfl rfl rfl ?_
  refine SP.val (Val.fieldAddr Tryd.underlying41 rfl sz3 rfl) rfl rfl rfl ?_
  refine SP.val (Val.load1 1 rfl Tryd.underlying3 rfl rfl rfl) rfl rfl rfl ?_
  obtain ⟨t5, hc, ho⟩ := bind_some (x := capstanref09_within.f y_1 x_0.From) ho
  refine SP.callV see (caps := []) (.bool t5) fn24 rfl rfl rfl rfl (fun w2 hP hs sub ap => capstanref09_within.ok y_1 x_0.From  _ hc w2 hP sub ) ?_
  clear hc
  refine SP.val (Val.move rfl) rfl rfl rfl ?_
  obtain ⟨t9, hg_t9, ho⟩ := bind_some ho
  refine SP.join 5 (fun a w2 => Env ⟨15, []⟩ [(14, .bool t9)] a ∧ St w em hV [] [boxO b3 [.int .i64 y_1.From, .int .i64 y_1.To, .int .i64 y_1.Turns] 41, boxO b1 [.int .i64 x_0.From, .int .i64 x_0.To, .int .i64 x_0.Turns] 41] w2) ?_ ?_
  · rintro a w2 ⟨ha, hw⟩
    refine SP.app ha hw ?_
    clear ha hw a w2 hg_t9
    refine SP.val (Val.assign rfl) rfl rfl rfl ?_
    refine SP.nil ?_
    refine QE.then ?_
    refine CP.ret ?_
    obtain rfl := Option.some.inj ho
    exact QE.rets (rs := [.tmp 4]) (vs := [.bool t9]) Tryd.results43 rfl ⟨RVs.tmp rfl, trivial⟩ (fun w2 h => St.done (fun a b p s => rfl) h)
  · intro J
    clear ho
    have ho := hg_t9
    clear hg_t9
    rcases if_some ho with ⟨hc, ho⟩ | ⟨hc, ho⟩
    · have hq7 := hc
      refine SP.isT (d := 9) rfl hq7 ?_
      refine SP.val (Val.loadA 0 rfl Tryd.underlying41 rfl sz41 rfl rfl rfl) rfl rfl rfl ?_
      refine SP.val (Val.fieldAddr Tryd.underlying41 rfl sz3 rfl) rfl rfl rfl ?_
      refine SP.val (Val.load1 1 rfl Tryd.underlying3 rfl rfl rfl) rfl rfl rfl ?_
      obtain ⟨t8, hc, ho⟩ := bind_some (x := capstanref09_within.f y_1 x_0.To) ho
      refine SP.callV see (caps := []) (.bool t8) fn24 rfl rfl rfl rfl (fun w2 hP hs sub ap => capstanref09_within.ok y_1 x_0.To  _ hc w2 hP sub ) ?_
      clear hc
      refine SP.val (Val.pickT rfl rfl) rfl rfl rfl ?_
      obtain rfl := Option.some.inj ho
      exact J fun a w2 ha hw => ⟨ha.sub ⟨rfl, trivial⟩, hw⟩
    · have hq7 := (bf hc)
      refine SP.isF (d := 9) rfl hq7 ?_
      refine SP.not rfl rfl rfl ?_
      refine SP.not rfl rfl rfl ?_
      refine SP.not rfl rfl rfl ?_
      refine SP.not rfl rfl rfl ?_
      refine SP.val (Val.pickF rfl rfl) rfl rfl rfl ?_
      obtain rfl := Option.some.inj ho
      exact J fun a w2 ha hw => ⟨ha.sub ⟨rfl, trivial⟩, hw⟩
/-! ### capstan/capstanref09.nested: function 23 -/
inductive capstanref09_nested.S where
  | start
  | l1 (x43 : Int)
  | l2 (x43 : Int) (x79 : Int)
  | l3 (x134 : Int)
  | l4 (x134 : Int) (x143 : Int) (x144 : Int)

def capstanref09_nested.j1 (out_0 : (List capstanref09_Loop)) (many_1 : Int) (x43 : Int) (x79 : Int) (b112 : Bool) : Option (capstanref09_nested.S ⊕ Bool) :=
  if b112 = true then (some (.inr false)) else (some (.inl (.l2 x43 (IntKind.i64.wrap (x79 + 1)))))

def capstanref09_nested.j2 (out_0 : (List capstanref09_Loop)) (many_1 : Int) (x134 : Int) (x144 : Int) (x150 : Int) : Option (capstanref09_nested.S ⊕ Bool) :=
  some (.inl (.l4 x134 x150 (IntKind.i64.wrap (x144 + 1))))

def capstanref09_nested.F (out_0 : (List capstanref09_Loop)) (many_1 : Int) : capstanref09_nested.S → Option (capstanref09_nested.S ⊕ Bool)
  | .start => some (.inl (.l1 0))
  | .l1 x43 => if x43 < (out_0.length : Int) then (some (.inl (.l2 x43 0))) else (some (.inl (.l3 0)))
  | .l2 x43 x79 => if x79 < x43 then ((elt out_0 x43).bind fun x83 => (elt out_0 x79).bind fun x87 => (capstanref09_common.f x83 x87).bind fun t89 => if t89 = true then ((elt out_0 x43).bind fun x93 => (elt out_0 x79).bind fun x97 => (capstanref09_inside.f x93 x97).bind fun t99 => if (!t99) = true then ((elt out_0 x79).bind fun x103 => (elt out_0 x43).bind fun x107 => (capstanref09_inside.f x103 x107).bind fun t109 => capstanref09_nested.j1 out_0 many_1 x43 x79 (!t109)) else (capstanref09_nested.j1 out_0 many_1 x43 x79 false)) else (capstanref09_nested.j1 out_0 many_1 x43 x79 false)) else (some (.inl (.l1 (IntKind.i64.wrap (x43 + 1)))))
  | .l3 x134 => if x134 < many_1 then (some (.inl (.l4 x134 0 0))) else (some (.inr true))
  | .l4 x134 x143 x144 => if x144 < (out_0.length : Int) then ((elt out_0 x144).bind fun x148 => (capstanref09_within.f x148 x134).bind fun t149 => if t149 = true then (capstanref09_nested.j2 out_0 many_1 x134 x144 (IntKind.i64.wrap (x143 + 1))) else (capstanref09_nested.j2 out_0 many_1 x134 x144 x143)) else (if x143 > 4 then (some (.inr false)) else (some (.inl (.l3 (IntKind.i64.wrap (x134 + 1))))))

def capstanref09_nested.f (out_0 : (List capstanref09_Loop)) (many_1 : Int) : Option Bool := runF (capstanref09_nested.F out_0 many_1) .start
theorem capstanref09_nested.ok (out_0 : (List capstanref09_Loop)) (many_1 : Int) (v_out_0 : Value) (r : Bool) (H : capstanref09_nested.f out_0 many_1 = some r) (w : World) (hV : Hp) (sV : Sub hV (hp w)) (h0 : slR k_capstanref09_Loop hV v_out_0 out_0) :
    Trip Tryd.prog 23 [v_out_0, .int .i64 many_1].toArray em hV w (fun v => HO.pure (v = .bool r)) := by
  have see : Sees w em hV := ⟨sV, Dj.em_right _⟩
  refine Trip.of (P := Tryd.prog) (n := ⟨75, []⟩) Tryd.func23 rfl ⟨rfl, rfl⟩ rfl (St.begin (All.cons (x := slP k_capstanref09_Loop v_out_0 out_0) h0 (All.nil _))) ?_
  obtain ⟨n0, hi⟩ := runF_iff.1 H
  obtain ⟨m0, o, hm0, ho, hr⟩ := iter_some hi
  clear hi
  refine CP.seq ?_
  refine CP.region ?_
  refine SP.val (Val.assign rfl) rfl rfl rfl ?_
  refine SP.nil ?_
  refine QE.then ?_
  refine CP.seq ?_
  refine CP.seq ?_
  refine CP.region ?_
  refine SP.val (Val.assign rfl) rfl rfl rfl ?_
  refine SP.nil ?_
  refine QE.then ?_
  refine CP.block ?_
  obtain rfl := Option.some.inj ho
  refine CP.loop (fun cl1 a w2 => ∃ x43 : Int, cl1 ≤ m0 ∧ iter (capstanref09_nested.F out_0 many_1) cl1 (.l1 x43) = some r ∧ Env ⟨75, []⟩ [(0, v_out_0), (1, .int .i64 many_1), (5, .int .i64 x43)] a ∧ St w em hV [slP k_capstanref09_Loop v_out_0 out_0] [] w2) m0 (fun a w2 ha hw => ⟨0, Nat.le_refl _, hr, ha.sub ⟨rfl, rfl, rfl, trivial⟩, hw⟩) ?_
  clear hr
  rintro cl1 a w2 ⟨x43, hc_l1, hi, ha, hw⟩
  obtain ⟨m44, o, hm_m44, ho, hr⟩ := iter_some hi
  refine CP.app ha hw ?_
  clear ha hw a w2 hi
  refine CP.seq ?_
  refine CP.seq ?_
  refine CP.region ?_
  refine SP.val (Val.move rfl) rfl rfl rfl ?_
  refine SP.val (Val.move rfl) rfl rfl rfl ?_
  refine SP.val (Val.lenP see 0 rfl Tryd.underlying24 rfl) rfl rfl rfl ?_
  refine SP.val (Val.lss rfl rfl) rfl rfl rfl ?_
  refine SP.nil ?_
  refine QE.then ?_
  rcases if_some ho with ⟨hc, ho⟩ | ⟨hc, ho⟩
  · refine CP.condT rfl (decide_eq_true hc) ?_
    refine CP.skip ?_
    refine QE.then ?_
    refine CP.seq ?_
    refine CP.block ?_
    refine CP.seq ?_
    refine CP.region ?_
    refine SP.val (Val.assign rfl) rfl rfl rfl ?_
    refine SP.nil ?_
    refine QE.then ?_
    refine CP.block ?_
    obtain rfl := Option.some.inj ho
    refine CP.loop (fun cl2 a w2 => ∃ x79 : Int, cl2 ≤ m44 ∧ iter (capstanref09_nested.F out_0 many_1) cl2 (.l2 x43 x79) = some r ∧ Env ⟨75, []⟩ [(0, v_out_0), (1, .int .i64 many_1), (5, .int .i64 x43), (6, .int .i64 x79)] a ∧ St w em hV [slP k_capstanref09_Loop v_out_0 out_0] [] w2) m44 (fun a w2 ha hw => ⟨0, Nat.le_refl _, hr, ha.sub ⟨rfl, rfl, rfl, rfl, trivial⟩, hw⟩) ?_
    clear hr
    rintro cl2 a w2 ⟨x79, hc_l2, hi, ha, hw⟩
    obtain ⟨m80, o, hm_m80, ho, hr⟩ := iter_some hi
    refine CP.app ha hw ?_
    clear ha hw a w2 hi
    refine CP.seq ?_
    refine CP.seq ?_
    refine CP.region ?_
    refine SP.val (Val.move rfl) rfl rfl rfl ?_
    refine SP.val (Val.move rfl) rfl rfl rfl ?_
    refine SP.val (Val.lss rfl rfl) rfl rfl rfl ?_
    refine SP.nil ?_
    refine QE.then ?_
    rcases if_some ho with ⟨hc, ho⟩ | ⟨hc, ho⟩
    · refine CP.condT rfl (decide_eq_true hc) ?_
      refine CP.skip ?_
      refine QE.then ?_
      refine CP.seq ?_
      refine CP.block ?_
      refine CP.join (fun a w2 => ∃ b112 : Bool, ∃ (m113 : Nat) (o : (capstanref09_nested.S ⊕ Bool)), m113 ≤ m80 ∧ capstanref09_nested.j1 out_0 many_1 x43 x79 b112 = some o ∧ next (capstanref09_nested.F out_0 many_1) m113 o = some r ∧ Env ⟨75, []⟩ [(0, v_out_0), (1, .int .i64 many_1), (5, .int .i64 x43), (6, .int .i64 x79), (53, .bool b112)] a ∧ St w em hV [slP k_capstanref09_Loop v_out_0 out_0] [] w2) ?_ ?_
      · rintro a w2 ⟨b112, m113, o, hm_m113, ho, hr, ha, hw⟩
        refine CP.app ha hw ?_
        clear ha hw a w2
        rcases if_some ho with ⟨hc, ho⟩ | ⟨hc, ho⟩
        · refine CP.condT rfl hc ?_
          refine CP.seq ?_
          refine CP.region ?_
          refine SP.val (Val.assign rfl) rfl rfl rfl ?_
          refine SP.nil ?_
          refine QE.then ?_
          refine CP.ret ?_
          refine QE.blockR ?_
          refine QE.thru (by intro e; cases e) ?_
          refine QE.thru (by intro e; cases e) ?_
          refine QE.blockR ?_
          refine QE.blockR ?_
          refine QE.thru (by intro e; cases e) ?_
          refine QE.thru (by intro e; cases e) ?_
          refine QE.blockR ?_
          refine QE.thru (by intro e; cases e) ?_
          obtain rfl := Option.some.inj ho
          obtain rfl := Option.some.inj hr
          exact QE.rets (rs := [.tmp 4]) (vs := [.bool false]) Tryd.results23 rfl ⟨RVs.tmp rfl, trivial⟩ (fun w2 h => St.done (fun a b p s => rfl) h)
        · refine CP.condF rfl (bf hc) ?_
          refine CP.skip ?_
          refine QE.blockN ?_
          refine QE.then ?_
          refine CP.region ?_
          refine SP.val (Val.move rfl) rfl rfl rfl ?_
          refine SP.val (Val.add rfl rfl) rfl rfl rfl ?_
          refine SP.val (Val.assign rfl) rfl rfl rfl ?_
          refine SP.nil ?_
          obtain rfl := Option.some.inj ho
          exact QE.lower m113 (by omega) fun a w2 ha hw => ⟨(IntKind.i64.wrap (x79 + 1)), (by omega), hr, ha.sub ⟨rfl, rfl, rfl, rfl, trivial⟩, hw⟩
      · refine CP.drawA (by kernel_rfl) (fun w2 k h => h.drawn k) ?_
        obtain ⟨x83, hx, ho⟩ := bind_some ho
        have hx := elt_some hx
        refine DA.ghost (fun w2 h => h.elem see 0 rfl hx.1 hx.2) (fun p81 h_p81 => ?_)
        clear hx
        refine DA.ghost (fun w2 h => h.openE see 0 rfl (fun _ : Unit => [.int .i64 x83.From, .int .i64 x83.To, .int .i64 x83.Turns]) (fun _ => []) (fun h cs e => ⟨(), e, All.nil _⟩)) (fun _ _ => ?_)
        obtain ⟨x87, hx, ho⟩ := bind_some ho
        have hx := elt_some hx
        refine DA.ghost (fun w2 h => h.elem see 2 rfl hx.1 hx.2) (fun p85 h_p85 => ?_)
        clear hx
        refine DA.ghost (fun w2 h => h.openE see 0 rfl (fun _ : Unit => [.int .i64 x87.From, .int .i64 x87.To, .int .i64 x87.Turns]) (fun _ => []) (fun h cs e => ⟨(), e, All.nil _⟩)) (fun _ _ => ?_)
        refine DA.phase (fun i => Nat.ble 0 i && Nat.blt i 8) (fun w2 => St w em hV [atP p85 [.int .i64 x87.From, .int .i64 x87.To, .int .i64 x87.Turns], elP k_capstanref09_Loop p85 x87, atP p81 [.int .i64 x83.From, .int .i64 x83.To, .int .i64 x83.Turns], elP k_capstanref09_Loop p81 x83, slP k_capstanref09_Loop v_out_0 out_0] [] w2) ?_
        refine DT.take 0 rfl rfl rfl rfl (by kernel_rfl) (fun _ _ _ h => h) (Val.move rfl) (fun w2 hw => hw) ?_
        refine DT.take 1 rfl rfl rfl rfl (by kernel_rfl) (fun _ _ _ h => h) (Val.move rfl) (fun w2 hw => hw) ?_
        refine DT.take 2 rfl rfl rfl rfl (by kernel_rfl) (fun _ _ _ h => h) (Val.indexE h_p81 Tryd.underlying24 sz41 rfl rfl) (fun w2 hw => hw) ?_
        refine DT.take 3 rfl rfl rfl rfl (by kernel_rfl) (fun _ _ _ h => h) (Val.loadAtA see 2 rfl Tryd.underlying41 rfl sz41 rfl) (fun w2 hw => hw) ?_
        refine DT.take 4 rfl rfl rfl rfl (by kernel_rfl) (fun _ _ _ h => h) (Val.move rfl) (fun w2 hw => hw) ?_
        refine DT.take 5 rfl rfl rfl rfl (by kernel_rfl) (fun _ _ _ h => h) (Val.move rfl) (fun w2 hw => hw) ?_
        refine DT.take 6 rfl rfl rfl rfl (by kernel_rfl) (fun _ _ _ h => h) (Val.indexE h_p85 Tryd.underlying24 sz41 rfl rfl) (fun w2 hw => hw) ?_
        refine DT.take 7 rfl rfl rfl rfl (by kernel_rfl) (fun _ _ _ h => h) (Val.loadAtA see 0 rfl Tryd.underlying41 rfl sz41 rfl) (fun w2 hw => hw) ?_
        refine DT.next (by kernel_rfl) ?_
        refine DA.one 8 rfl (by kernel_rfl) ?_
        obtain ⟨t89, hc, ho⟩ := bind_some (x := capstanref09_common.f x83 x87) ho
        refine SP.callV see (caps := []) (.bool t89) fn42 rfl rfl rfl rfl (fun w2 hP hs sub ap => capstanref09_common.ok x83 x87  _ hc w2 hP sub ) ?_
        clear hc
        refine SP.nil ?_
        refine QE.atA ?_
        refine DA.one 9 rfl (by kernel_rfl) ?_
        refine SP.val (Val.move rfl) rfl rfl rfl ?_
        refine SP.nil ?_
        refine QE.atA ?_
        rcases if_some ho with ⟨hc, ho⟩ | ⟨hc, ho⟩
        · have hg90 := hc
          clear hc
          obtain ⟨x93, hx, ho⟩ := bind_some ho
          have hx := elt_some hx
          refine DA.ghost (fun w2 h => h.elem see 4 rfl hx.1 hx.2) (fun p91 h_p91 => ?_)
          clear hx
          refine DA.ghost (fun w2 h => h.openE see 0 rfl (fun _ : Unit => [.int .i64 x93.From, .int .i64 x93.To, .int .i64 x93.Turns]) (fun _ => []) (fun h cs e => ⟨(), e, All.nil _⟩)) (fun _ _ => ?_)
          obtain ⟨x97, hx, ho⟩ := bind_some ho
          have hx := elt_some hx
          refine DA.ghost (fun w2 h => h.elem see 6 rfl hx.1 hx.2) (fun p95 h_p95 => ?_)
          clear hx
          refine DA.ghost (fun w2 h => h.openE see 0 rfl (fun _ : Unit => [.int .i64 x97.From, .int .i64 x97.To, .int .i64 x97.Turns]) (fun _ => []) (fun h cs e => ⟨(), e, All.nil _⟩)) (fun _ _ => ?_)
          refine DA.phase (fun i => Nat.ble 10 i && Nat.blt i 18) (fun w2 => St w em hV [atP p95 [.int .i64 x97.From, .int .i64 x97.To, .int .i64 x97.Turns], elP k_capstanref09_Loop p95 x97, atP p91 [.int .i64 x93.From, .int .i64 x93.To, .int .i64 x93.Turns], elP k_capstanref09_Loop p91 x93, atP p85 [.int .i64 x87.From, .int .i64 x87.To, .int .i64 x87.Turns], elP k_capstanref09_Loop p85 x87, atP p81 [.int .i64 x83.From, .int .i64 x83.To, .int .i64 x83.Turns], elP k_capstanref09_Loop p81 x83, slP k_capstanref09_Loop v_out_0 out_0] [] w2) ?_
          refine DT.is (d := 30) (b := true) rfl hg90 ?_
          refine DT.take 10 rfl rfl rfl rfl (by kernel_rfl) (fun _ _ _ h => h) (Val.move rfl) (fun w2 hw => hw) ?_
          refine DT.take 11 rfl rfl rfl rfl (by kernel_rfl) (fun _ _ _ h => h) (Val.move rfl) (fun w2 hw => hw) ?_
          refine DT.take 12 rfl rfl rfl rfl (by kernel_rfl) (fun _ _ _ h => h) (Val.indexE h_p91 Tryd.underlying24 sz41 rfl rfl) (fun w2 hw => hw) ?_
          refine DT.take 13 rfl rfl rfl rfl (by kernel_rfl) (fun _ _ _ h => h) (Val.loadAtA see 2 rfl Tryd.underlying41 rfl sz41 rfl) (fun w2 hw => hw) ?_
          refine DT.take 14 rfl rfl rfl rfl (by kernel_rfl) (fun _ _ _ h => h) (Val.move rfl) (fun w2 hw => hw) ?_
          refine DT.take 15 rfl rfl rfl rfl (by kernel_rfl) (fun _ _ _ h => h) (Val.move rfl) (fun w2 hw => hw) ?_
          refine DT.take 16 rfl rfl rfl rfl (by kernel_rfl) (fun _ _ _ h => h) (Val.indexE h_p95 Tryd.underlying24 sz41 rfl rfl) (fun w2 hw => hw) ?_
          refine DT.take 17 rfl rfl rfl rfl (by kernel_rfl) (fun _ _ _ h => h) (Val.loadAtA see 0 rfl Tryd.underlying41 rfl sz41 rfl) (fun w2 hw => hw) ?_
          refine DT.next (by kernel_rfl) ?_
          refine DA.one 18 rfl (by kernel_rfl) ?_
          obtain ⟨t99, hc, ho⟩ := bind_some (x := capstanref09_inside.f x93 x97) ho
          refine SP.callV see (caps := []) (.bool t99) fn43 rfl rfl rfl rfl (fun w2 hP hs sub ap => capstanref09_inside.ok x93 x97  _ hc w2 hP sub ) ?_
          clear hc
          refine SP.nil ?_
          refine QE.atA ?_
          refine DA.one 19 rfl (by kernel_rfl) ?_
          refine SP.val (Val.notB rfl) rfl rfl rfl ?_
          refine SP.nil ?_
          refine QE.atA ?_
          refine DA.one 20 rfl (by kernel_rfl) ?_
          refine SP.val (Val.pickT rfl rfl) rfl rfl rfl ?_
          refine SP.nil ?_
          refine QE.atA ?_
          refine DA.one 21 rfl (by kernel_rfl) ?_
          refine SP.val (Val.move rfl) rfl rfl rfl ?_
          refine SP.nil ?_
          refine QE.atA ?_
          rcases if_some ho with ⟨hc, ho⟩ | ⟨hc, ho⟩
          · have hg100 := hc
            clear hc
            obtain ⟨x103, hx, ho⟩ := bind_some ho
            have hx := elt_some hx
            refine DA.ghost (fun w2 h => h.elem see 8 rfl hx.1 hx.2) (fun p101 h_p101 => ?_)
            clear hx
            refine DA.ghost (fun w2 h => h.openE see 0 rfl (fun _ : Unit => [.int .i64 x103.From, .int .i64 x103.To, .int .i64 x103.Turns]) (fun _ => []) (fun h cs e => ⟨(), e, All.nil _⟩)) (fun _ _ => ?_)
            obtain ⟨x107, hx, ho⟩ := bind_some ho
            have hx := elt_some hx
            refine DA.ghost (fun w2 h => h.elem see 10 rfl hx.1 hx.2) (fun p105 h_p105 => ?_)
            clear hx
            refine DA.ghost (fun w2 h => h.openE see 0 rfl (fun _ : Unit => [.int .i64 x107.From, .int .i64 x107.To, .int .i64 x107.Turns]) (fun _ => []) (fun h cs e => ⟨(), e, All.nil _⟩)) (fun _ _ => ?_)
            refine DA.phase (fun i => Nat.ble 22 i && Nat.blt i 30) (fun w2 => St w em hV [atP p105 [.int .i64 x107.From, .int .i64 x107.To, .int .i64 x107.Turns], elP k_capstanref09_Loop p105 x107, atP p101 [.int .i64 x103.From, .int .i64 x103.To, .int .i64 x103.Turns], elP k_capstanref09_Loop p101 x103, atP p95 [.int .i64 x97.From, .int .i64 x97.To, .int .i64 x97.Turns], elP k_capstanref09_Loop p95 x97, atP p91 [.int .i64 x93.From, .int .i64 x93.To, .int .i64 x93.Turns], elP k_capstanref09_Loop p91 x93, atP p85 [.int .i64 x87.From, .int .i64 x87.To, .int .i64 x87.Turns], elP k_capstanref09_Loop p85 x87, atP p81 [.int .i64 x83.From, .int .i64 x83.To, .int .i64 x83.Turns], elP k_capstanref09_Loop p81 x83, slP k_capstanref09_Loop v_out_0 out_0] [] w2) ?_
            refine DT.is (d := 42) (b := true) rfl hg100 ?_
            refine DT.take 22 rfl rfl rfl rfl (by kernel_rfl) (fun _ _ _ h => h) (Val.move rfl) (fun w2 hw => hw) ?_
            refine DT.take 23 rfl rfl rfl rfl (by kernel_rfl) (fun _ _ _ h => h) (Val.move rfl) (fun w2 hw => hw) ?_
            refine DT.take 24 rfl rfl rfl rfl (by kernel_rfl) (fun _ _ _ h => h) (Val.indexE h_p101 Tryd.underlying24 sz41 rfl rfl) (fun w2 hw => hw) ?_
            refine DT.take 25 rfl rfl rfl rfl (by kernel_rfl) (fun _ _ _ h => h) (Val.loadAtA see 2 rfl Tryd.underlying41 rfl sz41 rfl) (fun w2 hw => hw) ?_
            refine DT.take 26 rfl rfl rfl rfl (by kernel_rfl) (fun _ _ _ h => h) (Val.move rfl) (fun w2 hw => hw) ?_
            refine DT.take 27 rfl rfl rfl rfl (by kernel_rfl) (fun _ _ _ h => h) (Val.move rfl) (fun w2 hw => hw) ?_
            refine DT.take 28 rfl rfl rfl rfl (by kernel_rfl) (fun _ _ _ h => h) (Val.indexE h_p105 Tryd.underlying24 sz41 rfl rfl) (fun w2 hw => hw) ?_
            refine DT.take 29 rfl rfl rfl rfl (by kernel_rfl) (fun _ _ _ h => h) (Val.loadAtA see 0 rfl Tryd.underlying41 rfl sz41 rfl) (fun w2 hw => hw) ?_
            refine DT.next (by kernel_rfl) ?_
            refine DA.one 30 rfl (by kernel_rfl) ?_
            obtain ⟨t109, hc, ho⟩ := bind_some (x := capstanref09_inside.f x103 x107) ho
            refine SP.callV see (caps := []) (.bool t109) fn43 rfl rfl rfl rfl (fun w2 hP hs sub ap => capstanref09_inside.ok x103 x107  _ hc w2 hP sub ) ?_
            clear hc
            refine SP.nil ?_
            refine QE.atA ?_
            refine DA.one 31 rfl (by kernel_rfl) ?_
            refine SP.val (Val.notB rfl) rfl rfl rfl ?_
            refine SP.nil ?_
            refine QE.atA ?_
            refine DA.one 32 rfl (by kernel_rfl) ?_
            refine SP.val (Val.pickT rfl rfl) rfl rfl rfl ?_
            refine SP.nil ?_
            refine QE.atA ?_
            refine DA.done (by kernel_rfl) ?_
            exact QE.meet fun a w2 ha hw => ⟨(!t109), m80, _, (by omega), ho, hr, ha.sub ⟨rfl, rfl, rfl, rfl, rfl, trivial⟩, (St.selP [12] rfl hw)⟩
          · have hg110 := (bf hc)
            clear hc
            refine DA.phase (fun i => Nat.ble 22 i && Nat.blt i 30) (fun w2 => St w em hV [atP p95 [.int .i64 x97.From, .int .i64 x97.To, .int .i64 x97.Turns], elP k_capstanref09_Loop p95 x97, atP p91 [.int .i64 x93.From, .int .i64 x93.To, .int .i64 x93.Turns], elP k_capstanref09_Loop p91 x93, atP p85 [.int .i64 x87.From, .int .i64 x87.To, .int .i64 x87.Turns], elP k_capstanref09_Loop p85 x87, atP p81 [.int .i64 x83.From, .int .i64 x83.To, .int .i64 x83.Turns], elP k_capstanref09_Loop p81 x83, slP k_capstanref09_Loop v_out_0 out_0] [] w2) ?_
            refine DT.is (d := 42) (b := false) rfl hg110 ?_
            refine DT.not 22 rfl rfl rfl rfl (by kernel_rfl) (fun _ _ _ h => h) (fun w2 hw => hw) ?_
            refine DT.not 23 rfl rfl rfl rfl (by kernel_rfl) (fun _ _ _ h => h) (fun w2 hw => hw) ?_
            refine DT.not 24 rfl rfl rfl rfl (by kernel_rfl) (fun _ _ _ h => h) (fun w2 hw => hw) ?_
            refine DT.not 25 rfl rfl rfl rfl (by kernel_rfl) (fun _ _ _ h => h) (fun w2 hw => hw) ?_
            refine DT.not 26 rfl rfl rfl rfl (by kernel_rfl) (fun _ _ _ h => h) (fun w2 hw => hw) ?_
            refine DT.not 27 rfl rfl rfl rfl (by kernel_rfl) (fun _ _ _ h => h) (fun w2 hw => hw) ?_
            refine DT.not 28 rfl rfl rfl rfl (by kernel_rfl) (fun _ _ _ h => h) (fun w2 hw => hw) ?_
            refine DT.not 29 rfl rfl rfl rfl (by kernel_rfl) (fun _ _ _ h => h) (fun w2 hw => hw) ?_
            refine DT.next (by kernel_rfl) ?_
            refine DA.phase (fun i => Nat.ble 30 i && Nat.blt i 31) (fun w2 => St w em hV [atP p95 [.int .i64 x97.From, .int .i64 x97.To, .int .i64 x97.Turns], elP k_capstanref09_Loop p95 x97, atP p91 [.int .i64 x93.From, .int .i64 x93.To, .int .i64 x93.Turns], elP k_capstanref09_Loop p91 x93, atP p85 [.int .i64 x87.From, .int .i64 x87.To, .int .i64 x87.Turns], elP k_capstanref09_Loop p85 x87, atP p81 [.int .i64 x83.From, .int .i64 x83.To, .int .i64 x83.Turns], elP k_capstanref09_Loop p81 x83, slP k_capstanref09_Loop v_out_0 out_0] [] w2) ?_
            refine DT.not 30 rfl rfl rfl rfl (by kernel_rfl) (fun _ _ _ h => h) (fun w2 hw => hw) ?_
            refine DT.next (by kernel_rfl) ?_
            refine DA.phase (fun i => Nat.ble 31 i && Nat.blt i 32) (fun w2 => St w em hV [atP p95 [.int .i64 x97.From, .int .i64 x97.To, .int .i64 x97.Turns], elP k_capstanref09_Loop p95 x97, atP p91 [.int .i64 x93.From, .int .i64 x93.To, .int .i64 x93.Turns], elP k_capstanref09_Loop p91 x93, atP p85 [.int .i64 x87.From, .int .i64 x87.To, .int .i64 x87.Turns], elP k_capstanref09_Loop p85 x87, atP p81 [.int .i64 x83.From, .int .i64 x83.To, .int .i64 x83.Turns], elP k_capstanref09_Loop p81 x83, slP k_capstanref09_Loop v_out_0 out_0] [] w2) ?_
            refine DT.not 31 rfl rfl rfl rfl (by kernel_rfl) (fun _ _ _ h => h) (fun w2 hw => hw) ?_
            refine DT.next (by kernel_rfl) ?_
            refine DA.one 32 rfl (by kernel_rfl) ?_
            refine SP.val (Val.pickF rfl rfl) rfl rfl rfl ?_
            refine SP.nil ?_
            refine QE.atA ?_
            refine DA.done (by kernel_rfl) ?_
            exact QE.meet fun a w2 ha hw => ⟨false, m80, _, (by omega), ho, hr, ha.sub ⟨rfl, rfl, rfl, rfl, rfl, trivial⟩, (St.selP [8] rfl hw)⟩
        · have hg111 := (bf hc)
          clear hc
          refine DA.phase (fun i => Nat.ble 10 i && Nat.blt i 18) (fun w2 => St w em hV [atP p85 [.int .i64 x87.From, .int .i64 x87.To, .int .i64 x87.Turns], elP k_capstanref09_Loop p85 x87, atP p81 [.int .i64 x83.From, .int .i64 x83.To, .int .i64 x83.Turns], elP k_capstanref09_Loop p81 x83, slP k_capstanref09_Loop v_out_0 out_0] [] w2) ?_
          refine DT.is (d := 30) (b := false) rfl hg111 ?_
          refine DT.not 10 rfl rfl rfl rfl (by kernel_rfl) (fun _ _ _ h => h) (fun w2 hw => hw) ?_
          refine DT.not 11 rfl rfl rfl rfl (by kernel_rfl) (fun _ _ _ h => h) (fun w2 hw => hw) ?_
          refine DT.not 12 rfl rfl rfl rfl (by kernel_rfl) (fun _ _ _ h => h) (fun w2 hw => hw) ?_
          refine DT.not 13 rfl rfl rfl rfl (by kernel_rfl) (fun _ _ _ h => h) (fun w2 hw => hw) ?_
          refine DT.not 14 rfl rfl rfl rfl (by kernel_rfl) (fun _ _ _ h => h) (fun w2 hw => hw) ?_
          refine DT.not 15 rfl rfl rfl rfl (by kernel_rfl) (fun _ _ _ h => h) (fun w2 hw => hw) ?_
          refine DT.not 16 rfl rfl rfl rfl (by kernel_rfl) (fun _ _ _ h => h) (fun w2 hw => hw) ?_
          refine DT.not 17 rfl rfl rfl rfl (by kernel_rfl) (fun _ _ _ h => h) (fun w2 hw => hw) ?_
          refine DT.next (by kernel_rfl) ?_
          refine DA.phase (fun i => Nat.ble 18 i && Nat.blt i 19) (fun w2 => St w em hV [atP p85 [.int .i64 x87.From, .int .i64 x87.To, .int .i64 x87.Turns], elP k_capstanref09_Loop p85 x87, atP p81 [.int .i64 x83.From, .int .i64 x83.To, .int .i64 x83.Turns], elP k_capstanref09_Loop p81 x83, slP k_capstanref09_Loop v_out_0 out_0] [] w2) ?_
          refine DT.not 18 rfl rfl rfl rfl (by kernel_rfl) (fun _ _ _ h => h) (fun w2 hw => hw) ?_
          refine DT.next (by kernel_rfl) ?_
          refine DA.phase (fun i => Nat.ble 19 i && Nat.blt i 20) (fun w2 => St w em hV [atP p85 [.int .i64 x87.From, .int .i64 x87.To, .int .i64 x87.Turns], elP k_capstanref09_Loop p85 x87, atP p81 [.int .i64 x83.From, .int .i64 x83.To, .int .i64 x83.Turns], elP k_capstanref09_Loop p81 x83, slP k_capstanref09_Loop v_out_0 out_0] [] w2) ?_
          refine DT.not 19 rfl rfl rfl rfl (by kernel_rfl) (fun _ _ _ h => h) (fun w2 hw => hw) ?_
          refine DT.next (by kernel_rfl) ?_
          refine DA.one 20 rfl (by kernel_rfl) ?_
          refine SP.val (Val.pickF rfl rfl) rfl rfl rfl ?_
          refine SP.nil ?_
          refine QE.atA ?_
          refine DA.one 21 rfl (by kernel_rfl) ?_
          refine SP.val (Val.move rfl) rfl rfl rfl ?_
          refine SP.nil ?_
          refine QE.atA ?_
          refine DA.phase (fun i => Nat.ble 22 i && Nat.blt i 30) (fun w2 => St w em hV [atP p85 [.int .i64 x87.From, .int .i64 x87.To, .int .i64 x87.Turns], elP k_capstanref09_Loop p85 x87, atP p81 [.int .i64 x83.From, .int .i64 x83.To, .int .i64 x83.Turns], elP k_capstanref09_Loop p81 x83, slP k_capstanref09_Loop v_out_0 out_0] [] w2) ?_
          refine DT.not 22 rfl rfl rfl rfl (by kernel_rfl) (fun _ _ _ h => h) (fun w2 hw => hw) ?_
          refine DT.not 23 rfl rfl rfl rfl (by kernel_rfl) (fun _ _ _ h => h) (fun w2 hw => hw) ?_
          refine DT.not 24 rfl rfl rfl rfl (by kernel_rfl) (fun _ _ _ h => h) (fun w2 hw => hw) ?_
          refine DT.not 25 rfl rfl rfl rfl (by kernel_rfl) (fun _ _ _ h => h) (fun w2 hw => hw) ?_
          refine DT.not 26 rfl rfl rfl rfl (by kernel_rfl) (fun _ _ _ h => h) (fun w2 hw => hw) ?_
          refine DT.not 27 rfl rfl rfl rfl (by kernel_rfl) (fun _ _ _ h => h) (fun w2 hw => hw) ?_
          refine DT.not 28 rfl rfl rfl rfl (by kernel_rfl) (fun _ _ _ h => h) (fun w2 hw => hw) ?_
          refine DT.not 29 rfl rfl rfl rfl (by kernel_rfl) (fun _ _ _ h => h) (fun w2 hw => hw) ?_
          refine DT.next (by kernel_rfl) ?_
          refine DA.phase (fun i => Nat.ble 30 i && Nat.blt i 31) (fun w2 => St w em hV [atP p85 [.int .i64 x87.From, .int .i64 x87.To, .int .i64 x87.Turns], elP k_capstanref09_Loop p85 x87, atP p81 [.int .i64 x83.From, .int .i64 x83.To, .int .i64 x83.Turns], elP k_capstanref09_Loop p81 x83, slP k_capstanref09_Loop v_out_0 out_0] [] w2) ?_
          refine DT.not 30 rfl rfl rfl rfl (by kernel_rfl) (fun _ _ _ h => h) (fun w2 hw => hw) ?_
          refine DT.next (by kernel_rfl) ?_
          refine DA.phase (fun i => Nat.ble 31 i && Nat.blt i 32) (fun w2 => St w em hV [atP p85 [.int .i64 x87.From, .int .i64 x87.To, .int .i64 x87.Turns], elP k_capstanref09_Loop p85 x87, atP p81 [.int .i64 x83.From, .int .i64 x83.To, .int .i64 x83.Turns], elP k_capstanref09_Loop p81 x83, slP k_capstanref09_Loop v_out_0 out_0] [] w2) ?_
          refine DT.not 31 rfl rfl rfl rfl (by kernel_rfl) (fun _ _ _ h => h) (fun w2 hw => hw) ?_
          refine DT.next (by kernel_rfl) ?_
          refine DA.one 32 rfl (by kernel_rfl) ?_
          refine SP.val (Val.pickF rfl rfl) rfl rfl rfl ?_
          refine SP.nil ?_
          refine QE.atA ?_
          refine DA.done (by kernel_rfl) ?_
          exact QE.meet fun a w2 ha hw => ⟨false, m80, _, (by omega), ho, hr, ha.sub ⟨rfl, rfl, rfl, rfl, rfl, trivial⟩, (St.selP [4] rfl hw)⟩
    · refine CP.condF rfl (decide_eq_false hc) ?_
      refine CP.exit ?_
      refine QE.thru (by intro e; cases e) ?_
      refine QE.thru (by intro e; cases e) ?_
      refine QE.blockE ?_
      refine QE.blockN ?_
      refine QE.then ?_
      refine CP.region ?_
      refine SP.val (Val.move rfl) rfl rfl rfl ?_
      refine SP.val (Val.add rfl rfl) rfl rfl rfl ?_
      refine SP.val (Val.assign rfl) rfl rfl rfl ?_
      refine SP.nil ?_
      obtain rfl := Option.some.inj ho
      exact QE.lower m80 (by omega) fun a w2 ha hw => ⟨(IntKind.i64.wrap (x43 + 1)), (by omega), hr, ha.sub ⟨rfl, rfl, rfl, trivial⟩, hw⟩
  · refine CP.condF rfl (decide_eq_false hc) ?_
    refine CP.exit ?_
    refine QE.thru (by intro e; cases e) ?_
    refine QE.thru (by intro e; cases e) ?_
    refine QE.blockE ?_
    refine QE.then ?_
    refine CP.seq ?_
    refine CP.seq ?_
    refine CP.region ?_
    refine SP.val (Val.assign rfl) rfl rfl rfl ?_
    refine SP.nil ?_
    refine QE.then ?_
    refine CP.block ?_
    obtain rfl := Option.some.inj ho
    refine CP.loop (fun cl3 a w2 => ∃ x134 : Int, cl3 ≤ m44 ∧ iter (capstanref09_nested.F out_0 many_1) cl3 (.l3 x134) = some r ∧ Env ⟨75, []⟩ [(0, v_out_0), (1, .int .i64 many_1), (7, .int .i64 x134)] a ∧ St w em hV [slP k_capstanref09_Loop v_out_0 out_0] [] w2) m44 (fun a w2 ha hw => ⟨0, Nat.le_refl _, hr, ha.sub ⟨rfl, rfl, rfl, trivial⟩, hw⟩) ?_
    clear hr
    rintro cl3 a w2 ⟨x134, hc_l3, hi, ha, hw⟩
    obtain ⟨m135, o, hm_m135, ho, hr⟩ := iter_some hi
    refine CP.app ha hw ?_
    clear ha hw a w2 hi
    refine CP.seq ?_
    refine CP.seq ?_
    refine CP.region ?_
    refine SP.val (Val.move rfl) rfl rfl rfl ?_
    refine SP.val (Val.move rfl) rfl rfl rfl ?_
    refine SP.val (Val.lss rfl rfl) rfl rfl rfl ?_
    refine SP.nil ?_
    refine QE.then ?_
    rcases if_some ho with ⟨hc, ho⟩ | ⟨hc, ho⟩
    · refine CP.condT rfl (decide_eq_true hc) ?_
      refine CP.skip ?_
      refine QE.then ?_
      refine CP.seq ?_
      refine CP.block ?_
      refine CP.seq ?_
      refine CP.region ?_
      refine SP.val (Val.assign rfl) rfl rfl rfl ?_
      refine SP.nil ?_
      refine QE.then ?_
      refine CP.seq ?_
      refine CP.seq ?_
      refine CP.region ?_
      refine SP.val (Val.assign rfl) rfl rfl rfl ?_
      refine SP.nil ?_
      refine QE.then ?_
      refine CP.block ?_
      obtain rfl := Option.some.inj ho
      refine CP.loop (fun cl4 a w2 => ∃ x143 : Int, ∃ x144 : Int, cl4 ≤ m135 ∧ iter (capstanref09_nested.F out_0 many_1) cl4 (.l4 x134 x143 x144) = some r ∧ Env ⟨75, []⟩ [(0, v_out_0), (1, .int .i64 many_1), (7, .int .i64 x134), (8, .int .i64 x143), (9, .int .i64 x144)] a ∧ St w em hV [slP k_capstanref09_Loop v_out_0 out_0] [] w2) m135 (fun a w2 ha hw => ⟨0, 0, Nat.le_refl _, hr, ha.sub ⟨rfl, rfl, rfl, rfl, rfl, trivial⟩, hw⟩) ?_
      clear hr
      rintro cl4 a w2 ⟨x143, x144, hc_l4, hi, ha, hw⟩
      obtain ⟨m145, o, hm_m145, ho, hr⟩ := iter_some hi
      refine CP.app ha hw ?_
      clear ha hw a w2 hi
      refine CP.seq ?_
      refine CP.seq ?_
      refine CP.region ?_
      refine SP.val (Val.move rfl) rfl rfl rfl ?_
      refine SP.val (Val.move rfl) rfl rfl rfl ?_
      refine SP.val (Val.lenP see 0 rfl Tryd.underlying24 rfl) rfl rfl rfl ?_
      refine SP.val (Val.lss rfl rfl) rfl rfl rfl ?_
      refine SP.nil ?_
      refine QE.then ?_
      rcases if_some ho with ⟨hc, ho⟩ | ⟨hc, ho⟩
      · refine CP.condT rfl (decide_eq_true hc) ?_
        refine CP.skip ?_
        refine QE.then ?_
        refine CP.join (fun a w2 => ∃ x150 : Int, ∃ (m151 : Nat) (o : (capstanref09_nested.S ⊕ Bool)), m151 ≤ m145 ∧ capstanref09_nested.j2 out_0 many_1 x134 x144 x150 = some o ∧ next (capstanref09_nested.F out_0 many_1) m151 o = some r ∧ Env ⟨75, []⟩ [(0, v_out_0), (1, .int .i64 many_1), (7, .int .i64 x134), (8, .int .i64 x150), (9, .int .i64 x144)] a ∧ St w em hV [slP k_capstanref09_Loop v_out_0 out_0] [] w2) ?_ ?_
        · rintro a w2 ⟨x150, m151, o, hm_m151, ho, hr, ha, hw⟩
          refine CP.app ha hw ?_
          clear ha hw a w2
          refine CP.region ?_
          refine SP.val (Val.move rfl) rfl rfl rfl ?_
          refine SP.val (Val.add rfl rfl) rfl rfl rfl ?_
          refine SP.val (Val.assign rfl) rfl rfl rfl ?_
          refine SP.nil ?_
          obtain rfl := Option.some.inj ho
          exact QE.lower m151 (by omega) fun a w2 ha hw => ⟨x150, (IntKind.i64.wrap (x144 + 1)), (by omega), hr, ha.sub ⟨rfl, rfl, rfl, rfl, rfl, trivial⟩, hw⟩
        · refine CP.block ?_
          refine CP.seq ?_
          refine CP.region ?_
          refine SP.val (Val.move rfl) rfl rfl rfl ?_
          refine SP.val (Val.move rfl) rfl rfl rfl ?_
          obtain ⟨x148, hx, ho⟩ := bind_some ho
          have hx := elt_some hx
          refine SP.indexP see 0 rfl Tryd.underlying24 sz41 hx.1 hx.2 rfl rfl rfl rfl (fun p146 => ?_)
          clear hx
          refine k_capstanref09_Loop.load see 0 rfl Tryd.underlying41 rfl sz41 rfl rfl rfl ?_
          refine SP.val (Val.move rfl) rfl rfl rfl ?_
          obtain ⟨t149, hc, ho⟩ := bind_some (x := capstanref09_within.f x148 x134) ho
          refine SP.callV see (caps := []) (.bool t149) fn24 rfl rfl rfl rfl (fun w2 hP hs sub ap => capstanref09_within.ok x148 x134  _ hc w2 hP sub ) ?_
          clear hc
          refine SP.nil ?_
          refine QE.then ?_
          rcases if_some ho with ⟨hc, ho⟩ | ⟨hc, ho⟩
          · refine CP.condT rfl hc ?_
            refine CP.region ?_
            refine SP.val (Val.move rfl) rfl rfl rfl ?_
            refine SP.val (Val.add rfl rfl) rfl rfl rfl ?_
            refine SP.val (Val.assign rfl) rfl rfl rfl ?_
            refine SP.nil ?_
            refine QE.blockN ?_
            exact QE.meet fun a w2 ha hw => ⟨(IntKind.i64.wrap (x143 + 1)), m145, _, (by omega), ho, hr, ha.sub ⟨rfl, rfl, rfl, rfl, rfl, trivial⟩, (St.selP [1] rfl hw)⟩
          · refine CP.condF rfl (bf hc) ?_
            refine CP.skip ?_
            refine QE.blockN ?_
            exact QE.meet fun a w2 ha hw => ⟨x143, m145, _, (by omega), ho, hr, ha.sub ⟨rfl, rfl, rfl, rfl, rfl, trivial⟩, (St.selP [1] rfl hw)⟩
      · refine CP.condF rfl (decide_eq_false hc) ?_
        refine CP.exit ?_
        refine QE.thru (by intro e; cases e) ?_
        refine QE.thru (by intro e; cases e) ?_
        refine QE.blockE ?_
        refine QE.then ?_
        refine CP.seq ?_
        refine CP.region ?_
        refine SP.val (Val.move rfl) rfl rfl rfl ?_
        refine SP.val (Val.gtr rfl rfl) rfl rfl rfl ?_
        refine SP.nil ?_
        refine QE.then ?_
        rcases if_some ho with ⟨hc, ho⟩ | ⟨hc, ho⟩
        · refine CP.condT rfl (decide_eq_true hc) ?_
          refine CP.seq ?_
          refine CP.region ?_
          refine SP.val (Val.assign rfl) rfl rfl rfl ?_
          refine SP.nil ?_
          refine QE.then ?_
          refine CP.ret ?_
          refine QE.blockR ?_
          refine QE.thru (by intro e; cases e) ?_
          refine QE.thru (by intro e; cases e) ?_
          refine QE.blockR ?_
          refine QE.thru (by intro e; cases e) ?_
          obtain rfl := Option.some.inj ho
          obtain rfl := Option.some.inj hr
          exact QE.rets (rs := [.tmp 4]) (vs := [.bool false]) Tryd.results23 rfl ⟨RVs.tmp rfl, trivial⟩ (fun w2 h => St.done (fun a b p s => rfl) h)
        · refine CP.condF rfl (decide_eq_false hc) ?_
          refine CP.skip ?_
          refine QE.blockN ?_
          refine QE.then ?_
          refine CP.region ?_
          refine SP.val (Val.move rfl) rfl rfl rfl ?_
          refine SP.val (Val.add rfl rfl) rfl rfl rfl ?_
          refine SP.val (Val.assign rfl) rfl rfl rfl ?_
          refine SP.nil ?_
          obtain rfl := Option.some.inj ho
          exact QE.lower m145 (by omega) fun a w2 ha hw => ⟨(IntKind.i64.wrap (x134 + 1)), (by omega), hr, ha.sub ⟨rfl, rfl, rfl, trivial⟩, hw⟩
    · refine CP.condF rfl (decide_eq_false hc) ?_
      refine CP.exit ?_
      refine QE.thru (by intro e; cases e) ?_
      refine QE.thru (by intro e; cases e) ?_
      refine QE.blockE ?_
      refine QE.then ?_
      refine CP.seq ?_
      refine CP.region ?_
      refine SP.val (Val.assign rfl) rfl rfl rfl ?_
      refine SP.nil ?_
      refine QE.then ?_
      refine CP.ret ?_
      obtain rfl := Option.some.inj ho
      obtain rfl := Option.some.inj hr
      exact QE.rets (rs := [.tmp 4]) (vs := [.bool true]) Tryd.results23 rfl ⟨RVs.tmp rfl, trivial⟩ (fun w2 h => St.done (fun a b p s => rfl) h)
/-! ### capstan/capstanref09.Loops: function 9 -/
inductive capstanref09_Loops.S where
  | start
  | l1 (x211 : Int)
  | l2 (l336 : List capstanref09_Loop) (x338 : Int)
  | l3 (l336 : List capstanref09_Loop) (x338 : Int) (x389 : Int)

def capstanref09_Loops.j1 (l_0 : (List api_Instr)) (l336 : List capstanref09_Loop) (x338 : Int) : Option (capstanref09_Loops.S ⊕ ((List capstanref09_Loop) × Int)) :=
  some (.inl (.l2 l336 (IntKind.i64.wrap (x338 + 1))))

def capstanref09_Loops.j2 (l_0 : (List api_Instr)) (l336 : List capstanref09_Loop) (x338 : Int) (x389 : Int) (b409 : Bool) : Option (capstanref09_Loops.S ⊕ ((List capstanref09_Loop) × Int)) :=
  if b409 = true then (some (.inr ([], 90))) else (some (.inl (.l3 l336 x338 (IntKind.i64.wrap (x389 + 1)))))

def capstanref09_Loops.F (l_0 : (List api_Instr)) : capstanref09_Loops.S → Option (capstanref09_Loops.S ⊕ ((List capstanref09_Loop) × Int))
  | .start => if ((decide ((l_0.length : Int) < 1)) || (decide ((l_0.length : Int) > 200))) = true then (some (.inr ([], 40))) else (some (.inl (.l1 0)))
  | .l1 x211 => if x211 < (l_0.length : Int) then ((elt l_0 x211).bind fun x215 => (capstanref04_May.f x215).bind fun t216 => if (!t216) = true then (some (.inr ([], 40))) else (some (.inl (.l1 (IntKind.i64.wrap (x211 + 1)))))) else ((capstanref09_all.f l_0).bind fun t218 => (elt l_0 (IntKind.i64.wrap ((l_0.length : Int) - 1))).bind fun x223 => (if (!t218.2) = true then (some true) else ((capstanref09_nested.f t218.1 (l_0.length : Int)).bind fun t228 => some (!t228))).bind fun t229 => if (t229 || ((decide (x223.Op ≠ 31)) && (decide (x223.Op ≠ 32)))) = true then (some (.inr ([], 90))) else (some (.inl (.l2 t218.1 0))))
  | .l2 l336 x338 => if x338 < (l_0.length : Int) then ((elt l_0 x338).bind fun x342 => (if x342.Op ≠ 26 then ((elt l_0 x338).bind fun x349 => some (decide (x349.Op ≠ 27))) else (some false)).bind fun t352 => if t352 = true then (capstanref09_Loops.j1 l_0 l336 x338) else ((elt l_0 x338).bind fun x355 => (if x355.A ≤ x338 then (some true) else ((elt l_0 x338).bind fun x362 => some (decide (x362.A ≥ (l_0.length : Int))))).bind fun t365 => if t365 = true then (some (.inr ([], 90))) else (some (.inl (.l3 l336 x338 0))))) else (some (.inr (l336, 0)))
  | .l3 l336 x338 x389 => if x389 < (l336.length : Int) then ((elt l336 x389).bind fun x393 => (elt l_0 x338).bind fun x397 => (capstanref09_within.f x393 x397.A).bind fun t401 => if t401 = true then ((elt l336 x389).bind fun x405 => (capstanref09_within.f x405 x338).bind fun t407 => capstanref09_Loops.j2 l_0 l336 x338 x389 (!t407)) else (capstanref09_Loops.j2 l_0 l336 x338 x389 false)) else (capstanref09_Loops.j1 l_0 l336 x338)

def capstanref09_Loops.f (l_0 : (List api_Instr)) : Option ((List capstanref09_Loop) × Int) := runF (capstanref09_Loops.F l_0) .start
theorem capstanref09_Loops.ok (l_0 : (List api_Instr)) (v_l_0 : Value) (r : (List capstanref09_Loop) × Int) (H : capstanref09_Loops.f l_0 = some r) (w : World) (hV : Hp) (sV : Sub hV (hp w)) (h0 : slR k_api_Instr hV v_l_0 l_0) :
    Trip Tryd.prog 9 [v_l_0].toArray em hV w (fun v => HO.ex fun u0 : Value => HO.pand (v = .tuple #[u0, .int .i64 r.2]) (HO.seps [HO.ofP (slP k_capstanref09_Loop u0 r.1)])) := by
  have see : Sees w em hV := ⟨sV, Dj.em_right _⟩
  refine Trip.of (P := Tryd.prog) (n := ⟨122, []⟩) Tryd.func9 rfl ⟨rfl, rfl⟩ rfl (St.begin (All.cons (x := slP k_api_Instr v_l_0 l_0) h0 (All.nil _))) ?_
  obtain ⟨n0, hi⟩ := runF_iff.1 H
  obtain ⟨m0, o, hm0, ho, hr⟩ := iter_some hi
  clear hi
  refine CP.seq ?_
  refine CP.region ?_
  refine SP.val (Val.assign rfl) rfl rfl rfl ?_
  refine SP.val (Val.assign rfl) rfl rfl rfl ?_
  refine SP.nil ?_
  refine QE.then ?_
  refine CP.seq ?_
  refine CP.seq ?_
  refine CP.region ?_
  refine SP.val (Val.move rfl) rfl rfl rfl ?_
  refine SP.val (Val.lenP see 0 rfl Tryd.underlying22 rfl) rfl rfl rfl ?_
  refine SP.val (Val.lss rfl rfl) rfl rfl rfl ?_
  refine SP.val (Val.move rfl) rfl rfl rfl ?_
  refine SP.join 4 (fun a w2 => Env ⟨122, []⟩ [(0, v_l_0), (17, .bool ((decide ((l_0.length : Int) < 1)) || (decide ((l_0.length : Int) > 200))))] a ∧ St w em hV [slP k_api_Instr v_l_0 l_0] [] w2) ?_ ?_
  · rintro a w2 ⟨ha, hw⟩
    refine SP.app ha hw ?_
    clear ha hw a w2
    refine SP.nil ?_
    refine QE.then ?_
    rcases if_some ho with ⟨hc, ho⟩ | ⟨hc, ho⟩
    · refine CP.condT rfl hc ?_
      refine CP.seq ?_
      refine CP.region ?_
      refine SP.val (Val.assign rfl) rfl rfl rfl ?_
      refine SP.val (Val.assign rfl) rfl rfl rfl ?_
      refine SP.nil ?_
      refine QE.then ?_
      refine CP.ret ?_
      refine QE.thru (by intro e; cases e) ?_
      obtain rfl := Option.some.inj ho
      obtain rfl := Option.some.inj hr
      exact QE.rets (rs := [.tmp 2, .tmp 3]) (vs := [(.slice none 0 0), .int .i64 40]) Tryd.results9 rfl ⟨RVs.tmp rfl, RVs.tmp rfl, trivial⟩ (fun w2 h => St.done (fun a b p s => ⟨_, rfl, ⟨em, em, Dj.em_left _, Sub.em _, Sub.em _, p.get 0 rfl, trivial⟩⟩) (St.selO [] rfl rfl (St.know (fun h _ => slP.nil k_capstanref09_Loop h) h)))
    · refine CP.condF rfl (bf hc) ?_
      refine CP.skip ?_
      refine QE.then ?_
      refine CP.seq ?_
      refine CP.seq ?_
      refine CP.region ?_
      refine SP.val (Val.assign rfl) rfl rfl rfl ?_
      refine SP.nil ?_
      refine QE.then ?_
      refine CP.block ?_
      obtain rfl := Option.some.inj ho
      refine CP.loop (fun cl1 a w2 => ∃ x211 : Int, cl1 ≤ m0 ∧ iter (capstanref09_Loops.F l_0) cl1 (.l1 x211) = some r ∧ Env ⟨122, []⟩ [(0, v_l_0), (4, .int .i64 x211)] a ∧ St w em hV [slP k_api_Instr v_l_0 l_0] [] w2) m0 (fun a w2 ha hw => ⟨0, Nat.le_refl _, hr, ha.sub ⟨rfl, rfl, trivial⟩, hw⟩) ?_
      clear hr
      rintro cl1 a w2 ⟨x211, hc_l1, hi, ha, hw⟩
      obtain ⟨m212, o, hm_m212, ho, hr⟩ := iter_some hi
      refine CP.app ha hw ?_
      clear ha hw a w2 hi
      refine CP.seq ?_
      refine CP.seq ?_
      refine CP.region ?_
      refine SP.val (Val.move rfl) rfl rfl rfl ?_
      refine SP.val (Val.move rfl) rfl rfl rfl ?_
      refine SP.val (Val.lenP see 0 rfl Tryd.underlying22 rfl) rfl rfl rfl ?_
      refine SP.val (Val.lss rfl rfl) rfl rfl rfl ?_
      refine SP.nil ?_
      refine QE.then ?_
      rcases if_some ho with ⟨hc, ho⟩ | ⟨hc, ho⟩
      · refine CP.condT rfl (decide_eq_true hc) ?_
        refine CP.skip ?_
        refine QE.then ?_
        refine CP.seq ?_
        refine CP.block ?_
        refine CP.seq ?_
        refine CP.region ?_
        refine SP.val (Val.move rfl) rfl rfl rfl ?_
        refine SP.val (Val.move rfl) rfl rfl rfl ?_
        obtain ⟨x215, hx, ho⟩ := bind_some ho
        have hx := elt_some hx
        refine SP.indexP see 0 rfl Tryd.underlying22 sz52 hx.1 hx.2 rfl rfl rfl rfl (fun p213 => ?_)
        clear hx
        refine k_api_Instr.load see 0 rfl Tryd.underlying52 rfl sz52 rfl rfl rfl ?_
        obtain ⟨t216, hc, ho⟩ := bind_some (x := capstanref04_May.f x215) ho
        refine SP.callV see (caps := []) (.bool t216) fn21 rfl rfl rfl rfl (fun w2 hP hs sub ap => capstanref04_May.ok x215  _ hc w2 hP sub ) ?_
        clear hc
        refine SP.val (Val.notB rfl) rfl rfl rfl ?_
        refine SP.nil ?_
        refine QE.then ?_
        rcases if_some ho with ⟨hc, ho⟩ | ⟨hc, ho⟩
        · refine CP.condT rfl hc ?_
          refine CP.seq ?_
          refine CP.region ?_
          refine SP.val (Val.assign rfl) rfl rfl rfl ?_
          refine SP.val (Val.assign rfl) rfl rfl rfl ?_
          refine SP.nil ?_
          refine QE.then ?_
          refine CP.ret ?_
          refine QE.blockR ?_
          refine QE.thru (by intro e; cases e) ?_
          refine QE.thru (by intro e; cases e) ?_
          refine QE.blockR ?_
          refine QE.thru (by intro e; cases e) ?_
          obtain rfl := Option.some.inj ho
          obtain rfl := Option.some.inj hr
          exact QE.rets (rs := [.tmp 2, .tmp 3]) (vs := [(.slice none 0 0), .int .i64 40]) Tryd.results9 rfl ⟨RVs.tmp rfl, RVs.tmp rfl, trivial⟩ (fun w2 h => St.done (fun a b p s => ⟨_, rfl, ⟨em, em, Dj.em_left _, Sub.em _, Sub.em _, p.get 0 rfl, trivial⟩⟩) (St.selO [] rfl rfl (St.know (fun h _ => slP.nil k_capstanref09_Loop h) h)))
        · refine CP.condF rfl (bf hc) ?_
          refine CP.skip ?_
          refine QE.blockN ?_
          refine QE.then ?_
          refine CP.region ?_
          refine SP.val (Val.move rfl) rfl rfl rfl ?_
          refine SP.val (Val.add rfl rfl) rfl rfl rfl ?_
          refine SP.val (Val.assign rfl) rfl rfl rfl ?_
          refine SP.nil ?_
          obtain rfl := Option.some.inj ho
          exact QE.lower m212 (by omega) fun a w2 ha hw => ⟨(IntKind.i64.wrap (x211 + 1)), (by omega), hr, ha.sub ⟨rfl, rfl, trivial⟩, (St.selP [1] rfl hw)⟩
      · refine CP.condF rfl (decide_eq_false hc) ?_
        refine CP.exit ?_
        refine QE.thru (by intro e; cases e) ?_
        refine QE.thru (by intro e; cases e) ?_
        refine QE.blockE ?_
        refine QE.then ?_
        refine CP.seq ?_
        refine CP.region ?_
        refine SP.val (Val.move rfl) rfl rfl rfl ?_
        obtain ⟨t218, hc, ho⟩ := bind_some (x := capstanref09_all.f l_0) ho
        refine SP.callK see (caps := []) _ fn22 rfl rfl rfl rfl (fun w2 hP hs sub ap => capstanref09_all.ok l_0 _ _ hc w2 hP sub (ap.get 0 rfl)) (fun vr => ?_)
        refine SP.ex (fun w2 h => St.open h) (fun v219 => ?_)
        refine SP.have (fun w2 h => (St.pand h).1.symm) (fun er => ?_)
        subst er
        refine SP.imp (fun w2 h => St.seps (St.pand h).2) ?_
        clear hc
        refine SP.val (Val.move rfl) rfl rfl rfl ?_
        refine SP.val (Val.extract rfl rfl) rfl rfl rfl ?_
        refine SP.val (Val.extract rfl rfl) rfl rfl rfl ?_
        refine SP.val (Val.assign rfl) rfl rfl rfl ?_
        refine SP.val (Val.assign rfl) rfl rfl rfl ?_
        refine SP.nil ?_
        refine QE.then ?_
        refine CP.seq ?_
        refine CP.region ?_
        refine SP.val (Val.move rfl) rfl rfl rfl ?_
        refine SP.val (Val.move rfl) rfl rfl rfl ?_
        refine SP.val (Val.lenP see 0 rfl Tryd.underlying22 rfl) rfl rfl rfl ?_
        refine SP.val (Val.sub rfl rfl) rfl rfl rfl ?_
        obtain ⟨x223, hx, ho⟩ := bind_some ho
        have hx := elt_some hx
        refine SP.indexP see 0 rfl Tryd.underlying22 sz52 hx.1 hx.2 rfl rfl rfl rfl (fun p221 => ?_)
        clear hx
        refine SP.fieldP see 0 rfl Tryd.underlying52 rfl sz5 k_api_Instr.part_Op rfl rfl rfl (fun p224 => ?_)
        refine SP.val (Val.loadP1 see 0 rfl (fun _ _ e => e) Tryd.underlying5 rfl rfl) rfl rfl rfl ?_
        refine SP.val (Val.assign rfl) rfl rfl rfl ?_
        refine SP.nil ?_
        refine QE.then ?_
        refine CP.seq ?_
        refine CP.seq ?_
        refine CP.region ?_
        refine SP.val (Val.move rfl) rfl rfl rfl ?_
        refine SP.val (Val.notB rfl) rfl rfl rfl ?_
        refine SP.val (Val.move rfl) rfl rfl rfl ?_
        obtain ⟨t229, hg_t229, ho⟩ := bind_some ho
        refine SP.join 6 (fun a w2 => Env ⟨122, []⟩ [(0, v_l_0), (5, v219), (7, .int .u8 x223.Op), (50, .bool t229)] a ∧ St w em hV [elP (kInt .u8) p224 x223.Op, elP k_api_Instr p221 x223, slP k_api_Instr v_l_0 l_0] [slO k_capstanref09_Loop 41 v219 t218.1] w2) ?_ ?_
        · rintro a w2 ⟨ha, hw⟩
          refine SP.app ha hw ?_
          clear ha hw a w2 hg_t229
          refine SP.val (Val.move rfl) rfl rfl rfl ?_
          refine SP.join 7 (fun a w2 => Env ⟨122, []⟩ [(0, v_l_0), (5, v219), (58, .bool (t229 || ((decide (x223.Op ≠ 31)) && (decide (x223.Op ≠ 32)))))] a ∧ St w em hV [elP (kInt .u8) p224 x223.Op, elP k_api_Instr p221 x223, slP k_api_Instr v_l_0 l_0] [slO k_capstanref09_Loop 41 v219 t218.1] w2) ?_ ?_
          · rintro a w2 ⟨ha, hw⟩
            refine SP.app ha hw ?_
            clear ha hw a w2
            refine SP.nil ?_
            refine QE.then ?_
            rcases if_some ho with ⟨hc, ho⟩ | ⟨hc, ho⟩
            · refine CP.condT rfl hc ?_
              refine CP.seq ?_
              refine CP.region ?_
              refine SP.val (Val.assign rfl) rfl rfl rfl ?_
              refine SP.val (Val.assign rfl) rfl rfl rfl ?_
              refine SP.nil ?_
              refine QE.then ?_
              refine CP.ret ?_
              refine QE.thru (by intro e; cases e) ?_
              obtain rfl := Option.some.inj ho
              obtain rfl := Option.some.inj hr
              exact QE.rets (rs := [.tmp 2, .tmp 3]) (vs := [(.slice none 0 0), .int .i64 90]) Tryd.results9 rfl ⟨RVs.tmp rfl, RVs.tmp rfl, trivial⟩ (fun w2 h => St.done (fun a b p s => ⟨_, rfl, ⟨em, em, Dj.em_left _, Sub.em _, Sub.em _, p.get 0 rfl, trivial⟩⟩) (St.selO [] rfl rfl (St.know (fun h _ => slP.nil k_capstanref09_Loop h) h)))
            · refine CP.condF rfl (bf hc) ?_
              refine CP.skip ?_
              refine QE.then ?_
              refine CP.seq ?_
              refine CP.seq ?_
              refine CP.region ?_
              refine SP.val (Val.assign rfl) rfl rfl rfl ?_
              refine SP.nil ?_
              refine QE.then ?_
              refine CP.block ?_
              obtain rfl := Option.some.inj ho
              refine CP.loop (fun cl2 a w2 => ∃ l336 : List capstanref09_Loop, ∃ x338 : Int, ∃ v337 : Value, cl2 ≤ m212 ∧ iter (capstanref09_Loops.F l_0) cl2 (.l2 l336 x338) = some r ∧ Env ⟨122, []⟩ [(0, v_l_0), (5, v337), (8, .int .i64 x338)] a ∧ St w em hV [slP k_capstanref09_Loop v337 l336, slP k_api_Instr v_l_0 l_0] [] w2) m212 (fun a w2 ha hw => ⟨t218.1, 0, v219, Nat.le_refl _, hr, ha.sub ⟨rfl, rfl, rfl, trivial⟩, (St.selP [0, 3] rfl (St.freezeS hw 0 rfl see))⟩) ?_
              clear hr
              rintro cl2 a w2 ⟨l336, x338, v337, hc_l2, hi, ha, hw⟩
              obtain ⟨m339, o, hm_m339, ho, hr⟩ := iter_some hi
              refine CP.app ha hw ?_
              clear ha hw a w2 hi
              refine CP.seq ?_
              refine CP.seq ?_
              refine CP.region ?_
              refine SP.val (Val.move rfl) rfl rfl rfl ?_
              refine SP.val (Val.move rfl) rfl rfl rfl ?_
              refine SP.val (Val.lenP see 1 rfl Tryd.underlying22 rfl) rfl rfl rfl ?_
              refine SP.val (Val.lss rfl rfl) rfl rfl rfl ?_
              refine SP.nil ?_
              refine QE.then ?_
              rcases if_some ho with ⟨hc, ho⟩ | ⟨hc, ho⟩
              · refine CP.condT rfl (decide_eq_true hc) ?_
                refine CP.skip ?_
                refine QE.then ?_
                refine CP.join (fun a w2 => ∃ (m413 : Nat) (o : (capstanref09_Loops.S ⊕ ((List capstanref09_Loop) × Int))), m413 ≤ m339 ∧ capstanref09_Loops.j1 l_0 l336 x338 = some o ∧ next (capstanref09_Loops.F l_0) m413 o = some r ∧ Env ⟨122, []⟩ [(0, v_l_0), (5, v337), (8, .int .i64 x338)] a ∧ St w em hV [slP k_capstanref09_Loop v337 l336, slP k_api_Instr v_l_0 l_0] [] w2) ?_ ?_
                · rintro a w2 ⟨m413, o, hm_m413, ho, hr, ha, hw⟩
                  refine CP.app ha hw ?_
                  clear ha hw a w2
                  refine CP.region ?_
                  refine SP.val (Val.move rfl) rfl rfl rfl ?_
                  refine SP.val (Val.add rfl rfl) rfl rfl rfl ?_
                  refine SP.val (Val.assign rfl) rfl rfl rfl ?_
                  refine SP.nil ?_
                  obtain rfl := Option.some.inj ho
                  exact QE.lower m413 (by omega) fun a w2 ha hw => ⟨l336, (IntKind.i64.wrap (x338 + 1)), v337, (by omega), hr, ha.sub ⟨rfl, rfl, rfl, trivial⟩, hw⟩
                · refine CP.block ?_
                  refine CP.seq ?_
                  refine CP.seq ?_
                  refine CP.region ?_
                  refine SP.val (Val.move rfl) rfl rfl rfl ?_
                  refine SP.val (Val.move rfl) rfl rfl rfl ?_
                  obtain ⟨x342, hx, ho⟩ := bind_some ho
                  have hx := elt_some hx
                  refine SP.indexP see 1 rfl Tryd.underlying22 sz52 hx.1 hx.2 rfl rfl rfl rfl (fun p340 => ?_)
                  clear hx
                  refine SP.fieldP see 0 rfl Tryd.underlying52 rfl sz5 k_api_Instr.part_Op rfl rfl rfl (fun p343 => ?_)
                  refine SP.val (Val.loadP1 see 0 rfl (fun _ _ e => e) Tryd.underlying5 rfl rfl) rfl rfl rfl ?_
                  refine SP.val (Val.neq rfl rfl) rfl rfl rfl ?_
                  refine SP.val (Val.move rfl) rfl rfl rfl ?_
                  obtain ⟨t352, hg_t352, ho⟩ := bind_some ho
                  refine SP.join 7 (fun a w2 => Env ⟨122, []⟩ [(0, v_l_0), (5, v337), (8, .int .i64 x338), (78, .bool t352)] a ∧ St w em hV [elP (kInt .u8) p343 x342.Op, elP k_api_Instr p340 x342, slP k_capstanref09_Loop v337 l336, slP k_api_Instr v_l_0 l_0] [] w2) ?_ ?_
                  · rintro a w2 ⟨ha, hw⟩
                    refine SP.app ha hw ?_
                    clear ha hw a w2 hg_t352
                    refine SP.nil ?_
                    refine QE.then ?_
                    rcases if_some ho with ⟨hc, ho⟩ | ⟨hc, ho⟩
                    · refine CP.condT rfl hc ?_
                      refine CP.exit ?_
                      refine QE.thru (by intro e; cases e) ?_
                      refine QE.blockE ?_
                      exact QE.meet fun a w2 ha hw => ⟨m339, _, (by omega), ho, hr, ha.sub ⟨rfl, rfl, rfl, trivial⟩, (St.selP [2, 3] rfl hw)⟩
                    · refine CP.condF rfl (bf hc) ?_
                      refine CP.skip ?_
                      refine QE.then ?_
                      refine CP.seq ?_
                      refine CP.seq ?_
                      refine CP.region ?_
                      refine SP.val (Val.move rfl) rfl rfl rfl ?_
                      refine SP.val (Val.move rfl) rfl rfl rfl ?_
                      obtain ⟨x355, hx, ho⟩ := bind_some ho
                      have hx := elt_some hx
                      refine SP.indexP see 3 rfl Tryd.underlying22 sz52 hx.1 hx.2 rfl rfl rfl rfl (fun p353 => ?_)
                      clear hx
                      refine SP.fieldP see 0 rfl Tryd.underlying52 rfl sz3 k_api_Instr.part_A rfl rfl rfl (fun p356 => ?_)
                      refine SP.val (Val.loadP1 see 0 rfl (fun _ _ e => e) Tryd.underlying3 rfl rfl) rfl rfl rfl ?_
                      refine SP.val (Val.move rfl) rfl rfl rfl ?_
                      refine SP.val (Val.leq rfl rfl) rfl rfl rfl ?_
                      refine SP.val (Val.move rfl) rfl rfl rfl ?_
                      obtain ⟨t365, hg_t365, ho⟩ := bind_some ho
                      refine SP.join 9 (fun a w2 => Env ⟨122, []⟩ [(0, v_l_0), (5, v337), (8, .int .i64 x338), (95, .bool t365)] a ∧ St w em hV [elP (kInt .i64) p356 x355.A, elP k_api_Instr p353 x355, elP (kInt .u8) p343 x342.Op, elP k_api_Instr p340 x342, slP k_capstanref09_Loop v337 l336, slP k_api_Instr v_l_0 l_0] [] w2) ?_ ?_
                      · rintro a w2 ⟨ha, hw⟩
                        refine SP.app ha hw ?_
                        clear ha hw a w2 hg_t365
                        refine SP.nil ?_
                        refine QE.then ?_
                        rcases if_some ho with ⟨hc, ho⟩ | ⟨hc, ho⟩
                        · refine CP.condT rfl hc ?_
                          refine CP.seq ?_
                          refine CP.region ?_
                          refine SP.val (Val.assign rfl) rfl rfl rfl ?_
                          refine SP.val (Val.assign rfl) rfl rfl rfl ?_
                          refine SP.nil ?_
                          refine QE.then ?_
                          refine CP.ret ?_
                          refine QE.thru (by intro e; cases e) ?_
                          refine QE.blockR ?_
                          refine QE.thru (by intro e; cases e) ?_
                          refine QE.thru (by intro e; cases e) ?_
                          refine QE.blockR ?_
                          refine QE.thru (by intro e; cases e) ?_
                          obtain rfl := Option.some.inj ho
                          obtain rfl := Option.some.inj hr
                          exact QE.rets (rs := [.tmp 2, .tmp 3]) (vs := [(.slice none 0 0), .int .i64 90]) Tryd.results9 rfl ⟨RVs.tmp rfl, RVs.tmp rfl, trivial⟩ (fun w2 h => St.done (fun a b p s => ⟨_, rfl, ⟨em, em, Dj.em_left _, Sub.em _, Sub.em _, p.get 0 rfl, trivial⟩⟩) (St.selO [] rfl rfl (St.know (fun h _ => slP.nil k_capstanref09_Loop h) h)))
                        · refine CP.condF rfl (bf hc) ?_
                          refine CP.skip ?_
                          refine QE.then ?_
                          refine CP.seq ?_
                          refine CP.region ?_
                          refine SP.val (Val.assign rfl) rfl rfl rfl ?_
                          refine SP.nil ?_
                          refine QE.then ?_
                          refine CP.block ?_
                          obtain rfl := Option.some.inj ho
                          refine CP.loop (fun cl3 a w2 => ∃ x389 : Int, cl3 ≤ m339 ∧ iter (capstanref09_Loops.F l_0) cl3 (.l3 l336 x338 x389) = some r ∧ Env ⟨122, []⟩ [(0, v_l_0), (5, v337), (8, .int .i64 x338), (9, .int .i64 x389)] a ∧ St w em hV [slP k_capstanref09_Loop v337 l336, slP k_api_Instr v_l_0 l_0] [] w2) m339 (fun a w2 ha hw => ⟨0, Nat.le_refl _, hr, ha.sub ⟨rfl, rfl, rfl, rfl, trivial⟩, (St.selP [4, 5] rfl hw)⟩) ?_
                          clear hr
                          rintro cl3 a w2 ⟨x389, hc_l3, hi, ha, hw⟩
                          obtain ⟨m390, o, hm_m390, ho, hr⟩ := iter_some hi
                          refine CP.app ha hw ?_
                          clear ha hw a w2 hi
                          refine CP.seq ?_
                          refine CP.seq ?_
                          refine CP.region ?_
                          refine SP.val (Val.move rfl) rfl rfl rfl ?_
                          refine SP.val (Val.move rfl) rfl rfl rfl ?_
                          refine SP.val (Val.lenP see 0 rfl Tryd.underlying24 rfl) rfl rfl rfl ?_
                          refine SP.val (Val.lss rfl rfl) rfl rfl rfl ?_
                          refine SP.nil ?_
                          refine QE.then ?_
                          rcases if_some ho with ⟨hc, ho⟩ | ⟨hc, ho⟩
                          · refine CP.condT rfl (decide_eq_true hc) ?_
                            refine CP.skip ?_
                            refine QE.then ?_
                            refine CP.seq ?_
                            refine CP.block ?_
                            refine CP.join (fun a w2 => ∃ b409 : Bool, ∃ (m410 : Nat) (o : (capstanref09_Loops.S ⊕ ((List capstanref09_Loop) × Int))), m410 ≤ m390 ∧ capstanref09_Loops.j2 l_0 l336 x338 x389 b409 = some o ∧ next (capstanref09_Loops.F l_0) m410 o = some r ∧ Env ⟨122, []⟩ [(0, v_l_0), (5, v337), (8, .int .i64 x338), (9, .int .i64 x389), (120, .bool b409)] a ∧ St w em hV [slP k_capstanref09_Loop v337 l336, slP k_api_Instr v_l_0 l_0] [] w2) ?_ ?_
                            · rintro a w2 ⟨b409, m410, o, hm_m410, ho, hr, ha, hw⟩
                              refine CP.app ha hw ?_
                              clear ha hw a w2
                              rcases if_some ho with ⟨hc, ho⟩ | ⟨hc, ho⟩
                              · refine CP.condT rfl hc ?_
                                refine CP.seq ?_
                                refine CP.region ?_
                                refine SP.val (Val.assign rfl) rfl rfl rfl ?_
                                refine SP.val (Val.assign rfl) rfl rfl rfl ?_
                                refine SP.nil ?_
                                refine QE.then ?_
                                refine CP.ret ?_
                                refine QE.blockR ?_
                                refine QE.thru (by intro e; cases e) ?_
                                refine QE.thru (by intro e; cases e) ?_
                                refine QE.blockR ?_
                                refine QE.blockR ?_
                                refine QE.thru (by intro e; cases e) ?_
                                refine QE.thru (by intro e; cases e) ?_
                                refine QE.blockR ?_
                                refine QE.thru (by intro e; cases e) ?_
                                obtain rfl := Option.some.inj ho
                                obtain rfl := Option.some.inj hr
                                exact QE.rets (rs := [.tmp 2, .tmp 3]) (vs := [(.slice none 0 0), .int .i64 90]) Tryd.results9 rfl ⟨RVs.tmp rfl, RVs.tmp rfl, trivial⟩ (fun w2 h => St.done (fun a b p s => ⟨_, rfl, ⟨em, em, Dj.em_left _, Sub.em _, Sub.em _, p.get 0 rfl, trivial⟩⟩) (St.selO [] rfl rfl (St.know (fun h _ => slP.nil k_capstanref09_Loop h) h)))
                              · refine CP.condF rfl (bf hc) ?_
                                refine CP.skip ?_
                                refine QE.blockN ?_
                                refine QE.then ?_
                                refine CP.region ?_
                                refine SP.val (Val.move rfl) rfl rfl rfl ?_
                                refine SP.val (Val.add rfl rfl) rfl rfl rfl ?_
                                refine SP.val (Val.assign rfl) rfl rfl rfl ?_
                                refine SP.nil ?_
                                obtain rfl := Option.some.inj ho
                                exact QE.lower m410 (by omega) fun a w2 ha hw => ⟨(IntKind.i64.wrap (x389 + 1)), (by omega), hr, ha.sub ⟨rfl, rfl, rfl, rfl, trivial⟩, hw⟩
                            · refine CP.drawA (by kernel_rfl) (fun w2 k h => h.drawn k) ?_
                              obtain ⟨x393, hx, ho⟩ := bind_some ho
                              have hx := elt_some hx
                              refine DA.ghost (fun w2 h => h.elem see 0 rfl hx.1 hx.2) (fun p391 h_p391 => ?_)
                              clear hx
                              refine DA.ghost (fun w2 h => h.openE see 0 rfl (fun _ : Unit => [.int .i64 x393.From, .int .i64 x393.To, .int .i64 x393.Turns]) (fun _ => []) (fun h cs e => ⟨(), e, All.nil _⟩)) (fun _ _ => ?_)
                              obtain ⟨x397, hx, ho⟩ := bind_some ho
                              have hx := elt_some hx
                              refine DA.ghost (fun w2 h => h.elem see 3 rfl hx.1 hx.2) (fun p395 h_p395 => ?_)
                              clear hx
                              refine DA.ghost (fun w2 h => h.fieldE see 0 rfl k_api_Instr.part_A) (fun p398 h_p398 => ?_)
                              refine DA.ghost (fun w2 h => h.openE see 0 rfl (fun _ : Unit => [.int .i64 x397.A]) (fun _ => []) (fun h cs e => ⟨(), e, All.nil _⟩)) (fun _ _ => ?_)
                              refine DA.phase (fun i => Nat.ble 0 i && Nat.blt i 9) (fun w2 => St w em hV [atP p398 [.int .i64 x397.A], elP (kInt .i64) p398 x397.A, elP k_api_Instr p395 x397, atP p391 [.int .i64 x393.From, .int .i64 x393.To, .int .i64 x393.Turns], elP k_capstanref09_Loop p391 x393, slP k_capstanref09_Loop v337 l336, slP k_api_Instr v_l_0 l_0] [] w2) ?_
                              refine DT.take 0 rfl rfl rfl rfl (by kernel_rfl) (fun _ _ _ h => h) (Val.move rfl) (fun w2 hw => hw) ?_
                              refine DT.take 1 rfl rfl rfl rfl (by kernel_rfl) (fun _ _ _ h => h) (Val.move rfl) (fun w2 hw => hw) ?_
                              refine DT.take 2 rfl rfl rfl rfl (by kernel_rfl) (fun _ _ _ h => h) (Val.indexE h_p391 Tryd.underlying24 sz41 rfl rfl) (fun w2 hw => hw) ?_
                              refine DT.take 3 rfl rfl rfl rfl (by kernel_rfl) (fun _ _ _ h => h) (Val.loadAtA see 3 rfl Tryd.underlying41 rfl sz41 rfl) (fun w2 hw => hw) ?_
                              refine DT.take 4 rfl rfl rfl rfl (by kernel_rfl) (fun _ _ _ h => h) (Val.move rfl) (fun w2 hw => hw) ?_
                              refine DT.take 5 rfl rfl rfl rfl (by kernel_rfl) (fun _ _ _ h => h) (Val.move rfl) (fun w2 hw => hw) ?_
                              refine DT.take 6 rfl rfl rfl rfl (by kernel_rfl) (fun _ _ _ h => h) (Val.indexE h_p395 Tryd.underlying22 sz52 rfl rfl) (fun w2 hw => hw) ?_
                              refine DT.take 7 rfl rfl rfl rfl (by kernel_rfl) (fun _ _ _ h => h) (Val.fieldE h_p398 Tryd.underlying52 rfl rfl sz3 rfl) (fun w2 hw => hw) ?_
                              refine DT.take 8 rfl rfl rfl rfl (by kernel_rfl) (fun _ _ _ h => h) (Val.loadAt1 see 0 rfl Tryd.underlying3 rfl rfl) (fun w2 hw => hw) ?_
                              refine DT.next (by kernel_rfl) ?_
                              refine DA.one 9 rfl (by kernel_rfl) ?_
                              obtain ⟨t401, hc, ho⟩ := bind_some (x := capstanref09_within.f x393 x397.A) ho
                              refine SP.callV see (caps := []) (.bool t401) fn24 rfl rfl rfl rfl (fun w2 hP hs sub ap => capstanref09_within.ok x393 x397.A  _ hc w2 hP sub ) ?_
                              clear hc
                              refine SP.nil ?_
                              refine QE.atA ?_
                              refine DA.one 10 rfl (by kernel_rfl) ?_
                              refine SP.val (Val.move rfl) rfl rfl rfl ?_
                              refine SP.nil ?_
                              refine QE.atA ?_
                              rcases if_some ho with ⟨hc, ho⟩ | ⟨hc, ho⟩
                              · have hg402 := hc
                                clear hc
                                obtain ⟨x405, hx, ho⟩ := bind_some ho
                                have hx := elt_some hx
                                refine DA.ghost (fun w2 h => h.elem see 5 rfl hx.1 hx.2) (fun p403 h_p403 => ?_)
                                clear hx
                                refine DA.ghost (fun w2 h => h.openE see 0 rfl (fun _ : Unit => [.int .i64 x405.From, .int .i64 x405.To, .int .i64 x405.Turns]) (fun _ => []) (fun h cs e => ⟨(), e, All.nil _⟩)) (fun _ _ => ?_)
                                refine DA.phase (fun i => Nat.ble 11 i && Nat.blt i 16) (fun w2 => St w em hV [atP p403 [.int .i64 x405.From, .int .i64 x405.To, .int .i64 x405.Turns], elP k_capstanref09_Loop p403 x405, atP p398 [.int .i64 x397.A], elP (kInt .i64) p398 x397.A, elP k_api_Instr p395 x397, atP p391 [.int .i64 x393.From, .int .i64 x393.To, .int .i64 x393.Turns], elP k_capstanref09_Loop p391 x393, slP k_capstanref09_Loop v337 l336, slP k_api_Instr v_l_0 l_0] [] w2) ?_
                                refine DT.is (d := 112) (b := true) rfl hg402 ?_
                                refine DT.take 11 rfl rfl rfl rfl (by kernel_rfl) (fun _ _ _ h => h) (Val.move rfl) (fun w2 hw => hw) ?_
                                refine DT.take 12 rfl rfl rfl rfl (by kernel_rfl) (fun _ _ _ h => h) (Val.move rfl) (fun w2 hw => hw) ?_
                                refine DT.take 13 rfl rfl rfl rfl (by kernel_rfl) (fun _ _ _ h => h) (Val.indexE h_p403 Tryd.underlying24 sz41 rfl rfl) (fun w2 hw => hw) ?_
                                refine DT.take 14 rfl rfl rfl rfl (by kernel_rfl) (fun _ _ _ h => h) (Val.loadAtA see 0 rfl Tryd.underlying41 rfl sz41 rfl) (fun w2 hw => hw) ?_
                                refine DT.take 15 rfl rfl rfl rfl (by kernel_rfl) (fun _ _ _ h => h) (Val.move rfl) (fun w2 hw => hw) ?_
                                refine DT.next (by kernel_rfl) ?_
                                refine DA.one 16 rfl (by kernel_rfl) ?_
                                obtain ⟨t407, hc, ho⟩ := bind_some (x := capstanref09_within.f x405 x338) ho
                                refine SP.callV see (caps := []) (.bool t407) fn24 rfl rfl rfl rfl (fun w2 hP hs sub ap => capstanref09_within.ok x405 x338  _ hc w2 hP sub ) ?_
                                clear hc
                                refine SP.nil ?_
                                refine QE.atA ?_
                                refine DA.one 17 rfl (by kernel_rfl) ?_
                                refine SP.val (Val.notB rfl) rfl rfl rfl ?_
                                refine SP.nil ?_
                                refine QE.atA ?_
                                refine DA.one 18 rfl (by kernel_rfl) ?_
                                refine SP.val (Val.pickT rfl rfl) rfl rfl rfl ?_
                                refine SP.nil ?_
                                refine QE.atA ?_
                                refine DA.done (by kernel_rfl) ?_
                                exact QE.meet fun a w2 ha hw => ⟨(!t407), m390, _, (by omega), ho, hr, ha.sub ⟨rfl, rfl, rfl, rfl, rfl, trivial⟩, (St.selP [7, 8] rfl hw)⟩
                              · have hg408 := (bf hc)
                                clear hc
                                refine DA.phase (fun i => Nat.ble 11 i && Nat.blt i 16) (fun w2 => St w em hV [atP p398 [.int .i64 x397.A], elP (kInt .i64) p398 x397.A, elP k_api_Instr p395 x397, atP p391 [.int .i64 x393.From, .int .i64 x393.To, .int .i64 x393.Turns], elP k_capstanref09_Loop p391 x393, slP k_capstanref09_Loop v337 l336, slP k_api_Instr v_l_0 l_0] [] w2) ?_
                                refine DT.is (d := 112) (b := false) rfl hg408 ?_
                                refine DT.not 11 rfl rfl rfl rfl (by kernel_rfl) (fun _ _ _ h => h) (fun w2 hw => hw) ?_
                                refine DT.not 12 rfl rfl rfl rfl (by kernel_rfl) (fun _ _ _ h => h) (fun w2 hw => hw) ?_
                                refine DT.not 13 rfl rfl rfl rfl (by kernel_rfl) (fun _ _ _ h => h) (fun w2 hw => hw) ?_
                                refine DT.not 14 rfl rfl rfl rfl (by kernel_rfl) (fun _ _ _ h => h) (fun w2 hw => hw) ?_
                                refine DT.not 15 rfl rfl rfl rfl (by kernel_rfl) (fun _ _ _ h => h) (fun w2 hw => hw) ?_
                                refine DT.next (by kernel_rfl) ?_
                                refine DA.phase (fun i => Nat.ble 16 i && Nat.blt i 17) (fun w2 => St w em hV [atP p398 [.int .i64 x397.A], elP (kInt .i64) p398 x397.A, elP k_api_Instr p395 x397, atP p391 [.int .i64 x393.From, .int .i64 x393.To, .int .i64 x393.Turns], elP k_capstanref09_Loop p391 x393, slP k_capstanref09_Loop v337 l336, slP k_api_Instr v_l_0 l_0] [] w2) ?_
                                refine DT.not 16 rfl rfl rfl rfl (by kernel_rfl) (fun _ _ _ h => h) (fun w2 hw => hw) ?_
                                refine DT.next (by kernel_rfl) ?_
                                refine DA.phase (fun i => Nat.ble 17 i && Nat.blt i 18) (fun w2 => St w em hV [atP p398 [.int .i64 x397.A], elP (kInt .i64) p398 x397.A, elP k_api_Instr p395 x397, atP p391 [.int .i64 x393.From, .int .i64 x393.To, .int .i64 x393.Turns], elP k_capstanref09_Loop p391 x393, slP k_capstanref09_Loop v337 l336, slP k_api_Instr v_l_0 l_0] [] w2) ?_
                                refine DT.not 17 rfl rfl rfl rfl (by kernel_rfl) (fun _ _ _ h => h) (fun w2 hw => hw) ?_
                                refine DT.next (by kernel_rfl) ?_
                                refine DA.one 18 rfl (by kernel_rfl) ?_
                                refine SP.val (Val.pickF rfl rfl) rfl rfl rfl ?_
                                refine SP.nil ?_
                                refine QE.atA ?_
                                refine DA.done (by kernel_rfl) ?_
                                exact QE.meet fun a w2 ha hw => ⟨false, m390, _, (by omega), ho, hr, ha.sub ⟨rfl, rfl, rfl, rfl, rfl, trivial⟩, (St.selP [5, 6] rfl hw)⟩
                          · refine CP.condF rfl (decide_eq_false hc) ?_
                            refine CP.exit ?_
                            refine QE.thru (by intro e; cases e) ?_
                            refine QE.thru (by intro e; cases e) ?_
                            refine QE.blockE ?_
                            refine QE.blockN ?_
                            exact QE.meet fun a w2 ha hw => ⟨m390, _, (by omega), ho, hr, ha.sub ⟨rfl, rfl, rfl, trivial⟩, hw⟩
                      · intro J
                        clear ho
                        have ho := hg_t365
                        clear hg_t365
                        rcases if_some ho with ⟨hc, ho⟩ | ⟨hc, ho⟩
                        · have hq359 := (decide_eq_true hc)
                          refine SP.isT (d := 86) rfl hq359 ?_
                          refine SP.not rfl rfl rfl ?_
                          refine SP.not rfl rfl rfl ?_
                          refine SP.not rfl rfl rfl ?_
                          refine SP.not rfl rfl rfl ?_
                          refine SP.not rfl rfl rfl ?_
                          refine SP.not rfl rfl rfl ?_
                          refine SP.not rfl rfl rfl ?_
                          refine SP.not rfl rfl rfl ?_
                          refine SP.val (Val.pickT rfl rfl) rfl rfl rfl ?_
                          obtain rfl := Option.some.inj ho
                          exact J fun a w2 ha hw => ⟨ha.sub ⟨rfl, rfl, rfl, rfl, trivial⟩, hw⟩
                        · have hq359 := (decide_eq_false hc)
                          refine SP.isF (d := 86) rfl hq359 ?_
                          refine SP.val (Val.move rfl) rfl rfl rfl ?_
                          refine SP.val (Val.move rfl) rfl rfl rfl ?_
                          obtain ⟨x362, hx, ho⟩ := bind_some ho
                          have hx := elt_some hx
                          refine SP.indexP see 5 rfl Tryd.underlying22 sz52 hx.1 hx.2 rfl rfl rfl rfl (fun p360 => ?_)
                          clear hx
                          refine SP.fieldP see 0 rfl Tryd.underlying52 rfl sz3 k_api_Instr.part_A rfl rfl rfl (fun p363 => ?_)
                          refine SP.val (Val.loadP1 see 0 rfl (fun _ _ e => e) Tryd.underlying3 rfl rfl) rfl rfl rfl ?_
                          refine SP.val (Val.move rfl) rfl rfl rfl ?_
                          refine SP.val (Val.lenP see 7 rfl Tryd.underlying22 rfl) rfl rfl rfl ?_
                          refine SP.val (Val.geq rfl rfl) rfl rfl rfl ?_
                          refine SP.val (Val.pickF rfl rfl) rfl rfl rfl ?_
                          obtain rfl := Option.some.inj ho
                          exact J fun a w2 ha hw => ⟨ha.sub ⟨rfl, rfl, rfl, rfl, trivial⟩, (St.selP [2, 3, 4, 5, 6, 7] rfl hw)⟩
                  · intro J
                    clear ho
                    have ho := hg_t352
                    clear hg_t352
                    rcases if_some ho with ⟨hc, ho⟩ | ⟨hc, ho⟩
                    · have hq346 := (decide_eq_true hc)
                      refine SP.isT (d := 71) rfl hq346 ?_
                      refine SP.val (Val.move rfl) rfl rfl rfl ?_
                      refine SP.val (Val.move rfl) rfl rfl rfl ?_
                      obtain ⟨x349, hx, ho⟩ := bind_some ho
                      have hx := elt_some hx
                      refine SP.indexP see 3 rfl Tryd.underlying22 sz52 hx.1 hx.2 rfl rfl rfl rfl (fun p347 => ?_)
                      clear hx
                      refine SP.fieldP see 0 rfl Tryd.underlying52 rfl sz5 k_api_Instr.part_Op rfl rfl rfl (fun p350 => ?_)
                      refine SP.val (Val.loadP1 see 0 rfl (fun _ _ e => e) Tryd.underlying5 rfl rfl) rfl rfl rfl ?_
                      refine SP.val (Val.neq rfl rfl) rfl rfl rfl ?_
                      refine SP.val (Val.pickT rfl rfl) rfl rfl rfl ?_
                      obtain rfl := Option.some.inj ho
                      exact J fun a w2 ha hw => ⟨ha.sub ⟨rfl, rfl, rfl, rfl, trivial⟩, (St.selP [2, 3, 4, 5] rfl hw)⟩
                    · have hq346 := (decide_eq_false hc)
                      refine SP.isF (d := 71) rfl hq346 ?_
                      refine SP.not rfl rfl rfl ?_
                      refine SP.not rfl rfl rfl ?_
                      refine SP.not rfl rfl rfl ?_
                      refine SP.not rfl rfl rfl ?_
                      refine SP.not rfl rfl rfl ?_
                      refine SP.not rfl rfl rfl ?_
                      refine SP.val (Val.pickF rfl rfl) rfl rfl rfl ?_
                      obtain rfl := Option.some.inj ho
                      exact J fun a w2 ha hw => ⟨ha.sub ⟨rfl, rfl, rfl, rfl, trivial⟩, hw⟩
              · refine CP.condF rfl (decide_eq_false hc) ?_
                refine CP.exit ?_
                refine QE.thru (by intro e; cases e) ?_
                refine QE.thru (by intro e; cases e) ?_
                refine QE.blockE ?_
                refine QE.then ?_
                refine CP.seq ?_
                refine CP.region ?_
                refine SP.val (Val.move rfl) rfl rfl rfl ?_
                refine SP.val (Val.assign rfl) rfl rfl rfl ?_
                refine SP.val (Val.assign rfl) rfl rfl rfl ?_
                refine SP.nil ?_
                refine QE.then ?_
                refine CP.ret ?_
                obtain rfl := Option.some.inj ho
                obtain rfl := Option.some.inj hr
                exact QE.rets (rs := [.tmp 2, .tmp 3]) (vs := [v337, .int .i64 0]) Tryd.results9 rfl ⟨RVs.tmp rfl, RVs.tmp rfl, trivial⟩ (fun w2 h => St.done (fun a b p s => ⟨_, rfl, ⟨em, em, Dj.em_left _, Sub.em _, Sub.em _, p.get 0 rfl, trivial⟩⟩) (St.selO [] rfl rfl h))
          · intro J
            by_cases hc : t229 = true
            · have hq231 := hc
              refine SP.isT (d := 51) rfl hq231 ?_
              refine SP.not rfl rfl rfl ?_
              refine SP.not rfl rfl rfl ?_
              refine SP.not rfl rfl rfl ?_
              refine SP.not rfl rfl rfl ?_
              refine SP.not rfl rfl rfl ?_
              refine SP.not rfl rfl rfl ?_
              refine SP.val (Val.pickT rfl rfl) rfl rfl rfl ?_
              exact J fun a w2 ha hw => ⟨ha.sub ⟨rfl, rfl, congrArg (fun z => some (Value.bool z)) (or_t hq231), trivial⟩, hw⟩
            · have hq231 := (bf hc)
              refine SP.isF (d := 51) rfl hq231 ?_
              refine SP.val (Val.move rfl) rfl rfl rfl ?_
              refine SP.val (Val.neq rfl rfl) rfl rfl rfl ?_
              refine SP.val (Val.move rfl) rfl rfl rfl ?_
              refine SP.join 3 (fun a w2 => Env ⟨122, []⟩ [(0, v_l_0), (5, v219), (51, .bool false), (57, .bool ((decide (x223.Op ≠ 31)) && (decide (x223.Op ≠ 32))))] a ∧ St w em hV [elP (kInt .u8) p224 x223.Op, elP k_api_Instr p221 x223, slP k_api_Instr v_l_0 l_0] [slO k_capstanref09_Loop 41 v219 t218.1] w2) ?_ ?_
              · rintro a w2 ⟨ha, hw⟩
                refine SP.app ha hw ?_
                clear ha hw a w2
                refine SP.val (Val.pickF rfl rfl) rfl rfl rfl ?_
                exact J fun a w2 ha hw => ⟨ha.sub ⟨rfl, rfl, congrArg (fun z => some (Value.bool z)) (or_f hq231 rfl), trivial⟩, hw⟩
              · intro J
                by_cases hc : x223.Op ≠ 31
                · have hq233 := (decide_eq_true hc)
                  refine SP.isT (d := 54) rfl hq233 ?_
                  refine SP.val (Val.move rfl) rfl rfl rfl ?_
                  refine SP.val (Val.neq rfl rfl) rfl rfl rfl ?_
                  refine SP.val (Val.pickT rfl rfl) rfl rfl rfl ?_
                  exact J fun a w2 ha hw => ⟨ha.sub ⟨rfl, rfl, rfl, congrArg (fun z => some (Value.bool z)) (and_t hq233 rfl), trivial⟩, hw⟩
                · have hq233 := (decide_eq_false hc)
                  refine SP.isF (d := 54) rfl hq233 ?_
                  refine SP.not rfl rfl rfl ?_
                  refine SP.not rfl rfl rfl ?_
                  refine SP.val (Val.pickF rfl rfl) rfl rfl rfl ?_
                  exact J fun a w2 ha hw => ⟨ha.sub ⟨rfl, rfl, rfl, congrArg (fun z => some (Value.bool z)) (and_f hq233), trivial⟩, hw⟩
        · intro J
          clear ho
          have ho := hg_t229
          clear hg_t229
          rcases if_some ho with ⟨hc, ho⟩ | ⟨hc, ho⟩
          · have hq227 := hc
            refine SP.isT (d := 44) rfl hq227 ?_
            refine SP.not rfl rfl rfl ?_
            refine SP.not rfl rfl rfl ?_
            refine SP.not rfl rfl rfl ?_
            refine SP.not rfl rfl rfl ?_
            refine SP.not rfl rfl rfl ?_
            refine SP.val (Val.pickT rfl rfl) rfl rfl rfl ?_
            obtain rfl := Option.some.inj ho
            exact J fun a w2 ha hw => ⟨ha.sub ⟨rfl, rfl, rfl, rfl, trivial⟩, hw⟩
          · have hq227 := (bf hc)
            refine SP.isF (d := 44) rfl hq227 ?_
            refine SP.val (Val.move rfl) rfl rfl rfl ?_
            refine SP.val (Val.move rfl) rfl rfl rfl ?_
            refine SP.val (Val.lenP see 2 rfl Tryd.underlying22 rfl) rfl rfl rfl ?_
            obtain ⟨t228, hc, ho⟩ := bind_some (x := capstanref09_nested.f t218.1 (l_0.length : Int)) ho
            refine SP.callVO see (caps := []) (.bool t228) fn23 rfl rfl rfl rfl (fun w2 hs => capstanref09_nested.ok t218.1 (l_0.length : Int) _ _ hc w2 (hp w2) (Sub.refl _) (slO.read (St.own 0 rfl see.sub see.dj hs) (Sub.refl _) (Sub.refl _))) ?_
            clear hc
            refine SP.val (Val.notB rfl) rfl rfl rfl ?_
            refine SP.val (Val.pickF rfl rfl) rfl rfl rfl ?_
            obtain rfl := Option.some.inj ho
            exact J fun a w2 ha hw => ⟨ha.sub ⟨rfl, rfl, rfl, rfl, trivial⟩, hw⟩
  · intro J
    by_cases hc : (l_0.length : Int) < 1
    · have hq3 := (decide_eq_true hc)
      refine SP.isT (d := 13) rfl hq3 ?_
      refine SP.not rfl rfl rfl ?_
      refine SP.not rfl rfl rfl ?_
      refine SP.not rfl rfl rfl ?_
      refine SP.val (Val.pickT rfl rfl) rfl rfl rfl ?_
      exact J fun a w2 ha hw => ⟨ha.sub ⟨rfl, congrArg (fun z => some (Value.bool z)) (or_t hq3), trivial⟩, hw⟩
    · have hq3 := (decide_eq_false hc)
      refine SP.isF (d := 13) rfl hq3 ?_
      refine SP.val (Val.move rfl) rfl rfl rfl ?_
      refine SP.val (Val.lenP see 0 rfl Tryd.underlying22 rfl) rfl rfl rfl ?_
      refine SP.val (Val.gtr rfl rfl) rfl rfl rfl ?_
      refine SP.val (Val.pickF rfl rfl) rfl rfl rfl ?_
      exact J fun a w2 ha hw => ⟨ha.sub ⟨rfl, congrArg (fun z => some (Value.bool z)) (or_f hq3 rfl), trivial⟩, hw⟩
/-! ### capstan/capstanref09.Ways: function 16 -/
def capstanref09_Ways.j1 (l_0 : (List api_Instr)) (a1 : Int) (x11 : api_Instr) (x16 : api_Instr) (b19 : Bool) : Option ((List Int) × Int) :=
  if b19 = true then (some ([], 0)) else (if x16.Op = 26 then (some ([x11.A], 0)) else (if x16.Op = 27 then (if x11.A = (IntKind.i64.wrap (a1 + 1)) then (some ([x11.A], 0)) else (some ([IntKind.i64.wrap (a1 + 1), x11.A], 0))) else (if x16.Op = 29 then (some ([IntKind.i64.wrap (x11.A + 1), IntKind.i64.wrap (a1 + 1)], 0)) else (some ([IntKind.i64.wrap (a1 + 1)], 0)))))

def capstanref09_Ways.f (l_0 : (List api_Instr)) (a1 : Int) : Option ((List Int) × Int) :=
  (capstanref09_Loops.f l_0).bind fun t2 => if t2.2 ≠ 0 then (some ([], t2.2)) else (if ((decide (a1 < 0)) || (decide (a1 ≥ (l_0.length : Int)))) = true then (some ([], 2)) else ((elt l_0 a1).bind fun x11 => (elt l_0 a1).bind fun x16 => if x16.Op = 31 then (capstanref09_Ways.j1 l_0 a1 x11 x16 (decide (x16.Op = 31))) else (capstanref09_Ways.j1 l_0 a1 x11 x16 (decide (x16.Op = 32)))))
theorem capstanref09_Ways.ok (l_0 : (List api_Instr)) (a1 : Int) (v_l_0 : Value) (r : (List Int) × Int) (H : capstanref09_Ways.f l_0 a1 = some r) (w : World) (hV : Hp) (sV : Sub hV (hp w)) (h0 : slR k_api_Instr hV v_l_0 l_0) :
    Trip Tryd.prog 16 [v_l_0, .int .i64 a1].toArray em hV w (fun v => HO.ex fun u0 : Value => HO.pand (v = .tuple #[u0, .int .i64 r.2]) (HO.seps [slO (kInt .i64) 3 u0 r.1])) := by
  have see : Sees w em hV := ⟨sV, Dj.em_right _⟩
  refine Trip.of (P := Tryd.prog) (n := ⟨64, []⟩) Tryd.func16 rfl ⟨rfl, rfl⟩ rfl (St.begin (All.cons (x := slP k_api_Instr v_l_0 l_0) h0 (All.nil _))) ?_
  have ho := H
  refine CP.seq ?_
  refine CP.region ?_
  refine SP.val (Val.assign rfl) rfl rfl rfl ?_
  refine SP.val (Val.assign rfl) rfl rfl rfl ?_
  refine SP.nil ?_
  refine QE.then ?_
  refine CP.seq ?_
  refine CP.region ?_
  refine SP.val (Val.move rfl) rfl rfl rfl ?_
  obtain ⟨t2, hc, ho⟩ := bind_some (x := capstanref09_Loops.f l_0) ho
  refine SP.callK see (caps := []) _ fn9 rfl rfl rfl rfl (fun w2 hP hs sub ap => capstanref09_Loops.ok l_0 _ _ hc w2 hP sub (ap.get 0 rfl)) (fun vr => ?_)
  refine SP.ex (fun w2 h => St.open h) (fun v3 => ?_)
  refine SP.have (fun w2 h => (St.pand h).1.symm) (fun er => ?_)
  subst er
  refine SP.imp (fun w2 h => St.seps (St.pand h).2) ?_
  refine SP.imp (fun w2 h => St.toP 0 rfl h) ?_
  clear hc
  refine SP.val (Val.move rfl) rfl rfl rfl ?_
  refine SP.val (Val.extract rfl rfl) rfl rfl rfl ?_
  refine SP.val (Val.extract rfl rfl) rfl rfl rfl ?_
  refine SP.val (Val.assign rfl) rfl rfl rfl ?_
  refine SP.val (Val.assign rfl) rfl rfl rfl ?_
  refine SP.nil ?_
  refine QE.then ?_
  refine CP.seq ?_
  refine CP.seq ?_
  refine CP.region ?_
  refine SP.val (Val.move rfl) rfl rfl rfl ?_
  refine SP.val (Val.neq rfl rfl) rfl rfl rfl ?_
  refine SP.nil ?_
  refine QE.then ?_
  rcases if_some ho with ⟨hc, ho⟩ | ⟨hc, ho⟩
  · refine CP.condT rfl (decide_eq_true hc) ?_
    refine CP.seq ?_
    refine CP.region ?_
    refine SP.val (Val.move rfl) rfl rfl rfl ?_
    refine SP.val (Val.assign rfl) rfl rfl rfl ?_
    refine SP.val (Val.assign rfl) rfl rfl rfl ?_
    refine SP.nil ?_
    refine QE.then ?_
    refine CP.ret ?_
    refine QE.thru (by intro e; cases e) ?_
    obtain rfl := Option.some.inj ho
    exact QE.rets (rs := [.tmp 4, .tmp 5]) (vs := [(.slice none 0 0), .int .i64 t2.2]) Tryd.results16 rfl ⟨RVs.tmp rfl, RVs.tmp rfl, trivial⟩ (fun w2 h => St.done (fun a b p s => ⟨_, rfl, s⟩) (St.selO [0] rfl rfl (St.addO (slO.nil (kInt .i64) 3) h)))
  · refine CP.condF rfl (decide_eq_false hc) ?_
    refine CP.skip ?_
    refine QE.then ?_
    refine CP.seq ?_
    refine CP.seq ?_
    refine CP.region ?_
    refine SP.val (Val.move rfl) rfl rfl rfl ?_
    refine SP.val (Val.lss rfl rfl) rfl rfl rfl ?_
    refine SP.val (Val.move rfl) rfl rfl rfl ?_
    refine SP.join 5 (fun a w2 => Env ⟨64, []⟩ [(0, v_l_0), (1, .int .i64 a1), (24, .bool ((decide (a1 < 0)) || (decide (a1 ≥ (l_0.length : Int)))))] a ∧ St w em hV [slP k_capstanref09_Loop v3 t2.1, slP k_api_Instr v_l_0 l_0] [] w2) ?_ ?_
    · rintro a w2 ⟨ha, hw⟩
      refine SP.app ha hw ?_
      clear ha hw a w2
      refine SP.nil ?_
      refine QE.then ?_
      rcases if_some ho with ⟨hc, ho⟩ | ⟨hc, ho⟩
      · refine CP.condT rfl hc ?_
        refine CP.seq ?_
        refine CP.region ?_
        refine SP.val (Val.assign rfl) rfl rfl rfl ?_
        refine SP.val (Val.assign rfl) rfl rfl rfl ?_
        refine SP.nil ?_
        refine QE.then ?_
        refine CP.ret ?_
        refine QE.thru (by intro e; cases e) ?_
        obtain rfl := Option.some.inj ho
        exact QE.rets (rs := [.tmp 4, .tmp 5]) (vs := [(.slice none 0 0), .int .i64 2]) Tryd.results16 rfl ⟨RVs.tmp rfl, RVs.tmp rfl, trivial⟩ (fun w2 h => St.done (fun a b p s => ⟨_, rfl, s⟩) (St.selO [0] rfl rfl (St.addO (slO.nil (kInt .i64) 3) h)))
      · refine CP.condF rfl (bf hc) ?_
        refine CP.skip ?_
        refine QE.then ?_
        refine CP.seq ?_
        refine CP.region ?_
        refine SP.val (Val.move rfl) rfl rfl rfl ?_
        refine SP.val (Val.move rfl) rfl rfl rfl ?_
        obtain ⟨x11, hx, ho⟩ := bind_some ho
        have hx := elt_some hx
        refine SP.indexP see 1 rfl Tryd.underlying22 sz52 hx.1 hx.2 rfl rfl rfl rfl (fun p9 => ?_)
        clear hx
        refine SP.fieldP see 0 rfl Tryd.underlying52 rfl sz3 k_api_Instr.part_A rfl rfl rfl (fun p12 => ?_)
        refine SP.val (Val.loadP1 see 0 rfl (fun _ _ e => e) Tryd.underlying3 rfl rfl) rfl rfl rfl ?_
        refine SP.val (Val.assign rfl) rfl rfl rfl ?_
        refine SP.nil ?_
        refine QE.then ?_
        refine CP.seq ?_
        refine CP.seq ?_
        refine CP.region ?_
        refine SP.val (Val.move rfl) rfl rfl rfl ?_
        refine SP.val (Val.move rfl) rfl rfl rfl ?_
        obtain ⟨x16, hx, ho⟩ := bind_some ho
        have hx := elt_some hx
        refine SP.indexP see 3 rfl Tryd.underlying22 sz52 hx.1 hx.2 rfl rfl rfl rfl (fun p14 => ?_)
        clear hx
        refine SP.fieldP see 0 rfl Tryd.underlying52 rfl sz5 k_api_Instr.part_Op rfl rfl rfl (fun p17 => ?_)
        refine SP.val (Val.loadP1 see 0 rfl (fun _ _ e => e) Tryd.underlying5 rfl rfl) rfl rfl rfl ?_
        refine SP.nil ?_
        refine QE.then ?_
        refine CP.block ?_
        refine CP.join (fun a w2 => ∃ b19 : Bool, capstanref09_Ways.j1 l_0 a1 x11 x16 b19 = some r ∧ Env ⟨64, []⟩ [(1, .int .i64 a1), (8, .int .i64 x11.A), (34, .int .u8 x16.Op), (35, .bool b19)] a ∧ St w em hV [] [] w2) ?_ ?_
        · rintro a w2 ⟨b19, ho, ha, hw⟩
          refine CP.app ha hw ?_
          clear ha hw a w2
          rcases if_some ho with ⟨hc, ho⟩ | ⟨hc, ho⟩
          · refine CP.condT rfl hc ?_
            refine CP.seq ?_
            refine CP.region ?_
            refine SP.val (Val.assign rfl) rfl rfl rfl ?_
            refine SP.val (Val.assign rfl) rfl rfl rfl ?_
            refine SP.nil ?_
            refine QE.then ?_
            refine CP.ret ?_
            refine QE.blockR ?_
            refine QE.thru (by intro e; cases e) ?_
            obtain rfl := Option.some.inj ho
            exact QE.rets (rs := [.tmp 4, .tmp 5]) (vs := [(.slice none 0 0), .int .i64 0]) Tryd.results16 rfl ⟨RVs.tmp rfl, RVs.tmp rfl, trivial⟩ (fun w2 h => St.done (fun a b p s => ⟨_, rfl, s⟩) (St.selO [0] rfl rfl (St.addO (slO.nil (kInt .i64) 3) h)))
          · refine CP.condF rfl (bf hc) ?_
            refine CP.seq ?_
            refine CP.region ?_
            refine SP.val (Val.eql rfl rfl) rfl rfl rfl ?_
            refine SP.val (Val.assign rfl) rfl rfl rfl ?_
            refine SP.nil ?_
            refine QE.then ?_
            rcases if_some ho with ⟨hc, ho⟩ | ⟨hc, ho⟩
            · refine CP.condT rfl (decide_eq_true hc) ?_
              refine CP.seq ?_
              refine CP.region ?_
              refine SP.val (Val.move rfl) rfl rfl rfl ?_
              refine SP.lit (k := (kInt .i64)) (xs := [x11.A]) (vs := [.int .i64 x11.A]) (cells := [.int .i64 x11.A]) Tryd.underlying27 inf3 rfl rfl rfl rfl rfl rfl rfl rfl (fun _ ap => ⟨[.int .i64 x11.A], _, rfl, rfl, rfl⟩) rfl rfl rfl (fun v21 => ?_)
              refine SP.val (Val.assign rfl) rfl rfl rfl ?_
              refine SP.val (Val.assign rfl) rfl rfl rfl ?_
              refine SP.nil ?_
              refine QE.then ?_
              refine CP.ret ?_
              refine QE.blockR ?_
              refine QE.thru (by intro e; cases e) ?_
              obtain rfl := Option.some.inj ho
              exact QE.rets (rs := [.tmp 4, .tmp 5]) (vs := [v21, .int .i64 0]) Tryd.results16 rfl ⟨RVs.tmp rfl, RVs.tmp rfl, trivial⟩ (fun w2 h => St.done (fun a b p s => ⟨_, rfl, s⟩) (St.selO [0] rfl rfl h))
            · refine CP.condF rfl (decide_eq_false hc) ?_
              refine CP.seq ?_
              refine CP.region ?_
              refine SP.val (Val.eql rfl rfl) rfl rfl rfl ?_
              refine SP.val (Val.assign rfl) rfl rfl rfl ?_
              refine SP.nil ?_
              refine QE.then ?_
              rcases if_some ho with ⟨hc, ho⟩ | ⟨hc, ho⟩
              · refine CP.condT rfl (decide_eq_true hc) ?_
                refine CP.seq ?_
                refine CP.seq ?_
                refine CP.region ?_
                refine SP.val (Val.move rfl) rfl rfl rfl ?_
                refine SP.val (Val.move rfl) rfl rfl rfl ?_
                refine SP.val (Val.add rfl rfl) rfl rfl rfl ?_
                refine SP.val (Val.eql rfl rfl) rfl rfl rfl ?_
                refine SP.nil ?_
                refine QE.then ?_
                rcases if_some ho with ⟨hc, ho⟩ | ⟨hc, ho⟩
                · refine CP.condT rfl (decide_eq_true hc) ?_
                  refine CP.seq ?_
                  refine CP.region ?_
                  refine SP.val (Val.move rfl) rfl rfl rfl ?_
                  refine SP.lit (k := (kInt .i64)) (xs := [x11.A]) (vs := [.int .i64 x11.A]) (cells := [.int .i64 x11.A]) Tryd.underlying27 inf3 rfl rfl rfl rfl rfl rfl rfl rfl (fun _ ap => ⟨[.int .i64 x11.A], _, rfl, rfl, rfl⟩) rfl rfl rfl (fun v23 => ?_)
                  refine SP.val (Val.assign rfl) rfl rfl rfl ?_
                  refine SP.val (Val.assign rfl) rfl rfl rfl ?_
                  refine SP.nil ?_
                  refine QE.then ?_
                  refine CP.ret ?_
                  refine QE.thru (by intro e; cases e) ?_
                  refine QE.blockR ?_
                  refine QE.thru (by intro e; cases e) ?_
                  obtain rfl := Option.some.inj ho
                  exact QE.rets (rs := [.tmp 4, .tmp 5]) (vs := [v23, .int .i64 0]) Tryd.results16 rfl ⟨RVs.tmp rfl, RVs.tmp rfl, trivial⟩ (fun w2 h => St.done (fun a b p s => ⟨_, rfl, s⟩) (St.selO [0] rfl rfl h))
                · refine CP.condF rfl (decide_eq_false hc) ?_
                  refine CP.skip ?_
                  refine QE.then ?_
                  refine CP.seq ?_
                  refine CP.region ?_
                  refine SP.val (Val.move rfl) rfl rfl rfl ?_
                  refine SP.val (Val.add rfl rfl) rfl rfl rfl ?_
                  refine SP.val (Val.move rfl) rfl rfl rfl ?_
                  refine SP.lit (k := (kInt .i64)) (xs := [IntKind.i64.wrap (a1 + 1), x11.A]) (vs := [.int .i64 (IntKind.i64.wrap (a1 + 1)), .int .i64 x11.A]) (cells := [.int .i64 (IntKind.i64.wrap (a1 + 1)), .int .i64 x11.A]) Tryd.underlying27 inf3 rfl rfl rfl rfl rfl rfl rfl rfl (fun _ ap => ⟨[.int .i64 (IntKind.i64.wrap (a1 + 1))], _, rfl, rfl, ⟨[.int .i64 x11.A], _, rfl, rfl, rfl⟩⟩) rfl rfl rfl (fun v25 => ?_)
                  refine SP.val (Val.assign rfl) rfl rfl rfl ?_
                  refine SP.val (Val.assign rfl) rfl rfl rfl ?_
                  refine SP.nil ?_
                  refine QE.then ?_
                  refine CP.ret ?_
                  refine QE.blockR ?_
                  refine QE.thru (by intro e; cases e) ?_
                  obtain rfl := Option.some.inj ho
                  exact QE.rets (rs := [.tmp 4, .tmp 5]) (vs := [v25, .int .i64 0]) Tryd.results16 rfl ⟨RVs.tmp rfl, RVs.tmp rfl, trivial⟩ (fun w2 h => St.done (fun a b p s => ⟨_, rfl, s⟩) (St.selO [0] rfl rfl h))
              · refine CP.condF rfl (decide_eq_false hc) ?_
                refine CP.seq ?_
                refine CP.region ?_
                refine SP.val (Val.eql rfl rfl) rfl rfl rfl ?_
                refine SP.val (Val.assign rfl) rfl rfl rfl ?_
                refine SP.nil ?_
                refine QE.then ?_
                rcases if_some ho with ⟨hc, ho⟩ | ⟨hc, ho⟩
                · refine CP.condT rfl (decide_eq_true hc) ?_
                  refine CP.seq ?_
                  refine CP.region ?_
                  refine SP.val (Val.move rfl) rfl rfl rfl ?_
                  refine SP.val (Val.add rfl rfl) rfl rfl rfl ?_
                  refine SP.val (Val.move rfl) rfl rfl rfl ?_
                  refine SP.val (Val.add rfl rfl) rfl rfl rfl ?_
                  refine SP.lit (k := (kInt .i64)) (xs := [IntKind.i64.wrap (x11.A + 1), IntKind.i64.wrap (a1 + 1)]) (vs := [.int .i64 (IntKind.i64.wrap (x11.A + 1)), .int .i64 (IntKind.i64.wrap (a1 + 1))]) (cells := [.int .i64 (IntKind.i64.wrap (x11.A + 1)), .int .i64 (IntKind.i64.wrap (a1 + 1))]) Tryd.underlying27 inf3 rfl rfl rfl rfl rfl rfl rfl rfl (fun _ ap => ⟨[.int .i64 (IntKind.i64.wrap (x11.A + 1))], _, rfl, rfl, ⟨[.int .i64 (IntKind.i64.wrap (a1 + 1))], _, rfl, rfl, rfl⟩⟩) rfl rfl rfl (fun v27 => ?_)
                  refine SP.val (Val.assign rfl) rfl rfl rfl ?_
                  refine SP.val (Val.assign rfl) rfl rfl rfl ?_
                  refine SP.nil ?_
                  refine QE.then ?_
                  refine CP.ret ?_
                  refine QE.blockR ?_
                  refine QE.thru (by intro e; cases e) ?_
                  obtain rfl := Option.some.inj ho
                  exact QE.rets (rs := [.tmp 4, .tmp 5]) (vs := [v27, .int .i64 0]) Tryd.results16 rfl ⟨RVs.tmp rfl, RVs.tmp rfl, trivial⟩ (fun w2 h => St.done (fun a b p s => ⟨_, rfl, s⟩) (St.selO [0] rfl rfl h))
                · refine CP.condF rfl (decide_eq_false hc) ?_
                  refine CP.skip ?_
                  refine QE.blockN ?_
                  refine QE.then ?_
                  refine CP.seq ?_
                  refine CP.region ?_
                  refine SP.val (Val.move rfl) rfl rfl rfl ?_
                  refine SP.val (Val.add rfl rfl) rfl rfl rfl ?_
                  refine SP.lit (k := (kInt .i64)) (xs := [IntKind.i64.wrap (a1 + 1)]) (vs := [.int .i64 (IntKind.i64.wrap (a1 + 1))]) (cells := [.int .i64 (IntKind.i64.wrap (a1 + 1))]) Tryd.underlying27 inf3 rfl rfl rfl rfl rfl rfl rfl rfl (fun _ ap => ⟨[.int .i64 (IntKind.i64.wrap (a1 + 1))], _, rfl, rfl, rfl⟩) rfl rfl rfl (fun v29 => ?_)
                  refine SP.val (Val.assign rfl) rfl rfl rfl ?_
                  refine SP.val (Val.assign rfl) rfl rfl rfl ?_
                  refine SP.nil ?_
                  refine QE.then ?_
                  refine CP.ret ?_
                  obtain rfl := Option.some.inj ho
                  exact QE.rets (rs := [.tmp 4, .tmp 5]) (vs := [v29, .int .i64 0]) Tryd.results16 rfl ⟨RVs.tmp rfl, RVs.tmp rfl, trivial⟩ (fun w2 h => St.done (fun a b p s => ⟨_, rfl, s⟩) (St.selO [0] rfl rfl h))
        · refine CP.seq ?_
          refine CP.region ?_
          refine SP.val (Val.eql rfl rfl) rfl rfl rfl ?_
          refine SP.val (Val.assign rfl) rfl rfl rfl ?_
          refine SP.nil ?_
          refine QE.then ?_
          rcases if_some ho with ⟨hc, ho⟩ | ⟨hc, ho⟩
          · refine CP.condT rfl (decide_eq_true hc) ?_
            refine CP.skip ?_
            exact QE.meet fun a w2 ha hw => ⟨(decide (x16.Op = 31)), ho, ha.sub ⟨rfl, rfl, rfl, rfl, trivial⟩, (St.selP [] rfl hw)⟩
          · refine CP.condF rfl (decide_eq_false hc) ?_
            refine CP.region ?_
            refine SP.val (Val.eql rfl rfl) rfl rfl rfl ?_
            refine SP.val (Val.assign rfl) rfl rfl rfl ?_
            refine SP.nil ?_
            exact QE.meet fun a w2 ha hw => ⟨(decide (x16.Op = 32)), ho, ha.sub ⟨rfl, rfl, rfl, rfl, trivial⟩, (St.selP [] rfl hw)⟩
    · intro J
      by_cases hc : a1 < 0
      · have hq7 := (decide_eq_true hc)
        refine SP.isT (d := 19) rfl hq7 ?_
        refine SP.not rfl rfl rfl ?_
        refine SP.not rfl rfl rfl ?_
        refine SP.not rfl rfl rfl ?_
        refine SP.not rfl rfl rfl ?_
        refine SP.val (Val.pickT rfl rfl) rfl rfl rfl ?_
        exact J fun a w2 ha hw => ⟨ha.sub ⟨rfl, rfl, congrArg (fun z => some (Value.bool z)) (or_t hq7), trivial⟩, hw⟩
      · have hq7 := (decide_eq_false hc)
        refine SP.isF (d := 19) rfl hq7 ?_
        refine SP.val (Val.move rfl) rfl rfl rfl ?_
        refine SP.val (Val.move rfl) rfl rfl rfl ?_
        refine SP.val (Val.lenP see 1 rfl Tryd.underlying22 rfl) rfl rfl rfl ?_
        refine SP.val (Val.geq rfl rfl) rfl rfl rfl ?_
        refine SP.val (Val.pickF rfl rfl) rfl rfl rfl ?_
        exact J fun a w2 ha hw => ⟨ha.sub ⟨rfl, rfl, congrArg (fun z => some (Value.bool z)) (or_f hq7 rfl), trivial⟩, hw⟩
/-! ### capstan/op.Known: function 53 -/
def op_Known.f (op_0 : Int) : Option Bool :=
  some (decide ((IntKind.i64.wrap op_0) < 33))
theorem op_Known.ok (op_0 : Int)  (r : Bool) (H : op_Known.f op_0 = some r) (w : World) (hV : Hp) (sV : Sub hV (hp w))  :
    Trip Tryd.prog 53 [.int .u8 op_0].toArray em hV w (fun v => HO.pure (v = .bool r)) := by
  have see : Sees w em hV := ⟨sV, Dj.em_right _⟩
  refine Trip.of (P := Tryd.prog) (n := ⟨6, []⟩) Tryd.func53 rfl ⟨rfl, rfl⟩ rfl (St.begin (All.nil _)) ?_
  have ho := H
  refine CP.seq ?_
  refine CP.region ?_
  refine SP.val (Val.assign rfl) rfl rfl rfl ?_
  refine SP.nil ?_
  refine QE.then ?_
  refine CP.seq ?_
  refine CP.region ?_
  refine SP.val (Val.move rfl) rfl rfl rfl ?_
  refine SP.val (Val.conv (by rw [Tryd.underlying5]; rfl) Tryd.underlying3 rfl) rfl rfl rfl ?_
  refine SP.val (Val.lss rfl rfl) rfl rfl rfl ?_
  refine SP.val (Val.assign rfl) rfl rfl rfl ?_
  refine SP.nil ?_
  refine QE.then ?_
  refine CP.ret ?_
  obtain rfl := Option.some.inj ho
  exact QE.rets (rs := [.tmp 2]) (vs := [.bool (decide ((IntKind.i64.wrap op_0) < 33))]) Tryd.results53 rfl ⟨RVs.tmp rfl, trivial⟩ (fun w2 h => St.done (fun a b p s => rfl) h)
/-! ### capstan/op.sign: function 54 -/
def op_sign.j3 (op_0 : Int) (b3 : Bool) : Option Int :=
  if b3 = true then (some 5) else (if op_0 = 30 then (some 6) else (if op_0 = 32 then (some 7) else (if op_0 = 28 then (some 8) else (some 0))))

def op_sign.j2 (op_0 : Int) (b2 : Bool) : Option Int :=
  if b2 = true then (some 3) else (if op_0 = 22 then (some 4) else (if op_0 = 26 then (op_sign.j3 op_0 (decide (op_0 = 26))) else (if op_0 = 27 then (op_sign.j3 op_0 (decide (op_0 = 27))) else (op_sign.j3 op_0 (decide (op_0 = 29))))))

def op_sign.j1 (op_0 : Int) (b1 : Bool) : Option Int :=
  if b1 = true then (some 2) else (if op_0 = 4 then (op_sign.j2 op_0 (decide (op_0 = 4))) else (op_sign.j2 op_0 (decide (op_0 = 5))))

def op_sign.f (op_0 : Int) : Option Int :=
  if op_0 = 1 then (some 1) else (if op_0 = 2 then (op_sign.j1 op_0 (decide (op_0 = 2))) else (op_sign.j1 op_0 (decide (op_0 = 3))))
theorem op_sign.ok (op_0 : Int)  (r : Int) (H : op_sign.f op_0 = some r) (w : World) (hV : Hp) (sV : Sub hV (hp w))  :
    Trip Tryd.prog 54 [.int .u8 op_0].toArray em hV w (fun v => HO.pure (v = .int .i64 r)) := by
  have see : Sees w em hV := ⟨sV, Dj.em_right _⟩
  refine Trip.of (P := Tryd.prog) (n := ⟨24, []⟩) Tryd.func54 rfl ⟨rfl, rfl⟩ rfl (St.begin (All.nil _)) ?_
  have ho := H
  refine CP.seq ?_
  refine CP.region ?_
  refine SP.val (Val.assign rfl) rfl rfl rfl ?_
  refine SP.nil ?_
  refine QE.then ?_
  refine CP.seq ?_
  refine CP.seq ?_
  refine CP.region ?_
  refine SP.val (Val.move rfl) rfl rfl rfl ?_
  refine SP.nil ?_
  refine QE.then ?_
  refine CP.block ?_
  refine CP.seq ?_
  refine CP.region ?_
  refine SP.val (Val.eql rfl rfl) rfl rfl rfl ?_
  refine SP.val (Val.assign rfl) rfl rfl rfl ?_
  refine SP.nil ?_
  refine QE.then ?_
  rcases if_some ho with ⟨hc, ho⟩ | ⟨hc, ho⟩
  · refine CP.condT rfl (decide_eq_true hc) ?_
    refine CP.seq ?_
    refine CP.region ?_
    refine SP.val (Val.assign rfl) rfl rfl rfl ?_
    refine SP.nil ?_
    refine QE.then ?_
    refine CP.ret ?_
    refine QE.blockR ?_
    refine QE.thru (by intro e; cases e) ?_
    obtain rfl := Option.some.inj ho
    exact QE.rets (rs := [.tmp 2]) (vs := [.int .i64 1]) Tryd.results54 rfl ⟨RVs.tmp rfl, trivial⟩ (fun w2 h => St.done (fun a b p s => rfl) h)
  · refine CP.condF rfl (decide_eq_false hc) ?_
    refine CP.join (fun a w2 => ∃ b1 : Bool, op_sign.j1 op_0 b1 = some r ∧ Env ⟨24, []⟩ [(3, .int .u8 op_0), (6, .bool b1)] a ∧ St w em hV [] [] w2) ?_ ?_
    · rintro a w2 ⟨b1, ho, ha, hw⟩
      refine CP.app ha hw ?_
      clear ha hw a w2
      rcases if_some ho with ⟨hc, ho⟩ | ⟨hc, ho⟩
      · refine CP.condT rfl hc ?_
        refine CP.seq ?_
        refine CP.region ?_
        refine SP.val (Val.assign rfl) rfl rfl rfl ?_
        refine SP.nil ?_
        refine QE.then ?_
        refine CP.ret ?_
        refine QE.blockR ?_
        refine QE.thru (by intro e; cases e) ?_
        obtain rfl := Option.some.inj ho
        exact QE.rets (rs := [.tmp 2]) (vs := [.int .i64 2]) Tryd.results54 rfl ⟨RVs.tmp rfl, trivial⟩ (fun w2 h => St.done (fun a b p s => rfl) h)
      · refine CP.condF rfl (bf hc) ?_
        refine CP.join (fun a w2 => ∃ b2 : Bool, op_sign.j2 op_0 b2 = some r ∧ Env ⟨24, []⟩ [(3, .int .u8 op_0), (9, .bool b2)] a ∧ St w em hV [] [] w2) ?_ ?_
        · rintro a w2 ⟨b2, ho, ha, hw⟩
          refine CP.app ha hw ?_
          clear ha hw a w2
          rcases if_some ho with ⟨hc, ho⟩ | ⟨hc, ho⟩
          · refine CP.condT rfl hc ?_
            refine CP.seq ?_
            refine CP.region ?_
            refine SP.val (Val.assign rfl) rfl rfl rfl ?_
            refine SP.nil ?_
            refine QE.then ?_
            refine CP.ret ?_
            refine QE.blockR ?_
            refine QE.thru (by intro e; cases e) ?_
            obtain rfl := Option.some.inj ho
            exact QE.rets (rs := [.tmp 2]) (vs := [.int .i64 3]) Tryd.results54 rfl ⟨RVs.tmp rfl, trivial⟩ (fun w2 h => St.done (fun a b p s => rfl) h)
          · refine CP.condF rfl (bf hc) ?_
            refine CP.seq ?_
            refine CP.region ?_
            refine SP.val (Val.eql rfl rfl) rfl rfl rfl ?_
            refine SP.val (Val.assign rfl) rfl rfl rfl ?_
            refine SP.nil ?_
            refine QE.then ?_
            rcases if_some ho with ⟨hc, ho⟩ | ⟨hc, ho⟩
            · refine CP.condT rfl (decide_eq_true hc) ?_
              refine CP.seq ?_
              refine CP.region ?_
              refine SP.val (Val.assign rfl) rfl rfl rfl ?_
              refine SP.nil ?_
              refine QE.then ?_
              refine CP.ret ?_
              refine QE.blockR ?_
              refine QE.thru (by intro e; cases e) ?_
              obtain rfl := Option.some.inj ho
              exact QE.rets (rs := [.tmp 2]) (vs := [.int .i64 4]) Tryd.results54 rfl ⟨RVs.tmp rfl, trivial⟩ (fun w2 h => St.done (fun a b p s => rfl) h)
            · refine CP.condF rfl (decide_eq_false hc) ?_
              refine CP.join (fun a w2 => ∃ b3 : Bool, op_sign.j3 op_0 b3 = some r ∧ Env ⟨24, []⟩ [(3, .int .u8 op_0), (14, .bool b3)] a ∧ St w em hV [] [] w2) ?_ ?_
              · rintro a w2 ⟨b3, ho, ha, hw⟩
                refine CP.app ha hw ?_
                clear ha hw a w2
                rcases if_some ho with ⟨hc, ho⟩ | ⟨hc, ho⟩
                · refine CP.condT rfl hc ?_
                  refine CP.seq ?_
                  refine CP.region ?_
                  refine SP.val (Val.assign rfl) rfl rfl rfl ?_
                  refine SP.nil ?_
                  refine QE.then ?_
                  refine CP.ret ?_
                  refine QE.blockR ?_
                  refine QE.thru (by intro e; cases e) ?_
                  obtain rfl := Option.some.inj ho
                  exact QE.rets (rs := [.tmp 2]) (vs := [.int .i64 5]) Tryd.results54 rfl ⟨RVs.tmp rfl, trivial⟩ (fun w2 h => St.done (fun a b p s => rfl) h)
                · refine CP.condF rfl (bf hc) ?_
                  refine CP.seq ?_
                  refine CP.region ?_
                  refine SP.val (Val.eql rfl rfl) rfl rfl rfl ?_
                  refine SP.val (Val.assign rfl) rfl rfl rfl ?_
                  refine SP.nil ?_
                  refine QE.then ?_
                  rcases if_some ho with ⟨hc, ho⟩ | ⟨hc, ho⟩
                  · refine CP.condT rfl (decide_eq_true hc) ?_
                    refine CP.seq ?_
                    refine CP.region ?_
                    refine SP.val (Val.assign rfl) rfl rfl rfl ?_
                    refine SP.nil ?_
                    refine QE.then ?_
                    refine CP.ret ?_
                    refine QE.blockR ?_
                    refine QE.thru (by intro e; cases e) ?_
                    obtain rfl := Option.some.inj ho
                    exact QE.rets (rs := [.tmp 2]) (vs := [.int .i64 6]) Tryd.results54 rfl ⟨RVs.tmp rfl, trivial⟩ (fun w2 h => St.done (fun a b p s => rfl) h)
                  · refine CP.condF rfl (decide_eq_false hc) ?_
                    refine CP.seq ?_
                    refine CP.region ?_
                    refine SP.val (Val.eql rfl rfl) rfl rfl rfl ?_
                    refine SP.val (Val.assign rfl) rfl rfl rfl ?_
                    refine SP.nil ?_
                    refine QE.then ?_
                    rcases if_some ho with ⟨hc, ho⟩ | ⟨hc, ho⟩
                    · refine CP.condT rfl (decide_eq_true hc) ?_
                      refine CP.seq ?_
                      refine CP.region ?_
                      refine SP.val (Val.assign rfl) rfl rfl rfl ?_
                      refine SP.nil ?_
                      refine QE.then ?_
                      refine CP.ret ?_
                      refine QE.blockR ?_
                      refine QE.thru (by intro e; cases e) ?_
                      obtain rfl := Option.some.inj ho
                      exact QE.rets (rs := [.tmp 2]) (vs := [.int .i64 7]) Tryd.results54 rfl ⟨RVs.tmp rfl, trivial⟩ (fun w2 h => St.done (fun a b p s => rfl) h)
                    · refine CP.condF rfl (decide_eq_false hc) ?_
                      refine CP.seq ?_
                      refine CP.region ?_
                      refine SP.val (Val.eql rfl rfl) rfl rfl rfl ?_
                      refine SP.val (Val.assign rfl) rfl rfl rfl ?_
                      refine SP.nil ?_
                      refine QE.then ?_
                      rcases if_some ho with ⟨hc, ho⟩ | ⟨hc, ho⟩
                      · refine CP.condT rfl (decide_eq_true hc) ?_
                        refine CP.seq ?_
                        refine CP.region ?_
                        refine SP.val (Val.assign rfl) rfl rfl rfl ?_
                        refine SP.nil ?_
                        refine QE.then ?_
                        refine CP.ret ?_
                        refine QE.blockR ?_
                        refine QE.thru (by intro e; cases e) ?_
                        obtain rfl := Option.some.inj ho
                        exact QE.rets (rs := [.tmp 2]) (vs := [.int .i64 8]) Tryd.results54 rfl ⟨RVs.tmp rfl, trivial⟩ (fun w2 h => St.done (fun a b p s => rfl) h)
                      · refine CP.condF rfl (decide_eq_false hc) ?_
                        refine CP.skip ?_
                        refine QE.blockN ?_
                        refine QE.then ?_
                        refine CP.seq ?_
                        refine CP.region ?_
                        refine SP.val (Val.assign rfl) rfl rfl rfl ?_
                        refine SP.nil ?_
                        refine QE.then ?_
                        refine CP.ret ?_
                        obtain rfl := Option.some.inj ho
                        exact QE.rets (rs := [.tmp 2]) (vs := [.int .i64 0]) Tryd.results54 rfl ⟨RVs.tmp rfl, trivial⟩ (fun w2 h => St.done (fun a b p s => rfl) h)
              · refine CP.seq ?_
                refine CP.region ?_
                refine SP.val (Val.eql rfl rfl) rfl rfl rfl ?_
                refine SP.val (Val.assign rfl) rfl rfl rfl ?_
                refine SP.nil ?_
                refine QE.then ?_
                rcases if_some ho with ⟨hc, ho⟩ | ⟨hc, ho⟩
                · refine CP.condT rfl (decide_eq_true hc) ?_
                  refine CP.skip ?_
                  exact QE.meet fun a w2 ha hw => ⟨(decide (op_0 = 26)), ho, ha.sub ⟨rfl, rfl, trivial⟩, hw⟩
                · refine CP.condF rfl (decide_eq_false hc) ?_
                  refine CP.seq ?_
                  refine CP.region ?_
                  refine SP.val (Val.eql rfl rfl) rfl rfl rfl ?_
                  refine SP.val (Val.assign rfl) rfl rfl rfl ?_
                  refine SP.nil ?_
                  refine QE.then ?_
                  rcases if_some ho with ⟨hc, ho⟩ | ⟨hc, ho⟩
                  · refine CP.condT rfl (decide_eq_true hc) ?_
                    refine CP.skip ?_
                    exact QE.meet fun a w2 ha hw => ⟨(decide (op_0 = 27)), ho, ha.sub ⟨rfl, rfl, trivial⟩, hw⟩
                  · refine CP.condF rfl (decide_eq_false hc) ?_
                    refine CP.region ?_
                    refine SP.val (Val.eql rfl rfl) rfl rfl rfl ?_
                    refine SP.val (Val.assign rfl) rfl rfl rfl ?_
                    refine SP.nil ?_
                    exact QE.meet fun a w2 ha hw => ⟨(decide (op_0 = 29)), ho, ha.sub ⟨rfl, rfl, trivial⟩, hw⟩
        · refine CP.seq ?_
          refine CP.region ?_
          refine SP.val (Val.eql rfl rfl) rfl rfl rfl ?_
          refine SP.val (Val.assign rfl) rfl rfl rfl ?_
          refine SP.nil ?_
          refine QE.then ?_
          rcases if_some ho with ⟨hc, ho⟩ | ⟨hc, ho⟩
          · refine CP.condT rfl (decide_eq_true hc) ?_
            refine CP.skip ?_
            exact QE.meet fun a w2 ha hw => ⟨(decide (op_0 = 4)), ho, ha.sub ⟨rfl, rfl, trivial⟩, hw⟩
          · refine CP.condF rfl (decide_eq_false hc) ?_
            refine CP.region ?_
            refine SP.val (Val.eql rfl rfl) rfl rfl rfl ?_
            refine SP.val (Val.assign rfl) rfl rfl rfl ?_
            refine SP.nil ?_
            exact QE.meet fun a w2 ha hw => ⟨(decide (op_0 = 5)), ho, ha.sub ⟨rfl, rfl, trivial⟩, hw⟩
    · refine CP.seq ?_
      refine CP.region ?_
      refine SP.val (Val.eql rfl rfl) rfl rfl rfl ?_
      refine SP.val (Val.assign rfl) rfl rfl rfl ?_
      refine SP.nil ?_
      refine QE.then ?_
      rcases if_some ho with ⟨hc, ho⟩ | ⟨hc, ho⟩
      · refine CP.condT rfl (decide_eq_true hc) ?_
        refine CP.skip ?_
        exact QE.meet fun a w2 ha hw => ⟨(decide (op_0 = 2)), ho, ha.sub ⟨rfl, rfl, trivial⟩, hw⟩
      · refine CP.condF rfl (decide_eq_false hc) ?_
        refine CP.region ?_
        refine SP.val (Val.eql rfl rfl) rfl rfl rfl ?_
        refine SP.val (Val.assign rfl) rfl rfl rfl ?_
        refine SP.nil ?_
        exact QE.meet fun a w2 ha hw => ⟨(decide (op_0 = 3)), ho, ha.sub ⟨rfl, rfl, trivial⟩, hw⟩
/-! ### capstan/op.Bounds: function 45 -/
def op_Bounds.f (op_0 : Int) : Option (Int × Int) :=
  (op_Known.f op_0).bind fun t1 => if (!t1) = true then (some (0, (-1))) else ((op_sign.f op_0).bind fun t2 => (elt tab0 t2).bind fun x5 => some (x5.e0, x5.e1))
theorem op_Bounds.ok (op_0 : Int)  (r : Int × Int) (H : op_Bounds.f op_0 = some r) (w : World) (hV : Hp) (sV : Sub hV (hp w)) (h0 : (arrP k_arr88 0 tab0).p hV) :
    Trip Tryd.prog 45 [.int .u8 op_0].toArray em hV w (fun v => HO.pure (v = .tuple #[.int .i64 r.1, .int .i64 r.2])) := by
  have see : Sees w em hV := ⟨sV, Dj.em_right _⟩
  refine Trip.of (P := Tryd.prog) (n := ⟨16, []⟩) Tryd.func45 rfl ⟨rfl, rfl⟩ rfl (St.begin (All.cons (x := arrP k_arr88 0 tab0) h0 (All.nil _))) ?_
  have ho := H
  refine CP.seq ?_
  refine CP.region ?_
  refine SP.val (Val.assign rfl) rfl rfl rfl ?_
  refine SP.val (Val.assign rfl) rfl rfl rfl ?_
  refine SP.nil ?_
  refine QE.then ?_
  refine CP.seq ?_
  refine CP.seq ?_
  refine CP.region ?_
  refine SP.val (Val.move rfl) rfl rfl rfl ?_
  obtain ⟨t1, hc, ho⟩ := bind_some (x := op_Known.f op_0) ho
  refine SP.callV see (caps := []) (.bool t1) fn53 rfl rfl rfl rfl (fun w2 hP hs sub ap => op_Known.ok op_0  _ hc w2 hP sub ) ?_
  clear hc
  refine SP.val (Val.notB rfl) rfl rfl rfl ?_
  refine SP.nil ?_
  refine QE.then ?_
  rcases if_some ho with ⟨hc, ho⟩ | ⟨hc, ho⟩
  · refine CP.condT rfl hc ?_
    refine CP.seq ?_
    refine CP.region ?_
    refine SP.val (Val.assign rfl) rfl rfl rfl ?_
    refine SP.val (Val.assign rfl) rfl rfl rfl ?_
    refine SP.nil ?_
    refine QE.then ?_
    refine CP.ret ?_
    refine QE.thru (by intro e; cases e) ?_
    obtain rfl := Option.some.inj ho
    exact QE.rets (rs := [.tmp 2, .tmp 3]) (vs := [.int .i64 0, .int .i64 (-1)]) Tryd.results45 rfl ⟨RVs.tmp rfl, RVs.tmp rfl, trivial⟩ (fun w2 h => St.done (fun a b p s => rfl) h)
  · refine CP.condF rfl (bf hc) ?_
    refine CP.skip ?_
    refine QE.then ?_
    refine CP.seq ?_
    refine CP.region ?_
    refine SP.val (Val.move rfl) rfl rfl rfl ?_
    obtain ⟨t2, hc, ho⟩ := bind_some (x := op_sign.f op_0) ho
    refine SP.callV see (caps := []) (.int .i64 t2) fn54 rfl rfl rfl rfl (fun w2 hP hs sub ap => op_sign.ok op_0  _ hc w2 hP sub ) ?_
    clear hc
    obtain ⟨x5, hx, ho⟩ := bind_some ho
    have hx := elt_some hx
    refine SP.indexG see 0 rfl Tryd.underlying89 rfl sz88 hx.1 hx.2 rfl rfl rfl rfl (fun p3 => ?_)
    clear hx
    refine k_arr88.load see 0 rfl Tryd.underlying88 rfl sz88 rfl rfl rfl ?_
    refine SP.alloc (cs := [.int .i64 0, .int .i64 0]) inf88 rfl rfl (fun b6 => ?_)
    refine SP.store (v := .agg #[.int .i64 x5.e0, .int .i64 x5.e1]) (vs := [.int .i64 x5.e0, .int .i64 x5.e1]) 0 (by rfl) sz88 (by rfl) (by rfl) (by rfl) (by rfl) (by rfl) (by rfl) ?_
    refine SP.nil ?_
    refine QE.then ?_
    refine CP.seq ?_
    refine CP.drawA (by kernel_rfl) (fun w2 k h => h.drawn k) ?_
    refine DA.phase (fun i => Nat.ble 0 i && Nat.blt i 5) (fun w2 => St w em hV [elP k_arr88 p3 x5, arrP k_arr88 0 tab0] [boxO b6 [.int .i64 x5.e0, .int .i64 x5.e1] 88] w2) ?_
    refine DT.take 0 rfl rfl rfl rfl (by kernel_rfl) (fun _ _ _ h => h) (Val.indexC (off2 := 0) Tryd.underlying88 sz3 (by decide) rfl rfl rfl) (fun w2 hw => hw) ?_
    refine DT.take 1 rfl rfl rfl rfl (by kernel_rfl) (fun _ _ _ h => h) (Val.load1 0 rfl Tryd.underlying3 rfl rfl rfl) (fun w2 hw => hw) ?_
    refine DT.take 2 rfl rfl rfl rfl (by kernel_rfl) (fun _ _ _ h => h) (Val.indexC (off2 := 1) Tryd.underlying88 sz3 (by decide) rfl rfl rfl) (fun w2 hw => hw) ?_
    refine DT.take 3 rfl rfl rfl rfl (by kernel_rfl) (fun _ _ _ h => h) (Val.load1 0 rfl Tryd.underlying3 rfl rfl rfl) (fun w2 hw => hw) ?_
    refine DT.take 4 rfl rfl rfl rfl (by kernel_rfl) (fun _ _ _ h => h) (Val.assign rfl) (fun w2 hw => hw) ?_
    refine DT.next (by kernel_rfl) ?_
    refine DA.one 5 rfl (by kernel_rfl) ?_
    refine SP.val (Val.assign rfl) rfl rfl rfl ?_
    refine SP.nil ?_
    refine QE.atA ?_
    refine DA.done (by kernel_rfl) ?_
    refine QE.then ?_
    refine CP.ret ?_
    obtain rfl := Option.some.inj ho
    exact QE.rets (rs := [.tmp 2, .tmp 3]) (vs := [.int .i64 x5.e0, .int .i64 x5.e1]) Tryd.results45 rfl ⟨RVs.tmp rfl, RVs.tmp rfl, trivial⟩ (fun w2 h => St.done (fun a b p s => rfl) h)
/-! ### capstan/op.May: function 27 -/
def op_May.f (i_0 : api_Instr) : Option Bool :=
  (op_Bounds.f i_0.Op).bind fun t3 => some (((decide (i_0.A ≥ t3.1)) && (decide (i_0.A ≤ t3.2))) && (decide (i_0.B = 0)))
theorem op_May.ok (i_0 : api_Instr)  (r : Bool) (H : op_May.f i_0 = some r) (w : World) (hV : Hp) (sV : Sub hV (hp w)) (h0 : (arrP k_arr88 0 tab0).p hV) :
    Trip Tryd.prog 27 [.agg #[.int .u8 i_0.Op, .int .i64 i_0.A, .int .i64 i_0.B]].toArray em hV w (fun v => HO.pure (v = .bool r)) := by
  have see : Sees w em hV := ⟨sV, Dj.em_right _⟩
  refine Trip.of (P := Tryd.prog) (n := ⟨26, []⟩) Tryd.func27 rfl ⟨rfl, rfl⟩ rfl (St.begin (All.cons (x := arrP k_arr88 0 tab0) h0 (All.nil _))) ?_
  have ho := H
  refine CP.seq ?_
  refine CP.region ?_
  refine SP.box (cs := [.int .u8 i_0.Op, .int .i64 i_0.A, .int .i64 i_0.B]) rfl rfl rfl rfl (fun b1 => ?_)
  refine SP.val (Val.assign rfl) rfl rfl rfl ?_
  refine SP.nil ?_
  refine QE.then ?_
  refine CP.seq ?_
  refine CP.region ?_
  refine SP.val (Val.fieldAddr Tryd.underlying52 rfl sz5 rfl) rfl rfl rfl ?_
  refine SP.val (Val.load1 0 rfl Tryd.underlying5 rfl rfl rfl) rfl rfl rfl ?_
  obtain ⟨t3, hc, ho⟩ := bind_some (x := op_Bounds.f i_0.Op) ho
  refine SP.callV see (caps := []) (.tuple #[.int .i64 t3.1, .int .i64 t3.2]) fn45 rfl rfl rfl rfl (fun w2 hP hs sub ap => op_Bounds.ok i_0.Op  _ hc w2 hP sub (ap.get 0 rfl)) ?_
  clear hc
  refine SP.val (Val.move rfl) rfl rfl rfl ?_
  refine SP.val (Val.extract rfl rfl) rfl rfl rfl ?_
  refine SP.val (Val.extract rfl rfl) rfl rfl rfl ?_
  refine SP.val (Val.assign rfl) rfl rfl rfl ?_
  refine SP.val (Val.assign rfl) rfl rfl rfl ?_
  refine SP.nil ?_
  refine QE.then ?_
  refine CP.seq ?_
  refine CP.region ?_
  refine SP.val (Val.fieldAddr Tryd.underlying52 rfl sz3 rfl) rfl rfl rfl ?_
  refine SP.val (Val.load1 0 rfl Tryd.underlying3 rfl rfl rfl) rfl rfl rfl ?_
  refine SP.val (Val.move rfl) rfl rfl rfl ?_
  refine SP.val (Val.geq rfl rfl) rfl rfl rfl ?_
  refine SP.val (Val.move rfl) rfl rfl rfl ?_
  refine SP.join 5 (fun a w2 => Env ⟨26, []⟩ [(1, .pointer (some ⟨b1, 0, none⟩)), (20, .bool ((decide (i_0.A ≥ t3.1)) && (decide (i_0.A ≤ t3.2))))] a ∧ St w em hV [arrP k_arr88 0 tab0] [boxO b1 [.int .u8 i_0.Op, .int .i64 i_0.A, .int .i64 i_0.B] 52] w2) ?_ ?_
  · rintro a w2 ⟨ha, hw⟩
    refine SP.app ha hw ?_
    clear ha hw a w2
    refine SP.val (Val.move rfl) rfl rfl rfl ?_
    refine SP.join 4 (fun a w2 => Env ⟨26, []⟩ [(25, .bool (((decide (i_0.A ≥ t3.1)) && (decide (i_0.A ≤ t3.2))) && (decide (i_0.B = 0))))] a ∧ St w em hV [arrP k_arr88 0 tab0] [boxO b1 [.int .u8 i_0.Op, .int .i64 i_0.A, .int .i64 i_0.B] 52] w2) ?_ ?_
    · rintro a w2 ⟨ha, hw⟩
      refine SP.app ha hw ?_
      clear ha hw a w2
      refine SP.val (Val.assign rfl) rfl rfl rfl ?_
      refine SP.nil ?_
      refine QE.then ?_
      refine CP.ret ?_
      obtain rfl := Option.some.inj ho
      exact QE.rets (rs := [.tmp 2]) (vs := [.bool (((decide (i_0.A ≥ t3.1)) && (decide (i_0.A ≤ t3.2))) && (decide (i_0.B = 0)))]) Tryd.results27 rfl ⟨RVs.tmp rfl, trivial⟩ (fun w2 h => St.done (fun a b p s => rfl) h)
    · intro J
      by_cases hc : ((decide (i_0.A ≥ t3.1)) && (decide (i_0.A ≤ t3.2))) = true
      · have hq7 := hc
        refine SP.isT (d := 21) rfl hq7 ?_
        refine SP.val (Val.fieldAddr Tryd.underlying52 rfl sz3 rfl) rfl rfl rfl ?_
        refine SP.val (Val.load1 0 rfl Tryd.underlying3 rfl rfl rfl) rfl rfl rfl ?_
        refine SP.val (Val.eql rfl rfl) rfl rfl rfl ?_
        refine SP.val (Val.pickT rfl rfl) rfl rfl rfl ?_
        exact J fun a w2 ha hw => ⟨ha.sub ⟨congrArg (fun z => some (Value.bool z)) (and_t hq7 rfl), trivial⟩, hw⟩
      · have hq7 := (bf hc)
        refine SP.isF (d := 21) rfl hq7 ?_
        refine SP.not rfl rfl rfl ?_
        refine SP.not rfl rfl rfl ?_
        refine SP.not rfl rfl rfl ?_
        refine SP.val (Val.pickF rfl rfl) rfl rfl rfl ?_
        exact J fun a w2 ha hw => ⟨ha.sub ⟨congrArg (fun z => some (Value.bool z)) (and_f hq7), trivial⟩, hw⟩
  · intro J
    by_cases hc : i_0.A ≥ t3.1
    · have hq5 := (decide_eq_true hc)
      refine SP.isT (d := 15) rfl hq5 ?_
      refine SP.val (Val.fieldAddr Tryd.underlying52 rfl sz3 rfl) rfl rfl rfl ?_
      refine SP.val (Val.load1 0 rfl Tryd.underlying3 rfl rfl rfl) rfl rfl rfl ?_
      refine SP.val (Val.move rfl) rfl rfl rfl ?_
      refine SP.val (Val.leq rfl rfl) rfl rfl rfl ?_
      refine SP.val (Val.pickT rfl rfl) rfl rfl rfl ?_
      exact J fun a w2 ha hw => ⟨ha.sub ⟨rfl, congrArg (fun z => some (Value.bool z)) (and_t hq5 rfl), trivial⟩, hw⟩
    · have hq5 := (decide_eq_false hc)
      refine SP.isF (d := 15) rfl hq5 ?_
      refine SP.not rfl rfl rfl ?_
      refine SP.not rfl rfl rfl ?_
      refine SP.not rfl rfl rfl ?_
      refine SP.not rfl rfl rfl ?_
      refine SP.val (Val.pickF rfl rfl) rfl rfl rfl ?_
      exact J fun a w2 ha hw => ⟨ha.sub ⟨rfl, congrArg (fun z => some (Value.bool z)) (and_f hq5), trivial⟩, hw⟩
/-! ### capstan/flow.Loops$1: function 26 -/
def flow_Loops_1.f (i_0 : api_Instr) : Option Bool :=
  (op_May.f i_0).bind fun t3 => some (!t3)
theorem flow_Loops_1.ok (i_0 : api_Instr)  (r : Bool) (H : flow_Loops_1.f i_0 = some r) (w : World) (hV : Hp) (sV : Sub hV (hp w)) (h0 : (arrP k_arr88 0 tab0).p hV) :
    Trip Tryd.prog 26 [.agg #[.int .u8 i_0.Op, .int .i64 i_0.A, .int .i64 i_0.B]].toArray em hV w (fun v => HO.pure (v = .bool r)) := by
  have see : Sees w em hV := ⟨sV, Dj.em_right _⟩
  refine Trip.of (P := Tryd.prog) (n := ⟨6, []⟩) Tryd.func26 rfl ⟨rfl, rfl⟩ rfl (St.begin (All.cons (x := arrP k_arr88 0 tab0) h0 (All.nil _))) ?_
  have ho := H
  refine CP.seq ?_
  refine CP.region ?_
  refine SP.box (cs := [.int .u8 i_0.Op, .int .i64 i_0.A, .int .i64 i_0.B]) rfl rfl rfl rfl (fun b1 => ?_)
  refine SP.val (Val.assign rfl) rfl rfl rfl ?_
  refine SP.nil ?_
  refine QE.then ?_
  refine CP.seq ?_
  refine CP.region ?_
  refine SP.val (Val.loadA 0 rfl Tryd.underlying52 rfl sz52 rfl rfl rfl) rfl rfl rfl ?_
  obtain ⟨t3, hc, ho⟩ := bind_some (x := op_May.f i_0) ho
  refine SP.callV see (caps := []) (.bool t3) fn27 rfl rfl rfl rfl (fun w2 hP hs sub ap => op_May.ok i_0  _ hc w2 hP sub (ap.get 0 rfl)) ?_
  clear hc
  refine SP.val (Val.notB rfl) rfl rfl rfl ?_
  refine SP.val (Val.assign rfl) rfl rfl rfl ?_
  refine SP.nil ?_
  refine QE.then ?_
  refine CP.ret ?_
  obtain rfl := Option.some.inj ho
  exact QE.rets (rs := [.tmp 2]) (vs := [.bool (!t3)]) Tryd.results26 rfl ⟨RVs.tmp rfl, trivial⟩ (fun w2 h => St.done (fun a b p s => rfl) h)
/-! ### slices.IndexFunc[[]capstan/api.Instr,capstan/api.Instr]: function 44 -/
inductive slices_IndexFunc_api_Instr_api_Instr_s1.S where
  | start
  | l1 (x7 : Int)

def slices_IndexFunc_api_Instr_api_Instr_s1.F (s_0 : (List api_Instr)) : slices_IndexFunc_api_Instr_api_Instr_s1.S → Option (slices_IndexFunc_api_Instr_api_Instr_s1.S ⊕ Int)
  | .start => some (.inl (.l1 0))
  | .l1 x7 => if x7 < (s_0.length : Int) then ((elt s_0 x7).bind fun x11 => (flow_Loops_1.f x11).bind fun t12 => if t12 = true then (some (.inr x7)) else (some (.inl (.l1 (IntKind.i64.wrap (x7 + 1)))))) else (some (.inr (-1)))

def slices_IndexFunc_api_Instr_api_Instr_s1.f (s_0 : (List api_Instr)) : Option Int := runF (slices_IndexFunc_api_Instr_api_Instr_s1.F s_0) .start
theorem slices_IndexFunc_api_Instr_api_Instr_s1.ok (s_0 : (List api_Instr)) (v_s_0 : Value)  (r : Int) (H : slices_IndexFunc_api_Instr_api_Instr_s1.f s_0 = some r) (w : World) (hV : Hp) (sV : Sub hV (hp w)) (h0 : slR k_api_Instr hV v_s_0 s_0) (h1 : (arrP k_arr88 0 tab0).p hV) :
    Trip Tryd.prog 44 [v_s_0, .func (.func 26) #[] #[]].toArray em hV w (fun v => HO.pure (v = .int .i64 r)) := by
  have see : Sees w em hV := ⟨sV, Dj.em_right _⟩
  refine Trip.of (P := Tryd.prog) (n := ⟨19, []⟩) Tryd.func44 rfl ⟨rfl, rfl⟩ rfl (St.begin (All.cons (x := slP k_api_Instr v_s_0 s_0) h0 (All.cons (x := arrP k_arr88 0 tab0) h1 (All.nil _)))) ?_
  obtain ⟨n0, hi⟩ := runF_iff.1 H
  obtain ⟨m0, o, hm0, ho, hr⟩ := iter_some hi
  clear hi
  refine CP.seq ?_
  refine CP.region ?_
  refine SP.val (Val.assign rfl) rfl rfl rfl ?_
  refine SP.nil ?_
  refine QE.then ?_
  refine CP.seq ?_
  refine CP.seq ?_
  refine CP.region ?_
  refine SP.val (Val.move rfl) rfl rfl rfl ?_
  refine SP.val (Val.lenP see 0 rfl Tryd.underlying22 rfl) rfl rfl rfl ?_
  refine SP.val (Val.move rfl) rfl rfl rfl ?_
  refine SP.nil ?_
  refine QE.then ?_
  refine CP.block ?_
  obtain rfl := Option.some.inj ho
  refine CP.loop (fun cl1 a w2 => ∃ x7 : Int, cl1 ≤ m0 ∧ iter (slices_IndexFunc_api_Instr_api_Instr_s1.F s_0) cl1 (.l1 x7) = some r ∧ Env ⟨19, []⟩ [(0, v_s_0), (1, .func (.func 26) #[] #[]), (7, .int .i64 (s_0.length : Int)), (8, .int .i64 x7)] a ∧ St w em hV [slP k_api_Instr v_s_0 s_0, arrP k_arr88 0 tab0] [] w2) m0 (fun a w2 ha hw => ⟨0, Nat.le_refl _, hr, ha.sub ⟨rfl, rfl, rfl, rfl, trivial⟩, hw⟩) ?_
  clear hr
  rintro cl1 a w2 ⟨x7, hc_l1, hi, ha, hw⟩
  obtain ⟨m8, o, hm_m8, ho, hr⟩ := iter_some hi
  refine CP.app ha hw ?_
  clear ha hw a w2 hi
  refine CP.seq ?_
  refine CP.region ?_
  refine SP.val (Val.lss rfl rfl) rfl rfl rfl ?_
  refine SP.nil ?_
  refine QE.then ?_
  refine CP.seq ?_
  rcases if_some ho with ⟨hc, ho⟩ | ⟨hc, ho⟩
  · refine CP.condT rfl (decide_eq_true hc) ?_
    refine CP.skip ?_
    refine QE.then ?_
    refine CP.seq ?_
    refine CP.block ?_
    refine CP.seq ?_
    refine CP.region ?_
    refine SP.val (Val.move rfl) rfl rfl rfl ?_
    refine SP.val (Val.assign rfl) rfl rfl rfl ?_
    refine SP.nil ?_
    refine QE.then ?_
    refine CP.seq ?_
    refine CP.region ?_
    refine SP.val (Val.move rfl) rfl rfl rfl ?_
    refine SP.val (Val.move rfl) rfl rfl rfl ?_
    refine SP.val (Val.move rfl) rfl rfl rfl ?_
    obtain ⟨x11, hx, ho⟩ := bind_some ho
    have hx := elt_some hx
    refine SP.indexP see 0 rfl Tryd.underlying22 sz52 hx.1 hx.2 rfl rfl rfl rfl (fun p9 => ?_)
    clear hx
    refine k_api_Instr.load see 0 rfl Tryd.underlying52 rfl sz52 rfl rfl rfl ?_
    obtain ⟨t12, hc, ho⟩ := bind_some (x := flow_Loops_1.f x11) ho
    refine SP.callV see (caps := []) (.bool t12) fn26 rfl rfl rfl rfl (fun w2 hP hs sub ap => flow_Loops_1.ok x11  _ hc w2 hP sub (ap.get 2 rfl)) ?_
    clear hc
    refine SP.nil ?_
    refine QE.then ?_
    rcases if_some ho with ⟨hc, ho⟩ | ⟨hc, ho⟩
    · refine CP.condT rfl hc ?_
      refine CP.seq ?_
      refine CP.region ?_
      refine SP.val (Val.move rfl) rfl rfl rfl ?_
      refine SP.val (Val.assign rfl) rfl rfl rfl ?_
      refine SP.nil ?_
      refine QE.then ?_
      refine CP.ret ?_
      refine QE.blockR ?_
      refine QE.thru (by intro e; cases e) ?_
      refine QE.thru (by intro e; cases e) ?_
      refine QE.blockR ?_
      refine QE.thru (by intro e; cases e) ?_
      obtain rfl := Option.some.inj ho
      obtain rfl := Option.some.inj hr
      exact QE.rets (rs := [.tmp 4]) (vs := [.int .i64 x7]) Tryd.results44 rfl ⟨RVs.tmp rfl, trivial⟩ (fun w2 h => St.done (fun a b p s => rfl) h)
    · refine CP.condF rfl (bf hc) ?_
      refine CP.skip ?_
      refine QE.blockN ?_
      refine QE.then ?_
      refine CP.region ?_
      refine SP.val (Val.add rfl rfl) rfl rfl rfl ?_
      refine SP.val (Val.move rfl) rfl rfl rfl ?_
      refine SP.nil ?_
      obtain rfl := Option.some.inj ho
      exact QE.lower m8 (by omega) fun a w2 ha hw => ⟨(IntKind.i64.wrap (x7 + 1)), (by omega), hr, ha.sub ⟨rfl, rfl, rfl, rfl, trivial⟩, (St.selP [1, 2] rfl hw)⟩
  · refine CP.condF rfl (decide_eq_false hc) ?_
    refine CP.exit ?_
    refine QE.thru (by intro e; cases e) ?_
    refine QE.thru (by intro e; cases e) ?_
    refine QE.blockE ?_
    refine QE.then ?_
    refine CP.seq ?_
    refine CP.region ?_
    refine SP.val (Val.assign rfl) rfl rfl rfl ?_
    refine SP.nil ?_
    refine QE.then ?_
    refine CP.ret ?_
    obtain rfl := Option.some.inj ho
    obtain rfl := Option.some.inj hr
    exact QE.rets (rs := [.tmp 4]) (vs := [.int .i64 (-1)]) Tryd.results44 rfl ⟨RVs.tmp rfl, trivial⟩ (fun w2 h => St.done (fun a b p s => rfl) h)
/-! ### slices.ContainsFunc[[]capstan/api.Instr,capstan/api.Instr]: function 25 -/
def slices_ContainsFunc_api_Instr_api_Instr_s1.f (s_0 : (List api_Instr)) : Option Bool :=
  (slices_IndexFunc_api_Instr_api_Instr_s1.f s_0).bind fun t2 => some (decide (t2 ≥ 0))
theorem slices_ContainsFunc_api_Instr_api_Instr_s1.ok (s_0 : (List api_Instr)) (v_s_0 : Value)  (r : Bool) (H : slices_ContainsFunc_api_Instr_api_Instr_s1.f s_0 = some r) (w : World) (hV : Hp) (sV : Sub hV (hp w)) (h0 : slR k_api_Instr hV v_s_0 s_0) (h1 : (arrP k_arr88 0 tab0).p hV) :
    Trip Tryd.prog 25 [v_s_0, .func (.func 26) #[] #[]].toArray em hV w (fun v => HO.pure (v = .bool r)) := by
  have see : Sees w em hV := ⟨sV, Dj.em_right _⟩
  refine Trip.of (P := Tryd.prog) (n := ⟨9, []⟩) Tryd.func25 rfl ⟨rfl, rfl⟩ rfl (St.begin (All.cons (x := slP k_api_Instr v_s_0 s_0) h0 (All.cons (x := arrP k_arr88 0 tab0) h1 (All.nil _)))) ?_
  have ho := H
  refine CP.seq ?_
  refine CP.region ?_
  refine SP.val (Val.assign rfl) rfl rfl rfl ?_
  refine SP.nil ?_
  refine QE.then ?_
  refine CP.seq ?_
  refine CP.region ?_
  refine SP.val (Val.move rfl) rfl rfl rfl ?_
  refine SP.val (Val.move rfl) rfl rfl rfl ?_
  obtain ⟨t2, hc, ho⟩ := bind_some (x := slices_IndexFunc_api_Instr_api_Instr_s1.f s_0) ho
  refine SP.callV see (caps := []) (.int .i64 t2) fn44 rfl rfl rfl rfl (fun w2 hP hs sub ap => slices_IndexFunc_api_Instr_api_Instr_s1.ok s_0 _ _ hc w2 hP sub (ap.get 0 rfl) (ap.get 1 rfl)) ?_
  clear hc
  refine SP.val (Val.geq rfl rfl) rfl rfl rfl ?_
  refine SP.val (Val.assign rfl) rfl rfl rfl ?_
  refine SP.nil ?_
  refine QE.then ?_
  refine CP.ret ?_
  obtain rfl := Option.some.inj ho
  exact QE.rets (rs := [.tmp 4]) (vs := [.bool (decide (t2 ≥ 0))]) Tryd.results25 rfl ⟨RVs.tmp rfl, trivial⟩ (fun w2 h => St.done (fun a b p s => rfl) h)
/-! ### (*capstan/flow.open).push: function 28 -/
def flow_open_push_s2.f (l2 : List Int) (a0_3 : Int) (a1 : Int) : Option (Bool × (List Int) × Int) :=
  if a0_3 = 4 then (some (false, l2, a0_3)) else ((elt l2 a0_3).bind fun x4 => some (true, l2.set a0_3.toNat a1, IntKind.i64.wrap (a0_3 + 1)))
theorem flow_open_push_s2.ok (l2 : List Int) (a0_3 : Int) (a1 : Int)  (r : Bool × (List Int) × Int) (H : flow_open_push_s2.f l2 a0_3 a1 = some r) (w : World) (hV : Hp) (sV : Sub hV (hp w))  (b1 : Nat) (hA : Hp) (sA : Sub hA (hp w)) (dA : Dj hV hA) (hI : (arrO b1 [] (fun z : Int => Value.int .i64 z) 4 l2 [.int .i64 a0_3] 63).p hV hA) :
    Trip Tryd.prog 28 [.pointer (some ⟨b1, 0, none⟩), .int .i64 a1].toArray hA hV w (fun v => HO.pand (v = .bool r.1) (HO.seps [arrO b1 [] (fun z : Int => Value.int .i64 z) 4 r.2.1 [.int .i64 r.2.2] 63])) := by
  have see : Sees w hA hV := ⟨sV, dA⟩
  refine Trip.of (P := Tryd.prog) (n := ⟨26, []⟩) Tryd.func28 rfl ⟨rfl, rfl⟩ rfl (St.beginA (os := [arrO b1 [] (fun z : Int => Value.int .i64 z) 4 l2 [.int .i64 a0_3] 63]) sA (All.nil _) ⟨hA, em, Dj.em_right _, Sub.refl _, Sub.em _, hI, trivial⟩) ?_
  have ho := H
  refine CP.seq ?_
  refine CP.region ?_
  refine SP.val (Val.assign rfl) rfl rfl rfl ?_
  refine SP.nil ?_
  refine QE.then ?_
  refine CP.seq ?_
  refine CP.seq ?_
  refine CP.region ?_
  refine SP.val (Val.move rfl) rfl rfl rfl ?_
  refine SP.val (Val.nilCheck rfl) rfl rfl rfl ?_
  refine SP.val (Val.fieldAddr Tryd.underlying63 rfl sz3 rfl) rfl rfl rfl ?_
  refine SP.val (Val.loadArrPost (k := 0) 0 rfl Tryd.underlying3 rfl rfl rfl rfl) rfl rfl rfl ?_
  refine SP.val (Val.eql rfl rfl) rfl rfl rfl ?_
  refine SP.nil ?_
  refine QE.then ?_
  rcases if_some ho with ⟨hc, ho⟩ | ⟨hc, ho⟩
  · refine CP.condT rfl (decide_eq_true hc) ?_
    refine CP.seq ?_
    refine CP.region ?_
    refine SP.val (Val.assign rfl) rfl rfl rfl ?_
    refine SP.nil ?_
    refine QE.then ?_
    refine CP.ret ?_
    refine QE.thru (by intro e; cases e) ?_
    obtain rfl := Option.some.inj ho
    exact QE.rets (rs := [.tmp 4]) (vs := [.bool false]) Tryd.results28 rfl ⟨RVs.tmp rfl, trivial⟩ (fun w2 h => St.done (fun a b p s => ⟨rfl, s⟩) (St.selO [0] rfl rfl h))
  · refine CP.condF rfl (decide_eq_false hc) ?_
    refine CP.skip ?_
    refine QE.then ?_
    refine CP.seq ?_
    refine CP.drawA (by kernel_rfl) (fun w2 k h => h.drawn k) ?_
    refine DA.phase (fun i => Nat.ble 0 i && Nat.blt i 8) (fun w2 => St w hA hV [] [arrO b1 [] (fun z : Int => Value.int .i64 z) 4 l2 [.int .i64 a0_3] 63] w2) ?_
    refine DT.take 0 rfl rfl rfl rfl (by kernel_rfl) (fun _ _ _ h => h) (Val.move rfl) (fun w2 hw => hw) ?_
    refine DT.take 1 rfl rfl rfl rfl (by kernel_rfl) (fun _ _ _ h => h) (Val.move rfl) (fun w2 hw => hw) ?_
    refine DT.take 2 rfl rfl rfl rfl (by kernel_rfl) (fun _ _ _ h => h) (Val.nilCheck rfl) (fun w2 hw => hw) ?_
    refine DT.take 3 rfl rfl rfl rfl (by kernel_rfl) (fun _ _ _ h => h) (Val.fieldAddr Tryd.underlying63 rfl sz3 rfl) (fun w2 hw => hw) ?_
    refine DT.take 4 rfl rfl rfl rfl (by kernel_rfl) (fun _ _ _ h => h) (Val.loadArrPost (k := 0) 0 rfl Tryd.underlying3 rfl rfl rfl rfl) (fun w2 hw => hw) ?_
    refine DT.take 5 rfl rfl rfl rfl (by kernel_rfl) (fun _ _ _ h => h) (Val.move rfl) (fun w2 hw => hw) ?_
    refine DT.take 6 rfl rfl rfl rfl (by kernel_rfl) (fun _ _ _ h => h) (Val.nilCheck rfl) (fun w2 hw => hw) ?_
    refine DT.take 7 rfl rfl rfl rfl (by kernel_rfl) (fun _ _ _ h => h) (Val.fieldAddr Tryd.underlying63 rfl sz61 rfl) (fun w2 hw => hw) ?_
    refine DT.next (by kernel_rfl) ?_
    refine DA.one 8 rfl (by kernel_rfl) ?_
    obtain ⟨x4, hx_x4, ho⟩ := bind_some ho
    have hx_x4 := elt_some hx_x4
    refine SP.val (Val.indexArr 0 rfl Tryd.underlying61 sz3 hx_x4.1 hx_x4.2 rfl rfl rfl) rfl rfl rfl ?_
    refine SP.nil ?_
    refine QE.atA ?_
    refine DA.one 9 rfl (by kernel_rfl) ?_
    refine SP.storeArr 0 rfl sz3 rfl hx_x4.2 rfl rfl rfl (fun _ => rfl) (fun _ => rfl) ?_
    refine SP.nil ?_
    refine QE.atA ?_
    refine DA.done (by kernel_rfl) ?_
    refine QE.then ?_
    refine CP.seq ?_
    refine CP.region ?_
    refine SP.val (Val.move rfl) rfl rfl rfl ?_
    refine SP.val (Val.nilCheck rfl) rfl rfl rfl ?_
    refine SP.val (Val.fieldAddr Tryd.underlying63 rfl sz3 rfl) rfl rfl rfl ?_
    refine SP.val (Val.loadArrPost (k := 0) 0 rfl Tryd.underlying3 rfl rfl rfl rfl) rfl rfl rfl ?_
    refine SP.val (Val.add rfl rfl) rfl rfl rfl ?_
    refine SP.val (Val.nilCheck rfl) rfl rfl rfl ?_
    refine SP.val (Val.fieldAddr Tryd.underlying63 rfl sz3 rfl) rfl rfl rfl ?_
    refine SP.storeArrPost (k := 0) 0 rfl sz3 rfl rfl rfl rfl rfl rfl rfl ?_
    refine SP.nil ?_
    refine QE.then ?_
    refine CP.seq ?_
    refine CP.region ?_
    refine SP.val (Val.assign rfl) rfl rfl rfl ?_
    refine SP.nil ?_
    refine QE.then ?_
    refine CP.ret ?_
    obtain rfl := Option.some.inj ho
    exact QE.rets (rs := [.tmp 4]) (vs := [.bool true]) Tryd.results28 rfl ⟨RVs.tmp rfl, trivial⟩ (fun w2 h => St.done (fun a b p s => ⟨rfl, s⟩) (St.selO [0] rfl rfl h))
/-! ### (*capstan/flow.open).pop: function 29 -/
def flow_open_pop_s2.j1 (l2 : List Int) (a0_3 : Int) (a1 : Int) (b10 : Bool) : Option (Bool × (List Int) × Int) :=
  if b10 = true then (some (false, l2, a0_3)) else (some (true, l2, IntKind.i64.wrap (a0_3 - 1)))

def flow_open_pop_s2.f (l2 : List Int) (a0_3 : Int) (a1 : Int) : Option (Bool × (List Int) × Int) :=
  if a0_3 = 0 then (flow_open_pop_s2.j1 l2 a0_3 a1 true) else ((elt l2 (IntKind.i64.wrap (a0_3 - 1))).bind fun x9 => flow_open_pop_s2.j1 l2 a0_3 a1 (decide (x9 ≠ a1)))
theorem flow_open_pop_s2.ok (l2 : List Int) (a0_3 : Int) (a1 : Int)  (r : Bool × (List Int) × Int) (H : flow_open_pop_s2.f l2 a0_3 a1 = some r) (w : World) (hV : Hp) (sV : Sub hV (hp w))  (b1 : Nat) (hA : Hp) (sA : Sub hA (hp w)) (dA : Dj hV hA) (hI : (arrO b1 [] (fun z : Int => Value.int .i64 z) 4 l2 [.int .i64 a0_3] 63).p hV hA) :
    Trip Tryd.prog 29 [.pointer (some ⟨b1, 0, none⟩), .int .i64 a1].toArray hA hV w (fun v => HO.pand (v = .bool r.1) (HO.seps [arrO b1 [] (fun z : Int => Value.int .i64 z) 4 r.2.1 [.int .i64 r.2.2] 63])) := by
  have see : Sees w hA hV := ⟨sV, dA⟩
  refine Trip.of (P := Tryd.prog) (n := ⟨31, []⟩) Tryd.func29 rfl ⟨rfl, rfl⟩ rfl (St.beginA (os := [arrO b1 [] (fun z : Int => Value.int .i64 z) 4 l2 [.int .i64 a0_3] 63]) sA (All.nil _) ⟨hA, em, Dj.em_right _, Sub.refl _, Sub.em _, hI, trivial⟩) ?_
  have ho := H
  refine CP.seq ?_
  refine CP.region ?_
  refine SP.val (Val.assign rfl) rfl rfl rfl ?_
  refine SP.nil ?_
  refine QE.then ?_
  refine CP.seq ?_
  refine CP.join (fun a w2 => ∃ b10 : Bool, flow_open_pop_s2.j1 l2 a0_3 a1 b10 = some r ∧ Env ⟨31, []⟩ [(0, .pointer (some ⟨b1, 0, none⟩)), (23, .bool b10)] a ∧ St w hA hV [] [arrO b1 [] (fun z : Int => Value.int .i64 z) 4 l2 [.int .i64 a0_3] 63] w2) ?_ ?_
  · rintro a w2 ⟨b10, ho, ha, hw⟩
    refine CP.app ha hw ?_
    clear ha hw a w2
    rcases if_some ho with ⟨hc, ho⟩ | ⟨hc, ho⟩
    · refine CP.condT rfl hc ?_
      refine CP.seq ?_
      refine CP.region ?_
      refine SP.val (Val.assign rfl) rfl rfl rfl ?_
      refine SP.nil ?_
      refine QE.then ?_
      refine CP.ret ?_
      refine QE.thru (by intro e; cases e) ?_
      obtain rfl := Option.some.inj ho
      exact QE.rets (rs := [.tmp 4]) (vs := [.bool false]) Tryd.results29 rfl ⟨RVs.tmp rfl, trivial⟩ (fun w2 h => St.done (fun a b p s => ⟨rfl, s⟩) (St.selO [0] rfl rfl h))
    · refine CP.condF rfl (bf hc) ?_
      refine CP.skip ?_
      refine QE.then ?_
      refine CP.seq ?_
      refine CP.region ?_
      refine SP.val (Val.move rfl) rfl rfl rfl ?_
      refine SP.val (Val.nilCheck rfl) rfl rfl rfl ?_
      refine SP.val (Val.fieldAddr Tryd.underlying63 rfl sz3 rfl) rfl rfl rfl ?_
      refine SP.val (Val.loadArrPost (k := 0) 0 rfl Tryd.underlying3 rfl rfl rfl rfl) rfl rfl rfl ?_
      refine SP.val (Val.sub rfl rfl) rfl rfl rfl ?_
      refine SP.val (Val.nilCheck rfl) rfl rfl rfl ?_
      refine SP.val (Val.fieldAddr Tryd.underlying63 rfl sz3 rfl) rfl rfl rfl ?_
      refine SP.storeArrPost (k := 0) 0 rfl sz3 rfl rfl rfl rfl rfl rfl rfl ?_
      refine SP.nil ?_
      refine QE.then ?_
      refine CP.seq ?_
      refine CP.region ?_
      refine SP.val (Val.assign rfl) rfl rfl rfl ?_
      refine SP.nil ?_
      refine QE.then ?_
      refine CP.ret ?_
      obtain rfl := Option.some.inj ho
      exact QE.rets (rs := [.tmp 4]) (vs := [.bool true]) Tryd.results29 rfl ⟨RVs.tmp rfl, trivial⟩ (fun w2 h => St.done (fun a b p s => ⟨rfl, s⟩) (St.selO [0] rfl rfl h))
  · refine CP.drawA (by kernel_rfl) (fun w2 k h => h.drawn k) ?_
    refine DA.one 0 rfl (by kernel_rfl) ?_
    refine SP.val (Val.move rfl) rfl rfl rfl ?_
    refine SP.nil ?_
    refine QE.atA ?_
    refine DA.one 1 rfl (by kernel_rfl) ?_
    refine SP.val (Val.nilCheck rfl) rfl rfl rfl ?_
    refine SP.nil ?_
    refine QE.atA ?_
    refine DA.one 2 rfl (by kernel_rfl) ?_
    refine SP.val (Val.fieldAddr Tryd.underlying63 rfl sz3 rfl) rfl rfl rfl ?_
    refine SP.nil ?_
    refine QE.atA ?_
    refine DA.one 3 rfl (by kernel_rfl) ?_
    refine SP.val (Val.loadArrPost (k := 0) 0 rfl Tryd.underlying3 rfl rfl rfl rfl) rfl rfl rfl ?_
    refine SP.nil ?_
    refine QE.atA ?_
    refine DA.one 4 rfl (by kernel_rfl) ?_
    refine SP.val (Val.eql rfl rfl) rfl rfl rfl ?_
    refine SP.nil ?_
    refine QE.atA ?_
    refine DA.one 5 rfl (by kernel_rfl) ?_
    refine SP.val (Val.move rfl) rfl rfl rfl ?_
    refine SP.nil ?_
    refine QE.atA ?_
    rcases if_some ho with ⟨hc, ho⟩ | ⟨hc, ho⟩
    · have hg4 := (decide_eq_true hc)
      clear hc
      refine DA.phase (fun i => Nat.ble 6 i && Nat.blt i 17) (fun w2 => St w hA hV [] [arrO b1 [] (fun z : Int => Value.int .i64 z) 4 l2 [.int .i64 a0_3] 63] w2) ?_
      refine DT.is (d := 10) (b := true) rfl hg4 ?_
      refine DT.not 6 rfl rfl rfl rfl (by kernel_rfl) (fun _ _ _ h => h) (fun w2 hw => hw) ?_
      refine DT.not 7 rfl rfl rfl rfl (by kernel_rfl) (fun _ _ _ h => h) (fun w2 hw => hw) ?_
      refine DT.not 8 rfl rfl rfl rfl (by kernel_rfl) (fun _ _ _ h => h) (fun w2 hw => hw) ?_
      refine DT.not 9 rfl rfl rfl rfl (by kernel_rfl) (fun _ _ _ h => h) (fun w2 hw => hw) ?_
      refine DT.not 10 rfl rfl rfl rfl (by kernel_rfl) (fun _ _ _ h => h) (fun w2 hw => hw) ?_
      refine DT.not 11 rfl rfl rfl rfl (by kernel_rfl) (fun _ _ _ h => h) (fun w2 hw => hw) ?_
      refine DT.not 12 rfl rfl rfl rfl (by kernel_rfl) (fun _ _ _ h => h) (fun w2 hw => hw) ?_
      refine DT.not 13 rfl rfl rfl rfl (by kernel_rfl) (fun _ _ _ h => h) (fun w2 hw => hw) ?_
      refine DT.not 14 rfl rfl rfl rfl (by kernel_rfl) (fun _ _ _ h => h) (fun w2 hw => hw) ?_
      refine DT.not 15 rfl rfl rfl rfl (by kernel_rfl) (fun _ _ _ h => h) (fun w2 hw => hw) ?_
      refine DT.not 16 rfl rfl rfl rfl (by kernel_rfl) (fun _ _ _ h => h) (fun w2 hw => hw) ?_
      refine DT.next (by kernel_rfl) ?_
      refine DA.phase (fun i => Nat.ble 17 i && Nat.blt i 18) (fun w2 => St w hA hV [] [arrO b1 [] (fun z : Int => Value.int .i64 z) 4 l2 [.int .i64 a0_3] 63] w2) ?_
      refine DT.not 17 rfl rfl rfl rfl (by kernel_rfl) (fun _ _ _ h => h) (fun w2 hw => hw) ?_
      refine DT.next (by kernel_rfl) ?_
      refine DA.one 18 rfl (by kernel_rfl) ?_
      refine SP.val (Val.pickT rfl rfl) rfl rfl rfl ?_
      refine SP.nil ?_
      refine QE.atA ?_
      refine DA.done (by kernel_rfl) ?_
      exact QE.meet fun a w2 ha hw => ⟨true, ho, ha.sub ⟨rfl, rfl, trivial⟩, hw⟩
    · have hg5 := (decide_eq_false hc)
      clear hc
      refine DA.phase (fun i => Nat.ble 6 i && Nat.blt i 17) (fun w2 => St w hA hV [] [arrO b1 [] (fun z : Int => Value.int .i64 z) 4 l2 [.int .i64 a0_3] 63] w2) ?_
      refine DT.is (d := 10) (b := false) rfl hg5 ?_
      refine DT.take 6 rfl rfl rfl rfl (by kernel_rfl) (fun _ _ _ h => h) (Val.move rfl) (fun w2 hw => hw) ?_
      refine DT.take 7 rfl rfl rfl rfl (by kernel_rfl) (fun _ _ _ h => h) (Val.move rfl) (fun w2 hw => hw) ?_
      refine DT.take 8 rfl rfl rfl rfl (by kernel_rfl) (fun _ _ _ h => h) (Val.nilCheck rfl) (fun w2 hw => hw) ?_
      refine DT.take 9 rfl rfl rfl rfl (by kernel_rfl) (fun _ _ _ h => h) (Val.fieldAddr Tryd.underlying63 rfl sz3 rfl) (fun w2 hw => hw) ?_
      refine DT.take 10 rfl rfl rfl rfl (by kernel_rfl) (fun _ _ _ h => h) (Val.loadArrPost (k := 0) 0 rfl Tryd.underlying3 rfl rfl rfl rfl) (fun w2 hw => hw) ?_
      refine DT.take 11 rfl rfl rfl rfl (by kernel_rfl) (fun _ _ _ h => h) (Val.sub rfl rfl) (fun w2 hw => hw) ?_
      refine DT.take 12 rfl rfl rfl rfl (by kernel_rfl) (fun _ _ _ h => h) (Val.nilCheck rfl) (fun w2 hw => hw) ?_
      refine DT.take 13 rfl rfl rfl rfl (by kernel_rfl) (fun _ _ _ h => h) (Val.fieldAddr Tryd.underlying63 rfl sz61 rfl) (fun w2 hw => hw) ?_
      refine DT.take 16 rfl rfl rfl rfl (by kernel_rfl) (fun _ _ _ h => h) (Val.move rfl) (fun w2 hw => hw) ?_
      refine DT.one 14 rfl (by kernel_rfl) rfl ?_
      obtain ⟨x9, hx_x9, ho⟩ := bind_some ho
      have hx_x9 := elt_some hx_x9
      refine SP.val (Val.indexArr 0 rfl Tryd.underlying61 sz3 hx_x9.1 hx_x9.2 rfl rfl rfl) rfl rfl rfl ?_
      refine SP.nil ?_
      refine QE.atT (fun w2 hw => hw) ?_
      refine DT.take 15 rfl rfl rfl rfl (by kernel_rfl) (fun _ _ _ h => h) (Val.loadArr 0 rfl Tryd.underlying3 rfl hx_x9.2 rfl rfl) (fun w2 hw => hw) ?_
      refine DT.next (by kernel_rfl) ?_
      refine DA.one 17 rfl (by kernel_rfl) ?_
      refine SP.val (Val.neq rfl rfl) rfl rfl rfl ?_
      refine SP.nil ?_
      refine QE.atA ?_
      refine DA.one 18 rfl (by kernel_rfl) ?_
      refine SP.val (Val.pickF rfl rfl) rfl rfl rfl ?_
      refine SP.nil ?_
      refine QE.atA ?_
      refine DA.done (by kernel_rfl) ?_
      exact QE.meet fun a w2 ha hw => ⟨(decide (x9 ≠ a1)), ho, ha.sub ⟨rfl, rfl, trivial⟩, hw⟩
/-! ### capstan/flow.last: function 30 -/
def flow_last.f (i_0 : api_Instr) : Option Bool :=
  some ((decide (i_0.Op = 31)) || (decide (i_0.Op = 32)))
theorem flow_last.ok (i_0 : api_Instr)  (r : Bool) (H : flow_last.f i_0 = some r) (w : World) (hV : Hp) (sV : Sub hV (hp w))  :
    Trip Tryd.prog 30 [.agg #[.int .u8 i_0.Op, .int .i64 i_0.A, .int .i64 i_0.B]].toArray em hV w (fun v => HO.pure (v = .bool r)) := by
  have see : Sees w em hV := ⟨sV, Dj.em_right _⟩
  refine Trip.of (P := Tryd.prog) (n := ⟨11, []⟩) Tryd.func30 rfl ⟨rfl, rfl⟩ rfl (St.begin (All.nil _)) ?_
  have ho := H
  refine CP.seq ?_
  refine CP.region ?_
  refine SP.box (cs := [.int .u8 i_0.Op, .int .i64 i_0.A, .int .i64 i_0.B]) rfl rfl rfl rfl (fun b1 => ?_)
  refine SP.val (Val.assign rfl) rfl rfl rfl ?_
  refine SP.nil ?_
  refine QE.then ?_
  refine CP.seq ?_
  refine CP.region ?_
  refine SP.val (Val.fieldAddr Tryd.underlying52 rfl sz5 rfl) rfl rfl rfl ?_
  refine SP.val (Val.load1 0 rfl Tryd.underlying5 rfl rfl rfl) rfl rfl rfl ?_
  refine SP.val (Val.eql rfl rfl) rfl rfl rfl ?_
  refine SP.val (Val.move rfl) rfl rfl rfl ?_
  refine SP.join 4 (fun a w2 => Env ⟨11, []⟩ [(10, .bool ((decide (i_0.Op = 31)) || (decide (i_0.Op = 32))))] a ∧ St w em hV [] [boxO b1 [.int .u8 i_0.Op, .int .i64 i_0.A, .int .i64 i_0.B] 52] w2) ?_ ?_
  · rintro a w2 ⟨ha, hw⟩
    refine SP.app ha hw ?_
    clear ha hw a w2
    refine SP.val (Val.assign rfl) rfl rfl rfl ?_
    refine SP.nil ?_
    refine QE.then ?_
    refine CP.ret ?_
    obtain rfl := Option.some.inj ho
    exact QE.rets (rs := [.tmp 2]) (vs := [.bool ((decide (i_0.Op = 31)) || (decide (i_0.Op = 32)))]) Tryd.results30 rfl ⟨RVs.tmp rfl, trivial⟩ (fun w2 h => St.done (fun a b p s => rfl) h)
  · intro J
    by_cases hc : i_0.Op = 31
    · have hq4 := (decide_eq_true hc)
      refine SP.isT (d := 6) rfl hq4 ?_
      refine SP.not rfl rfl rfl ?_
      refine SP.not rfl rfl rfl ?_
      refine SP.not rfl rfl rfl ?_
      refine SP.val (Val.pickT rfl rfl) rfl rfl rfl ?_
      exact J fun a w2 ha hw => ⟨ha.sub ⟨congrArg (fun z => some (Value.bool z)) (or_t hq4), trivial⟩, hw⟩
    · have hq4 := (decide_eq_false hc)
      refine SP.isF (d := 6) rfl hq4 ?_
      refine SP.val (Val.fieldAddr Tryd.underlying52 rfl sz5 rfl) rfl rfl rfl ?_
      refine SP.val (Val.load1 0 rfl Tryd.underlying5 rfl rfl rfl) rfl rfl rfl ?_
      refine SP.val (Val.eql rfl rfl) rfl rfl rfl ?_
      refine SP.val (Val.pickF rfl rfl) rfl rfl rfl ?_
      exact J fun a w2 ha hw => ⟨ha.sub ⟨congrArg (fun z => some (Value.bool z)) (or_f hq4 rfl), trivial⟩, hw⟩
/-! ### (capstan/flow.Loop).has: function 47 -/
def flow_Loop_has.f (x_0 : flow_Loop) (a1 : Int) : Option Bool :=
  some ((decide (a1 > x_0.From)) && (decide (a1 ≤ x_0.To)))
theorem flow_Loop_has.ok (x_0 : flow_Loop) (a1 : Int)  (r : Bool) (H : flow_Loop_has.f x_0 a1 = some r) (w : World) (hV : Hp) (sV : Sub hV (hp w))  :
    Trip Tryd.prog 47 [.agg #[.int .i64 x_0.From, .int .i64 x_0.To, .int .i64 x_0.Turns], .int .i64 a1].toArray em hV w (fun v => HO.pure (v = .bool r)) := by
  have see : Sees w em hV := ⟨sV, Dj.em_right _⟩
  refine Trip.of (P := Tryd.prog) (n := ⟨15, []⟩) Tryd.func47 rfl ⟨rfl, rfl⟩ rfl (St.begin (All.nil _)) ?_
  have ho := H
  refine CP.seq ?_
  refine CP.region ?_
  refine SP.box (cs := [.int .i64 x_0.From, .int .i64 x_0.To, .int .i64 x_0.Turns]) rfl rfl rfl rfl (fun b1 => ?_)
  refine SP.val (Val.assign rfl) rfl rfl rfl ?_
  refine SP.nil ?_
  refine QE.then ?_
  refine CP.seq ?_
  refine CP.region ?_
  refine SP.val (Val.move rfl) rfl rfl rfl ?_
  refine SP.val (Val.fieldAddr Tryd.underlying40 rfl sz3 rfl) rfl rfl rfl ?_
  refine SP.val (Val.load1 0 rfl Tryd.underlying3 rfl rfl rfl) rfl rfl rfl ?_
  refine SP.val (Val.gtr rfl rfl) rfl rfl rfl ?_
  refine SP.val (Val.move rfl) rfl rfl rfl ?_
  refine SP.join 5 (fun a w2 => Env ⟨15, []⟩ [(14, .bool ((decide (a1 > x_0.From)) && (decide (a1 ≤ x_0.To))))] a ∧ St w em hV [] [boxO b1 [.int .i64 x_0.From, .int .i64 x_0.To, .int .i64 x_0.Turns] 40] w2) ?_ ?_
  · rintro a w2 ⟨ha, hw⟩
    refine SP.app ha hw ?_
    clear ha hw a w2
    refine SP.val (Val.assign rfl) rfl rfl rfl ?_
    refine SP.nil ?_
    refine QE.then ?_
    refine CP.ret ?_
    obtain rfl := Option.some.inj ho
    exact QE.rets (rs := [.tmp 4]) (vs := [.bool ((decide (a1 > x_0.From)) && (decide (a1 ≤ x_0.To)))]) Tryd.results47 rfl ⟨RVs.tmp rfl, trivial⟩ (fun w2 h => St.done (fun a b p s => rfl) h)
  · intro J
    by_cases hc : a1 > x_0.From
    · have hq4 := (decide_eq_true hc)
      refine SP.isT (d := 9) rfl hq4 ?_
      refine SP.val (Val.move rfl) rfl rfl rfl ?_
      refine SP.val (Val.fieldAddr Tryd.underlying40 rfl sz3 rfl) rfl rfl rfl ?_
      refine SP.val (Val.load1 0 rfl Tryd.underlying3 rfl rfl rfl) rfl rfl rfl ?_
      refine SP.val (Val.leq rfl rfl) rfl rfl rfl ?_
      refine SP.val (Val.pickT rfl rfl) rfl rfl rfl ?_
      exact J fun a w2 ha hw => ⟨ha.sub ⟨congrArg (fun z => some (Value.bool z)) (and_t hq4 rfl), trivial⟩, hw⟩
    · have hq4 := (decide_eq_false hc)
      refine SP.isF (d := 9) rfl hq4 ?_
      refine SP.not rfl rfl rfl ?_
      refine SP.not rfl rfl rfl ?_
      refine SP.not rfl rfl rfl ?_
      refine SP.not rfl rfl rfl ?_
      refine SP.val (Val.pickF rfl rfl) rfl rfl rfl ?_
      exact J fun a w2 ha hw => ⟨ha.sub ⟨congrArg (fun z => some (Value.bool z)) (and_f hq4), trivial⟩, hw⟩
/-! ### capstan/flow.jumps$1: function 46 -/
def flow_jumps_1_s1.f (x_0 : flow_Loop) (c0_1 : Int) (c0_2 : Int) (c0_3 : Int) (c1_6 : Int) : Option Bool :=
  (flow_Loop_has.f x_0 c0_2).bind fun t11 => (if t11 = true then ((flow_Loop_has.f x_0 c1_6).bind fun t14 => some (!t14)) else (some false)).bind fun t15 => some t15
theorem flow_jumps_1_s1.ok (x_0 : flow_Loop) (c0_1 : Int) (c0_2 : Int) (c0_3 : Int) (c1_6 : Int) (b4 : Nat) (b7 : Nat) (r : Bool) (H : flow_jumps_1_s1.f x_0 c0_1 c0_2 c0_3 c1_6 = some r) (w : World) (hV : Hp) (sV : Sub hV (hp w)) (h0 : (boxP b4 [.int .u8 c0_1, .int .i64 c0_2, .int .i64 c0_3] 52).p hV) (h1 : (boxP b7 [.int .i64 c1_6] 3).p hV) :
    Trip Tryd.prog 46 [.agg #[.int .i64 x_0.From, .int .i64 x_0.To, .int .i64 x_0.Turns], .pointer (some ⟨b4, 0, none⟩), .pointer (some ⟨b7, 0, none⟩)].toArray em hV w (fun v => HO.pure (v = .bool r)) := by
  have see : Sees w em hV := ⟨sV, Dj.em_right _⟩
  refine Trip.of (P := Tryd.prog) (n := ⟨15, []⟩) Tryd.func46 rfl ⟨rfl, rfl⟩ rfl (St.begin (All.cons (x := boxP b4 [.int .u8 c0_1, .int .i64 c0_2, .int .i64 c0_3] 52) h0 (All.cons (x := boxP b7 [.int .i64 c1_6] 3) h1 (All.nil _)))) ?_
  have ho := H
  refine CP.seq ?_
  refine CP.region ?_
  refine SP.box (cs := [.int .i64 x_0.From, .int .i64 x_0.To, .int .i64 x_0.Turns]) rfl rfl rfl rfl (fun b9 => ?_)
  refine SP.val (Val.assign rfl) rfl rfl rfl ?_
  refine SP.nil ?_
  refine QE.then ?_
  refine CP.seq ?_
  refine CP.region ?_
  refine SP.val (Val.loadA 0 rfl Tryd.underlying40 rfl sz40 rfl rfl rfl) rfl rfl rfl ?_
  refine SP.val (Val.fieldAddr Tryd.underlying52 rfl sz3 rfl) rfl rfl rfl ?_
  refine SP.val (Val.loadB1 see 0 rfl Tryd.underlying3 rfl rfl rfl) rfl rfl rfl ?_
  obtain ⟨t11, hc, ho⟩ := bind_some (x := flow_Loop_has.f x_0 c0_2) ho
  refine SP.callV see (caps := []) (.bool t11) fn47 rfl rfl rfl rfl (fun w2 hP hs sub ap => flow_Loop_has.ok x_0 c0_2  _ hc w2 hP sub ) ?_
  clear hc
  refine SP.val (Val.move rfl) rfl rfl rfl ?_
  obtain ⟨t15, hg_t15, ho⟩ := bind_some ho
  refine SP.join 5 (fun a w2 => Env ⟨15, []⟩ [(14, .bool t15)] a ∧ St w em hV [boxP b4 [.int .u8 c0_1, .int .i64 c0_2, .int .i64 c0_3] 52, boxP b7 [.int .i64 c1_6] 3] [boxO b9 [.int .i64 x_0.From, .int .i64 x_0.To, .int .i64 x_0.Turns] 40] w2) ?_ ?_
  · rintro a w2 ⟨ha, hw⟩
    refine SP.app ha hw ?_
    clear ha hw a w2 hg_t15
    refine SP.val (Val.assign rfl) rfl rfl rfl ?_
    refine SP.nil ?_
    refine QE.then ?_
    refine CP.ret ?_
    obtain rfl := Option.some.inj ho
    exact QE.rets (rs := [.tmp 4]) (vs := [.bool t15]) Tryd.results46 rfl ⟨RVs.tmp rfl, trivial⟩ (fun w2 h => St.done (fun a b p s => rfl) h)
  · intro J
    clear ho
    have ho := hg_t15
    clear hg_t15
    rcases if_some ho with ⟨hc, ho⟩ | ⟨hc, ho⟩
    · have hq13 := hc
      refine SP.isT (d := 9) rfl hq13 ?_
      refine SP.val (Val.loadA 0 rfl Tryd.underlying40 rfl sz40 rfl rfl rfl) rfl rfl rfl ?_
      refine SP.val (Val.loadB1 see 1 rfl Tryd.underlying3 rfl rfl rfl) rfl rfl rfl ?_
      obtain ⟨t14, hc, ho⟩ := bind_some (x := flow_Loop_has.f x_0 c1_6) ho
      refine SP.callV see (caps := []) (.bool t14) fn47 rfl rfl rfl rfl (fun w2 hP hs sub ap => flow_Loop_has.ok x_0 c1_6  _ hc w2 hP sub ) ?_
      clear hc
      refine SP.val (Val.notB rfl) rfl rfl rfl ?_
      refine SP.val (Val.pickT rfl rfl) rfl rfl rfl ?_
      obtain rfl := Option.some.inj ho
      exact J fun a w2 ha hw => ⟨ha.sub ⟨rfl, trivial⟩, hw⟩
    · have hq13 := (bf hc)
      refine SP.isF (d := 9) rfl hq13 ?_
      refine SP.not rfl rfl rfl ?_
      refine SP.not rfl rfl rfl ?_
      refine SP.not rfl rfl rfl ?_
      refine SP.not rfl rfl rfl ?_
      refine SP.val (Val.pickF rfl rfl) rfl rfl rfl ?_
      obtain rfl := Option.some.inj ho
      exact J fun a w2 ha hw => ⟨ha.sub ⟨rfl, trivial⟩, hw⟩
/-! ### slices.IndexFunc[[]capstan/flow.Loop,capstan/flow.Loop]: function 57 -/
inductive slices_IndexFunc_flow_Loop_flow_Loop_s1.S where
  | start
  | l1 (x15 : Int)

def slices_IndexFunc_flow_Loop_flow_Loop_s1.F (s_0 : (List flow_Loop)) (f_1_2 : Int) (f_1_3 : Int) (f_1_4 : Int) (f_1_7 : Int) : slices_IndexFunc_flow_Loop_flow_Loop_s1.S → Option (slices_IndexFunc_flow_Loop_flow_Loop_s1.S ⊕ Int)
  | .start => some (.inl (.l1 0))
  | .l1 x15 => if x15 < (s_0.length : Int) then ((elt s_0 x15).bind fun x19 => (flow_jumps_1_s1.f x19 f_1_2 f_1_3 f_1_4 f_1_7).bind fun t20 => if t20 = true then (some (.inr x15)) else (some (.inl (.l1 (IntKind.i64.wrap (x15 + 1)))))) else (some (.inr (-1)))

def slices_IndexFunc_flow_Loop_flow_Loop_s1.f (s_0 : (List flow_Loop)) (f_1_2 : Int) (f_1_3 : Int) (f_1_4 : Int) (f_1_7 : Int) : Option Int := runF (slices_IndexFunc_flow_Loop_flow_Loop_s1.F s_0 f_1_2 f_1_3 f_1_4 f_1_7) .start
theorem slices_IndexFunc_flow_Loop_flow_Loop_s1.ok (s_0 : (List flow_Loop)) (f_1_2 : Int) (f_1_3 : Int) (f_1_4 : Int) (f_1_7 : Int) (v_s_0 : Value) (b5 : Nat) (b8 : Nat) (r : Int) (H : slices_IndexFunc_flow_Loop_flow_Loop_s1.f s_0 f_1_2 f_1_3 f_1_4 f_1_7 = some r) (w : World) (hV : Hp) (sV : Sub hV (hp w)) (h0 : slR k_flow_Loop hV v_s_0 s_0) (h1 : (boxP b5 [.int .u8 f_1_2, .int .i64 f_1_3, .int .i64 f_1_4] 52).p hV) (h2 : (boxP b8 [.int .i64 f_1_7] 3).p hV) :
    Trip Tryd.prog 57 [v_s_0, .func (.func 46) #[] #[.pointer (some ⟨b5, 0, none⟩), .pointer (some ⟨b8, 0, none⟩)]].toArray em hV w (fun v => HO.pure (v = .int .i64 r)) := by
  have see : Sees w em hV := ⟨sV, Dj.em_right _⟩
  refine Trip.of (P := Tryd.prog) (n := ⟨19, []⟩) Tryd.func57 rfl ⟨rfl, rfl⟩ rfl (St.begin (All.cons (x := slP k_flow_Loop v_s_0 s_0) h0 (All.cons (x := boxP b5 [.int .u8 f_1_2, .int .i64 f_1_3, .int .i64 f_1_4] 52) h1 (All.cons (x := boxP b8 [.int .i64 f_1_7] 3) h2 (All.nil _))))) ?_
  obtain ⟨n0, hi⟩ := runF_iff.1 H
  obtain ⟨m0, o, hm0, ho, hr⟩ := iter_some hi
  clear hi
  refine CP.seq ?_
  refine CP.region ?_
  refine SP.val (Val.assign rfl) rfl rfl rfl ?_
  refine SP.nil ?_
  refine QE.then ?_
  refine CP.seq ?_
  refine CP.seq ?_
  refine CP.region ?_
  refine SP.val (Val.move rfl) rfl rfl rfl ?_
  refine SP.val (Val.lenP see 0 rfl Tryd.underlying30 rfl) rfl rfl rfl ?_
  refine SP.val (Val.move rfl) rfl rfl rfl ?_
  refine SP.nil ?_
  refine QE.then ?_
  refine CP.block ?_
  obtain rfl := Option.some.inj ho
  refine CP.loop (fun cl1 a w2 => ∃ x15 : Int, cl1 ≤ m0 ∧ iter (slices_IndexFunc_flow_Loop_flow_Loop_s1.F s_0 f_1_2 f_1_3 f_1_4 f_1_7) cl1 (.l1 x15) = some r ∧ Env ⟨19, []⟩ [(0, v_s_0), (1, .func (.func 46) #[] #[.pointer (some ⟨b5, 0, none⟩), .pointer (some ⟨b8, 0, none⟩)]), (7, .int .i64 (s_0.length : Int)), (8, .int .i64 x15)] a ∧ St w em hV [slP k_flow_Loop v_s_0 s_0, boxP b5 [.int .u8 f_1_2, .int .i64 f_1_3, .int .i64 f_1_4] 52, boxP b8 [.int .i64 f_1_7] 3] [] w2) m0 (fun a w2 ha hw => ⟨0, Nat.le_refl _, hr, ha.sub ⟨rfl, rfl, rfl, rfl, trivial⟩, hw⟩) ?_
  clear hr
  rintro cl1 a w2 ⟨x15, hc_l1, hi, ha, hw⟩
  obtain ⟨m16, o, hm_m16, ho, hr⟩ := iter_some hi
  refine CP.app ha hw ?_
  clear ha hw a w2 hi
  refine CP.seq ?_
  refine CP.region ?_
  refine SP.val (Val.lss rfl rfl) rfl rfl rfl ?_
  refine SP.nil ?_
  refine QE.then ?_
  refine CP.seq ?_
  rcases if_some ho with ⟨hc, ho⟩ | ⟨hc, ho⟩
  · refine CP.condT rfl (decide_eq_true hc) ?_
    refine CP.skip ?_
    refine QE.then ?_
    refine CP.seq ?_
    refine CP.block ?_
    refine CP.seq ?_
    refine CP.region ?_
    refine SP.val (Val.move rfl) rfl rfl rfl ?_
    refine SP.val (Val.assign rfl) rfl rfl rfl ?_
    refine SP.nil ?_
    refine QE.then ?_
    refine CP.seq ?_
    refine CP.region ?_
    refine SP.val (Val.move rfl) rfl rfl rfl ?_
    refine SP.val (Val.move rfl) rfl rfl rfl ?_
    refine SP.val (Val.move rfl) rfl rfl rfl ?_
    obtain ⟨x19, hx, ho⟩ := bind_some ho
    have hx := elt_some hx
    refine SP.indexP see 0 rfl Tryd.underlying30 sz40 hx.1 hx.2 rfl rfl rfl rfl (fun p17 => ?_)
    clear hx
    refine k_flow_Loop.load see 0 rfl Tryd.underlying40 rfl sz40 rfl rfl rfl ?_
    obtain ⟨t20, hc, ho⟩ := bind_some (x := flow_jumps_1_s1.f x19 f_1_2 f_1_3 f_1_4 f_1_7) ho
    refine SP.callV see (caps := [.pointer (some ⟨b5, 0, none⟩), .pointer (some ⟨b8, 0, none⟩)]) (.bool t20) fn46 rfl rfl rfl rfl (fun w2 hP hs sub ap => flow_jumps_1_s1.ok x19 f_1_2 f_1_3 f_1_4 f_1_7 _ _ _ hc w2 hP sub (ap.get 2 rfl) (ap.get 3 rfl)) ?_
    clear hc
    refine SP.nil ?_
    refine QE.then ?_
    rcases if_some ho with ⟨hc, ho⟩ | ⟨hc, ho⟩
    · refine CP.condT rfl hc ?_
      refine CP.seq ?_
      refine CP.region ?_
      refine SP.val (Val.move rfl) rfl rfl rfl ?_
      refine SP.val (Val.assign rfl) rfl rfl rfl ?_
      refine SP.nil ?_
      refine QE.then ?_
      refine CP.ret ?_
      refine QE.blockR ?_
      refine QE.thru (by intro e; cases e) ?_
      refine QE.thru (by intro e; cases e) ?_
      refine QE.blockR ?_
      refine QE.thru (by intro e; cases e) ?_
      obtain rfl := Option.some.inj ho
      obtain rfl := Option.some.inj hr
      exact QE.rets (rs := [.tmp 4]) (vs := [.int .i64 x15]) Tryd.results57 rfl ⟨RVs.tmp rfl, trivial⟩ (fun w2 h => St.done (fun a b p s => rfl) h)
    · refine CP.condF rfl (bf hc) ?_
      refine CP.skip ?_
      refine QE.blockN ?_
      refine QE.then ?_
      refine CP.region ?_
      refine SP.val (Val.add rfl rfl) rfl rfl rfl ?_
      refine SP.val (Val.move rfl) rfl rfl rfl ?_
      refine SP.nil ?_
      obtain rfl := Option.some.inj ho
      exact QE.lower m16 (by omega) fun a w2 ha hw => ⟨(IntKind.i64.wrap (x15 + 1)), (by omega), hr, ha.sub ⟨rfl, rfl, rfl, rfl, trivial⟩, (St.selP [1, 2, 3] rfl hw)⟩
  · refine CP.condF rfl (decide_eq_false hc) ?_
    refine CP.exit ?_
    refine QE.thru (by intro e; cases e) ?_
    refine QE.thru (by intro e; cases e) ?_
    refine QE.blockE ?_
    refine QE.then ?_
    refine CP.seq ?_
    refine CP.region ?_
    refine SP.val (Val.assign rfl) rfl rfl rfl ?_
    refine SP.nil ?_
    refine QE.then ?_
    refine CP.ret ?_
    obtain rfl := Option.some.inj ho
    obtain rfl := Option.some.inj hr
    exact QE.rets (rs := [.tmp 4]) (vs := [.int .i64 (-1)]) Tryd.results57 rfl ⟨RVs.tmp rfl, trivial⟩ (fun w2 h => St.done (fun a b p s => rfl) h)
end Go.Proofs.YtbejlahmhloloaaDoor
end
