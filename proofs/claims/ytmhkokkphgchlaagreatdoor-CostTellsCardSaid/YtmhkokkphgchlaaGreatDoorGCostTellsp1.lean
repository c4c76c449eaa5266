/- Functions of the program as plain functions, with the proof that the code computes them: printed by gen.py of this session. -/
import Derived.Test.YtmhkokkphgchlaaGreatDoorProg
import Derived.Test.YtmhkokkphgchlaaGreatDoorQ33xCostTells
import Derived.Test.YtmhkokkphgchlaaGreatDoorQ37xCostTells
import Derived.Ground.GgzProg
import Derived.Ground.Names8Prog
import Derived.Ground.NamesProg
import Derived.Ground.SlgcProg
import Derived.Ground.SlgmProg
import Derived.Ground.SlgnProg
import Derived.Ground.SlsfProg
import Derived.Shelf.Bits.Mul64
import Derived.Shelf.Lay
import Derived.Shelf.SlGeneric
import Derived.Shelf.SlIterI.Nil
import Derived.Shelf.SlSortCmp.WholeK
import Derived.Shelf.SlicesE.Reverse
import Derived.Shelf.SlicesG.Cmp
import Derived.Shelf.SlicesG.CompactI
import Derived.Shelf.Small.Bits
import Derived.Shelf.SortM.Plain
import Derived.Shelf.SortM.SortNone
import Derived.Shelf.Spec.SlicesGrow
set_option linter.unusedVariables false
set_option linter.unusedSimpArgs false
set_option maxRecDepth 20000
set_option maxHeartbeats 2000000
set_option linter.defProp false
set_option warn.classDefReducibility false
noncomputable section
namespace Go.Proofs.YtmhkokkphgchlaaGreatDoor
open Go.Q
structure api_Value where
  Kind : Int
  A : Int
  B : Int
def api_Value.zero : api_Value := ⟨0, 0, 0⟩
def k_api_Value : Kd api_Value := ⟨3, fun h cs x => cs = [.int .u8 x.Kind, .int .i64 x.A, .int .i64 x.B], fun _ _ _ _ _ h => h, fun _ _ _ h => by simp [h], fun _ _ _ h => by subst h; rfl⟩
theorem k_api_Value.part_Kind : Part k_api_Value 0 (kInt .u8) (fun x => x.Kind) := fun h cs x e => ⟨[.int .u8 x.Kind], rfl, by subst e; exact seg_get [.int .u8 x.Kind, .int .i64 x.A, .int .i64 x.B] 0 1⟩
theorem k_api_Value.part_A : Part k_api_Value 1 (kInt .i64) (fun x => x.A) := fun h cs x e => ⟨[.int .i64 x.A], rfl, by subst e; exact seg_get [.int .u8 x.Kind, .int .i64 x.A, .int .i64 x.B] 1 1⟩
theorem k_api_Value.load {P : Program} {n : Fr} {ρ : Option Nat} {σ : List (Nat × Value)} {w0 : World} {hA hV : Hp} {ps : List HP} {os : List HO} {L l : List Oper} {Q : Cont} {d : Nat} {t tr : TypeId} {x : Operand} {pos : String} {af : Array Edge} {g : Option (Nat × Bool)} {v : Value} (see : Sees w0 hA hV) (i : Nat) {x0 : api_Value} (hi : ps[i]? = some (elP k_api_Value v x0)) {dsc : TypeDesc} (hu : P.underlying t = some dsc) (hd : (match dsc with | .struct _ | .array _ _ => true | _ => false) = true) (hs : (P.info? t).map (·.size) = some 3) (hg : gd L σ g = some true) (hn : Nat.blt d n.n = true) (hx : ev σ x = some v)
    (h : SP P n ρ ((d, .agg [.int .u8 x0.Kind, .int .i64 x0.A, .int .i64 x0.B].toArray) :: σ) (St w0 hA hV (ps) os) L l Q) : SP P n ρ σ (St w0 hA hV ps os) L (⟨some d, .load t x, tr, pos, af, g⟩ :: l) Q :=
  SP.loadP see i hi hu hd hs hg hn hx fun cs a w ha hw => by
    obtain ⟨m, fr, hN, hO, n1, n2, dj, s1, s2, ap, s⟩ := hw
    obtain rfl := ap.get 0 rfl
    exact h a w ha ⟨m, fr, hN, hO, n1, n2, dj, s1, s2, (fun y hy => ap y (List.mem_cons_of_mem _ hy)), s⟩
structure api_Instr where
  Op : Int
  A : Int
  B : Int
def api_Instr.zero : api_Instr := ⟨0, 0, 0⟩
def k_api_Instr : Kd api_Instr := ⟨3, fun h cs x => cs = [.int .u8 x.Op, .int .i64 x.A, .int .i64 x.B], fun _ _ _ _ _ h => h, fun _ _ _ h => by simp [h], fun _ _ _ h => by subst h; rfl⟩
theorem k_api_Instr.part_Op : Part k_api_Instr 0 (kInt .u8) (fun x => x.Op) := fun h cs x e => ⟨[.int .u8 x.Op], rfl, by subst e; exact seg_get [.int .u8 x.Op, .int .i64 x.A, .int .i64 x.B] 0 1⟩
theorem k_api_Instr.part_A : Part k_api_Instr 1 (kInt .i64) (fun x => x.A) := fun h cs x e => ⟨[.int .i64 x.A], rfl, by subst e; exact seg_get [.int .u8 x.Op, .int .i64 x.A, .int .i64 x.B] 1 1⟩
theorem k_api_Instr.load {P : Program} {n : Fr} {ρ : Option Nat} {σ : List (Nat × Value)} {w0 : World} {hA hV : Hp} {ps : List HP} {os : List HO} {L l : List Oper} {Q : Cont} {d : Nat} {t tr : TypeId} {x : Operand} {pos : String} {af : Array Edge} {g : Option (Nat × Bool)} {v : Value} (see : Sees w0 hA hV) (i : Nat) {x0 : api_Instr} (hi : ps[i]? = some (elP k_api_Instr v x0)) {dsc : TypeDesc} (hu : P.underlying t = some dsc) (hd : (match dsc with | .struct _ | .array _ _ => true | _ => false) = true) (hs : (P.info? t).map (·.size) = some 3) (hg : gd L σ g = some true) (hn : Nat.blt d n.n = true) (hx : ev σ x = some v)
    (h : SP P n ρ ((d, .agg [.int .u8 x0.Op, .int .i64 x0.A, .int .i64 x0.B].toArray) :: σ) (St w0 hA hV (ps) os) L l Q) : SP P n ρ σ (St w0 hA hV ps os) L (⟨some d, .load t x, tr, pos, af, g⟩ :: l) Q :=
  SP.loadP see i hi hu hd hs hg hn hx fun cs a w ha hw => by
    obtain ⟨m, fr, hN, hO, n1, n2, dj, s1, s2, ap, s⟩ := hw
    obtain rfl := ap.get 0 rfl
    exact h a w ha ⟨m, fr, hN, hO, n1, n2, dj, s1, s2, (fun y hy => ap y (List.mem_cons_of_mem _ hy)), s⟩
structure api_Method where
  Args : (List Int)
  Locals : (List Int)
  Result : Int
  Reads : Bool
  Fuel : Int
  Stack : Int
  Heap : Int
  Code : (List api_Instr)
def api_Method.zero : api_Method := ⟨[], [], 0, false, 0, 0, 0, []⟩
def k_api_Method : Kd api_Method := ⟨8, fun h cs x => ∃ v0 v1 v2 : Value, cs = [v0, v1, .int .u8 x.Result, .bool x.Reads, .int .i64 x.Fuel, .int .i64 x.Stack, .int .i64 x.Heap, v2] ∧ slR (kInt .u8) h v0 x.Args ∧ slR (kInt .u8) h v1 x.Locals ∧ slR k_api_Instr h v2 x.Code,
  fun _ _ _ _ s ⟨v0, v1, v2, e, p0, p1, p2⟩ => ⟨v0, v1, v2, e, slR.mono s p0, slR.mono s p1, slR.mono s p2⟩, fun _ _ _ ⟨v0, v1, v2, e, p0, p1, p2⟩ => by simp [e],
  fun _ _ _ ⟨v0, v1, v2, e, p0, p1, p2⟩ => by subst e; obtain ⟨_, _, rfl, -⟩ := p0; obtain ⟨_, _, rfl, -⟩ := p1; obtain ⟨_, _, rfl, -⟩ := p2; rfl⟩
def o_api_Method : Ko api_Method := ⟨k_api_Method, fun cs x => HO.ex fun v0 : Value => HO.ex fun v1 : Value => HO.ex fun v2 : Value => HO.pand (cs = [v0, v1, .int .u8 x.Result, .bool x.Reads, .int .i64 x.Fuel, .int .i64 x.Stack, .int .i64 x.Heap, v2]) (HO.seps [slO (kInt .u8) 5 v0 x.Args, slO (kInt .u8) 5 v1 x.Locals, slO k_api_Instr 71 v2 x.Code]), fun ⟨v0, v1, v2, e, q⟩ sa sh => ⟨v0, v1, v2, e, slO.read (Sep.get 0 rfl q) sa sh, slO.read (Sep.get 1 rfl q) sa sh, slO.read (Sep.get 2 rfl q) sa sh⟩⟩
theorem k_api_Method.part_Args : Part k_api_Method 0 (kSl (kInt .u8)) (fun x => x.Args) := fun h cs x ⟨v0, v1, v2, e, p0, p1, p2⟩ => ⟨[v0], ⟨v0, rfl, p0⟩, by subst e; exact seg_get [v0, v1, .int .u8 x.Result, .bool x.Reads, .int .i64 x.Fuel, .int .i64 x.Stack, .int .i64 x.Heap, v2] 0 1⟩
theorem k_api_Method.part_Result : Part k_api_Method 2 (kInt .u8) (fun x => x.Result) := fun h cs x ⟨v0, v1, v2, e, p0, p1, p2⟩ => ⟨[.int .u8 x.Result], rfl, by subst e; exact seg_get [v0, v1, .int .u8 x.Result, .bool x.Reads, .int .i64 x.Fuel, .int .i64 x.Stack, .int .i64 x.Heap, v2] 2 1⟩
theorem k_api_Method.part_Code : Part k_api_Method 7 (kSl k_api_Instr) (fun x => x.Code) := fun h cs x ⟨v0, v1, v2, e, p0, p1, p2⟩ => ⟨[v2], ⟨v2, rfl, p2⟩, by subst e; exact seg_get [v0, v1, .int .u8 x.Result, .bool x.Reads, .int .i64 x.Fuel, .int .i64 x.Stack, .int .i64 x.Heap, v2] 7 1⟩
theorem k_api_Method.load {P : Program} {n : Fr} {ρ : Option Nat} {σ : List (Nat × Value)} {w0 : World} {hA hV : Hp} {ps : List HP} {os : List HO} {L l : List Oper} {Q : Cont} {d : Nat} {t tr : TypeId} {x : Operand} {pos : String} {af : Array Edge} {g : Option (Nat × Bool)} {v : Value} (see : Sees w0 hA hV) (i : Nat) {x0 : api_Method} (hi : ps[i]? = some (elP k_api_Method v x0)) {dsc : TypeDesc} (hu : P.underlying t = some dsc) (hd : (match dsc with | .struct _ | .array _ _ => true | _ => false) = true) (hs : (P.info? t).map (·.size) = some 8) (hg : gd L σ g = some true) (hn : Nat.blt d n.n = true) (hx : ev σ x = some v)
    (h : ∀ v0 v1 v2, SP P n ρ ((d, .agg [v0, v1, .int .u8 x0.Result, .bool x0.Reads, .int .i64 x0.Fuel, .int .i64 x0.Stack, .int .i64 x0.Heap, v2].toArray) :: σ) (St w0 hA hV (slP (kInt .u8) v0 x0.Args :: slP (kInt .u8) v1 x0.Locals :: slP k_api_Instr v2 x0.Code :: ps) os) L l Q) : SP P n ρ σ (St w0 hA hV ps os) L (⟨some d, .load t x, tr, pos, af, g⟩ :: l) Q :=
  SP.loadP see i hi hu hd hs hg hn hx fun cs a w ha hw => by
    obtain ⟨m, fr, hN, hO, n1, n2, dj, s1, s2, ap, s⟩ := hw
    obtain ⟨v0, v1, v2, e, p0, p1, p2⟩ := ap.get 0 rfl
    subst e
    exact h v0 v1 v2 a w ha ⟨m, fr, hN, hO, n1, n2, dj, s1, s2, All.cons p0 (All.cons p1 (All.cons p2 ((fun y hy => ap y (List.mem_cons_of_mem _ hy))))), s⟩
structure api_Module where
  Globals : (List api_Value)
  Pool : (List api_Value)
  Methods : (List api_Method)
  Migrate : Int
def api_Module.zero : api_Module := ⟨[], [], [], 0⟩
def k_api_Module : Kd api_Module := ⟨4, fun h cs x => ∃ v0 v1 v2 : Value, cs = [v0, v1, v2, .int .i64 x.Migrate] ∧ slR k_api_Value h v0 x.Globals ∧ slR k_api_Value h v1 x.Pool ∧ slR k_api_Method h v2 x.Methods,
  fun _ _ _ _ s ⟨v0, v1, v2, e, p0, p1, p2⟩ => ⟨v0, v1, v2, e, slR.mono s p0, slR.mono s p1, slR.mono s p2⟩, fun _ _ _ ⟨v0, v1, v2, e, p0, p1, p2⟩ => by simp [e],
  fun _ _ _ ⟨v0, v1, v2, e, p0, p1, p2⟩ => by subst e; obtain ⟨_, _, rfl, -⟩ := p0; obtain ⟨_, _, rfl, -⟩ := p1; obtain ⟨_, _, rfl, -⟩ := p2; rfl⟩
theorem k_api_Module.load {P : Program} {n : Fr} {ρ : Option Nat} {σ : List (Nat × Value)} {w0 : World} {hA hV : Hp} {ps : List HP} {os : List HO} {L l : List Oper} {Q : Cont} {d : Nat} {t tr : TypeId} {x : Operand} {pos : String} {af : Array Edge} {g : Option (Nat × Bool)} {v : Value} (see : Sees w0 hA hV) (i : Nat) {x0 : api_Module} (hi : ps[i]? = some (elP k_api_Module v x0)) {dsc : TypeDesc} (hu : P.underlying t = some dsc) (hd : (match dsc with | .struct _ | .array _ _ => true | _ => false) = true) (hs : (P.info? t).map (·.size) = some 4) (hg : gd L σ g = some true) (hn : Nat.blt d n.n = true) (hx : ev σ x = some v)
    (h : ∀ v0 v1 v2, SP P n ρ ((d, .agg [v0, v1, v2, .int .i64 x0.Migrate].toArray) :: σ) (St w0 hA hV (slP k_api_Value v0 x0.Globals :: slP k_api_Value v1 x0.Pool :: slP k_api_Method v2 x0.Methods :: ps) os) L l Q) : SP P n ρ σ (St w0 hA hV ps os) L (⟨some d, .load t x, tr, pos, af, g⟩ :: l) Q :=
  SP.loadP see i hi hu hd hs hg hn hx fun cs a w ha hw => by
    obtain ⟨m, fr, hN, hO, n1, n2, dj, s1, s2, ap, s⟩ := hw
    obtain ⟨v0, v1, v2, e, p0, p1, p2⟩ := ap.get 0 rfl
    subst e
    exact h v0 v1 v2 a w ha ⟨m, fr, hN, hO, n1, n2, dj, s1, s2, All.cons p0 (All.cons p1 (All.cons p2 ((fun y hy => ap y (List.mem_cons_of_mem _ hy))))), s⟩
structure api_Cert where
  Fuel : Int
  Stack : Int
  Heap : Int
def api_Cert.zero : api_Cert := ⟨0, 0, 0⟩
def k_api_Cert : Kd api_Cert := ⟨3, fun h cs x => cs = [.int .i64 x.Fuel, .int .i64 x.Stack, .int .i64 x.Heap], fun _ _ _ _ _ h => h, fun _ _ _ h => by simp [h], fun _ _ _ h => by subst h; rfl⟩
theorem k_api_Cert.load {P : Program} {n : Fr} {ρ : Option Nat} {σ : List (Nat × Value)} {w0 : World} {hA hV : Hp} {ps : List HP} {os : List HO} {L l : List Oper} {Q : Cont} {d : Nat} {t tr : TypeId} {x : Operand} {pos : String} {af : Array Edge} {g : Option (Nat × Bool)} {v : Value} (see : Sees w0 hA hV) (i : Nat) {x0 : api_Cert} (hi : ps[i]? = some (elP k_api_Cert v x0)) {dsc : TypeDesc} (hu : P.underlying t = some dsc) (hd : (match dsc with | .struct _ | .array _ _ => true | _ => false) = true) (hs : (P.info? t).map (·.size) = some 3) (hg : gd L σ g = some true) (hn : Nat.blt d n.n = true) (hx : ev σ x = some v)
    (h : SP P n ρ ((d, .agg [.int .i64 x0.Fuel, .int .i64 x0.Stack, .int .i64 x0.Heap].toArray) :: σ) (St w0 hA hV (ps) os) L l Q) : SP P n ρ σ (St w0 hA hV ps os) L (⟨some d, .load t x, tr, pos, af, g⟩ :: l) Q :=
  SP.loadP see i hi hu hd hs hg hn hx fun cs a w ha hw => by
    obtain ⟨m, fr, hN, hO, n1, n2, dj, s1, s2, ap, s⟩ := hw
    obtain rfl := ap.get 0 rfl
    exact h a w ha ⟨m, fr, hN, hO, n1, n2, dj, s1, s2, (fun y hy => ap y (List.mem_cons_of_mem _ hy)), s⟩
structure capstanref10_Row where
  Reached : Bool
  Kinds : (List Int)
def capstanref10_Row.zero : capstanref10_Row := ⟨false, []⟩
def k_capstanref10_Row : Kd capstanref10_Row := ⟨2, fun h cs x => ∃ v0 : Value, cs = [.bool x.Reached, v0] ∧ slR (kInt .u8) h v0 x.Kinds,
  fun _ _ _ _ s ⟨v0, e, p0⟩ => ⟨v0, e, slR.mono s p0⟩, fun _ _ _ ⟨v0, e, p0⟩ => by simp [e],
  fun _ _ _ ⟨v0, e, p0⟩ => by subst e; obtain ⟨_, _, rfl, -⟩ := p0; rfl⟩
theorem k_capstanref10_Row.part_Reached : Part k_capstanref10_Row 0 kBool (fun x => x.Reached) := fun h cs x ⟨v0, e, p0⟩ => ⟨[.bool x.Reached], rfl, by subst e; exact seg_get [.bool x.Reached, v0] 0 1⟩
theorem k_capstanref10_Row.part_Kinds : Part k_capstanref10_Row 1 (kSl (kInt .u8)) (fun x => x.Kinds) := fun h cs x ⟨v0, e, p0⟩ => ⟨[v0], ⟨v0, rfl, p0⟩, by subst e; exact seg_get [.bool x.Reached, v0] 1 1⟩
theorem k_capstanref10_Row.load {P : Program} {n : Fr} {ρ : Option Nat} {σ : List (Nat × Value)} {w0 : World} {hA hV : Hp} {ps : List HP} {os : List HO} {L l : List Oper} {Q : Cont} {d : Nat} {t tr : TypeId} {x : Operand} {pos : String} {af : Array Edge} {g : Option (Nat × Bool)} {v : Value} (see : Sees w0 hA hV) (i : Nat) {x0 : capstanref10_Row} (hi : ps[i]? = some (elP k_capstanref10_Row v x0)) {dsc : TypeDesc} (hu : P.underlying t = some dsc) (hd : (match dsc with | .struct _ | .array _ _ => true | _ => false) = true) (hs : (P.info? t).map (·.size) = some 2) (hg : gd L σ g = some true) (hn : Nat.blt d n.n = true) (hx : ev σ x = some v)
    (h : ∀ v0, SP P n ρ ((d, .agg [.bool x0.Reached, v0].toArray) :: σ) (St w0 hA hV (slP (kInt .u8) v0 x0.Kinds :: ps) os) L l Q) : SP P n ρ σ (St w0 hA hV ps os) L (⟨some d, .load t x, tr, pos, af, g⟩ :: l) Q :=
  SP.loadP see i hi hu hd hs hg hn hx fun cs a w ha hw => by
    obtain ⟨m, fr, hN, hO, n1, n2, dj, s1, s2, ap, s⟩ := hw
    obtain ⟨v0, e, p0⟩ := ap.get 0 rfl
    subst e
    exact h v0 a w ha ⟨m, fr, hN, hO, n1, n2, dj, s1, s2, All.cons p0 ((fun y hy => ap y (List.mem_cons_of_mem _ hy))), s⟩
structure capstanref09_Loop where
  From : Int
  To : Int
  Turns : Int
def capstanref09_Loop.zero : capstanref09_Loop := ⟨0, 0, 0⟩
def k_capstanref09_Loop : Kd capstanref09_Loop := ⟨3, fun h cs x => cs = [.int .i64 x.From, .int .i64 x.To, .int .i64 x.Turns], fun _ _ _ _ _ h => h, fun _ _ _ h => by simp [h], fun _ _ _ h => by subst h; rfl⟩
theorem k_capstanref09_Loop.part_Turns : Part k_capstanref09_Loop 2 (kInt .i64) (fun x => x.Turns) := fun h cs x e => ⟨[.int .i64 x.Turns], rfl, by subst e; exact seg_get [.int .i64 x.From, .int .i64 x.To, .int .i64 x.Turns] 2 1⟩
theorem k_capstanref09_Loop.load {P : Program} {n : Fr} {ρ : Option Nat} {σ : List (Nat × Value)} {w0 : World} {hA hV : Hp} {ps : List HP} {os : List HO} {L l : List Oper} {Q : Cont} {d : Nat} {t tr : TypeId} {x : Operand} {pos : String} {af : Array Edge} {g : Option (Nat × Bool)} {v : Value} (see : Sees w0 hA hV) (i : Nat) {x0 : capstanref09_Loop} (hi : ps[i]? = some (elP k_capstanref09_Loop v x0)) {dsc : TypeDesc} (hu : P.underlying t = some dsc) (hd : (match dsc with | .struct _ | .array _ _ => true | _ => false) = true) (hs : (P.info? t).map (·.size) = some 3) (hg : gd L σ g = some true) (hn : Nat.blt d n.n = true) (hx : ev σ x = some v)
    (h : SP P n ρ ((d, .agg [.int .i64 x0.From, .int .i64 x0.To, .int .i64 x0.Turns].toArray) :: σ) (St w0 hA hV (ps) os) L l Q) : SP P n ρ σ (St w0 hA hV ps os) L (⟨some d, .load t x, tr, pos, af, g⟩ :: l) Q :=
  SP.loadP see i hi hu hd hs hg hn hx fun cs a w ha hw => by
    obtain ⟨m, fr, hN, hO, n1, n2, dj, s1, s2, ap, s⟩ := hw
    obtain rfl := ap.get 0 rfl
    exact h a w ha ⟨m, fr, hN, hO, n1, n2, dj, s1, s2, (fun y hy => ap y (List.mem_cons_of_mem _ hy)), s⟩
structure types_Row where
  Reached : Bool
  Kinds : (List Int)
def types_Row.zero : types_Row := ⟨false, []⟩
def k_types_Row : Kd types_Row := ⟨2, fun h cs x => ∃ v0 : Value, cs = [.bool x.Reached, v0] ∧ slR (kInt .u8) h v0 x.Kinds,
  fun _ _ _ _ s ⟨v0, e, p0⟩ => ⟨v0, e, slR.mono s p0⟩, fun _ _ _ ⟨v0, e, p0⟩ => by simp [e],
  fun _ _ _ ⟨v0, e, p0⟩ => by subst e; obtain ⟨_, _, rfl, -⟩ := p0; rfl⟩
theorem k_types_Row.part_Reached : Part k_types_Row 0 kBool (fun x => x.Reached) := fun h cs x ⟨v0, e, p0⟩ => ⟨[.bool x.Reached], rfl, by subst e; exact seg_get [.bool x.Reached, v0] 0 1⟩
theorem k_types_Row.part_Kinds : Part k_types_Row 1 (kSl (kInt .u8)) (fun x => x.Kinds) := fun h cs x ⟨v0, e, p0⟩ => ⟨[v0], ⟨v0, rfl, p0⟩, by subst e; exact seg_get [.bool x.Reached, v0] 1 1⟩
theorem k_types_Row.load {P : Program} {n : Fr} {ρ : Option Nat} {σ : List (Nat × Value)} {w0 : World} {hA hV : Hp} {ps : List HP} {os : List HO} {L l : List Oper} {Q : Cont} {d : Nat} {t tr : TypeId} {x : Operand} {pos : String} {af : Array Edge} {g : Option (Nat × Bool)} {v : Value} (see : Sees w0 hA hV) (i : Nat) {x0 : types_Row} (hi : ps[i]? = some (elP k_types_Row v x0)) {dsc : TypeDesc} (hu : P.underlying t = some dsc) (hd : (match dsc with | .struct _ | .array _ _ => true | _ => false) = true) (hs : (P.info? t).map (·.size) = some 2) (hg : gd L σ g = some true) (hn : Nat.blt d n.n = true) (hx : ev σ x = some v)
    (h : ∀ v0, SP P n ρ ((d, .agg [.bool x0.Reached, v0].toArray) :: σ) (St w0 hA hV (slP (kInt .u8) v0 x0.Kinds :: ps) os) L l Q) : SP P n ρ σ (St w0 hA hV ps os) L (⟨some d, .load t x, tr, pos, af, g⟩ :: l) Q :=
  SP.loadP see i hi hu hd hs hg hn hx fun cs a w ha hw => by
    obtain ⟨m, fr, hN, hO, n1, n2, dj, s1, s2, ap, s⟩ := hw
    obtain ⟨v0, e, p0⟩ := ap.get 0 rfl
    subst e
    exact h v0 a w ha ⟨m, fr, hN, hO, n1, n2, dj, s1, s2, All.cons p0 ((fun y hy => ap y (List.mem_cons_of_mem _ hy))), s⟩
structure flow_Loop where
  From : Int
  To : Int
  Turns : Int
def flow_Loop.zero : flow_Loop := ⟨0, 0, 0⟩
def k_flow_Loop : Kd flow_Loop := ⟨3, fun h cs x => cs = [.int .i64 x.From, .int .i64 x.To, .int .i64 x.Turns], fun _ _ _ _ _ h => h, fun _ _ _ h => by simp [h], fun _ _ _ h => by subst h; rfl⟩
theorem k_flow_Loop.part_Turns : Part k_flow_Loop 2 (kInt .i64) (fun x => x.Turns) := fun h cs x e => ⟨[.int .i64 x.Turns], rfl, by subst e; exact seg_get [.int .i64 x.From, .int .i64 x.To, .int .i64 x.Turns] 2 1⟩
theorem k_flow_Loop.load {P : Program} {n : Fr} {ρ : Option Nat} {σ : List (Nat × Value)} {w0 : World} {hA hV : Hp} {ps : List HP} {os : List HO} {L l : List Oper} {Q : Cont} {d : Nat} {t tr : TypeId} {x : Operand} {pos : String} {af : Array Edge} {g : Option (Nat × Bool)} {v : Value} (see : Sees w0 hA hV) (i : Nat) {x0 : flow_Loop} (hi : ps[i]? = some (elP k_flow_Loop v x0)) {dsc : TypeDesc} (hu : P.underlying t = some dsc) (hd : (match dsc with | .struct _ | .array _ _ => true | _ => false) = true) (hs : (P.info? t).map (·.size) = some 3) (hg : gd L σ g = some true) (hn : Nat.blt d n.n = true) (hx : ev σ x = some v)
    (h : SP P n ρ ((d, .agg [.int .i64 x0.From, .int .i64 x0.To, .int .i64 x0.Turns].toArray) :: σ) (St w0 hA hV (ps) os) L l Q) : SP P n ρ σ (St w0 hA hV ps os) L (⟨some d, .load t x, tr, pos, af, g⟩ :: l) Q :=
  SP.loadP see i hi hu hd hs hg hn hx fun cs a w ha hw => by
    obtain ⟨m, fr, hN, hO, n1, n2, dj, s1, s2, ap, s⟩ := hw
    obtain rfl := ap.get 0 rfl
    exact h a w ha ⟨m, fr, hN, hO, n1, n2, dj, s1, s2, (fun y hy => ap y (List.mem_cons_of_mem _ hy)), s⟩
structure arr221 where
  e0 : Int
  e1 : Int
def arr221.zero : arr221 := ⟨0, 0⟩
def k_arr221 : Kd arr221 := ⟨2, fun h cs x => cs = [.int .i64 x.e0, .int .i64 x.e1], fun _ _ _ _ _ h => h, fun _ _ _ h => by simp [h], fun _ _ _ h => by subst h; rfl⟩
theorem k_arr221.load {P : Program} {n : Fr} {ρ : Option Nat} {σ : List (Nat × Value)} {w0 : World} {hA hV : Hp} {ps : List HP} {os : List HO} {L l : List Oper} {Q : Cont} {d : Nat} {t tr : TypeId} {x : Operand} {pos : String} {af : Array Edge} {g : Option (Nat × Bool)} {v : Value} (see : Sees w0 hA hV) (i : Nat) {x0 : arr221} (hi : ps[i]? = some (elP k_arr221 v x0)) {dsc : TypeDesc} (hu : P.underlying t = some dsc) (hd : (match dsc with | .struct _ | .array _ _ => true | _ => false) = true) (hs : (P.info? t).map (·.size) = some 2) (hg : gd L σ g = some true) (hn : Nat.blt d n.n = true) (hx : ev σ x = some v)
    (h : SP P n ρ ((d, .agg [.int .i64 x0.e0, .int .i64 x0.e1].toArray) :: σ) (St w0 hA hV (ps) os) L l Q) : SP P n ρ σ (St w0 hA hV ps os) L (⟨some d, .load t x, tr, pos, af, g⟩ :: l) Q :=
  SP.loadP see i hi hu hd hs hg hn hx fun cs a w ha hw => by
    obtain ⟨m, fr, hN, hO, n1, n2, dj, s1, s2, ap, s⟩ := hw
    obtain rfl := ap.get 0 rfl
    exact h a w ha ⟨m, fr, hN, hO, n1, n2, dj, s1, s2, (fun y hy => ap y (List.mem_cons_of_mem _ hy)), s⟩
structure op_Shape where
  Takes : (List Int)
  Gives : (List Int)
def op_Shape.zero : op_Shape := ⟨[], []⟩
def k_op_Shape : Kd op_Shape := ⟨2, fun h cs x => ∃ v0 v1 : Value, cs = [v0, v1] ∧ slR (kInt .u8) h v0 x.Takes ∧ slR (kInt .u8) h v1 x.Gives,
  fun _ _ _ _ s ⟨v0, v1, e, p0, p1⟩ => ⟨v0, v1, e, slR.mono s p0, slR.mono s p1⟩, fun _ _ _ ⟨v0, v1, e, p0, p1⟩ => by simp [e],
  fun _ _ _ ⟨v0, v1, e, p0, p1⟩ => by subst e; obtain ⟨_, _, rfl, -⟩ := p0; obtain ⟨_, _, rfl, -⟩ := p1; rfl⟩
theorem k_op_Shape.load {P : Program} {n : Fr} {ρ : Option Nat} {σ : List (Nat × Value)} {w0 : World} {hA hV : Hp} {ps : List HP} {os : List HO} {L l : List Oper} {Q : Cont} {d : Nat} {t tr : TypeId} {x : Operand} {pos : String} {af : Array Edge} {g : Option (Nat × Bool)} {v : Value} (see : Sees w0 hA hV) (i : Nat) {x0 : op_Shape} (hi : ps[i]? = some (elP k_op_Shape v x0)) {dsc : TypeDesc} (hu : P.underlying t = some dsc) (hd : (match dsc with | .struct _ | .array _ _ => true | _ => false) = true) (hs : (P.info? t).map (·.size) = some 2) (hg : gd L σ g = some true) (hn : Nat.blt d n.n = true) (hx : ev σ x = some v)
    (h : ∀ v0 v1, SP P n ρ ((d, .agg [v0, v1].toArray) :: σ) (St w0 hA hV (slP (kInt .u8) v0 x0.Takes :: slP (kInt .u8) v1 x0.Gives :: ps) os) L l Q) : SP P n ρ σ (St w0 hA hV ps os) L (⟨some d, .load t x, tr, pos, af, g⟩ :: l) Q :=
  SP.loadP see i hi hu hd hs hg hn hx fun cs a w ha hw => by
    obtain ⟨m, fr, hN, hO, n1, n2, dj, s1, s2, ap, s⟩ := hw
    obtain ⟨v0, v1, e, p0, p1⟩ := ap.get 0 rfl
    subst e
    exact h v0 v1 a w ha ⟨m, fr, hN, hO, n1, n2, dj, s1, s2, All.cons p0 (All.cons p1 ((fun y hy => ap y (List.mem_cons_of_mem _ hy)))), s⟩
theorem sz3 : (Tryz.prog.info? 3).map (·.size) = some 1 := by kernel_rfl
theorem sz4 : (Tryz.prog.info? 4).map (·.size) = some 1 := by kernel_rfl
theorem sz5 : (Tryz.prog.info? 5).map (·.size) = some 1 := by kernel_rfl
theorem sz22 : (Tryz.prog.info? 22).map (·.size) = some 1 := by kernel_rfl
theorem sz23 : (Tryz.prog.info? 23).map (·.size) = some 1 := by kernel_rfl
theorem sz25 : (Tryz.prog.info? 25).map (·.size) = some 4 := by kernel_rfl
theorem sz36 : (Tryz.prog.info? 36).map (·.size) = some 3 := by kernel_rfl
theorem sz38 : (Tryz.prog.info? 38).map (·.size) = some 1 := by kernel_rfl
theorem sz39 : (Tryz.prog.info? 39).map (·.size) = some 1 := by kernel_rfl
theorem sz41 : (Tryz.prog.info? 41).map (·.size) = some 8 := by kernel_rfl
theorem sz45 : (Tryz.prog.info? 45).map (·.size) = some 1 := by kernel_rfl
theorem sz55 : (Tryz.prog.info? 55).map (·.size) = some 1 := by kernel_rfl
theorem sz62 : (Tryz.prog.info? 62).map (·.size) = some 3 := by kernel_rfl
theorem sz63 : (Tryz.prog.info? 63).map (·.size) = some 1 := by kernel_rfl
theorem sz71 : (Tryz.prog.info? 71).map (·.size) = some 3 := by kernel_rfl
theorem sz73 : (Tryz.prog.info? 73).map (·.size) = some 2 := by kernel_rfl
theorem sz93 : (Tryz.prog.info? 93).map (·.size) = some 1 := by kernel_rfl
theorem sz95 : (Tryz.prog.info? 95).map (·.size) = some 400 := by kernel_rfl
theorem sz115 : (Tryz.prog.info? 115).map (·.size) = some 3 := by kernel_rfl
theorem sz127 : (Tryz.prog.info? 127).map (·.size) = some 2 := by kernel_rfl
theorem sz152 : (Tryz.prog.info? 152).map (·.size) = some 3 := by kernel_rfl
theorem sz159 : (Tryz.prog.info? 159).map (·.size) = some 3 := by kernel_rfl
theorem sz178 : (Tryz.prog.info? 178).map (·.size) = some 4 := by kernel_rfl
theorem sz186 : (Tryz.prog.info? 186).map (·.size) = some 2 := by kernel_rfl
theorem sz221 : (Tryz.prog.info? 221).map (·.size) = some 2 := by kernel_rfl
theorem inf3 : (Tryz.prog.info? 3).map (fun i => ((i.zero.map fun z => z.cells.toList), i.size, i.bytes)) = some (some [.int .i64 0], 1, 8) := by kernel_rfl
theorem inf5 : (Tryz.prog.info? 5).map (fun i => ((i.zero.map fun z => z.cells.toList), i.size, i.bytes)) = some (some [.int .u8 0], 1, 1) := by kernel_rfl
theorem inf25 : (Tryz.prog.info? 25).map (fun i => ((i.zero.map fun z => z.cells.toList), i.size, i.bytes)) = some (some [(.slice none 0 0), (.slice none 0 0), (.slice none 0 0), .int .i64 0], 4, 80) := by kernel_rfl
theorem inf36 : (Tryz.prog.info? 36).map (fun i => ((i.zero.map fun z => z.cells.toList), i.size, i.bytes)) = some (some [.int .i64 0, .int .i64 0, .int .i64 0], 3, 24) := by kernel_rfl
theorem inf38 : (Tryz.prog.info? 38).map (fun i => ((i.zero.map fun z => z.cells.toList), i.size, i.bytes)) = some (some [(.slice none 0 0)], 1, 24) := by kernel_rfl
theorem inf41 : (Tryz.prog.info? 41).map (fun i => ((i.zero.map fun z => z.cells.toList), i.size, i.bytes)) = some (some [(.slice none 0 0), (.slice none 0 0), .int .u8 0, .bool false, .int .i64 0, .int .i64 0, .int .i64 0, (.slice none 0 0)], 8, 104) := by kernel_rfl
theorem inf45 : (Tryz.prog.info? 45).map (fun i => ((i.zero.map fun z => z.cells.toList), i.size, i.bytes)) = some (some [.int .i64 0], 1, 8) := by kernel_rfl
theorem inf55 : (Tryz.prog.info? 55).map (fun i => ((i.zero.map fun z => z.cells.toList), i.size, i.bytes)) = some (some [(.slice none 0 0)], 1, 24) := by kernel_rfl
theorem inf62 : (Tryz.prog.info? 62).map (fun i => ((i.zero.map fun z => z.cells.toList), i.size, i.bytes)) = some (some [.int .u8 0, .int .i64 0, .int .i64 0], 3, 24) := by kernel_rfl
theorem inf71 : (Tryz.prog.info? 71).map (fun i => ((i.zero.map fun z => z.cells.toList), i.size, i.bytes)) = some (some [.int .u8 0, .int .i64 0, .int .i64 0], 3, 24) := by kernel_rfl
theorem inf73 : (Tryz.prog.info? 73).map (fun i => ((i.zero.map fun z => z.cells.toList), i.size, i.bytes)) = some (some [.bool false, (.slice none 0 0)], 2, 32) := by kernel_rfl
theorem inf93 : (Tryz.prog.info? 93).map (fun i => ((i.zero.map fun z => z.cells.toList), i.size, i.bytes)) = some (some [.pointer none], 1, 8) := by kernel_rfl
theorem inf127 : (Tryz.prog.info? 127).map (fun i => ((i.zero.map fun z => z.cells.toList), i.size, i.bytes)) = some (some [.bool false, (.slice none 0 0)], 2, 32) := by kernel_rfl
theorem inf152 : (Tryz.prog.info? 152).map (fun i => ((i.zero.map fun z => z.cells.toList), i.size, i.bytes)) = some (some [.int .i64 0, .int .i64 0, .int .i64 0], 3, 24) := by kernel_rfl
theorem inf159 : (Tryz.prog.info? 159).map (fun i => ((i.zero.map fun z => z.cells.toList), i.size, i.bytes)) = some (some [.int .i64 0, .int .i64 0, .int .i64 0], 3, 24) := by kernel_rfl
theorem inf180 : (Tryz.prog.info? 180).map (fun i => ((i.zero.map fun z => z.cells.toList), i.size, i.bytes)) = some (some [.int .i64 0, .int .i64 0, .int .i64 0, .int .i64 0, .int .i64 0], 5, 40) := by kernel_rfl
theorem inf186 : (Tryz.prog.info? 186).map (fun i => ((i.zero.map fun z => z.cells.toList), i.size, i.bytes)) = some (some [(.slice none 0 0), (.slice none 0 0)], 2, 48) := by kernel_rfl
theorem inf221 : (Tryz.prog.info? 221).map (fun i => ((i.zero.map fun z => z.cells.toList), i.size, i.bytes)) = some (some [.int .i64 0, .int .i64 0], 2, 16) := by kernel_rfl
def zz200_2384 : List Value := (List.replicate 200 [.bool false, (.slice none 0 0)]).flatten
theorem bt25 : shapeOf Tryz.prog 25 = some ([(.slice none 0 0), (.slice none 0 0), (.slice none 0 0), .int .i64 0], [(0, 1), (1, 1), (2, 1), (3, 1)]) := by kernel_rfl
theorem bt36 : shapeOf Tryz.prog 36 = some ([.int .i64 0, .int .i64 0, .int .i64 0], [(0, 1), (1, 1), (2, 1)]) := by kernel_rfl
theorem bt73 : shapeOf Tryz.prog 73 = some ([.bool false, (.slice none 0 0)], [(0, 1), (1, 1)]) := by kernel_rfl
theorem bt97 : shapeOf Tryz.prog 97 = some (([(.slice none 0 0), (.slice none 0 0), (.slice none 0 0), .int .i64 0, (.slice none 0 0), (.slice none 0 0), .int .u8 0, .bool false, .int .i64 0, .int .i64 0, .int .i64 0, (.slice none 0 0), (.slice none 0 0)] ++ zz200_2384), [(0, 4), (4, 8), (12, 1), (13, 400)]) := by kernel_rfl
theorem bt117 : shapeOf Tryz.prog 117 = some ([.int .i64 0, .int .i64 0, .int .i64 0, (.slice none 0 0), (.slice none 0 0), .int .u8 0, .bool false, .int .i64 0, .int .i64 0, .int .i64 0, (.slice none 0 0), (.slice none 0 0)], [(0, 3), (3, 8), (11, 1)]) := by kernel_rfl
theorem bt152 : shapeOf Tryz.prog 152 = some ([.int .i64 0, .int .i64 0, .int .i64 0], [(0, 1), (1, 1), (2, 1)]) := by kernel_rfl
theorem bt159 : shapeOf Tryz.prog 159 = some ([.int .i64 0, .int .i64 0, .int .i64 0], [(0, 1), (1, 1), (2, 1)]) := by kernel_rfl
theorem bt186 : shapeOf Tryz.prog 186 = some ([(.slice none 0 0), (.slice none 0 0)], [(0, 1), (1, 1)]) := by kernel_rfl
theorem eqA36 (d : Nat) (w : World) (x0 y0 : Int) (x1 y1 : Int) (x2 y2 : Int) : (Op.equalIn (d + 2) 36 (.agg #[.int .i64 x0, .int .i64 x1, .int .i64 x2]) (.agg #[.int .i64 y0, .int .i64 y1, .int .i64 y2])).run Tryz.prog w = .ok (x0 == y0 && (x1 == y1 && (x2 == y2))) w := by
  refine eqA_of Tryz.underlying36 (by kernel_rfl) ?_
  refine eqf_cons (by rfl) (run_part1 Tryz.underlying3 rfl rfl) (run_part1 Tryz.underlying3 rfl rfl) (run_equalIn_int w _ 3 _ _ _ _ Tryz.underlying3) ?_
  refine eqf_cons (by rfl) (run_part1 Tryz.underlying3 rfl rfl) (run_part1 Tryz.underlying3 rfl rfl) (run_equalIn_int w _ 3 _ _ _ _ Tryz.underlying3) ?_
  exact eqf_last (by rfl) (run_part1 Tryz.underlying3 rfl rfl) (run_part1 Tryz.underlying3 rfl rfl) (run_equalIn_int w _ 3 _ _ _ _ Tryz.underlying3)
theorem eqA62 (d : Nat) (w : World) (x0 y0 : Int) (x1 y1 : Int) (x2 y2 : Int) : (Op.equalIn (d + 2) 62 (.agg #[.int .u8 x0, .int .i64 x1, .int .i64 x2]) (.agg #[.int .u8 y0, .int .i64 y1, .int .i64 y2])).run Tryz.prog w = .ok (x0 == y0 && (x1 == y1 && (x2 == y2))) w := by
  refine eqA_of Tryz.underlying62 (by kernel_rfl) ?_
  refine eqf_cons (by rfl) (run_part1 Tryz.underlying5 rfl rfl) (run_part1 Tryz.underlying5 rfl rfl) (run_equalIn_int w _ 5 _ _ _ _ Tryz.underlying5) ?_
  refine eqf_cons (by rfl) (run_part1 Tryz.underlying2 rfl rfl) (run_part1 Tryz.underlying2 rfl rfl) (run_equalIn_int w _ 2 _ _ _ _ Tryz.underlying2) ?_
  exact eqf_last (by rfl) (run_part1 Tryz.underlying2 rfl rfl) (run_part1 Tryz.underlying2 rfl rfl) (run_equalIn_int w _ 2 _ _ _ _ Tryz.underlying2)
theorem eqA71 (d : Nat) (w : World) (x0 y0 : Int) (x1 y1 : Int) (x2 y2 : Int) : (Op.equalIn (d + 2) 71 (.agg #[.int .u8 x0, .int .i64 x1, .int .i64 x2]) (.agg #[.int .u8 y0, .int .i64 y1, .int .i64 y2])).run Tryz.prog w = .ok (x0 == y0 && (x1 == y1 && (x2 == y2))) w := by
  refine eqA_of Tryz.underlying71 (by kernel_rfl) ?_
  refine eqf_cons (by rfl) (run_part1 Tryz.underlying5 rfl rfl) (run_part1 Tryz.underlying5 rfl rfl) (run_equalIn_int w _ 5 _ _ _ _ Tryz.underlying5) ?_
  refine eqf_cons (by rfl) (run_part1 Tryz.underlying3 rfl rfl) (run_part1 Tryz.underlying3 rfl rfl) (run_equalIn_int w _ 3 _ _ _ _ Tryz.underlying3) ?_
  exact eqf_last (by rfl) (run_part1 Tryz.underlying3 rfl rfl) (run_part1 Tryz.underlying3 rfl rfl) (run_equalIn_int w _ 3 _ _ _ _ Tryz.underlying3)
theorem fn24 : ((Tryz.prog.funcs[24]?).map fun fn => fn.body.isSome && !(fn.name == "runtime.NumGoroutine")) = some true := by rw [Tryz.func24]; rfl
theorem fn12 : ((Tryz.prog.funcs[12]?).map fun fn => fn.body.isSome && !(fn.name == "runtime.NumGoroutine")) = some true := by rw [Tryz.func12]; rfl
theorem fn25 : ((Tryz.prog.funcs[25]?).map fun fn => fn.body.isSome && !(fn.name == "runtime.NumGoroutine")) = some true := by rw [Tryz.func25]; rfl
theorem fn26 : ((Tryz.prog.funcs[26]?).map fun fn => fn.body.isSome && !(fn.name == "runtime.NumGoroutine")) = some true := by rw [Tryz.func26]; rfl
theorem fn13 : ((Tryz.prog.funcs[13]?).map fun fn => fn.body.isSome && !(fn.name == "runtime.NumGoroutine")) = some true := by rw [Tryz.func13]; rfl
theorem fn81 : ((Tryz.prog.funcs[81]?).map fun fn => fn.body.isSome && !(fn.name == "runtime.NumGoroutine")) = some true := by rw [Tryz.func81]; rfl
theorem fn59 : ((Tryz.prog.funcs[59]?).map fun fn => fn.body.isSome && !(fn.name == "runtime.NumGoroutine")) = some true := by rw [Tryz.func59]; rfl
theorem fn60 : ((Tryz.prog.funcs[60]?).map fun fn => fn.body.isSome && !(fn.name == "runtime.NumGoroutine")) = some true := by rw [Tryz.func60]; rfl
theorem fn30 : ((Tryz.prog.funcs[30]?).map fun fn => fn.body.isSome && !(fn.name == "runtime.NumGoroutine")) = some true := by rw [Tryz.func30]; rfl
theorem fn142 : ((Tryz.prog.funcs[142]?).map fun fn => fn.body.isSome && !(fn.name == "runtime.NumGoroutine")) = some true := by rw [Tryz.func142]; rfl
theorem fn117 : ((Tryz.prog.funcs[117]?).map fun fn => fn.body.isSome && !(fn.name == "runtime.NumGoroutine")) = some true := by rw [Tryz.func117]; rfl
theorem fn82 : ((Tryz.prog.funcs[82]?).map fun fn => fn.body.isSome && !(fn.name == "runtime.NumGoroutine")) = some true := by rw [Tryz.func82]; rfl
theorem fn83 : ((Tryz.prog.funcs[83]?).map fun fn => fn.body.isSome && !(fn.name == "runtime.NumGoroutine")) = some true := by rw [Tryz.func83]; rfl
theorem fn85 : ((Tryz.prog.funcs[85]?).map fun fn => fn.body.isSome && !(fn.name == "runtime.NumGoroutine")) = some true := by rw [Tryz.func85]; rfl
theorem fn118 : ((Tryz.prog.funcs[118]?).map fun fn => fn.body.isSome && !(fn.name == "runtime.NumGoroutine")) = some true := by rw [Tryz.func118]; rfl
theorem fn119 : ((Tryz.prog.funcs[119]?).map fun fn => fn.body.isSome && !(fn.name == "runtime.NumGoroutine")) = some true := by rw [Tryz.func119]; rfl
theorem fn84 : ((Tryz.prog.funcs[84]?).map fun fn => fn.body.isSome && !(fn.name == "runtime.NumGoroutine")) = some true := by rw [Tryz.func84]; rfl
theorem fn61 : ((Tryz.prog.funcs[61]?).map fun fn => fn.body.isSome && !(fn.name == "runtime.NumGoroutine")) = some true := by rw [Tryz.func61]; rfl
theorem fn62 : ((Tryz.prog.funcs[62]?).map fun fn => fn.body.isSome && !(fn.name == "runtime.NumGoroutine")) = some true := by rw [Tryz.func62]; rfl
theorem fn86 : ((Tryz.prog.funcs[86]?).map fun fn => fn.body.isSome && !(fn.name == "runtime.NumGoroutine")) = some true := by rw [Tryz.func86]; rfl
theorem fn120 : ((Tryz.prog.funcs[120]?).map fun fn => fn.body.isSome && !(fn.name == "runtime.NumGoroutine")) = some true := by rw [Tryz.func120]; rfl
theorem fn87 : ((Tryz.prog.funcs[87]?).map fun fn => fn.body.isSome && !(fn.name == "runtime.NumGoroutine")) = some true := by rw [Tryz.func87]; rfl
theorem fn88 : ((Tryz.prog.funcs[88]?).map fun fn => fn.body.isSome && !(fn.name == "runtime.NumGoroutine")) = some true := by rw [Tryz.func88]; rfl
theorem fn89 : ((Tryz.prog.funcs[89]?).map fun fn => fn.body.isSome && !(fn.name == "runtime.NumGoroutine")) = some true := by rw [Tryz.func89]; rfl
theorem fn121 : ((Tryz.prog.funcs[121]?).map fun fn => fn.body.isSome && !(fn.name == "runtime.NumGoroutine")) = some true := by rw [Tryz.func121]; rfl
theorem fn143 : ((Tryz.prog.funcs[143]?).map fun fn => fn.body.isSome && !(fn.name == "runtime.NumGoroutine")) = some true := by rw [Tryz.func143]; rfl
theorem fn122 : ((Tryz.prog.funcs[122]?).map fun fn => fn.body.isSome && !(fn.name == "runtime.NumGoroutine")) = some true := by rw [Tryz.func122]; rfl
theorem fn90 : ((Tryz.prog.funcs[90]?).map fun fn => fn.body.isSome && !(fn.name == "runtime.NumGoroutine")) = some true := by rw [Tryz.func90]; rfl
theorem fn63 : ((Tryz.prog.funcs[63]?).map fun fn => fn.body.isSome && !(fn.name == "runtime.NumGoroutine")) = some true := by rw [Tryz.func63]; rfl
theorem fn64 : ((Tryz.prog.funcs[64]?).map fun fn => fn.body.isSome && !(fn.name == "runtime.NumGoroutine")) = some true := by rw [Tryz.func64]; rfl
theorem fn65 : ((Tryz.prog.funcs[65]?).map fun fn => fn.body.isSome && !(fn.name == "runtime.NumGoroutine")) = some true := by rw [Tryz.func65]; rfl
theorem fn31 : ((Tryz.prog.funcs[31]?).map fun fn => fn.body.isSome && !(fn.name == "runtime.NumGoroutine")) = some true := by rw [Tryz.func31]; rfl
theorem fn66 : ((Tryz.prog.funcs[66]?).map fun fn => fn.body.isSome && !(fn.name == "runtime.NumGoroutine")) = some true := by rw [Tryz.func66]; rfl
theorem fn67 : ((Tryz.prog.funcs[67]?).map fun fn => fn.body.isSome && !(fn.name == "runtime.NumGoroutine")) = some true := by rw [Tryz.func67]; rfl
theorem fn32 : ((Tryz.prog.funcs[32]?).map fun fn => fn.body.isSome && !(fn.name == "runtime.NumGoroutine")) = some true := by rw [Tryz.func32]; rfl
theorem fn33 : ((Tryz.prog.funcs[33]?).map fun fn => fn.body.isSome && !(fn.name == "runtime.NumGoroutine")) = some true := by rw [Tryz.func33]; rfl
theorem fn16 : ((Tryz.prog.funcs[16]?).map fun fn => fn.body.isSome && !(fn.name == "runtime.NumGoroutine")) = some true := by rw [Tryz.func16]; rfl
theorem fn68 : ((Tryz.prog.funcs[68]?).map fun fn => fn.body.isSome && !(fn.name == "runtime.NumGoroutine")) = some true := by rw [Tryz.func68]; rfl
theorem fn91 : ((Tryz.prog.funcs[91]?).map fun fn => fn.body.isSome && !(fn.name == "runtime.NumGoroutine")) = some true := by rw [Tryz.func91]; rfl
theorem fn39 : ((Tryz.prog.funcs[39]?).map fun fn => fn.body.isSome && !(fn.name == "runtime.NumGoroutine")) = some true := by rw [Tryz.func39]; rfl
theorem fn40 : ((Tryz.prog.funcs[40]?).map fun fn => fn.body.isSome && !(fn.name == "runtime.NumGoroutine")) = some true := by rw [Tryz.func40]; rfl
theorem fn38 : ((Tryz.prog.funcs[38]?).map fun fn => fn.body.isSome && !(fn.name == "runtime.NumGoroutine")) = some true := by rw [Tryz.func38]; rfl
theorem fn50 : ((Tryz.prog.funcs[50]?).map fun fn => fn.body.isSome && !(fn.name == "runtime.NumGoroutine")) = some true := by rw [Tryz.func50]; rfl
theorem fn52 : ((Tryz.prog.funcs[52]?).map fun fn => fn.body.isSome && !(fn.name == "runtime.NumGoroutine")) = some true := by rw [Tryz.func52]; rfl
theorem fn51 : ((Tryz.prog.funcs[51]?).map fun fn => fn.body.isSome && !(fn.name == "runtime.NumGoroutine")) = some true := by rw [Tryz.func51]; rfl
theorem fn79 : ((Tryz.prog.funcs[79]?).map fun fn => fn.body.isSome && !(fn.name == "runtime.NumGoroutine")) = some true := by rw [Tryz.func79]; rfl
theorem fn53 : ((Tryz.prog.funcs[53]?).map fun fn => fn.body.isSome && !(fn.name == "runtime.NumGoroutine")) = some true := by rw [Tryz.func53]; rfl
theorem fn27 : ((Tryz.prog.funcs[27]?).map fun fn => fn.body.isSome && !(fn.name == "runtime.NumGoroutine")) = some true := by rw [Tryz.func27]; rfl
theorem fn138 : ((Tryz.prog.funcs[138]?).map fun fn => fn.body.isSome && !(fn.name == "runtime.NumGoroutine")) = some true := by rw [Tryz.func138]; rfl
theorem fn139 : ((Tryz.prog.funcs[139]?).map fun fn => fn.body.isSome && !(fn.name == "runtime.NumGoroutine")) = some true := by rw [Tryz.func139]; rfl
theorem fn129 : ((Tryz.prog.funcs[129]?).map fun fn => fn.body.isSome && !(fn.name == "runtime.NumGoroutine")) = some true := by rw [Tryz.func129]; rfl
theorem fn104 : ((Tryz.prog.funcs[104]?).map fun fn => fn.body.isSome && !(fn.name == "runtime.NumGoroutine")) = some true := by rw [Tryz.func104]; rfl
theorem fn103 : ((Tryz.prog.funcs[103]?).map fun fn => fn.body.isSome && !(fn.name == "runtime.NumGoroutine")) = some true := by rw [Tryz.func103]; rfl
theorem fn73 : ((Tryz.prog.funcs[73]?).map fun fn => fn.body.isSome && !(fn.name == "runtime.NumGoroutine")) = some true := by rw [Tryz.func73]; rfl
theorem fn44 : ((Tryz.prog.funcs[44]?).map fun fn => fn.body.isSome && !(fn.name == "runtime.NumGoroutine")) = some true := by rw [Tryz.func44]; rfl
theorem fn105 : ((Tryz.prog.funcs[105]?).map fun fn => fn.body.isSome && !(fn.name == "runtime.NumGoroutine")) = some true := by rw [Tryz.func105]; rfl
theorem fn106 : ((Tryz.prog.funcs[106]?).map fun fn => fn.body.isSome && !(fn.name == "runtime.NumGoroutine")) = some true := by rw [Tryz.func106]; rfl
theorem fn107 : ((Tryz.prog.funcs[107]?).map fun fn => fn.body.isSome && !(fn.name == "runtime.NumGoroutine")) = some true := by rw [Tryz.func107]; rfl
theorem fn131 : ((Tryz.prog.funcs[131]?).map fun fn => fn.body.isSome && !(fn.name == "runtime.NumGoroutine")) = some true := by rw [Tryz.func131]; rfl
theorem fn130 : ((Tryz.prog.funcs[130]?).map fun fn => fn.body.isSome && !(fn.name == "runtime.NumGoroutine")) = some true := by rw [Tryz.func130]; rfl
theorem fn145 : ((Tryz.prog.funcs[145]?).map fun fn => fn.body.isSome && !(fn.name == "runtime.NumGoroutine")) = some true := by rw [Tryz.func145]; rfl
theorem fn132 : ((Tryz.prog.funcs[132]?).map fun fn => fn.body.isSome && !(fn.name == "runtime.NumGoroutine")) = some true := by rw [Tryz.func132]; rfl
theorem fn108 : ((Tryz.prog.funcs[108]?).map fun fn => fn.body.isSome && !(fn.name == "runtime.NumGoroutine")) = some true := by rw [Tryz.func108]; rfl
theorem fn109 : ((Tryz.prog.funcs[109]?).map fun fn => fn.body.isSome && !(fn.name == "runtime.NumGoroutine")) = some true := by rw [Tryz.func109]; rfl
theorem fn71 : ((Tryz.prog.funcs[71]?).map fun fn => fn.body.isSome && !(fn.name == "runtime.NumGoroutine")) = some true := by rw [Tryz.func71]; rfl
theorem fn42 : ((Tryz.prog.funcs[42]?).map fun fn => fn.body.isSome && !(fn.name == "runtime.NumGoroutine")) = some true := by rw [Tryz.func42]; rfl
theorem fn72 : ((Tryz.prog.funcs[72]?).map fun fn => fn.body.isSome && !(fn.name == "runtime.NumGoroutine")) = some true := by rw [Tryz.func72]; rfl
theorem fn43 : ((Tryz.prog.funcs[43]?).map fun fn => fn.body.isSome && !(fn.name == "runtime.NumGoroutine")) = some true := by rw [Tryz.func43]; rfl
theorem fn46 : ((Tryz.prog.funcs[46]?).map fun fn => fn.body.isSome && !(fn.name == "runtime.NumGoroutine")) = some true := by rw [Tryz.func46]; rfl
theorem fn45 : ((Tryz.prog.funcs[45]?).map fun fn => fn.body.isSome && !(fn.name == "runtime.NumGoroutine")) = some true := by rw [Tryz.func45]; rfl
theorem fn154 : ((Tryz.prog.funcs[154]?).map fun fn => fn.body.isSome && !(fn.name == "runtime.NumGoroutine")) = some true := by rw [Tryz.func154]; rfl
theorem fn155 : ((Tryz.prog.funcs[155]?).map fun fn => fn.body.isSome && !(fn.name == "runtime.NumGoroutine")) = some true := by rw [Tryz.func155]; rfl
theorem fn134 : ((Tryz.prog.funcs[134]?).map fun fn => fn.body.isSome && !(fn.name == "runtime.NumGoroutine")) = some true := by rw [Tryz.func134]; rfl
theorem fn49 : ((Tryz.prog.funcs[49]?).map fun fn => fn.body.isSome && !(fn.name == "runtime.NumGoroutine")) = some true := by rw [Tryz.func49]; rfl
theorem fn135 : ((Tryz.prog.funcs[135]?).map fun fn => fn.body.isSome && !(fn.name == "runtime.NumGoroutine")) = some true := by rw [Tryz.func135]; rfl
theorem fn136 : ((Tryz.prog.funcs[136]?).map fun fn => fn.body.isSome && !(fn.name == "runtime.NumGoroutine")) = some true := by rw [Tryz.func136]; rfl
theorem fn116 : ((Tryz.prog.funcs[116]?).map fun fn => fn.body.isSome && !(fn.name == "runtime.NumGoroutine")) = some true := by rw [Tryz.func116]; rfl
theorem fn137 : ((Tryz.prog.funcs[137]?).map fun fn => fn.body.isSome && !(fn.name == "runtime.NumGoroutine")) = some true := by rw [Tryz.func137]; rfl
theorem fn112 : ((Tryz.prog.funcs[112]?).map fun fn => fn.body.isSome && !(fn.name == "runtime.NumGoroutine")) = some true := by rw [Tryz.func112]; rfl
theorem fn74 : ((Tryz.prog.funcs[74]?).map fun fn => fn.body.isSome && !(fn.name == "runtime.NumGoroutine")) = some true := by rw [Tryz.func74]; rfl
theorem fn113 : ((Tryz.prog.funcs[113]?).map fun fn => fn.body.isSome && !(fn.name == "runtime.NumGoroutine")) = some true := by rw [Tryz.func113]; rfl
theorem fn114 : ((Tryz.prog.funcs[114]?).map fun fn => fn.body.isSome && !(fn.name == "runtime.NumGoroutine")) = some true := by rw [Tryz.func114]; rfl
theorem fn75 : ((Tryz.prog.funcs[75]?).map fun fn => fn.body.isSome && !(fn.name == "runtime.NumGoroutine")) = some true := by rw [Tryz.func75]; rfl
theorem fn76 : ((Tryz.prog.funcs[76]?).map fun fn => fn.body.isSome && !(fn.name == "runtime.NumGoroutine")) = some true := by rw [Tryz.func76]; rfl
theorem fn47 : ((Tryz.prog.funcs[47]?).map fun fn => fn.body.isSome && !(fn.name == "runtime.NumGoroutine")) = some true := by rw [Tryz.func47]; rfl
theorem fn48 : ((Tryz.prog.funcs[48]?).map fun fn => fn.body.isSome && !(fn.name == "runtime.NumGoroutine")) = some true := by rw [Tryz.func48]; rfl
theorem fn22 : ((Tryz.prog.funcs[22]?).map fun fn => fn.body.isSome && !(fn.name == "runtime.NumGoroutine")) = some true := by rw [Tryz.func22]; rfl
theorem fn28 : ((Tryz.prog.funcs[28]?).map fun fn => fn.body.isSome && !(fn.name == "runtime.NumGoroutine")) = some true := by rw [Tryz.func28]; rfl
theorem fn80 : ((Tryz.prog.funcs[80]?).map fun fn => fn.body.isSome && !(fn.name == "runtime.NumGoroutine")) = some true := by rw [Tryz.func80]; rfl
theorem fn54 : ((Tryz.prog.funcs[54]?).map fun fn => fn.body.isSome && !(fn.name == "runtime.NumGoroutine")) = some true := by rw [Tryz.func54]; rfl
theorem fn56 : ((Tryz.prog.funcs[56]?).map fun fn => fn.body.isSome && !(fn.name == "runtime.NumGoroutine")) = some true := by rw [Tryz.func56]; rfl
theorem fn55 : ((Tryz.prog.funcs[55]?).map fun fn => fn.body.isSome && !(fn.name == "runtime.NumGoroutine")) = some true := by rw [Tryz.func55]; rfl
theorem fn57 : ((Tryz.prog.funcs[57]?).map fun fn => fn.body.isSome && !(fn.name == "runtime.NumGoroutine")) = some true := by rw [Tryz.func57]; rfl
theorem fn58 : ((Tryz.prog.funcs[58]?).map fun fn => fn.body.isSome && !(fn.name == "runtime.NumGoroutine")) = some true := by rw [Tryz.func58]; rfl
theorem fn29 : ((Tryz.prog.funcs[29]?).map fun fn => fn.body.isSome && !(fn.name == "runtime.NumGoroutine")) = some true := by rw [Tryz.func29]; rfl
theorem fn23 : ((Tryz.prog.funcs[23]?).map fun fn => fn.body.isSome && !(fn.name == "runtime.NumGoroutine")) = some true := by rw [Tryz.func23]; rfl
theorem fn11 : ((Tryz.prog.funcs[11]?).map fun fn => fn.body.isSome && !(fn.name == "runtime.NumGoroutine")) = some true := by rw [Tryz.func11]; rfl
theorem fn14 : ((Tryz.prog.funcs[14]?).map fun fn => fn.body.isSome && !(fn.name == "runtime.NumGoroutine")) = some true := by rw [Tryz.func14]; rfl
theorem fn17 : ((Tryz.prog.funcs[17]?).map fun fn => fn.body.isSome && !(fn.name == "runtime.NumGoroutine")) = some true := by rw [Tryz.func17]; rfl
theorem fn15 : ((Tryz.prog.funcs[15]?).map fun fn => fn.body.isSome && !(fn.name == "runtime.NumGoroutine")) = some true := by rw [Tryz.func15]; rfl
theorem fn34 : ((Tryz.prog.funcs[34]?).map fun fn => fn.body.isSome && !(fn.name == "runtime.NumGoroutine")) = some true := by rw [Tryz.func34]; rfl
theorem fn35 : ((Tryz.prog.funcs[35]?).map fun fn => fn.body.isSome && !(fn.name == "runtime.NumGoroutine")) = some true := by rw [Tryz.func35]; rfl
theorem fn36 : ((Tryz.prog.funcs[36]?).map fun fn => fn.body.isSome && !(fn.name == "runtime.NumGoroutine")) = some true := by rw [Tryz.func36]; rfl
theorem fn18 : ((Tryz.prog.funcs[18]?).map fun fn => fn.body.isSome && !(fn.name == "runtime.NumGoroutine")) = some true := by rw [Tryz.func18]; rfl
def tab0 : List arr221 := [(⟨0, 0⟩ : arr221), (⟨0, 31⟩ : arr221), (⟨0, 15⟩ : arr221), (⟨0, 3⟩ : arr221), (⟨0, 1024⟩ : arr221), (⟨0, 199⟩ : arr221), (⟨0, 15⟩ : arr221), (⟨0, 255⟩ : arr221), (⟨1, 100⟩ : arr221)]
@[reducible, instance] def i_u3 := Und.mk Tryz.underlying3
@[reducible, instance] def i_u4 := Und.mk Tryz.underlying4
@[reducible, instance] def i_u5 := Und.mk Tryz.underlying5
@[reducible, instance] def i_u9 := Und.mk Tryz.underlying9
@[reducible, instance] def i_u22 := Und.mk Tryz.underlying22
@[reducible, instance] def i_u23 := Und.mk Tryz.underlying23
@[reducible, instance] def i_u25 := Und.mk Tryz.underlying25
@[reducible, instance] def i_u29 := Und.mk Tryz.underlying29
@[reducible, instance] def i_u36 := Und.mk Tryz.underlying36
@[reducible, instance] def i_u38 := Und.mk Tryz.underlying38
@[reducible, instance] def i_u39 := Und.mk Tryz.underlying39
@[reducible, instance] def i_u41 := Und.mk Tryz.underlying41
@[reducible, instance] def i_u45 := Und.mk Tryz.underlying45
@[reducible, instance] def i_u55 := Und.mk Tryz.underlying55
@[reducible, instance] def i_u62 := Und.mk Tryz.underlying62
@[reducible, instance] def i_u63 := Und.mk Tryz.underlying63
@[reducible, instance] def i_u71 := Und.mk Tryz.underlying71
@[reducible, instance] def i_u73 := Und.mk Tryz.underlying73
@[reducible, instance] def i_u83 := Und.mk Tryz.underlying83
@[reducible, instance] def i_u93 := Und.mk Tryz.underlying93
@[reducible, instance] def i_u95 := Und.mk Tryz.underlying95
@[reducible, instance] def i_u97 := Und.mk Tryz.underlying97
@[reducible, instance] def i_u103 := Und.mk Tryz.underlying103
@[reducible, instance] def i_u106 := Und.mk Tryz.underlying106
@[reducible, instance] def i_u115 := Und.mk Tryz.underlying115
@[reducible, instance] def i_u117 := Und.mk Tryz.underlying117
@[reducible, instance] def i_u123 := Und.mk Tryz.underlying123
@[reducible, instance] def i_u127 := Und.mk Tryz.underlying127
@[reducible, instance] def i_u137 := Und.mk Tryz.underlying137
@[reducible, instance] def i_u138 := Und.mk Tryz.underlying138
@[reducible, instance] def i_u141 := Und.mk Tryz.underlying141
@[reducible, instance] def i_u152 := Und.mk Tryz.underlying152
@[reducible, instance] def i_u159 := Und.mk Tryz.underlying159
@[reducible, instance] def i_u178 := Und.mk Tryz.underlying178
@[reducible, instance] def i_u180 := Und.mk Tryz.underlying180
@[reducible, instance] def i_u186 := Und.mk Tryz.underlying186
@[reducible, instance] def i_u221 := Und.mk Tryz.underlying221
@[reducible, instance] def i_u222 := Und.mk Tryz.underlying222
@[reducible, instance] def i_z3 := Siz.mk sz3
@[reducible, instance] def i_z4 := Siz.mk sz4
@[reducible, instance] def i_z5 := Siz.mk sz5
@[reducible, instance] def i_z22 := Siz.mk sz22
@[reducible, instance] def i_z23 := Siz.mk sz23
@[reducible, instance] def i_z25 := Siz.mk sz25
@[reducible, instance] def i_z36 := Siz.mk sz36
@[reducible, instance] def i_z38 := Siz.mk sz38
@[reducible, instance] def i_z39 := Siz.mk sz39
@[reducible, instance] def i_z41 := Siz.mk sz41
@[reducible, instance] def i_z45 := Siz.mk sz45
@[reducible, instance] def i_z55 := Siz.mk sz55
@[reducible, instance] def i_z62 := Siz.mk sz62
@[reducible, instance] def i_z63 := Siz.mk sz63
@[reducible, instance] def i_z71 := Siz.mk sz71
@[reducible, instance] def i_z73 := Siz.mk sz73
@[reducible, instance] def i_z93 := Siz.mk sz93
@[reducible, instance] def i_z95 := Siz.mk sz95
@[reducible, instance] def i_z115 := Siz.mk sz115
@[reducible, instance] def i_z127 := Siz.mk sz127
@[reducible, instance] def i_z152 := Siz.mk sz152
@[reducible, instance] def i_z159 := Siz.mk sz159
@[reducible, instance] def i_z178 := Siz.mk sz178
@[reducible, instance] def i_z186 := Siz.mk sz186
@[reducible, instance] def i_z221 := Siz.mk sz221
@[reducible, instance] def i_f25_0 : Fld Tryz.prog 25 0 0 := ⟨⟨_, _, _, Tryz.underlying25, rfl, rfl, sz22⟩⟩
@[reducible, instance] def i_f25_1 : Fld Tryz.prog 25 1 1 := ⟨⟨_, _, _, Tryz.underlying25, rfl, rfl, sz22⟩⟩
@[reducible, instance] def i_f25_2 : Fld Tryz.prog 25 2 2 := ⟨⟨_, _, _, Tryz.underlying25, rfl, rfl, sz23⟩⟩
@[reducible, instance] def i_f25_3 : Fld Tryz.prog 25 3 3 := ⟨⟨_, _, _, Tryz.underlying25, rfl, rfl, sz3⟩⟩
@[reducible, instance] def i_f36_0 : Fld Tryz.prog 36 0 0 := ⟨⟨_, _, _, Tryz.underlying36, rfl, rfl, sz3⟩⟩
@[reducible, instance] def i_f36_1 : Fld Tryz.prog 36 1 1 := ⟨⟨_, _, _, Tryz.underlying36, rfl, rfl, sz3⟩⟩
@[reducible, instance] def i_f36_2 : Fld Tryz.prog 36 2 2 := ⟨⟨_, _, _, Tryz.underlying36, rfl, rfl, sz3⟩⟩
@[reducible, instance] def i_f41_0 : Fld Tryz.prog 41 0 0 := ⟨⟨_, _, _, Tryz.underlying41, rfl, rfl, sz38⟩⟩
@[reducible, instance] def i_f41_1 : Fld Tryz.prog 41 1 1 := ⟨⟨_, _, _, Tryz.underlying41, rfl, rfl, sz38⟩⟩
@[reducible, instance] def i_f41_2 : Fld Tryz.prog 41 2 2 := ⟨⟨_, _, _, Tryz.underlying41, rfl, rfl, sz5⟩⟩
@[reducible, instance] def i_f41_3 : Fld Tryz.prog 41 3 3 := ⟨⟨_, _, _, Tryz.underlying41, rfl, rfl, sz4⟩⟩
@[reducible, instance] def i_f41_4 : Fld Tryz.prog 41 4 4 := ⟨⟨_, _, _, Tryz.underlying41, rfl, rfl, sz3⟩⟩
@[reducible, instance] def i_f41_5 : Fld Tryz.prog 41 5 5 := ⟨⟨_, _, _, Tryz.underlying41, rfl, rfl, sz3⟩⟩
@[reducible, instance] def i_f41_6 : Fld Tryz.prog 41 6 6 := ⟨⟨_, _, _, Tryz.underlying41, rfl, rfl, sz3⟩⟩
@[reducible, instance] def i_f41_7 : Fld Tryz.prog 41 7 7 := ⟨⟨_, _, _, Tryz.underlying41, rfl, rfl, sz39⟩⟩
@[reducible, instance] def i_f71_0 : Fld Tryz.prog 71 0 0 := ⟨⟨_, _, _, Tryz.underlying71, rfl, rfl, sz5⟩⟩
@[reducible, instance] def i_f71_1 : Fld Tryz.prog 71 1 1 := ⟨⟨_, _, _, Tryz.underlying71, rfl, rfl, sz3⟩⟩
@[reducible, instance] def i_f71_2 : Fld Tryz.prog 71 2 2 := ⟨⟨_, _, _, Tryz.underlying71, rfl, rfl, sz3⟩⟩
@[reducible, instance] def i_f73_0 : Fld Tryz.prog 73 0 0 := ⟨⟨_, _, _, Tryz.underlying73, rfl, rfl, sz4⟩⟩
@[reducible, instance] def i_f73_1 : Fld Tryz.prog 73 1 1 := ⟨⟨_, _, _, Tryz.underlying73, rfl, rfl, sz38⟩⟩
@[reducible, instance] def i_f97_0 : Fld Tryz.prog 97 0 0 := ⟨⟨_, _, _, Tryz.underlying97, rfl, rfl, sz25⟩⟩
@[reducible, instance] def i_f97_1 : Fld Tryz.prog 97 1 4 := ⟨⟨_, _, _, Tryz.underlying97, rfl, rfl, sz41⟩⟩
@[reducible, instance] def i_f97_2 : Fld Tryz.prog 97 2 12 := ⟨⟨_, _, _, Tryz.underlying97, rfl, rfl, sz38⟩⟩
@[reducible, instance] def i_f97_3 : Fld Tryz.prog 97 3 13 := ⟨⟨_, _, _, Tryz.underlying97, rfl, rfl, sz95⟩⟩
@[reducible, instance] def i_f115_0 : Fld Tryz.prog 115 0 0 := ⟨⟨_, _, _, Tryz.underlying115, rfl, rfl, sz36⟩⟩
@[reducible, instance] def i_f117_0 : Fld Tryz.prog 117 0 0 := ⟨⟨_, _, _, Tryz.underlying117, rfl, rfl, sz115⟩⟩
@[reducible, instance] def i_f117_1 : Fld Tryz.prog 117 1 3 := ⟨⟨_, _, _, Tryz.underlying117, rfl, rfl, sz41⟩⟩
@[reducible, instance] def i_f117_2 : Fld Tryz.prog 117 2 11 := ⟨⟨_, _, _, Tryz.underlying117, rfl, rfl, sz63⟩⟩
@[reducible, instance] def i_f152_0 : Fld Tryz.prog 152 0 0 := ⟨⟨_, _, _, Tryz.underlying152, rfl, rfl, sz3⟩⟩
@[reducible, instance] def i_f152_1 : Fld Tryz.prog 152 1 1 := ⟨⟨_, _, _, Tryz.underlying152, rfl, rfl, sz3⟩⟩
@[reducible, instance] def i_f152_2 : Fld Tryz.prog 152 2 2 := ⟨⟨_, _, _, Tryz.underlying152, rfl, rfl, sz3⟩⟩
@[reducible, instance] def i_f159_0 : Fld Tryz.prog 159 0 0 := ⟨⟨_, _, _, Tryz.underlying159, rfl, rfl, sz3⟩⟩
@[reducible, instance] def i_f159_1 : Fld Tryz.prog 159 1 1 := ⟨⟨_, _, _, Tryz.underlying159, rfl, rfl, sz3⟩⟩
@[reducible, instance] def i_f180_0 : Fld Tryz.prog 180 0 0 := ⟨⟨_, _, _, Tryz.underlying180, rfl, rfl, sz178⟩⟩
@[reducible, instance] def i_f180_1 : Fld Tryz.prog 180 1 4 := ⟨⟨_, _, _, Tryz.underlying180, rfl, rfl, sz3⟩⟩
@[reducible, instance] def i_f186_0 : Fld Tryz.prog 186 0 0 := ⟨⟨_, _, _, Tryz.underlying186, rfl, rfl, sz38⟩⟩
@[reducible, instance] def i_f186_1 : Fld Tryz.prog 186 1 1 := ⟨⟨_, _, _, Tryz.underlying186, rfl, rfl, sz38⟩⟩
@[reducible, instance] def i_r5 := Rsl.mk Tryz.results5
@[reducible, instance] def i_r11 := Rsl.mk Tryz.results11
@[reducible, instance] def i_r12 := Rsl.mk Tryz.results12
@[reducible, instance] def i_r13 := Rsl.mk Tryz.results13
@[reducible, instance] def i_r14 := Rsl.mk Tryz.results14
@[reducible, instance] def i_r15 := Rsl.mk Tryz.results15
@[reducible, instance] def i_r16 := Rsl.mk Tryz.results16
@[reducible, instance] def i_r17 := Rsl.mk Tryz.results17
@[reducible, instance] def i_r18 := Rsl.mk Tryz.results18
@[reducible, instance] def i_r22 := Rsl.mk Tryz.results22
@[reducible, instance] def i_r23 := Rsl.mk Tryz.results23
@[reducible, instance] def i_r24 := Rsl.mk Tryz.results24
@[reducible, instance] def i_r25 := Rsl.mk Tryz.results25
@[reducible, instance] def i_r26 := Rsl.mk Tryz.results26
@[reducible, instance] def i_r27 := Rsl.mk Tryz.results27
@[reducible, instance] def i_r28 := Rsl.mk Tryz.results28
@[reducible, instance] def i_r29 := Rsl.mk Tryz.results29
@[reducible, instance] def i_r30 := Rsl.mk Tryz.results30
@[reducible, instance] def i_r31 := Rsl.mk Tryz.results31
@[reducible, instance] def i_r32 := Rsl.mk Tryz.results32
@[reducible, instance] def i_r33 := Rsl.mk Tryz.results33
@[reducible, instance] def i_r34 := Rsl.mk Tryz.results34
@[reducible, instance] def i_r35 := Rsl.mk Tryz.results35
@[reducible, instance] def i_r36 := Rsl.mk Tryz.results36
@[reducible, instance] def i_r38 := Rsl.mk Tryz.results38
@[reducible, instance] def i_r42 := Rsl.mk Tryz.results42
@[reducible, instance] def i_r43 := Rsl.mk Tryz.results43
@[reducible, instance] def i_r44 := Rsl.mk Tryz.results44
@[reducible, instance] def i_r45 := Rsl.mk Tryz.results45
@[reducible, instance] def i_r46 := Rsl.mk Tryz.results46
@[reducible, instance] def i_r47 := Rsl.mk Tryz.results47
@[reducible, instance] def i_r48 := Rsl.mk Tryz.results48
@[reducible, instance] def i_r49 := Rsl.mk Tryz.results49
@[reducible, instance] def i_r50 := Rsl.mk Tryz.results50
@[reducible, instance] def i_r53 := Rsl.mk Tryz.results53
@[reducible, instance] def i_r54 := Rsl.mk Tryz.results54
@[reducible, instance] def i_r55 := Rsl.mk Tryz.results55
@[reducible, instance] def i_r56 := Rsl.mk Tryz.results56
@[reducible, instance] def i_r57 := Rsl.mk Tryz.results57
@[reducible, instance] def i_r58 := Rsl.mk Tryz.results58
@[reducible, instance] def i_r59 := Rsl.mk Tryz.results59
@[reducible, instance] def i_r60 := Rsl.mk Tryz.results60
@[reducible, instance] def i_r61 := Rsl.mk Tryz.results61
@[reducible, instance] def i_r62 := Rsl.mk Tryz.results62
@[reducible, instance] def i_r63 := Rsl.mk Tryz.results63
@[reducible, instance] def i_r64 := Rsl.mk Tryz.results64
@[reducible, instance] def i_r65 := Rsl.mk Tryz.results65
@[reducible, instance] def i_r66 := Rsl.mk Tryz.results66
@[reducible, instance] def i_r67 := Rsl.mk Tryz.results67
@[reducible, instance] def i_r68 := Rsl.mk Tryz.results68
@[reducible, instance] def i_r71 := Rsl.mk Tryz.results71
@[reducible, instance] def i_r73 := Rsl.mk Tryz.results73
@[reducible, instance] def i_r74 := Rsl.mk Tryz.results74
@[reducible, instance] def i_r75 := Rsl.mk Tryz.results75
@[reducible, instance] def i_r76 := Rsl.mk Tryz.results76
@[reducible, instance] def i_r79 := Rsl.mk Tryz.results79
@[reducible, instance] def i_r80 := Rsl.mk Tryz.results80
@[reducible, instance] def i_r81 := Rsl.mk Tryz.results81
@[reducible, instance] def i_r82 := Rsl.mk Tryz.results82
@[reducible, instance] def i_r83 := Rsl.mk Tryz.results83
@[reducible, instance] def i_r84 := Rsl.mk Tryz.results84
@[reducible, instance] def i_r85 := Rsl.mk Tryz.results85
@[reducible, instance] def i_r86 := Rsl.mk Tryz.results86
@[reducible, instance] def i_r87 := Rsl.mk Tryz.results87
@[reducible, instance] def i_r88 := Rsl.mk Tryz.results88
@[reducible, instance] def i_r89 := Rsl.mk Tryz.results89
@[reducible, instance] def i_r90 := Rsl.mk Tryz.results90
@[reducible, instance] def i_r91 := Rsl.mk Tryz.results91
@[reducible, instance] def i_r103 := Rsl.mk Tryz.results103
@[reducible, instance] def i_r104 := Rsl.mk Tryz.results104
@[reducible, instance] def i_r105 := Rsl.mk Tryz.results105
@[reducible, instance] def i_r106 := Rsl.mk Tryz.results106
@[reducible, instance] def i_r107 := Rsl.mk Tryz.results107
@[reducible, instance] def i_r108 := Rsl.mk Tryz.results108
@[reducible, instance] def i_r112 := Rsl.mk Tryz.results112
@[reducible, instance] def i_r113 := Rsl.mk Tryz.results113
@[reducible, instance] def i_r114 := Rsl.mk Tryz.results114
@[reducible, instance] def i_r117 := Rsl.mk Tryz.results117
@[reducible, instance] def i_r118 := Rsl.mk Tryz.results118
@[reducible, instance] def i_r119 := Rsl.mk Tryz.results119
@[reducible, instance] def i_r120 := Rsl.mk Tryz.results120
@[reducible, instance] def i_r121 := Rsl.mk Tryz.results121
@[reducible, instance] def i_r122 := Rsl.mk Tryz.results122
@[reducible, instance] def i_r129 := Rsl.mk Tryz.results129
@[reducible, instance] def i_r130 := Rsl.mk Tryz.results130
@[reducible, instance] def i_r131 := Rsl.mk Tryz.results131
@[reducible, instance] def i_r132 := Rsl.mk Tryz.results132
@[reducible, instance] def i_r134 := Rsl.mk Tryz.results134
@[reducible, instance] def i_r135 := Rsl.mk Tryz.results135
@[reducible, instance] def i_r137 := Rsl.mk Tryz.results137
@[reducible, instance] def i_r138 := Rsl.mk Tryz.results138
@[reducible, instance] def i_r139 := Rsl.mk Tryz.results139
@[reducible, instance] def i_r142 := Rsl.mk Tryz.results142
@[reducible, instance] def i_r143 := Rsl.mk Tryz.results143
@[reducible, instance] def i_r145 := Rsl.mk Tryz.results145
@[reducible, instance] def i_r154 := Rsl.mk Tryz.results154
@[reducible, instance] def i_r155 := Rsl.mk Tryz.results155
attribute [local irreducible] CP SP QE DA DT Val St
def capstanlaw07_Great.f (m_0 : api_Method) : Option Bool :=
  some ((decide ((m_0.Args.length : Int) > 100)) || (decide ((m_0.Locals.length : Int) > 100)))
theorem capstanlaw07_Great.ok (m_0 : api_Method) (v_m_0_Args v_m_0_Locals v_m_0_Code : Value) (r : Bool) (H : capstanlaw07_Great.f m_0 = some r) (w : World) (hV : Hp) (sV : Sub hV (hp w)) (h0 : slR (kInt .u8) hV v_m_0_Args m_0.Args) (h1 : slR (kInt .u8) hV v_m_0_Locals m_0.Locals) (h2 : slR k_api_Instr hV v_m_0_Code m_0.Code) :
    Trip Tryz.prog 24 [.agg #[v_m_0_Args, v_m_0_Locals, .int .u8 m_0.Result, .bool m_0.Reads, .int .i64 m_0.Fuel, .int .i64 m_0.Stack, .int .i64 m_0.Heap, v_m_0_Code]].toArray em hV w (fun v => HO.pure (v = .bool r)) := by
 refine Trip.go 13 Tryz.func24 sV (aS h0 (aS h1 (aS h2 (All.nil _)))) fun see => ?_
 have ho := H
 refine go ?_
 refine SP.box rfl rfl rfl rfl fun b4 => ?_
 refine go ?_
 refine SP.jn 5 [] 12 (.bool ((decide ((m_0.Args.length : Int) > 100)) || (decide ((m_0.Locals.length : Int) > 100)))) ?_ ?_
 ·refine go ?_
  obtain rfl := Option.some.inj ho
  exact QE.rt (fun _ h => h)
 refine SP.bb 7 (fun hq7 => ?_) fun hq7 => ?_
 ·refine go ?_
  exact QE.jb (or_t hq7) fun w2 hw => hw
 refine go ?_
 exact QE.jb (or_f hq7 rfl) fun w2 hw => hw
inductive capstanlaw08_Great.S where
  | start
  | l1 (x31 : Int)
def capstanlaw08_Great.F (m_0 : api_Module) : capstanlaw08_Great.S → Option (capstanlaw08_Great.S ⊕ Bool)
  | .start => if (((decide ((m_0.Globals.length : Int) > 100)) || (decide ((m_0.Pool.length : Int) > 100))) || (decide ((m_0.Methods.length : Int) > 40))) = true then (some (.inr true)) else (some (.inl (.l1 0)))
  | .l1 x31 => if x31 < (m_0.Methods.length : Int) then ((elt m_0.Methods x31).bind fun x35 => (capstanlaw07_Great.f x35).bind fun t42 => (if t42 = true then (some true) else ((elt m_0.Methods x31).bind fun x47 => some (decide ((x47.Code.length : Int) > 300)))).bind fun t52 => if t52 = true then (some (.inr true)) else (some (.inl (.l1 (IntKind.i64.wrap (x31 + 1)))))) else (some (.inr false))
def capstanlaw08_Great.f (m_0 : api_Module) : Option Bool := runF (capstanlaw08_Great.F m_0) .start
theorem capstanlaw08_Great.ok (m_0 : api_Module) (v_m_0_Globals v_m_0_Pool v_m_0_Methods : Value) (r : Bool) (H : capstanlaw08_Great.f m_0 = some r) (w : World) (hV : Hp) (sV : Sub hV (hp w)) (h0 : slR k_api_Value hV v_m_0_Globals m_0.Globals) (h1 : slR k_api_Value hV v_m_0_Pool m_0.Pool) (h2 : slR k_api_Method hV v_m_0_Methods m_0.Methods) :
    Trip Tryz.prog 12 [.agg #[v_m_0_Globals, v_m_0_Pool, v_m_0_Methods, .int .i64 m_0.Migrate]].toArray em hV w (fun v => HO.pure (v = .bool r)) := by
 refine Trip.go 43 Tryz.func12 sV (aS h0 (aS h1 (aS h2 (All.nil _)))) fun see => ?_
 obtain ⟨n0, hi⟩ := runF_iff.1 H
 obtain ⟨m0, o, hm0, ho, hr⟩ := iter_some hi
 clear hi
 refine go ?_
 refine SP.box rfl rfl rfl rfl fun b4 => ?_
 refine go ?_
 refine CP.seq ?_
 refine go ?_
 refine SP.jn 5 [1] 13 (.bool ((decide ((m_0.Globals.length : Int) > 100)) || (decide ((m_0.Pool.length : Int) > 100)))) ?_ ?_
 ·refine go ?_
  refine SP.jn 5 [1] 19 (.bool (((decide ((m_0.Globals.length : Int) > 100)) || (decide ((m_0.Pool.length : Int) > 100))) || (decide ((m_0.Methods.length : Int) > 40)))) ?_ ?_
  ·refine go ?_
   refine CP.cb ho (fun ho => ?_) fun ho => ?_
   ·refine go ?_
    obtain rfl := fin ho hr
    exact QE.rt (fun _ h => h)
   refine go ?_
   refine CP.seq ?_
   refine go ?_
   obtain rfl := Option.some.inj ho
   refine CP.loop (fun cl1 a w2 => ∃ x31 : Int, cl1 ≤ m0 ∧ iter (capstanlaw08_Great.F m_0) cl1 (.l1 x31) = some r ∧ Env ⟨43, []⟩ [(1, .pointer (some ⟨b4, 0, none⟩)), (3, .int .i64 x31)] a ∧ St w em hV [slP k_api_Value v_m_0_Globals m_0.Globals, slP k_api_Value v_m_0_Pool m_0.Pool, slP k_api_Method v_m_0_Methods m_0.Methods] [boxO b4 [v_m_0_Globals, v_m_0_Pool, v_m_0_Methods, .int .i64 m_0.Migrate] 25] w2) m0 (fun a w2 ha hw => ⟨0, Nat.le_refl _, hr, ha.sub sb, hw⟩) ?_
   clear hr
   rintro cl1 a w2 ⟨x31, hc_l1, hi, ha, hw⟩
   obtain ⟨m32, o, hm_m32, ho, hr⟩ := iter_some hi
   refine CP.app ha hw ?_
   clear ha hw a w2 hi
   refine CP.seq ?_
   refine go ?_
   refine CP.ci ho (fun ho => ?_) fun ho => ?_
   ·refine go ?_
    refine CP.seq ?_
    refine go ?_
    obtain ⟨x35, hx, ho⟩ := elt_bind ho
    refine SP.indexP see 2 rfl Tryz.underlying23 sz41 hx.1 hx.2 rfl rfl rfl rfl (fun p33 => ?_)
    clear hx
    refine k_api_Method.load see 0 rfl Tryz.underlying41 rfl sz41 rfl rfl rfl (fun v36 v38 v40 => ?_)
    obtain ⟨t42, hc, ho⟩ := bind_some ho
    refine SP.callV see (caps := []) (.bool t42) fn24 rfl rfl rfl rfl (fun w2 hP hs sub ap => capstanlaw07_Great.ok _ _ _ _ _ hc w2 hP sub (ap.get 0 rfl) (ap.get 1 rfl) (ap.get 2 rfl)) ?_
    clear hc
    refine go ?_
    obtain ⟨t52, hg_t52, ho⟩ := bind_some ho
    refine SP.jn 9 [1, 3] 42 (.bool t52) ?_ ?_
    ·clear hg_t52
     refine go ?_
     refine CP.cb ho (fun ho => ?_) fun ho => ?_
     ·refine go ?_
      obtain rfl := fin ho hr
      exact QE.rt (fun _ h => h)
     refine go ?_
     obtain rfl := Option.some.inj ho
     exact QE.lower m32 (by omega) fun a w2 ha hw => ⟨(IntKind.i64.wrap (x31 + 1)), (by omega), hr, ha.sub sb, (St.selP [4, 5, 6] rfl hw)⟩
    refine SP.cb 33 hg_t52 (fun hq44 ho => ?_) fun hq44 ho => ?_
    ·refine go ?_
     obtain rfl := Option.some.inj ho
     exact QE.jn fun w2 hw => hw
    refine go ?_
    obtain ⟨x47, hx, ho⟩ := elt_bind ho
    refine SP.indexP see 6 rfl Tryz.underlying23 sz41 hx.1 hx.2 rfl rfl rfl rfl (fun p45 => ?_)
    clear hx
    refine SP.fieldP see 0 rfl Tryz.underlying41 rfl sz39 k_api_Method.part_Code rfl rfl rfl (fun p48 => ?_)
    refine SP.loadPS see 0 rfl Tryz.underlying39 rfl rfl rfl (fun v50 => ?_)
    refine go ?_
    obtain rfl := Option.some.inj ho
    exact QE.jn fun w2 hw => (St.selP [3, 4, 5, 6, 7, 8, 9] rfl hw)
   refine go ?_
   obtain rfl := fin ho hr
   exact QE.rt (fun _ h => h)
  refine SP.bb 14 (fun hq9 => ?_) fun hq9 => ?_
  ·refine go ?_
   exact QE.jb (or_t hq9) fun w2 hw => hw
  refine go ?_
  exact QE.jb (or_f hq9 rfl) fun w2 hw => hw
 refine SP.bb 8 (fun hq7 => ?_) fun hq7 => ?_
 ·refine go ?_
  exact QE.jb (or_t hq7) fun w2 hw => hw
 refine go ?_
 exact QE.jb (or_f hq7 rfl) fun w2 hw => hw
def capstanref03_Copy.f (l_0 : (List api_Value)) : Option (List api_Value) :=
  if (([] : List api_Value).length + l_0.length) * 24 ≤ 140737488355328 then (some (([] : List api_Value) ++ l_0)) else none
theorem capstanref03_Copy.ok (l_0 : (List api_Value)) (v_l_0 : Value) (r : (List api_Value)) (H : capstanref03_Copy.f l_0 = some r) (w : World) (hV : Hp) (sV : Sub hV (hp w)) (h0 : slR k_api_Value hV v_l_0 l_0) :
    Trip Tryz.prog 25 [v_l_0].toArray em hV w (fun v => HO.ex fun u0 : Value => HO.pand (v = u0) (HO.seps [slO k_api_Value 62 u0 r])) := by
 refine Trip.go 7 Tryz.func25 sV (aS h0 (All.nil _)) fun see => ?_
 have ho := H
 refine go ?_
 refine SP.imp (fun w2 hw => St.addO (slO.nil k_api_Value 62) hw) ?_
 obtain ⟨hb, ho⟩ := must_some ho
 refine SP.append see 0 rfl 0 rfl Tryz.underlying22 inf62 rfl rfl hb rfl rfl rfl rfl rfl (fun v3 => ?_)
 clear hb
 refine go ?_
 obtain rfl := Option.some.inj ho
 exact QE.rt (fun _ h => St.selO [0] rfl rfl h)
def capstanref05_Copy.f (l_0 : (List api_Instr)) : Option (List api_Instr) :=
  if (([] : List api_Instr).length + l_0.length) * 24 ≤ 140737488355328 then (some (([] : List api_Instr) ++ l_0)) else none
theorem capstanref05_Copy.ok (l_0 : (List api_Instr)) (v_l_0 : Value) (r : (List api_Instr)) (H : capstanref05_Copy.f l_0 = some r) (w : World) (hV : Hp) (sV : Sub hV (hp w)) (h0 : slR k_api_Instr hV v_l_0 l_0) :
    Trip Tryz.prog 26 [v_l_0].toArray em hV w (fun v => HO.ex fun u0 : Value => HO.pand (v = u0) (HO.seps [slO k_api_Instr 71 u0 r])) := by
 refine Trip.go 7 Tryz.func26 sV (aS h0 (All.nil _)) fun see => ?_
 have ho := H
 refine go ?_
 refine SP.imp (fun w2 hw => St.addO (slO.nil k_api_Instr 71) hw) ?_
 obtain ⟨hb, ho⟩ := must_some ho
 refine SP.append see 0 rfl 0 rfl Tryz.underlying39 inf71 rfl rfl hb rfl rfl rfl rfl rfl (fun v3 => ?_)
 clear hb
 refine go ?_
 obtain rfl := Option.some.inj ho
 exact QE.rt (fun _ h => St.selO [0] rfl rfl h)
inductive capstanref08_Copy.S where
  | start
  | l1 (t831 : (List api_Value)) (t1431 : (List api_Value)) (x2565 : Int) (l2567 : List api_Method)
def capstanref08_Copy.F (m_0 : api_Module) : capstanref08_Copy.S → Option (capstanref08_Copy.S ⊕ api_Module)
  | .start => (capstanref03_Copy.f m_0.Globals).bind fun t831 => (capstanref03_Copy.f m_0.Pool).bind fun t1431 => some (.inl (.l1 t831 t1431 0 []))
  | .l1 t831 t1431 x2565 l2567 => if x2565 < (m_0.Methods.length : Int) then ((elt m_0.Methods x2565).bind fun x2572 => if (([] : List Int).length + x2572.Args.length) * 1 ≤ 140737488355328 then (if (([] : List Int).length + x2572.Locals.length) * 1 ≤ 140737488355328 then ((capstanref05_Copy.f x2572.Code).bind fun t2589 => if (l2567.length + [(⟨([] : List Int) ++ x2572.Args, ([] : List Int) ++ x2572.Locals, x2572.Result, x2572.Reads, x2572.Fuel, x2572.Stack, x2572.Heap, t2589⟩ : api_Method)].length) * 104 ≤ 140737488355328 then (some (.inl (.l1 t831 t1431 (IntKind.i64.wrap (x2565 + 1)) (l2567 ++ [(⟨([] : List Int) ++ x2572.Args, ([] : List Int) ++ x2572.Locals, x2572.Result, x2572.Reads, x2572.Fuel, x2572.Stack, x2572.Heap, t2589⟩ : api_Method)])))) else none) else none) else none) else (some (.inr (⟨t831, t1431, l2567, m_0.Migrate⟩ : api_Module)))
def capstanref08_Copy.f (m_0 : api_Module) : Option api_Module := runF (capstanref08_Copy.F m_0) .start
theorem capstanref08_Copy.ok (m_0 : api_Module) (v_m_0_Globals v_m_0_Pool v_m_0_Methods : Value) (r : api_Module) (H : capstanref08_Copy.f m_0 = some r) (w : World) (hV : Hp) (sV : Sub hV (hp w)) (h0 : slR k_api_Value hV v_m_0_Globals m_0.Globals) (h1 : slR k_api_Value hV v_m_0_Pool m_0.Pool) (h2 : slR k_api_Method hV v_m_0_Methods m_0.Methods) :
    Trip Tryz.prog 13 [.agg #[v_m_0_Globals, v_m_0_Pool, v_m_0_Methods, .int .i64 m_0.Migrate]].toArray em hV w (fun v => HO.ex fun u0 : Value => HO.ex fun u1 : Value => HO.ex fun u2 : Value => HO.pand (v = .agg #[u0, u1, u2, .int .i64 r.Migrate]) (HO.seps [slO k_api_Value 62 u0 r.Globals, slO k_api_Value 62 u1 r.Pool, slD o_api_Method 41 u2 r.Methods])) := by
 refine Trip.go 48 Tryz.func13 sV (aS h0 (aS h1 (aS h2 (All.nil _)))) fun see => ?_
 obtain ⟨n0, hi⟩ := runF_iff.1 H
 obtain ⟨m0, o, hm0, ho, hr⟩ := iter_some hi
 clear hi
 refine go ?_
 refine SP.box rfl rfl rfl rfl fun b4 => ?_
 refine SP.alloc (cs := [(.slice none 0 0), (.slice none 0 0), (.slice none 0 0), .int .i64 0]) inf25 rfl rfl (fun b6 => ?_)
 refine go ?_
 refine CP.seq ?_
 refine CP.drawA (by kernel_rfl) (fun w2 k h => h.drawn k) ?_
 refine DA.ph 0 10 ?_
 refine DT.tk 0 ?_
 refine DT.tk 1 ?_
 refine DT.tk 3 ?_
 refine DT.tk 4 ?_
 refine DT.tk 6 ?_
 refine DT.tk 7 ?_
 obtain ⟨t831, hc_t831, ho⟩ := bind_some ho
 obtain ⟨t1431, hc_t1431, ho⟩ := bind_some ho
 refine DT.list (l2 := #[true, true, false, true, true, false, true, true, false, false, false]) (by kernel_rfl) ?_
 refine DT.cut (ι := Value × Value × Nat) (fun z => [(1, .pointer (some ⟨b4, 0, none⟩)), (2, .pointer (some ⟨b6, 0, none⟩)), (3, .pointer (some ⟨z.2.2, 0, none⟩)), (14, .agg #[z.1, z.2.1, (.slice none 0 0), .int .i64 m_0.Migrate])]) (fun z w2 => St w em hV [slP k_api_Value v_m_0_Globals m_0.Globals, slP k_api_Value v_m_0_Pool m_0.Pool, slP k_api_Method v_m_0_Methods m_0.Methods] [boxO z.2.2 [(.slice none 0 0), (.slice none 0 0), (.slice none 0 0), .int .i64 0] 25, slO k_api_Value 62 z.2.1 t1431, slO k_api_Value 62 z.1 t831, boxO b6 [(.slice none 0 0), (.slice none 0 0), (.slice none 0 0), .int .i64 0] 25, boxO b4 [v_m_0_Globals, v_m_0_Pool, v_m_0_Methods, .int .i64 m_0.Migrate] 25] w2) 1 #[true, true, true, true, true, true, true, true, true, true, false] (fun z => ?_) (fun J2535 => ?_)
 ·obtain ⟨v633, v1233, b2033⟩ := z
  refine DT.next (by kernel_rfl) ?_
  refine DA.one 10 rfl (by kernel_rfl) ?_
  refine SP.have (fun w2 hw => slO.shape (St.own 2 rfl see.sub see.dj hw)) (fun hs_v633 => ?_)
  refine SP.have (fun w2 hw => slO.shape (St.own 1 rfl see.sub see.dj hw)) (fun hs_v1233 => ?_)
  refine SP.store (v := .agg #[v633, v1233, (.slice none 0 0), .int .i64 m_0.Migrate]) (vs := [v633, v1233, (.slice none 0 0), .int .i64 m_0.Migrate]) 0 (by rfl) sz25 (by rfl) (by rfl) (by rfl) (by rfl) (one_cons hs_v633 (one_cons hs_v1233 (one_cons rfl (one_cons rfl (rfl))))) (by rfl) ?_
  refine go ?_
  refine QE.atA ?_
  refine DA.done (by kernel_rfl) ?_
  refine go ?_
  refine CP.seq ?_
  refine go ?_
  obtain rfl := Option.some.inj ho
  refine CP.loop (fun cl1 a w2 => ∃ x2565 : Int, ∃ l2567 : List api_Method, ∃ v2568 : Value, cl1 ≤ m0 ∧ iter (capstanref08_Copy.F m_0) cl1 (.l1 t831 t1431 x2565 l2567) = some r ∧ Env ⟨48, []⟩ [(1, .pointer (some ⟨b4, 0, none⟩)), (2, .pointer (some ⟨b6, 0, none⟩)), (3, .pointer (some ⟨b2033, 0, none⟩)), (4, .int .i64 x2565)] a ∧ St w em hV [slP k_api_Value v_m_0_Globals m_0.Globals, slP k_api_Value v_m_0_Pool m_0.Pool, slP k_api_Method v_m_0_Methods m_0.Methods] [slD o_api_Method 41 v2568 l2567, boxO b2033 [v633, v1233, v2568, .int .i64 m_0.Migrate] 25, slO k_api_Value 62 v1233 t1431, slO k_api_Value 62 v633 t831, boxO b6 [(.slice none 0 0), (.slice none 0 0), (.slice none 0 0), .int .i64 0] 25, boxO b4 [v_m_0_Globals, v_m_0_Pool, v_m_0_Methods, .int .i64 m_0.Migrate] 25] w2) m0 (fun a w2 ha hw => ⟨0, [], (.slice none 0 0), Nat.le_refl _, hr, ha.sub sb, (St.addO (slD.nil o_api_Method 41) hw)⟩) ?_
  clear hr
  rintro cl1 a w2 ⟨x2565, l2567, v2568, hc_l1, hi, ha, hw⟩
  obtain ⟨m2569, o, hm_m2569, ho, hr⟩ := iter_some hi
  refine CP.app ha hw ?_
  clear ha hw a w2 hi
  refine CP.seq ?_
  refine go ?_
  refine CP.ci ho (fun ho => ?_) fun ho => ?_
  ·refine go ?_
   refine CP.seq ?_
   refine go ?_
   obtain ⟨x2572, hx, ho⟩ := elt_bind ho
   refine SP.indexP see 2 rfl Tryz.underlying23 sz41 hx.1 hx.2 rfl rfl rfl rfl (fun p2570 => ?_)
   clear hx
   refine k_api_Method.load see 0 rfl Tryz.underlying41 rfl sz41 rfl rfl rfl (fun v2573 v2575 v2577 => ?_)
   refine SP.alloc (cs := [(.slice none 0 0), (.slice none 0 0), .int .u8 0, .bool false, .int .i64 0, .int .i64 0, .int .i64 0, (.slice none 0 0)]) inf41 rfl rfl (fun b2579 => ?_)
   refine SP.have (fun w2 hw => slR.shape (St.pers 0 rfl see.sub see.dj hw)) (fun hs_v2573 => ?_)
   refine SP.have (fun w2 hw => slR.shape (St.pers 1 rfl see.sub see.dj hw)) (fun hs_v2575 => ?_)
   refine SP.have (fun w2 hw => slR.shape (St.pers 2 rfl see.sub see.dj hw)) (fun hs_v2577 => ?_)
   refine SP.store (v := .agg #[v2573, v2575, .int .u8 x2572.Result, .bool x2572.Reads, .int .i64 x2572.Fuel, .int .i64 x2572.Stack, .int .i64 x2572.Heap, v2577]) (vs := [v2573, v2575, .int .u8 x2572.Result, .bool x2572.Reads, .int .i64 x2572.Fuel, .int .i64 x2572.Stack, .int .i64 x2572.Heap, v2577]) 0 (by rfl) sz41 (by rfl) (by rfl) (by rfl) (by rfl) (one_cons hs_v2573 (one_cons hs_v2575 (one_cons rfl (one_cons rfl (one_cons rfl (one_cons rfl (one_cons rfl (one_cons hs_v2577 (rfl))))))))) (by rfl) ?_
   refine go ?_
   refine SP.lit0 (k := (kInt .u8)) Tryz.underlying38 inf5 rfl rfl (fun v2581 => ?_)
   refine go ?_
   obtain ⟨hb, ho⟩ := must_some ho
   refine SP.append see 0 rfl 0 rfl Tryz.underlying38 inf5 rfl rfl hb rfl rfl rfl rfl rfl (fun v2583 => ?_)
   clear hb
   refine go ?_
   refine SP.have (fun w2 hw => slO.shape (St.own 0 rfl see.sub see.dj hw)) (fun hs_v2583 => ?_)
   refine SP.store (v := v2583) (vs := [v2583]) 1 (by rfl) sz38 (by rfl) (by rfl) (by rfl) (one_cells hs_v2583) (one_cons hs_v2583 (rfl)) (by rfl) ?_
   refine go ?_
   refine SP.lit0 (k := (kInt .u8)) Tryz.underlying38 inf5 rfl rfl (fun v2585 => ?_)
   refine go ?_
   obtain ⟨hb, ho⟩ := must_some ho
   refine SP.append see 0 rfl 1 rfl Tryz.underlying38 inf5 rfl rfl hb rfl rfl rfl rfl rfl (fun v2587 => ?_)
   clear hb
   refine go ?_
   refine SP.have (fun w2 hw => slO.shape (St.own 0 rfl see.sub see.dj hw)) (fun hs_v2587 => ?_)
   refine SP.store (v := v2587) (vs := [v2587]) 2 (by rfl) sz38 (by rfl) (by rfl) (by rfl) (one_cells hs_v2587) (one_cons hs_v2587 (rfl)) (by rfl) ?_
   refine go ?_
   obtain ⟨t2589, hc, ho⟩ := bind_some ho
   refine SP.callK see (caps := []) _ fn26 rfl rfl rfl rfl (fun w2 hP hs sub ap => capstanref05_Copy.ok _ _ _ hc w2 hP sub (ap.get 2 rfl)) (SP.k1 fun v2590 => ?_)
   clear hc
   refine go ?_
   refine SP.have (fun w2 hw => slO.shape (St.own 0 rfl see.sub see.dj hw)) (fun hs_v2590 => ?_)
   refine SP.store (v := v2590) (vs := [v2590]) 3 (by rfl) sz39 (by rfl) (by rfl) (by rfl) (one_cells hs_v2590) (one_cons hs_v2590 (rfl)) (by rfl) ?_
   refine go ?_
   refine SP.val (Val.loadA 3 rfl Tryz.underlying41 rfl sz41 rfl rfl rfl) rfl rfl rfl ?_
   refine SP.have (fun w2 hw => slO.shape (St.own 2 rfl see.sub see.dj hw)) (fun hs_v2583 => ?_)
   refine SP.have (fun w2 hw => slO.shape (St.own 1 rfl see.sub see.dj hw)) (fun hs_v2587 => ?_)
   refine SP.have (fun w2 hw => slO.shape (St.own 0 rfl see.sub see.dj hw)) (fun hs_v2590 => ?_)
   refine SP.lit (k := kRaw 8) (xs := [[v2583, v2587, .int .u8 x2572.Result, .bool x2572.Reads, .int .i64 x2572.Fuel, .int .i64 x2572.Stack, .int .i64 x2572.Heap, v2590]]) (vs := [.agg #[v2583, v2587, .int .u8 x2572.Result, .bool x2572.Reads, .int .i64 x2572.Fuel, .int .i64 x2572.Stack, .int .i64 x2572.Heap, v2590]]) (cells := [v2583, v2587, .int .u8 x2572.Result, .bool x2572.Reads, .int .i64 x2572.Fuel, .int .i64 x2572.Stack, .int .i64 x2572.Heap, v2590]) Tryz.underlying23 inf41 rfl rfl rfl rfl rfl rfl rfl rfl (fun _ ap => ⟨[v2583, v2587, .int .u8 x2572.Result, .bool x2572.Reads, .int .i64 x2572.Fuel, .int .i64 x2572.Stack, .int .i64 x2572.Heap, v2590], _, rfl, ⟨rfl, rfl, one_cons hs_v2583 (one_cons hs_v2587 (one_cons rfl (one_cons rfl (one_cons rfl (one_cons rfl (one_cons rfl (one_cons hs_v2590 (rfl))))))))⟩, rfl⟩) rfl rfl rfl (fun v2592 => ?_)
   refine SP.imp (fun w2 hw => St.litD (k := o_api_Method) (c := [v2583, v2587, .int .u8 x2572.Result, .bool x2572.Reads, .int .i64 x2572.Fuel, .int .i64 x2572.Stack, .int .i64 x2572.Heap, v2590]) (x0 := (⟨([] : List Int) ++ x2572.Args, ([] : List Int) ++ x2572.Locals, x2572.Result, x2572.Reads, x2572.Fuel, x2572.Stack, x2572.Heap, t2589⟩ : api_Method)) [slO (kInt .u8) 5 v2583 (([] : List Int) ++ x2572.Args), slO (kInt .u8) 5 v2587 (([] : List Int) ++ x2572.Locals), slO k_api_Instr 71 v2590 t2589] (St.selO [0, 3, 2, 1, 4, 5, 6, 7, 8, 9, 10] rfl rfl hw) (fun a b q => ⟨_, _, _, rfl, q⟩)) ?_
   refine SP.imp (fun w2 hw => St.selO [2, 0, 1, 3, 4, 5, 6, 7] rfl rfl hw) ?_
   obtain ⟨hb, ho⟩ := must_some ho
   refine SP.appendD see Tryz.underlying23 inf41 rfl rfl hb rfl rfl rfl rfl rfl (fun v2594 => ?_)
   clear hb
   refine go ?_
   refine SP.have (fun w2 hw => slD.shape (St.own 0 rfl see.sub see.dj hw)) (fun hs_v2594 => ?_)
   refine SP.store (v := v2594) (vs := [v2594]) 2 (by rfl) sz23 (by rfl) (by rfl) (by rfl) (one_cells hs_v2594) (one_cons hs_v2594 (rfl)) (by rfl) ?_
   refine go ?_
   obtain rfl := Option.some.inj ho
   exact QE.lower m2569 (by omega) fun a w2 ha hw => ⟨(IntKind.i64.wrap (x2565 + 1)), (l2567 ++ [(⟨([] : List Int) ++ x2572.Args, ([] : List Int) ++ x2572.Locals, x2572.Result, x2572.Reads, x2572.Fuel, x2572.Stack, x2572.Heap, t2589⟩ : api_Method)]), v2594, (by omega), hr, ha.sub sb, (St.selP [4, 5, 6] rfl (St.selO [0, 2, 3, 4, 5, 6] rfl rfl hw))⟩
  refine go ?_
  refine SP.val (Val.loadA 1 rfl Tryz.underlying25 rfl sz25 rfl rfl rfl) rfl rfl rfl ?_
  refine SP.have (fun w2 hw => slO.shape (St.own 3 rfl see.sub see.dj hw)) (fun hs_v633 => ?_)
  refine SP.have (fun w2 hw => slO.shape (St.own 2 rfl see.sub see.dj hw)) (fun hs_v1233 => ?_)
  refine SP.have (fun w2 hw => slD.shape (St.own 0 rfl see.sub see.dj hw)) (fun hs_v2568 => ?_)
  refine SP.store (v := .agg #[v633, v1233, v2568, .int .i64 m_0.Migrate]) (vs := [v633, v1233, v2568, .int .i64 m_0.Migrate]) 4 (by rfl) sz25 (by rfl) (by rfl) (by rfl) (by rfl) (one_cons hs_v633 (one_cons hs_v1233 (one_cons hs_v2568 (one_cons rfl (rfl))))) (by rfl) ?_
  refine go ?_
  obtain rfl := fin ho hr
  exact QE.rt (fun _ h => St.selO [3, 2, 0] rfl rfl h) (rs := [.cell 2 25]) (vs := [.agg #[v633, v1233, v2568, .int .i64 m_0.Migrate]]) (hv := ⟨RVs.cellA 4 rfl rfl Tryz.underlying25 rfl sz25, trivial⟩)
 refine DT.cut (ι := Value × Value) (fun z => [(1, .pointer (some ⟨b4, 0, none⟩)), (2, .pointer (some ⟨b6, 0, none⟩)), (14, .agg #[z.1, z.2, (.slice none 0 0), .int .i64 m_0.Migrate])]) (fun z w2 => St w em hV [slP k_api_Value v_m_0_Globals m_0.Globals, slP k_api_Value v_m_0_Pool m_0.Pool, slP k_api_Method v_m_0_Methods m_0.Methods] [slO k_api_Value 62 z.2 t1431, slO k_api_Value 62 z.1 t831, boxO b6 [(.slice none 0 0), (.slice none 0 0), (.slice none 0 0), .int .i64 0] 25, boxO b4 [v_m_0_Globals, v_m_0_Pool, v_m_0_Methods, .int .i64 m_0.Migrate] 25] w2) 2 #[true, true, true, true, true, true, true, true, true, false, false] (fun z => ?_) (fun J2601 => ?_)
 ·obtain ⟨v633, v1233⟩ := z
  refine DT.one 9 rfl (by kernel_rfl) rfl ?_
  refine SP.alloc (cs := [(.slice none 0 0), (.slice none 0 0), (.slice none 0 0), .int .i64 0]) inf25 rfl rfl (fun b2033 => ?_)
  refine go ?_
  refine QE.atT (fun w2 hw => (St.selO [3, 4] rfl rfl hw)) ?_
  refine DT.list (l2 := #[true, true, true, true, true, true, true, true, true, true, false]) (by kernel_rfl) ?_
  exact DT.weak (by exact ⟨rfl, rfl, rfl, rfl, trivial⟩) (by exact fun w2 hw => hw) (J2535 (v633, v1233, b2033))
 refine DT.cut (ι := Value × Value × Nat) (fun z => [(1, .pointer (some ⟨b4, 0, none⟩)), (2, .pointer (some ⟨b6, 0, none⟩)), (3, .pointer (some ⟨z.2.2, 0, none⟩)), (8, z.1), (11, z.2.1), (13, .int .i64 m_0.Migrate)]) (fun z w2 => St w em hV [slP k_api_Value v_m_0_Globals m_0.Globals, slP k_api_Value v_m_0_Pool m_0.Pool, slP k_api_Method v_m_0_Methods m_0.Methods] [boxO z.2.2 [(.slice none 0 0), (.slice none 0 0), (.slice none 0 0), .int .i64 0] 25, slO k_api_Value 62 z.2.1 t1431, slO k_api_Value 62 z.1 t831, boxO b6 [(.slice none 0 0), (.slice none 0 0), (.slice none 0 0), .int .i64 0] 25, boxO b4 [v_m_0_Globals, v_m_0_Pool, v_m_0_Methods, .int .i64 m_0.Migrate] 25] w2) 2 #[true, true, true, true, true, true, true, true, false, true, false] (fun z => ?_) (fun J2602 => ?_)
 ·obtain ⟨v633, v1233, b2033⟩ := z
  refine DT.one 8 rfl (by kernel_rfl) rfl ?_
  refine SP.have (fun w2 hw => slO.shape (St.own 2 rfl see.sub see.dj hw)) (fun hs_v633 => ?_)
  refine SP.have (fun w2 hw => slO.shape (St.own 1 rfl see.sub see.dj hw)) (fun hs_v1233 => ?_)
  refine SP.val (Val.buildC (us := [(0, v633), (1, v1233), (3, .int .i64 m_0.Migrate)]) (ucs := [(0, [v633]), (1, [v1233]), (3, [.int .i64 m_0.Migrate])]) (cs := [v633, v1233, (.slice none 0 0), .int .i64 m_0.Migrate]) bt25 rfl rfl ⟨rfl, one_cells hs_v633, ⟨rfl, one_cells hs_v1233, ⟨rfl, rfl, trivial⟩⟩⟩ (by rfl)) rfl rfl rfl ?_
  refine go ?_
  refine QE.atT (fun w2 hw => (St.selO [3, 4] rfl rfl hw)) ?_
  refine DT.list (l2 := #[true, true, true, true, true, true, true, true, true, true, false]) (by kernel_rfl) ?_
  exact DT.weak (by exact ⟨rfl, rfl, rfl, rfl, trivial⟩) (by exact fun w2 hw => hw) (J2535 (v633, v1233, b2033))
 refine DT.cut (ι := Value × Value) (fun z => [(1, .pointer (some ⟨b4, 0, none⟩)), (2, .pointer (some ⟨b6, 0, none⟩)), (8, z.1), (11, z.2), (13, .int .i64 m_0.Migrate)]) (fun z w2 => St w em hV [slP k_api_Value v_m_0_Globals m_0.Globals, slP k_api_Value v_m_0_Pool m_0.Pool, slP k_api_Method v_m_0_Methods m_0.Methods] [slO k_api_Value 62 z.2 t1431, slO k_api_Value 62 z.1 t831, boxO b6 [(.slice none 0 0), (.slice none 0 0), (.slice none 0 0), .int .i64 0] 25, boxO b4 [v_m_0_Globals, v_m_0_Pool, v_m_0_Methods, .int .i64 m_0.Migrate] 25] w2) 3 #[true, true, true, true, true, true, true, true, false, false, false] (fun z => ?_) (fun J2603 => ?_)
 ·obtain ⟨v633, v1233⟩ := z
  refine DT.any 8 [9] (by kernel_rfl) ⟨⟨_, rfl, rfl, ?_⟩, ⟨_, rfl, rfl, ?_⟩, trivial⟩
  ·refine SP.have (fun w2 hw => slO.shape (St.own 1 rfl see.sub see.dj hw)) (fun hs_v633 => ?_)
   refine SP.have (fun w2 hw => slO.shape (St.own 0 rfl see.sub see.dj hw)) (fun hs_v1233 => ?_)
   refine SP.val (Val.buildC (us := [(0, v633), (1, v1233), (3, .int .i64 m_0.Migrate)]) (ucs := [(0, [v633]), (1, [v1233]), (3, [.int .i64 m_0.Migrate])]) (cs := [v633, v1233, (.slice none 0 0), .int .i64 m_0.Migrate]) bt25 rfl rfl ⟨rfl, one_cells hs_v633, ⟨rfl, one_cells hs_v1233, ⟨rfl, rfl, trivial⟩⟩⟩ (by rfl)) rfl rfl rfl ?_
   refine go ?_
   refine QE.atT (fun w2 hw => (St.selO [2, 3] rfl rfl hw)) ?_
   refine DT.list (l2 := #[true, true, true, true, true, true, true, true, true, false, false]) (by kernel_rfl) ?_
   exact DT.weak (by exact ⟨rfl, rfl, rfl, trivial⟩) (by exact fun w2 hw => hw) (J2601 (v633, v1233))
  refine SP.alloc (cs := [(.slice none 0 0), (.slice none 0 0), (.slice none 0 0), .int .i64 0]) inf25 rfl rfl (fun b2033 => ?_)
  refine go ?_
  refine QE.atT (fun w2 hw => (St.selO [3, 4] rfl rfl hw)) ?_
  refine DT.list (l2 := #[true, true, true, true, true, true, true, true, false, true, false]) (by kernel_rfl) ?_
  exact DT.weak (by exact ⟨rfl, rfl, rfl, rfl, rfl, rfl, trivial⟩) (by exact fun w2 hw => hw) (J2602 (v633, v1233, b2033))
 refine DT.cut (ι := Value × Nat) (fun z => [(1, .pointer (some ⟨b4, 0, none⟩)), (2, .pointer (some ⟨b6, 0, none⟩)), (3, .pointer (some ⟨z.2, 0, none⟩)), (8, z.1), (10, v_m_0_Pool), (13, .int .i64 m_0.Migrate)]) (fun z w2 => St w em hV [slP k_api_Value v_m_0_Globals m_0.Globals, slP k_api_Value v_m_0_Pool m_0.Pool, slP k_api_Method v_m_0_Methods m_0.Methods] [boxO z.2 [(.slice none 0 0), (.slice none 0 0), (.slice none 0 0), .int .i64 0] 25, slO k_api_Value 62 z.1 t831, boxO b6 [(.slice none 0 0), (.slice none 0 0), (.slice none 0 0), .int .i64 0] 25, boxO b4 [v_m_0_Globals, v_m_0_Pool, v_m_0_Methods, .int .i64 m_0.Migrate] 25] w2) 3 #[true, true, true, true, true, false, true, true, false, true, false] (fun z => ?_) (fun J2606 => ?_)
 ·obtain ⟨v633, b2033⟩ := z
  refine DT.one 5 rfl (by kernel_rfl) rfl ?_
  refine SP.callK see (caps := []) _ fn25 rfl rfl rfl rfl (fun w2 hP hs sub ap => capstanref03_Copy.ok m_0.Pool _ _ hc_t1431 w2 hP sub (ap.get 1 rfl)) (SP.k1 fun v1233 => ?_)
  refine go ?_
  refine QE.atT (fun w2 hw => (St.selO [3, 4] rfl rfl hw)) ?_
  refine DT.list (l2 := #[true, true, true, true, true, true, true, true, false, true, false]) (by kernel_rfl) ?_
  exact DT.weak (by exact ⟨rfl, rfl, rfl, rfl, rfl, rfl, trivial⟩) (by exact fun w2 hw => (St.selO [1, 0, 2, 3, 4] rfl rfl hw)) (J2602 (v633, v1233, b2033))
 refine DT.cut (ι := Value) (fun z => [(1, .pointer (some ⟨b4, 0, none⟩)), (2, .pointer (some ⟨b6, 0, none⟩)), (8, z), (10, v_m_0_Pool), (13, .int .i64 m_0.Migrate)]) (fun z w2 => St w em hV [slP k_api_Value v_m_0_Globals m_0.Globals, slP k_api_Value v_m_0_Pool m_0.Pool, slP k_api_Method v_m_0_Methods m_0.Methods] [slO k_api_Value 62 z t831, boxO b6 [(.slice none 0 0), (.slice none 0 0), (.slice none 0 0), .int .i64 0] 25, boxO b4 [v_m_0_Globals, v_m_0_Pool, v_m_0_Methods, .int .i64 m_0.Migrate] 25] w2) 4 #[true, true, true, true, true, false, true, true, false, false, false] (fun z => ?_) (fun J2607 => ?_)
 ·rename Value => v633
  refine DT.any 5 [9] (by kernel_rfl) ⟨⟨_, rfl, rfl, ?_⟩, ⟨_, rfl, rfl, ?_⟩, trivial⟩
  ·refine SP.callK see (caps := []) _ fn25 rfl rfl rfl rfl (fun w2 hP hs sub ap => capstanref03_Copy.ok m_0.Pool _ _ hc_t1431 w2 hP sub (ap.get 1 rfl)) (SP.k1 fun v1233 => ?_)
   refine go ?_
   refine QE.atT (fun w2 hw => (St.selO [2, 3] rfl rfl hw)) ?_
   refine DT.list (l2 := #[true, true, true, true, true, true, true, true, false, false, false]) (by kernel_rfl) ?_
   exact DT.weak (by exact ⟨rfl, rfl, rfl, rfl, rfl, trivial⟩) (by exact fun w2 hw => hw) (J2603 (v633, v1233))
  refine SP.alloc (cs := [(.slice none 0 0), (.slice none 0 0), (.slice none 0 0), .int .i64 0]) inf25 rfl rfl (fun b2033 => ?_)
  refine go ?_
  refine QE.atT (fun w2 hw => (St.selO [2, 3] rfl rfl hw)) ?_
  refine DT.list (l2 := #[true, true, true, true, true, false, true, true, false, true, false]) (by kernel_rfl) ?_
  exact DT.weak (by exact ⟨rfl, rfl, rfl, rfl, rfl, rfl, trivial⟩) (by exact fun w2 hw => hw) (J2606 (v633, b2033))
 refine DT.cut (ι := Nat) (fun z => [(1, .pointer (some ⟨b4, 0, none⟩)), (2, .pointer (some ⟨b6, 0, none⟩)), (3, .pointer (some ⟨z, 0, none⟩)), (7, v_m_0_Globals), (10, v_m_0_Pool), (13, .int .i64 m_0.Migrate)]) (fun z w2 => St w em hV [slP k_api_Value v_m_0_Globals m_0.Globals, slP k_api_Value v_m_0_Pool m_0.Pool, slP k_api_Method v_m_0_Methods m_0.Methods] [boxO z [(.slice none 0 0), (.slice none 0 0), (.slice none 0 0), .int .i64 0] 25, boxO b6 [(.slice none 0 0), (.slice none 0 0), (.slice none 0 0), .int .i64 0] 25, boxO b4 [v_m_0_Globals, v_m_0_Pool, v_m_0_Methods, .int .i64 m_0.Migrate] 25] w2) 4 #[true, true, false, true, true, false, true, true, false, true, false] (fun z => ?_) (fun J2613 => ?_)
 ·rename Nat => b2033
  refine DT.one 2 rfl (by kernel_rfl) rfl ?_
  refine SP.callK see (caps := []) _ fn25 rfl rfl rfl rfl (fun w2 hP hs sub ap => capstanref03_Copy.ok m_0.Globals _ _ hc_t831 w2 hP sub (ap.get 0 rfl)) (SP.k1 fun v633 => ?_)
  refine go ?_
  refine QE.atT (fun w2 hw => (St.selO [2, 3] rfl rfl hw)) ?_
  refine DT.list (l2 := #[true, true, true, true, true, false, true, true, false, true, false]) (by kernel_rfl) ?_
  exact DT.weak (by exact ⟨rfl, rfl, rfl, rfl, rfl, rfl, trivial⟩) (by exact fun w2 hw => (St.selO [1, 0, 2, 3] rfl rfl hw)) (J2606 (v633, b2033))
 refine DT.any 2 [9] (by kernel_rfl) ⟨⟨_, rfl, rfl, ?_⟩, ⟨_, rfl, rfl, ?_⟩, trivial⟩
 ·refine SP.callK see (caps := []) _ fn25 rfl rfl rfl rfl (fun w2 hP hs sub ap => capstanref03_Copy.ok m_0.Globals _ _ hc_t831 w2 hP sub (ap.get 0 rfl)) (SP.k1 fun v633 => ?_)
  refine go ?_
  refine QE.atT (fun w2 hw => (St.selO [1, 2] rfl rfl hw)) ?_
  refine DT.list (l2 := #[true, true, true, true, true, false, true, true, false, false, false]) (by kernel_rfl) ?_
  exact DT.weak (by exact ⟨rfl, rfl, rfl, rfl, rfl, trivial⟩) (by exact fun w2 hw => hw) (J2607 v633)
 refine SP.alloc (cs := [(.slice none 0 0), (.slice none 0 0), (.slice none 0 0), .int .i64 0]) inf25 rfl rfl (fun b2033 => ?_)
 refine go ?_
 refine QE.atT (fun w2 hw => (St.selO [1, 2] rfl rfl hw)) ?_
 refine DT.list (l2 := #[true, true, false, true, true, false, true, true, false, true, false]) (by kernel_rfl) ?_
 exact DT.weak (by exact ⟨rfl, rfl, rfl, rfl, rfl, rfl, trivial⟩) (by exact fun w2 hw => hw) (J2613 b2033)
inductive capstanref11_calls.S where
  | start
  | l1 (x20 : Int)
def capstanref11_calls.F (x_0 : api_Method) (n_1 : Int) : capstanref11_calls.S → Option (capstanref11_calls.S ⊕ Bool)
  | .start => some (.inl (.l1 0))
  | .l1 x20 => if x20 < (x_0.Code.length : Int) then ((elt x_0.Code x20).bind fun x24 => (if x24.Op = 30 then ((elt x_0.Code x20).bind fun x31 => some (decide (x31.A = n_1))) else (some false)).bind fun t34 => if t34 = true then (some (.inr true)) else (some (.inl (.l1 (IntKind.i64.wrap (x20 + 1)))))) else (some (.inr false))
def capstanref11_calls.f (x_0 : api_Method) (n_1 : Int) : Option Bool := runF (capstanref11_calls.F x_0 n_1) .start
theorem capstanref11_calls.ok (x_0 : api_Method) (n_1 : Int) (v_x_0_Args v_x_0_Locals v_x_0_Code : Value) (r : Bool) (H : capstanref11_calls.f x_0 n_1 = some r) (w : World) (hV : Hp) (sV : Sub hV (hp w)) (h0 : slR (kInt .u8) hV v_x_0_Args x_0.Args) (h1 : slR (kInt .u8) hV v_x_0_Locals x_0.Locals) (h2 : slR k_api_Instr hV v_x_0_Code x_0.Code) :
    Trip Tryz.prog 81 [.agg #[v_x_0_Args, v_x_0_Locals, .int .u8 x_0.Result, .bool x_0.Reads, .int .i64 x_0.Fuel, .int .i64 x_0.Stack, .int .i64 x_0.Heap, v_x_0_Code], .int .i64 n_1].toArray em hV w (fun v => HO.pure (v = .bool r)) := by
 refine Trip.go 30 Tryz.func81 sV (aS h0 (aS h1 (aS h2 (All.nil _)))) fun see => ?_
 obtain ⟨n0, hi⟩ := runF_iff.1 H
 obtain ⟨m0, o, hm0, ho, hr⟩ := iter_some hi
 clear hi
 refine go ?_
 refine SP.box rfl rfl rfl rfl fun b4 => ?_
 refine go ?_
 refine CP.seq ?_
 refine go ?_
 obtain rfl := Option.some.inj ho
 refine CP.loop (fun cl1 a w2 => ∃ x20 : Int, cl1 ≤ m0 ∧ iter (capstanref11_calls.F x_0 n_1) cl1 (.l1 x20) = some r ∧ Env ⟨30, []⟩ [(1, .int .i64 n_1), (2, .pointer (some ⟨b4, 0, none⟩)), (5, .int .i64 x20)] a ∧ St w em hV [slP (kInt .u8) v_x_0_Args x_0.Args, slP (kInt .u8) v_x_0_Locals x_0.Locals, slP k_api_Instr v_x_0_Code x_0.Code] [boxO b4 [v_x_0_Args, v_x_0_Locals, .int .u8 x_0.Result, .bool x_0.Reads, .int .i64 x_0.Fuel, .int .i64 x_0.Stack, .int .i64 x_0.Heap, v_x_0_Code] 41] w2) m0 (fun a w2 ha hw => ⟨0, Nat.le_refl _, hr, ha.sub sb, hw⟩) ?_
 clear hr
 rintro cl1 a w2 ⟨x20, hc_l1, hi, ha, hw⟩
 obtain ⟨m21, o, hm_m21, ho, hr⟩ := iter_some hi
 refine CP.app ha hw ?_
 clear ha hw a w2 hi
 refine CP.seq ?_
 refine go ?_
 refine CP.ci ho (fun ho => ?_) fun ho => ?_
 ·refine go ?_
  refine CP.seq ?_
  refine go ?_
  obtain ⟨x24, hx, ho⟩ := elt_bind ho
  refine SP.indexP see 2 rfl Tryz.underlying39 sz71 hx.1 hx.2 rfl rfl rfl rfl (fun p22 => ?_)
  clear hx
  refine SP.fieldP see 0 rfl Tryz.underlying71 rfl sz5 k_api_Instr.part_Op rfl rfl rfl (fun p25 => ?_)
  refine SP.val (Val.loadP1 see 0 rfl (fun _ _ e => e) Tryz.underlying5 rfl rfl) rfl rfl rfl ?_
  refine go ?_
  obtain ⟨t34, hg_t34, ho⟩ := bind_some ho
  refine SP.jn 9 [1, 2, 5] 29 (.bool t34) ?_ ?_
  ·clear hg_t34
   refine go ?_
   refine CP.cb ho (fun ho => ?_) fun ho => ?_
   ·refine go ?_
    obtain rfl := fin ho hr
    exact QE.rt (fun _ h => h)
   refine go ?_
   obtain rfl := Option.some.inj ho
   exact QE.lower m21 (by omega) fun a w2 ha hw => ⟨(IntKind.i64.wrap (x20 + 1)), (by omega), hr, ha.sub sb, (St.selP [2, 3, 4] rfl hw)⟩
  refine SP.ci 20 hg_t34 (fun hq28 ho => ?_) fun hq28 ho => ?_
  ·refine go ?_
   obtain ⟨x31, hx, ho⟩ := elt_bind ho
   refine SP.indexP see 4 rfl Tryz.underlying39 sz71 hx.1 hx.2 rfl rfl rfl rfl (fun p29 => ?_)
   clear hx
   refine SP.fieldP see 0 rfl Tryz.underlying71 rfl sz3 k_api_Instr.part_A rfl rfl rfl (fun p32 => ?_)
   refine SP.val (Val.loadP1 see 0 rfl (fun _ _ e => e) Tryz.underlying3 rfl rfl) rfl rfl rfl ?_
   refine go ?_
   obtain rfl := Option.some.inj ho
   exact QE.jn fun w2 hw => (St.selP [2, 3, 4, 5, 6] rfl hw)
  refine go ?_
  obtain rfl := Option.some.inj ho
  exact QE.jn fun w2 hw => hw
 refine go ?_
 obtain rfl := fin ho hr
 exact QE.rt (fun _ h => h)
inductive capstanref11_Whom.S where
  | start
  | l1 (x11 : api_Method) (x76 : Int)
  | l2 (x11 : api_Method) (l115 : List Int) (x117 : Int)
def capstanref11_Whom.j1 (m_0 : api_Module) (k_1 : Int) (x11 : api_Method) (x76 : Int) (b98 : Bool) : Option (capstanref11_Whom.S ⊕ ((List Int) × Int)) :=
  if b98 = true then (some (.inr ([], 2))) else (some (.inl (.l1 x11 (IntKind.i64.wrap (x76 + 1)))))
def capstanref11_Whom.j2 (m_0 : api_Module) (k_1 : Int) (x11 : api_Method) (x117 : Int) (l125 : List Int) : Option (capstanref11_Whom.S ⊕ ((List Int) × Int)) :=
  some (.inl (.l2 x11 l125 (IntKind.i64.wrap (x117 + 1))))
def capstanref11_Whom.F (m_0 : api_Module) (k_1 : Int) : capstanref11_Whom.S → Option (capstanref11_Whom.S ⊕ ((List Int) × Int))
  | .start => if ((decide (k_1 < 0)) || (decide (k_1 ≥ (m_0.Methods.length : Int)))) = true then (some (.inr ([], 2))) else ((elt m_0.Methods k_1).bind fun x11 => some (.inl (.l1 x11 0)))
  | .l1 x11 x76 => if x76 < (x11.Code.length : Int) then ((elt x11.Code x76).bind fun x80 => if x80.Op = 30 then ((elt x11.Code x76).bind fun x86 => if x86.A < 0 then (capstanref11_Whom.j1 m_0 k_1 x11 x76 true) else ((elt x11.Code x76).bind fun x93 => capstanref11_Whom.j1 m_0 k_1 x11 x76 (decide (x93.A ≥ (m_0.Methods.length : Int))))) else (capstanref11_Whom.j1 m_0 k_1 x11 x76 false)) else (some (.inl (.l2 x11 [] 0)))
  | .l2 x11 l115 x117 => if x117 < (m_0.Methods.length : Int) then ((capstanref11_calls.f x11 x117).bind fun t119 => if t119 = true then (if (l115.length + [x117].length) * 8 ≤ 140737488355328 then (capstanref11_Whom.j2 m_0 k_1 x11 x117 (l115 ++ [x117])) else none) else (capstanref11_Whom.j2 m_0 k_1 x11 x117 l115)) else (some (.inr (l115, 0)))
def capstanref11_Whom.f (m_0 : api_Module) (k_1 : Int) : Option ((List Int) × Int) := runF (capstanref11_Whom.F m_0 k_1) .start
theorem capstanref11_Whom.ok (m_0 : api_Module) (k_1 : Int) (v_m_0_Globals v_m_0_Pool v_m_0_Methods : Value) (r : (List Int) × Int) (H : capstanref11_Whom.f m_0 k_1 = some r) (w : World) (hV : Hp) (sV : Sub hV (hp w)) (h0 : slR k_api_Value hV v_m_0_Globals m_0.Globals) (h1 : slR k_api_Value hV v_m_0_Pool m_0.Pool) (h2 : slR k_api_Method hV v_m_0_Methods m_0.Methods) :
    Trip Tryz.prog 59 [.agg #[v_m_0_Globals, v_m_0_Pool, v_m_0_Methods, .int .i64 m_0.Migrate], .int .i64 k_1].toArray em hV w (fun v => HO.ex fun u0 : Value => HO.pand (v = .tuple #[u0, .int .i64 r.2]) (HO.seps [slO (kInt .i64) 3 u0 r.1])) := by
 refine Trip.go 74 Tryz.func59 sV (aS h0 (aS h1 (aS h2 (All.nil _)))) fun see => ?_
 obtain ⟨n0, hi⟩ := runF_iff.1 H
 obtain ⟨m0, o, hm0, ho, hr⟩ := iter_some hi
 clear hi
 refine go ?_
 refine SP.box rfl rfl rfl rfl fun b4 => ?_
 refine go ?_
 refine CP.seq ?_
 refine go ?_
 refine SP.jn 6 [1, 2] 18 (.bool ((decide (k_1 < 0)) || (decide (k_1 ≥ (m_0.Methods.length : Int))))) ?_ ?_
 ·refine go ?_
  refine CP.cb ho (fun ho => ?_) fun ho => ?_
  ·refine go ?_
   obtain rfl := fin ho hr
   exact QE.rt (fun _ h => St.selO [0] rfl rfl (St.addO (slO.nil (kInt .i64) 3) h))
  refine go ?_
  obtain ⟨x11, hx, ho⟩ := elt_bind ho
  refine SP.indexP see 2 rfl Tryz.underlying23 sz41 hx.1 hx.2 rfl rfl rfl rfl (fun p9 => ?_)
  clear hx
  refine k_api_Method.load see 0 rfl Tryz.underlying41 rfl sz41 rfl rfl rfl (fun v12 v14 v16 => ?_)
  refine SP.alloc (cs := [(.slice none 0 0), (.slice none 0 0), .int .u8 0, .bool false, .int .i64 0, .int .i64 0, .int .i64 0, (.slice none 0 0)]) inf41 rfl rfl (fun b18 => ?_)
  refine SP.have (fun w2 hw => slR.shape (St.pers 0 rfl see.sub see.dj hw)) (fun hs_v12 => ?_)
  refine SP.have (fun w2 hw => slR.shape (St.pers 1 rfl see.sub see.dj hw)) (fun hs_v14 => ?_)
  refine SP.have (fun w2 hw => slR.shape (St.pers 2 rfl see.sub see.dj hw)) (fun hs_v16 => ?_)
  refine SP.store (v := .agg #[v12, v14, .int .u8 x11.Result, .bool x11.Reads, .int .i64 x11.Fuel, .int .i64 x11.Stack, .int .i64 x11.Heap, v16]) (vs := [v12, v14, .int .u8 x11.Result, .bool x11.Reads, .int .i64 x11.Fuel, .int .i64 x11.Stack, .int .i64 x11.Heap, v16]) 0 (by rfl) sz41 (by rfl) (by rfl) (by rfl) (by rfl) (one_cons hs_v12 (one_cons hs_v14 (one_cons rfl (one_cons rfl (one_cons rfl (one_cons rfl (one_cons rfl (one_cons hs_v16 (rfl))))))))) (by rfl) ?_
  refine go ?_
  refine CP.seq ?_
  refine go ?_
  obtain rfl := Option.some.inj ho
  refine CP.loop (fun cl1 a w2 => ∃ x76 : Int, cl1 ≤ m0 ∧ iter (capstanref11_Whom.F m_0 k_1) cl1 (.l1 x11 x76) = some r ∧ Env ⟨74, []⟩ [(2, .pointer (some ⟨b4, 0, none⟩)), (6, .pointer (some ⟨b18, 0, none⟩)), (7, .int .i64 x76)] a ∧ St w em hV [slP (kInt .u8) v12 x11.Args, slP (kInt .u8) v14 x11.Locals, slP k_api_Instr v16 x11.Code, slP k_api_Value v_m_0_Globals m_0.Globals, slP k_api_Value v_m_0_Pool m_0.Pool, slP k_api_Method v_m_0_Methods m_0.Methods] [boxO b18 [v12, v14, .int .u8 x11.Result, .bool x11.Reads, .int .i64 x11.Fuel, .int .i64 x11.Stack, .int .i64 x11.Heap, v16] 41, boxO b4 [v_m_0_Globals, v_m_0_Pool, v_m_0_Methods, .int .i64 m_0.Migrate] 25] w2) m0 (fun a w2 ha hw => ⟨0, Nat.le_refl _, hr, ha.sub sb, (St.selP [0, 1, 2, 4, 5, 6] rfl hw)⟩) ?_
  clear hr
  rintro cl1 a w2 ⟨x76, hc_l1, hi, ha, hw⟩
  obtain ⟨m77, o, hm_m77, ho, hr⟩ := iter_some hi
  refine CP.app ha hw ?_
  clear ha hw a w2 hi
  refine CP.seq ?_
  refine go ?_
  refine CP.ci ho (fun ho => ?_) fun ho => ?_
  ·refine go ?_
   refine CP.seq ?_
   refine go ?_
   refine CP.join (fun a w2 => ∃ b98 : Bool, ∃ (m99 : Nat) (o : (capstanref11_Whom.S ⊕ ((List Int) × Int))), m99 ≤ m77 ∧ capstanref11_Whom.j1 m_0 k_1 x11 x76 b98 = some o ∧ next (capstanref11_Whom.F m_0 k_1) m99 o = some r ∧ Env ⟨74, []⟩ [(2, .pointer (some ⟨b4, 0, none⟩)), (6, .pointer (some ⟨b18, 0, none⟩)), (7, .int .i64 x76), (58, .bool b98)] a ∧ St w em hV [slP (kInt .u8) v12 x11.Args, slP (kInt .u8) v14 x11.Locals, slP k_api_Instr v16 x11.Code, slP k_api_Value v_m_0_Globals m_0.Globals, slP k_api_Value v_m_0_Pool m_0.Pool, slP k_api_Method v_m_0_Methods m_0.Methods] [boxO b18 [v12, v14, .int .u8 x11.Result, .bool x11.Reads, .int .i64 x11.Fuel, .int .i64 x11.Stack, .int .i64 x11.Heap, v16] 41, boxO b4 [v_m_0_Globals, v_m_0_Pool, v_m_0_Methods, .int .i64 m_0.Migrate] 25] w2) ?_ ?_
   ·rintro a w2 ⟨b98, m99, o, hm_m99, ho, hr, ha, hw⟩
    refine CP.app ha hw ?_
    clear ha hw a w2
    refine CP.cb ho (fun ho => ?_) fun ho => ?_
    ·refine go ?_
     obtain rfl := fin ho hr
     exact QE.rt (fun _ h => St.selO [0] rfl rfl (St.addO (slO.nil (kInt .i64) 3) h))
    refine go ?_
    obtain rfl := Option.some.inj ho
    exact QE.lower m99 (by omega) fun a w2 ha hw => ⟨(IntKind.i64.wrap (x76 + 1)), (by omega), hr, ha.sub sb, hw⟩
   refine CP.drawA (by kernel_rfl) (fun w2 k h => h.drawn k) ?_
   refine DA.ph 0 3 ?_
   refine DT.tk 0 ?_
   refine DT.tk 1 ?_
   refine DT.tk 2 ?_
   refine DT.next (by kernel_rfl) ?_
   refine DA.one 3 rfl (by kernel_rfl) ?_
   obtain ⟨x80, hx, ho⟩ := elt_bind ho
   refine SP.indexP see 2 rfl Tryz.underlying39 sz71 hx.1 hx.2 rfl rfl rfl rfl (fun p78 => ?_)
   clear hx
   refine go ?_
   refine QE.atA ?_
   refine DA.one 4 rfl (by kernel_rfl) ?_
   refine SP.fieldP see 0 rfl Tryz.underlying71 rfl sz5 k_api_Instr.part_Op rfl rfl rfl (fun p81 => ?_)
   refine go ?_
   refine QE.atA ?_
   refine DA.one 5 rfl (by kernel_rfl) ?_
   refine SP.val (Val.loadP1 see 0 rfl (fun _ _ e => e) Tryz.underlying5 rfl rfl) rfl rfl rfl ?_
   refine go ?_
   refine QE.atA ?_
   refine DA.one 6 rfl (by kernel_rfl) ?_
   refine go ?_
   refine QE.atA ?_
   refine DA.one 7 rfl (by kernel_rfl) ?_
   refine go ?_
   refine QE.atA ?_
   rcases if_some ho with ⟨hc, ho⟩ | ⟨hc, ho⟩
   ·have hg83 := (decide_eq_true hc)
    clear hc
    refine DA.ph 8 11 ?_
    refine DT.is (d := 38) (b := true) rfl hg83 ?_
    refine DT.tk 8 ?_
    refine DT.tk 9 ?_
    refine DT.tk 10 ?_
    refine DT.next (by kernel_rfl) ?_
    refine DA.one 11 rfl (by kernel_rfl) ?_
    obtain ⟨x86, hx, ho⟩ := elt_bind ho
    refine SP.indexP see 4 rfl Tryz.underlying39 sz71 hx.1 hx.2 rfl rfl rfl rfl (fun p84 => ?_)
    clear hx
    refine go ?_
    refine QE.atA ?_
    refine DA.one 12 rfl (by kernel_rfl) ?_
    refine SP.fieldP see 0 rfl Tryz.underlying71 rfl sz3 k_api_Instr.part_A rfl rfl rfl (fun p87 => ?_)
    refine go ?_
    refine QE.atA ?_
    refine DA.one 13 rfl (by kernel_rfl) ?_
    refine SP.val (Val.loadP1 see 0 rfl (fun _ _ e => e) Tryz.underlying3 rfl rfl) rfl rfl rfl ?_
    refine go ?_
    refine QE.atA ?_
    refine DA.one 14 rfl (by kernel_rfl) ?_
    refine go ?_
    refine QE.atA ?_
    refine DA.one 15 rfl (by kernel_rfl) ?_
    refine go ?_
    refine QE.atA ?_
    rcases if_some ho with ⟨hc, ho⟩ | ⟨hc, ho⟩
    ·have hg89 := (decide_eq_true hc)
     clear hc
     refine DA.ph 16 25 ?_
     refine DT.is (d := 46) (b := true) rfl hg89 ?_
     refine DT.tn 16 ?_
     refine DT.tn 17 ?_
     refine DT.tn 18 ?_
     refine DT.tn 19 ?_
     refine DT.tn 20 ?_
     refine DT.tn 21 ?_
     refine DT.tn 22 ?_
     refine DT.tn 23 ?_
     refine DT.tn 24 ?_
     refine DT.next (by kernel_rfl) ?_
     refine DA.ph 25 26 ?_
     refine DT.tn 25 ?_
     refine DT.next (by kernel_rfl) ?_
     refine DA.one 26 rfl (by kernel_rfl) ?_
     refine go ?_
     refine QE.atA ?_
     refine DA.one 27 rfl (by kernel_rfl) ?_
     refine go ?_
     refine QE.atA ?_
     refine DA.done (by kernel_rfl) ?_
     exact QE.meet fun a w2 ha hw => ⟨true, m77, _, (by omega), ho, hr, ha.sub sb, (St.selP [4, 5, 6, 7, 8, 9] rfl hw)⟩
    have hg90 := (decide_eq_false hc)
    clear hc
    obtain ⟨x93, hx, ho⟩ := elt_bind ho
    refine DA.ghost (fun w2 h => h.elem see 6 rfl hx.1 hx.2) (fun p91 h_p91 => ?_)
    clear hx
    refine DA.ghost (fun w2 h => h.fieldE see 0 rfl k_api_Instr.part_A) (fun p94 h_p94 => ?_)
    refine DA.ghost (fun w2 h => h.openE see 0 rfl (fun _ : Unit => [.int .i64 x93.A]) (fun _ => []) (fun h cs e => ⟨(), e, All.nil _⟩)) (fun _ _ => ?_)
    refine DA.ph 16 25 ?_
    refine DT.is (d := 46) (b := false) rfl hg90 ?_
    refine DT.tk 16 ?_
    refine DT.tk 17 ?_
    refine DT.tk 18 ?_
    refine DT.tv 19 rfl (Val.indexE h_p91 Tryz.underlying39 sz71 rfl rfl) ?_
    refine DT.tv 20 rfl (Val.fieldE h_p94 Tryz.underlying71 rfl rfl sz3 rfl) ?_
    refine DT.tv 21 rfl (Val.loadAt1 see 0 rfl Tryz.underlying3 rfl rfl) ?_
    refine DT.tk 22 ?_
    refine DT.tk 23 ?_
    refine DT.tk 24 ?_
    refine DT.next (by kernel_rfl) ?_
    refine DA.one 25 rfl (by kernel_rfl) ?_
    refine go ?_
    refine QE.atA ?_
    refine DA.one 26 rfl (by kernel_rfl) ?_
    refine go ?_
    refine QE.atA ?_
    refine DA.one 27 rfl (by kernel_rfl) ?_
    refine go ?_
    refine QE.atA ?_
    refine DA.done (by kernel_rfl) ?_
    exact QE.meet fun a w2 ha hw => ⟨(decide (x93.A ≥ (m_0.Methods.length : Int))), m77, _, (by omega), ho, hr, ha.sub sb, (St.selP [7, 8, 9, 10, 11, 12] rfl hw)⟩
   have hg97 := (decide_eq_false hc)
   clear hc
   refine DA.ph 8 11 ?_
   refine DT.is (d := 38) (b := false) rfl hg97 ?_
   refine DT.tn 8 ?_
   refine DT.tn 9 ?_
   refine DT.tn 10 ?_
   refine DT.next (by kernel_rfl) ?_
   refine DA.ph 11 12 ?_
   refine DT.tn 11 ?_
   refine DT.next (by kernel_rfl) ?_
   refine DA.ph 12 13 ?_
   refine DT.tn 12 ?_
   refine DT.next (by kernel_rfl) ?_
   refine DA.ph 13 14 ?_
   refine DT.tn 13 ?_
   refine DT.next (by kernel_rfl) ?_
   refine DA.ph 14 15 ?_
   refine DT.tn 14 ?_
   refine DT.next (by kernel_rfl) ?_
   refine DA.ph 15 16 ?_
   refine DT.tn 15 ?_
   refine DT.next (by kernel_rfl) ?_
   refine DA.ph 16 25 ?_
   refine DT.tn 16 ?_
   refine DT.tn 17 ?_
   refine DT.tn 18 ?_
   refine DT.tn 19 ?_
   refine DT.tn 20 ?_
   refine DT.tn 21 ?_
   refine DT.tn 22 ?_
   refine DT.tn 23 ?_
   refine DT.tn 24 ?_
   refine DT.next (by kernel_rfl) ?_
   refine DA.ph 25 26 ?_
   refine DT.tn 25 ?_
   refine DT.next (by kernel_rfl) ?_
   refine DA.ph 26 27 ?_
   refine DT.tn 26 ?_
   refine DT.next (by kernel_rfl) ?_
   refine DA.one 27 rfl (by kernel_rfl) ?_
   refine go ?_
   refine QE.atA ?_
   refine DA.done (by kernel_rfl) ?_
   exact QE.meet fun a w2 ha hw => ⟨false, m77, _, (by omega), ho, hr, ha.sub sb, (St.selP [2, 3, 4, 5, 6, 7] rfl hw)⟩
  refine go ?_
  refine CP.seq ?_
  refine go ?_
  obtain rfl := Option.some.inj ho
  refine CP.loop (fun cl2 a w2 => ∃ l115 : List Int, ∃ x117 : Int, ∃ v116 : Value, cl2 ≤ m77 ∧ iter (capstanref11_Whom.F m_0 k_1) cl2 (.l2 x11 l115 x117) = some r ∧ Env ⟨74, []⟩ [(2, .pointer (some ⟨b4, 0, none⟩)), (6, .pointer (some ⟨b18, 0, none⟩)), (8, v116), (9, .int .i64 x117)] a ∧ St w em hV [slP (kInt .u8) v12 x11.Args, slP (kInt .u8) v14 x11.Locals, slP k_api_Instr v16 x11.Code, slP k_api_Value v_m_0_Globals m_0.Globals, slP k_api_Value v_m_0_Pool m_0.Pool, slP k_api_Method v_m_0_Methods m_0.Methods] [slO (kInt .i64) 3 v116 l115, boxO b18 [v12, v14, .int .u8 x11.Result, .bool x11.Reads, .int .i64 x11.Fuel, .int .i64 x11.Stack, .int .i64 x11.Heap, v16] 41, boxO b4 [v_m_0_Globals, v_m_0_Pool, v_m_0_Methods, .int .i64 m_0.Migrate] 25] w2) m77 (fun a w2 ha hw => ⟨[], 0, (.slice none 0 0), Nat.le_refl _, hr, ha.sub sb, (St.addO (slO.nil (kInt .i64) 3) hw)⟩) ?_
  clear hr
  rintro cl2 a w2 ⟨l115, x117, v116, hc_l2, hi, ha, hw⟩
  obtain ⟨m118, o, hm_m118, ho, hr⟩ := iter_some hi
  refine CP.app ha hw ?_
  clear ha hw a w2 hi
  refine CP.seq ?_
  refine go ?_
  refine CP.ci ho (fun ho => ?_) fun ho => ?_
  ·refine go ?_
   refine CP.join (fun a w2 => ∃ l125 : List Int, ∃ v126 : Value, ∃ (m127 : Nat) (o : (capstanref11_Whom.S ⊕ ((List Int) × Int))), m127 ≤ m118 ∧ capstanref11_Whom.j2 m_0 k_1 x11 x117 l125 = some o ∧ next (capstanref11_Whom.F m_0 k_1) m127 o = some r ∧ Env ⟨74, []⟩ [(2, .pointer (some ⟨b4, 0, none⟩)), (6, .pointer (some ⟨b18, 0, none⟩)), (8, v126), (9, .int .i64 x117)] a ∧ St w em hV [slP (kInt .u8) v12 x11.Args, slP (kInt .u8) v14 x11.Locals, slP k_api_Instr v16 x11.Code, slP k_api_Value v_m_0_Globals m_0.Globals, slP k_api_Value v_m_0_Pool m_0.Pool, slP k_api_Method v_m_0_Methods m_0.Methods] [slO (kInt .i64) 3 v126 l125, boxO b18 [v12, v14, .int .u8 x11.Result, .bool x11.Reads, .int .i64 x11.Fuel, .int .i64 x11.Stack, .int .i64 x11.Heap, v16] 41, boxO b4 [v_m_0_Globals, v_m_0_Pool, v_m_0_Methods, .int .i64 m_0.Migrate] 25] w2) ?_ ?_
   ·rintro a w2 ⟨l125, v126, m127, o, hm_m127, ho, hr, ha, hw⟩
    refine CP.app ha hw ?_
    clear ha hw a w2
    refine go ?_
    obtain rfl := Option.some.inj ho
    exact QE.lower m127 (by omega) fun a w2 ha hw => ⟨l125, (IntKind.i64.wrap (x117 + 1)), v126, (by omega), hr, ha.sub sb, hw⟩
   refine go ?_
   refine SP.val (Val.loadA 1 rfl Tryz.underlying41 rfl sz41 rfl rfl rfl) rfl rfl rfl ?_
   refine go ?_
   obtain ⟨t119, hc, ho⟩ := bind_some ho
   refine SP.callV see (caps := []) (.bool t119) fn81 rfl rfl rfl rfl (fun w2 hP hs sub ap => capstanref11_calls.ok _ _ _ _ _ _ hc w2 hP sub (ap.get 0 rfl) (ap.get 1 rfl) (ap.get 2 rfl)) ?_
   clear hc
   refine go ?_
   refine CP.cb ho (fun ho => ?_) fun ho => ?_
   ·refine go ?_
    refine SP.lit (k := (kInt .i64)) (xs := [x117]) (vs := [.int .i64 x117]) (cells := [.int .i64 x117]) Tryz.underlying55 inf3 rfl rfl rfl rfl rfl rfl rfl rfl (fun _ ap => ⟨[.int .i64 x117], _, rfl, rfl, rfl⟩) rfl rfl rfl (fun v120 => ?_)
    refine SP.freezeS see 0 rfl ?_
    obtain ⟨hb, ho⟩ := must_some ho
    refine SP.append see 0 rfl 0 rfl Tryz.underlying55 inf3 rfl rfl hb rfl rfl rfl rfl rfl (fun v122 => ?_)
    clear hb
    refine go ?_
    exact QE.meet fun a w2 ha hw => ⟨(l115 ++ [x117]), v122, m118, _, (by omega), ho, hr, ha.sub sb, (St.selP [1, 2, 3, 4, 5, 6] rfl hw)⟩
   refine go ?_
   exact QE.meet fun a w2 ha hw => ⟨l115, v116, m118, _, (by omega), ho, hr, ha.sub sb, hw⟩
  refine go ?_
  obtain rfl := fin ho hr
  exact QE.rt (fun _ h => St.selO [0] rfl rfl h)
 refine SP.bb 12 (fun hq7 => ?_) fun hq7 => ?_
 ·refine go ?_
  exact QE.jb (or_t hq7) fun w2 hw => hw
 refine go ?_
 exact QE.jb (or_f hq7 rfl) fun w2 hw => hw
inductive capstanref11_has.S where
  | start
  | l1 (x6 : Int)
def capstanref11_has.F (l_0 : (List Int)) (n_1 : Int) : capstanref11_has.S → Option (capstanref11_has.S ⊕ Bool)
  | .start => some (.inl (.l1 0))
  | .l1 x6 => if x6 < (l_0.length : Int) then ((elt l_0 x6).bind fun x10 => if x10 = n_1 then (some (.inr true)) else (some (.inl (.l1 (IntKind.i64.wrap (x6 + 1)))))) else (some (.inr false))
def capstanref11_has.f (l_0 : (List Int)) (n_1 : Int) : Option Bool := runF (capstanref11_has.F l_0 n_1) .start
theorem capstanref11_has.ok (l_0 : (List Int)) (n_1 : Int) (v_l_0 : Value) (r : Bool) (H : capstanref11_has.f l_0 n_1 = some r) (w : World) (hV : Hp) (sV : Sub hV (hp w)) (h0 : slR (kInt .i64) hV v_l_0 l_0) :
    Trip Tryz.prog 60 [v_l_0, .int .i64 n_1].toArray em hV w (fun v => HO.pure (v = .bool r)) := by
 refine Trip.go 18 Tryz.func60 sV (aS h0 (All.nil _)) fun see => ?_
 obtain ⟨n0, hi⟩ := runF_iff.1 H
 obtain ⟨m0, o, hm0, ho, hr⟩ := iter_some hi
 clear hi
 refine go ?_
 refine CP.seq ?_
 refine go ?_
 obtain rfl := Option.some.inj ho
 refine CP.loop (fun cl1 a w2 => ∃ x6 : Int, cl1 ≤ m0 ∧ iter (capstanref11_has.F l_0 n_1) cl1 (.l1 x6) = some r ∧ Env ⟨18, []⟩ [(0, v_l_0), (1, .int .i64 n_1), (5, .int .i64 x6)] a ∧ St w em hV [slP (kInt .i64) v_l_0 l_0] [] w2) m0 (fun a w2 ha hw => ⟨0, Nat.le_refl _, hr, ha.sub sb, hw⟩) ?_
 clear hr
 rintro cl1 a w2 ⟨x6, hc_l1, hi, ha, hw⟩
 obtain ⟨m7, o, hm_m7, ho, hr⟩ := iter_some hi
 refine CP.app ha hw ?_
 clear ha hw a w2 hi
 refine CP.seq ?_
 refine go ?_
 refine CP.ci ho (fun ho => ?_) fun ho => ?_
 ·refine go ?_
  refine CP.seq ?_
  refine go ?_
  obtain ⟨x10, hx, ho⟩ := elt_bind ho
  refine SP.indexP see 0 rfl Tryz.underlying55 sz3 hx.1 hx.2 rfl rfl rfl rfl (fun p8 => ?_)
  clear hx
  refine SP.val (Val.loadP1 see 0 rfl (fun _ _ e => e) Tryz.underlying3 rfl rfl) rfl rfl rfl ?_
  refine go ?_
  refine CP.ci ho (fun ho => ?_) fun ho => ?_
  ·refine go ?_
   obtain rfl := fin ho hr
   exact QE.rt (fun _ h => h)
  refine go ?_
  obtain rfl := Option.some.inj ho
  exact QE.lower m7 (by omega) fun a w2 ha hw => ⟨(IntKind.i64.wrap (x6 + 1)), (by omega), hr, ha.sub sb, (St.selP [1] rfl hw)⟩
 refine go ?_
 obtain rfl := fin ho hr
 exact QE.rt (fun _ h => h)
inductive capstanref11_Order.S where
  | start
  | l1 (x150 : Int)
  | l2 (l224 : List Int)
  | l3 (l224 : List Int) (x255 : Int) (x256 : Int)
  | l4 (l224 : List Int) (x255 : Int) (x256 : Int) (t260 : (List Int) × Int) (b271 : Bool) (x272 : Int)
def capstanref11_Order.j1 (m_0 : api_Module) (l224 : List Int) (x256 : Int) (x282 : Int) : Option (capstanref11_Order.S ⊕ ((List Int) × Int)) :=
  some (.inl (.l3 l224 x282 (IntKind.i64.wrap (x256 + 1))))
def capstanref11_Order.F (m_0 : api_Module) : capstanref11_Order.S → Option (capstanref11_Order.S ⊕ ((List Int) × Int))
  | .start => some (.inl (.l1 0))
  | .l1 x150 => if x150 < (m_0.Methods.length : Int) then ((capstanref11_Whom.f m_0 x150).bind fun t152 => if t152.2 ≠ 0 then (some (.inr ([], t152.2))) else (some (.inl (.l1 (IntKind.i64.wrap (x150 + 1)))))) else (some (.inl (.l2 [])))
  | .l2 l224 => if (l224.length : Int) < (m_0.Methods.length : Int) then (some (.inl (.l3 l224 (-1) 0))) else (some (.inr (l224, 0)))
  | .l3 l224 x255 x256 => if ((decide (x256 < (m_0.Methods.length : Int))) && (decide (x255 < 0))) = true then ((capstanref11_Whom.f m_0 x256).bind fun t260 => (capstanref11_has.f l224 x256).bind fun t263 => some (.inl (.l4 l224 x255 x256 t260 (!t263) 0))) else (if x255 < 0 then (some (.inr ([], 110))) else (if (l224.length + [x255].length) * 8 ≤ 140737488355328 then (some (.inl (.l2 (l224 ++ [x255])))) else none))
  | .l4 l224 x255 x256 t260 b271 x272 => if x272 < (t260.1.length : Int) then ((if b271 = true then ((elt t260.1 x272).bind fun x277 => (capstanref11_has.f l224 x277).bind fun t278 => some t278) else (some false)).bind fun t279 => some (.inl (.l4 l224 x255 x256 t260 t279 (IntKind.i64.wrap (x272 + 1))))) else (if b271 = true then (capstanref11_Order.j1 m_0 l224 x256 x256) else (capstanref11_Order.j1 m_0 l224 x256 x255))
def capstanref11_Order.f (m_0 : api_Module) : Option ((List Int) × Int) := runF (capstanref11_Order.F m_0) .start
theorem capstanref11_Order.ok (m_0 : api_Module) (v_m_0_Globals v_m_0_Pool v_m_0_Methods : Value) (r : (List Int) × Int) (H : capstanref11_Order.f m_0 = some r) (w : World) (hV : Hp) (sV : Sub hV (hp w)) (h0 : slR k_api_Value hV v_m_0_Globals m_0.Globals) (h1 : slR k_api_Value hV v_m_0_Pool m_0.Pool) (h2 : slR k_api_Method hV v_m_0_Methods m_0.Methods) :
    Trip Tryz.prog 30 [.agg #[v_m_0_Globals, v_m_0_Pool, v_m_0_Methods, .int .i64 m_0.Migrate]].toArray em hV w (fun v => HO.ex fun u0 : Value => HO.pand (v = .tuple #[u0, .int .i64 r.2]) (HO.seps [slO (kInt .i64) 3 u0 r.1])) := by
 refine Trip.go 81 Tryz.func30 sV (aS h0 (aS h1 (aS h2 (All.nil _)))) fun see => ?_
 obtain ⟨n0, hi⟩ := runF_iff.1 H
 obtain ⟨m0, o, hm0, ho, hr⟩ := iter_some hi
 clear hi
 refine go ?_
 refine SP.box rfl rfl rfl rfl fun b4 => ?_
 refine go ?_
 refine CP.seq ?_
 refine go ?_
 obtain rfl := Option.some.inj ho
 refine CP.loop (fun cl1 a w2 => ∃ x150 : Int, cl1 ≤ m0 ∧ iter (capstanref11_Order.F m_0) cl1 (.l1 x150) = some r ∧ Env ⟨81, []⟩ [(1, .pointer (some ⟨b4, 0, none⟩)), (4, .int .i64 x150)] a ∧ St w em hV [slP k_api_Value v_m_0_Globals m_0.Globals, slP k_api_Value v_m_0_Pool m_0.Pool, slP k_api_Method v_m_0_Methods m_0.Methods] [boxO b4 [v_m_0_Globals, v_m_0_Pool, v_m_0_Methods, .int .i64 m_0.Migrate] 25] w2) m0 (fun a w2 ha hw => ⟨0, Nat.le_refl _, hr, ha.sub sb, hw⟩) ?_
 clear hr
 rintro cl1 a w2 ⟨x150, hc_l1, hi, ha, hw⟩
 obtain ⟨m151, o, hm_m151, ho, hr⟩ := iter_some hi
 refine CP.app ha hw ?_
 clear ha hw a w2 hi
 refine CP.seq ?_
 refine go ?_
 refine CP.ci ho (fun ho => ?_) fun ho => ?_
 ·refine go ?_
  refine CP.seq ?_
  refine go ?_
  refine SP.val (Val.loadA 0 rfl Tryz.underlying25 rfl sz25 rfl rfl rfl) rfl rfl rfl ?_
  refine go ?_
  obtain ⟨t152, hc, ho⟩ := bind_some ho
  refine SP.callK see (caps := []) _ fn59 rfl rfl rfl rfl (fun w2 hP hs sub ap => capstanref11_Whom.ok _ _ _ _ _ _ hc w2 hP sub (ap.get 0 rfl) (ap.get 1 rfl) (ap.get 2 rfl)) (SP.k1 fun v153 => ?_)
  clear hc
  refine go ?_
  refine CP.ci ho (fun ho => ?_) fun ho => ?_
  ·refine go ?_
   obtain rfl := fin ho hr
   exact QE.rt (fun _ h => St.selO [0] rfl rfl (St.addO (slO.nil (kInt .i64) 3) h))
  refine go ?_
  obtain rfl := Option.some.inj ho
  exact QE.lower m151 (by omega) fun a w2 ha hw => ⟨(IntKind.i64.wrap (x150 + 1)), (by omega), hr, ha.sub sb, (St.selO [1] rfl rfl hw)⟩
 refine go ?_
 refine CP.seq ?_
 refine go ?_
 obtain rfl := Option.some.inj ho
 refine CP.loop (fun cl2 a w2 => ∃ l224 : List Int, ∃ v225 : Value, cl2 ≤ m151 ∧ iter (capstanref11_Order.F m_0) cl2 (.l2 l224) = some r ∧ Env ⟨81, []⟩ [(1, .pointer (some ⟨b4, 0, none⟩)), (7, v225)] a ∧ St w em hV [slP k_api_Value v_m_0_Globals m_0.Globals, slP k_api_Value v_m_0_Pool m_0.Pool, slP k_api_Method v_m_0_Methods m_0.Methods] [slO (kInt .i64) 3 v225 l224, boxO b4 [v_m_0_Globals, v_m_0_Pool, v_m_0_Methods, .int .i64 m_0.Migrate] 25] w2) m151 (fun a w2 ha hw => ⟨[], (.slice none 0 0), Nat.le_refl _, hr, ha.sub sb, (St.addO (slO.nil (kInt .i64) 3) hw)⟩) ?_
 clear hr
 rintro cl2 a w2 ⟨l224, v225, hc_l2, hi, ha, hw⟩
 obtain ⟨m226, o, hm_m226, ho, hr⟩ := iter_some hi
 refine CP.app ha hw ?_
 clear ha hw a w2 hi
 refine CP.seq ?_
 refine go ?_
 refine SP.val (Val.lenW (fun w2 hw => slO.whole (St.own 0 rfl see.sub see.dj hw)) Tryz.underlying55 rfl) rfl rfl rfl ?_
 refine go ?_
 refine CP.ci ho (fun ho => ?_) fun ho => ?_
 ·refine go ?_
  refine CP.seq ?_
  refine go ?_
  obtain rfl := Option.some.inj ho
  refine CP.loop (fun cl3 a w2 => ∃ x255 : Int, ∃ x256 : Int, cl3 ≤ m226 ∧ iter (capstanref11_Order.F m_0) cl3 (.l3 l224 x255 x256) = some r ∧ Env ⟨81, []⟩ [(1, .pointer (some ⟨b4, 0, none⟩)), (7, v225), (8, .int .i64 x255), (9, .int .i64 x256)] a ∧ St w em hV [slP k_api_Value v_m_0_Globals m_0.Globals, slP k_api_Value v_m_0_Pool m_0.Pool, slP k_api_Method v_m_0_Methods m_0.Methods] [slO (kInt .i64) 3 v225 l224, boxO b4 [v_m_0_Globals, v_m_0_Pool, v_m_0_Methods, .int .i64 m_0.Migrate] 25] w2) m226 (fun a w2 ha hw => ⟨(-1), 0, Nat.le_refl _, hr, ha.sub sb, hw⟩) ?_
  clear hr
  rintro cl3 a w2 ⟨x255, x256, hc_l3, hi, ha, hw⟩
  obtain ⟨m257, o, hm_m257, ho, hr⟩ := iter_some hi
  refine CP.app ha hw ?_
  clear ha hw a w2 hi
  refine CP.seq ?_
  refine go ?_
  refine SP.jn 3 [1, 7, 8, 9] 44 (.bool ((decide (x256 < (m_0.Methods.length : Int))) && (decide (x255 < 0)))) ?_ ?_
  ·refine go ?_
   refine CP.cb ho (fun ho => ?_) fun ho => ?_
   ·refine go ?_
    refine CP.join (fun a w2 => ∃ x282 : Int, ∃ (m283 : Nat) (o : (capstanref11_Order.S ⊕ ((List Int) × Int))), m283 ≤ m257 ∧ capstanref11_Order.j1 m_0 l224 x256 x282 = some o ∧ next (capstanref11_Order.F m_0) m283 o = some r ∧ Env ⟨81, []⟩ [(1, .pointer (some ⟨b4, 0, none⟩)), (7, v225), (8, .int .i64 x282), (9, .int .i64 x256)] a ∧ St w em hV [slP k_api_Value v_m_0_Globals m_0.Globals, slP k_api_Value v_m_0_Pool m_0.Pool, slP k_api_Method v_m_0_Methods m_0.Methods] [slO (kInt .i64) 3 v225 l224, boxO b4 [v_m_0_Globals, v_m_0_Pool, v_m_0_Methods, .int .i64 m_0.Migrate] 25] w2) ?_ ?_
    ·rintro a w2 ⟨x282, m283, o, hm_m283, ho, hr, ha, hw⟩
     refine CP.app ha hw ?_
     clear ha hw a w2
     refine go ?_
     obtain rfl := Option.some.inj ho
     exact QE.lower m283 (by omega) fun a w2 ha hw => ⟨x282, (IntKind.i64.wrap (x256 + 1)), (by omega), hr, ha.sub sb, hw⟩
    refine go ?_
    refine SP.val (Val.loadA 1 rfl Tryz.underlying25 rfl sz25 rfl rfl rfl) rfl rfl rfl ?_
    refine go ?_
    obtain ⟨t260, hc, ho⟩ := bind_some ho
    refine SP.callK see (caps := []) _ fn59 rfl rfl rfl rfl (fun w2 hP hs sub ap => capstanref11_Whom.ok _ _ _ _ _ _ hc w2 hP sub (ap.get 0 rfl) (ap.get 1 rfl) (ap.get 2 rfl)) (SP.k1 fun v261 => ?_)
    clear hc
    refine go ?_
    obtain ⟨t263, hc, ho⟩ := bind_some ho
    refine SP.callVO see (caps := []) (.bool t263) fn60 rfl rfl rfl rfl (fun w2 hs => capstanref11_has.ok _ _ _ _ hc w2 (hp w2) (Sub.refl _) (slO.read (St.own 1 rfl see.sub see.dj hs) (Sub.refl _) (Sub.refl _))) ?_
    clear hc
    refine go ?_
    refine CP.seq ?_
    refine go ?_
    obtain rfl := Option.some.inj ho
    refine CP.loop (fun cl4 a w2 => ∃ b271 : Bool, ∃ x272 : Int, cl4 ≤ m257 ∧ iter (capstanref11_Order.F m_0) cl4 (.l4 l224 x255 x256 t260 b271 x272) = some r ∧ Env ⟨81, []⟩ [(1, .pointer (some ⟨b4, 0, none⟩)), (7, v225), (8, .int .i64 x255), (9, .int .i64 x256), (10, v261), (12, .bool b271), (13, .int .i64 x272)] a ∧ St w em hV [slP k_api_Value v_m_0_Globals m_0.Globals, slP k_api_Value v_m_0_Pool m_0.Pool, slP k_api_Method v_m_0_Methods m_0.Methods] [slO (kInt .i64) 3 v261 t260.1, slO (kInt .i64) 3 v225 l224, boxO b4 [v_m_0_Globals, v_m_0_Pool, v_m_0_Methods, .int .i64 m_0.Migrate] 25] w2) m257 (fun a w2 ha hw => ⟨(!t263), 0, Nat.le_refl _, hr, ha.sub sb, hw⟩) ?_
    clear hr
    rintro cl4 a w2 ⟨b271, x272, hc_l4, hi, ha, hw⟩
    obtain ⟨m273, o, hm_m273, ho, hr⟩ := iter_some hi
    refine CP.app ha hw ?_
    clear ha hw a w2 hi
    refine CP.seq ?_
    refine go ?_
    refine SP.val (Val.lenW (fun w2 hw => slO.whole (St.own 0 rfl see.sub see.dj hw)) Tryz.underlying55 rfl) rfl rfl rfl ?_
    refine go ?_
    refine CP.ci ho (fun ho => ?_) fun ho => ?_
    ·refine go ?_
     refine CP.seq ?_
     refine go ?_
     obtain ⟨t279, hg_t279, ho⟩ := bind_some ho
     refine SP.jn 7 [1, 7, 8, 9, 10, 13] 71 (.bool t279) ?_ ?_
     ·clear hg_t279
      refine go ?_
      obtain rfl := Option.some.inj ho
      exact QE.lower m273 (by omega) fun a w2 ha hw => ⟨t279, (IntKind.i64.wrap (x272 + 1)), (by omega), hr, ha.sub sb, hw⟩
     refine SP.cb 64 hg_t279 (fun hq275 ho => ?_) fun hq275 ho => ?_
     ·refine go ?_
      obtain ⟨x277, hx_x277, ho⟩ := elt_bind ho
      refine SP.indexW (fun w2 hw => slO.whole (St.own 0 rfl see.sub see.dj hw)) Tryz.underlying55 sz3 hx_x277.1 hx_x277.2 rfl rfl rfl rfl (fun p276 h_p276 => ?_)
      refine SP.val (Val.loadW1 (off := 0) (k := (kInt .i64)) (fun w2 hw => slO.whole (St.own 0 rfl see.sub see.dj hw)) hx_x277.2 h_p276 (fun _ _ e => by subst e; rfl) Tryz.underlying3 rfl rfl) rfl rfl rfl ?_
      obtain ⟨t278, hc, ho⟩ := bind_some ho
      refine SP.callVO see (caps := []) (.bool t278) fn60 rfl rfl rfl rfl (fun w2 hs => capstanref11_has.ok _ _ _ _ hc w2 (hp w2) (Sub.refl _) (slO.read (St.own 1 rfl see.sub see.dj hs) (Sub.refl _) (Sub.refl _))) ?_
      clear hc
      refine go ?_
      obtain rfl := Option.some.inj ho
      exact QE.jn fun w2 hw => hw
     refine go ?_
     obtain rfl := Option.some.inj ho
     exact QE.jn fun w2 hw => hw
    refine go ?_
    refine CP.cb ho (fun ho => ?_) fun ho => ?_
    ·refine go ?_
     exact QE.meet fun a w2 ha hw => ⟨x256, m273, _, (by omega), ho, hr, ha.sub sb, (St.selO [1, 2] rfl rfl hw)⟩
    refine go ?_
    exact QE.meet fun a w2 ha hw => ⟨x255, m273, _, (by omega), ho, hr, ha.sub sb, (St.selO [1, 2] rfl rfl hw)⟩
   refine go ?_
   refine CP.seq ?_
   refine go ?_
   refine CP.ci ho (fun ho => ?_) fun ho => ?_
   ·refine go ?_
    obtain rfl := fin ho hr
    exact QE.rt (fun _ h => St.selO [0] rfl rfl (St.addO (slO.nil (kInt .i64) 3) h))
   refine go ?_
   refine SP.lit (k := (kInt .i64)) (xs := [x255]) (vs := [.int .i64 x255]) (cells := [.int .i64 x255]) Tryz.underlying55 inf3 rfl rfl rfl rfl rfl rfl rfl rfl (fun _ ap => ⟨[.int .i64 x255], _, rfl, rfl, rfl⟩) rfl rfl rfl (fun v285 => ?_)
   refine SP.freezeS see 0 rfl ?_
   obtain ⟨hb, ho⟩ := must_some ho
   refine SP.append see 0 rfl 0 rfl Tryz.underlying55 inf3 rfl rfl hb rfl rfl rfl rfl rfl (fun v287 => ?_)
   clear hb
   refine go ?_
   obtain rfl := Option.some.inj ho
   exact QE.lower m257 (by omega) fun a w2 ha hw => ⟨(l224 ++ [x255]), v287, (by omega), hr, ha.sub sb, (St.selP [1, 2, 3] rfl hw)⟩
  refine SP.bb 41 (fun hq259 => ?_) fun hq259 => ?_
  ·refine go ?_
   exact QE.jb (and_t hq259 rfl) fun w2 hw => hw
  refine go ?_
  exact QE.jb (and_f hq259) fun w2 hw => hw
 refine go ?_
 obtain rfl := fin ho hr
 exact QE.rt (fun _ h => St.selO [0] rfl rfl h)
def capstanref04_Known.f (op_0 : Int) : Option Bool :=
  some (decide (op_0 < 33))
theorem capstanref04_Known.ok (op_0 : Int)  (r : Bool) (H : capstanref04_Known.f op_0 = some r) (w : World) (hV : Hp) (sV : Sub hV (hp w))  :
    Trip Tryz.prog 142 [.int .u8 op_0].toArray em hV w (fun v => HO.pure (v = .bool r)) := by
 refine Trip.go 5 Tryz.func142 sV (All.nil _) fun see => ?_
 have ho := H
 refine go ?_
 obtain rfl := Option.some.inj ho
 exact QE.rt (fun _ h => h)
def capstanref04_Bounds.j3 (op_0 : Int) (b3 : Bool) : Option (Int × Int) :=
  if b3 = true then (some (0, 199)) else (if op_0 = 32 then (some (0, 255)) else (if op_0 = 28 then (some (1, 100)) else ((capstanref04_Known.f op_0).bind fun t4 => if (!t4) = true then (some (0, (-1))) else (some (0, 0)))))
def capstanref04_Bounds.j2 (op_0 : Int) (b2 : Bool) : Option (Int × Int) :=
  if b2 = true then (some (0, 3)) else (if op_0 = 22 then (some (0, 1024)) else (if op_0 = 26 then (capstanref04_Bounds.j3 op_0 (decide (op_0 = 26))) else (if op_0 = 27 then (capstanref04_Bounds.j3 op_0 (decide (op_0 = 27))) else (capstanref04_Bounds.j3 op_0 (decide (op_0 = 29))))))
def capstanref04_Bounds.j1 (op_0 : Int) (b1 : Bool) : Option (Int × Int) :=
  if b1 = true then (some (0, 15)) else (if op_0 = 4 then (capstanref04_Bounds.j2 op_0 (decide (op_0 = 4))) else (capstanref04_Bounds.j2 op_0 (decide (op_0 = 5))))
def capstanref04_Bounds.f (op_0 : Int) : Option (Int × Int) :=
  if op_0 = 1 then (some (0, 31)) else (if op_0 = 2 then (capstanref04_Bounds.j1 op_0 (decide (op_0 = 2))) else (if op_0 = 3 then (capstanref04_Bounds.j1 op_0 (decide (op_0 = 3))) else (capstanref04_Bounds.j1 op_0 (decide (op_0 = 30)))))
theorem capstanref04_Bounds.ok (op_0 : Int)  (r : Int × Int) (H : capstanref04_Bounds.f op_0 = some r) (w : World) (hV : Hp) (sV : Sub hV (hp w))  :
    Trip Tryz.prog 117 [.int .u8 op_0].toArray em hV w (fun v => HO.pure (v = .tuple #[.int .i64 r.1, .int .i64 r.2])) := by
 refine Trip.go 27 Tryz.func117 sV (All.nil _) fun see => ?_
 have ho := H
 refine go ?_
 refine CP.seq ?_
 refine go ?_
 refine CP.ci ho (fun ho => ?_) fun ho => ?_
 ·refine go ?_
  obtain rfl := Option.some.inj ho
  exact QE.rt (fun _ h => h)
 refine CP.join (fun a w2 => ∃ b1 : Bool, capstanref04_Bounds.j1 op_0 b1 = some r ∧ Env ⟨27, []⟩ [(0, .int .u8 op_0), (4, .int .u8 op_0), (7, .bool b1)] a ∧ St w em hV [] [] w2) ?_ ?_
 ·rintro a w2 ⟨b1, ho, ha, hw⟩
  refine CP.app ha hw ?_
  clear ha hw a w2
  refine CP.cb ho (fun ho => ?_) fun ho => ?_
  ·refine go ?_
   obtain rfl := Option.some.inj ho
   exact QE.rt (fun _ h => h)
  refine CP.join (fun a w2 => ∃ b2 : Bool, capstanref04_Bounds.j2 op_0 b2 = some r ∧ Env ⟨27, []⟩ [(0, .int .u8 op_0), (4, .int .u8 op_0), (11, .bool b2)] a ∧ St w em hV [] [] w2) ?_ ?_
  ·rintro a w2 ⟨b2, ho, ha, hw⟩
   refine CP.app ha hw ?_
   clear ha hw a w2
   refine CP.cb ho (fun ho => ?_) fun ho => ?_
   ·refine go ?_
    obtain rfl := Option.some.inj ho
    exact QE.rt (fun _ h => h)
   refine go ?_
   refine CP.ci ho (fun ho => ?_) fun ho => ?_
   ·refine go ?_
    obtain rfl := Option.some.inj ho
    exact QE.rt (fun _ h => h)
   refine CP.join (fun a w2 => ∃ b3 : Bool, capstanref04_Bounds.j3 op_0 b3 = some r ∧ Env ⟨27, []⟩ [(0, .int .u8 op_0), (4, .int .u8 op_0), (16, .bool b3)] a ∧ St w em hV [] [] w2) ?_ ?_
   ·rintro a w2 ⟨b3, ho, ha, hw⟩
    refine CP.app ha hw ?_
    clear ha hw a w2
    refine CP.cb ho (fun ho => ?_) fun ho => ?_
    ·refine go ?_
     obtain rfl := Option.some.inj ho
     exact QE.rt (fun _ h => h)
    refine go ?_
    refine CP.ci ho (fun ho => ?_) fun ho => ?_
    ·refine go ?_
     obtain rfl := Option.some.inj ho
     exact QE.rt (fun _ h => h)
    refine go ?_
    refine CP.ci ho (fun ho => ?_) fun ho => ?_
    ·refine go ?_
     obtain rfl := Option.some.inj ho
     exact QE.rt (fun _ h => h)
    refine go ?_
    refine CP.seq ?_
    refine go ?_
    obtain ⟨t4, hc, ho⟩ := bind_some ho
    refine SP.callV see (caps := []) (.bool t4) fn142 rfl rfl rfl rfl (fun w2 hP hs sub ap => capstanref04_Known.ok _  _ hc w2 hP sub ) ?_
    clear hc
    refine go ?_
    refine CP.cb ho (fun ho => ?_) fun ho => ?_
    ·refine go ?_
     obtain rfl := Option.some.inj ho
     exact QE.rt (fun _ h => h)
    refine go ?_
    obtain rfl := Option.some.inj ho
    exact QE.rt (fun _ h => h)
   refine go ?_
   refine CP.ci ho (fun ho => ?_) fun ho => ?_
   ·refine go ?_
    exact QE.meet fun a w2 ha hw => ⟨(decide (op_0 = 26)), ho, ha.sub sb, hw⟩
   refine go ?_
   refine CP.ci ho (fun ho => ?_) fun ho => ?_
   ·refine go ?_
    exact QE.meet fun a w2 ha hw => ⟨(decide (op_0 = 27)), ho, ha.sub sb, hw⟩
   refine go ?_
   exact QE.meet fun a w2 ha hw => ⟨(decide (op_0 = 29)), ho, ha.sub sb, hw⟩
  refine go ?_
  refine CP.ci ho (fun ho => ?_) fun ho => ?_
  ·refine go ?_
   exact QE.meet fun a w2 ha hw => ⟨(decide (op_0 = 4)), ho, ha.sub sb, hw⟩
  refine go ?_
  exact QE.meet fun a w2 ha hw => ⟨(decide (op_0 = 5)), ho, ha.sub sb, hw⟩
 refine go ?_
 refine CP.ci ho (fun ho => ?_) fun ho => ?_
 ·refine go ?_
  exact QE.meet fun a w2 ha hw => ⟨(decide (op_0 = 2)), ho, ha.sub sb, hw⟩
 refine go ?_
 refine CP.ci ho (fun ho => ?_) fun ho => ?_
 ·refine go ?_
  exact QE.meet fun a w2 ha hw => ⟨(decide (op_0 = 3)), ho, ha.sub sb, hw⟩
 refine go ?_
 exact QE.meet fun a w2 ha hw => ⟨(decide (op_0 = 30)), ho, ha.sub sb, hw⟩
def capstanref04_May.f (i_0 : api_Instr) : Option Bool :=
  (capstanref04_Bounds.f i_0.Op).bind fun t3 => some (((decide (i_0.B = 0)) && (decide (t3.1 ≤ i_0.A))) && (decide (i_0.A ≤ t3.2)))
theorem capstanref04_May.ok (i_0 : api_Instr)  (r : Bool) (H : capstanref04_May.f i_0 = some r) (w : World) (hV : Hp) (sV : Sub hV (hp w))  :
    Trip Tryz.prog 82 [.agg #[.int .u8 i_0.Op, .int .i64 i_0.A, .int .i64 i_0.B]].toArray em hV w (fun v => HO.pure (v = .bool r)) := by
 refine Trip.go 26 Tryz.func82 sV (All.nil _) fun see => ?_
 have ho := H
 refine go ?_
 refine SP.box rfl rfl rfl rfl fun b1 => ?_
 refine go ?_
 obtain ⟨t3, hc, ho⟩ := bind_some ho
 refine SP.callV see (caps := []) (.tuple #[.int .i64 t3.1, .int .i64 t3.2]) fn117 rfl rfl rfl rfl (fun w2 hP hs sub ap => capstanref04_Bounds.ok _  _ hc w2 hP sub ) ?_
 clear hc
 refine go ?_
 refine SP.jn 5 [1, 4] 19 (.bool ((decide (i_0.B = 0)) && (decide (t3.1 ≤ i_0.A)))) ?_ ?_
 ·refine go ?_
  refine SP.jn 5 [] 25 (.bool (((decide (i_0.B = 0)) && (decide (t3.1 ≤ i_0.A))) && (decide (i_0.A ≤ t3.2)))) ?_ ?_
  ·refine go ?_
   obtain rfl := Option.some.inj ho
   exact QE.rt (fun _ h => h)
  refine SP.bb 20 (fun hq7 => ?_) fun hq7 => ?_
  ·refine go ?_
   exact QE.jb (and_t hq7 rfl) fun w2 hw => hw
  refine go ?_
  exact QE.jb (and_f hq7) fun w2 hw => hw
 refine SP.bb 14 (fun hq5 => ?_) fun hq5 => ?_
 ·refine go ?_
  exact QE.jb (and_t hq5 rfl) fun w2 hw => hw
 refine go ?_
 exact QE.jb (and_f hq5) fun w2 hw => hw
inductive capstanref09_all.S where
  | start
  | l1 (l151 : List capstanref09_Loop) (x153 : Int)
  | l2 (x153 : Int) (l190 : List capstanref09_Loop) (x192 : Int) (x193 : Int)
  | l3 (l151 : List capstanref09_Loop) (x266 : Int)
def capstanref09_all.j1 (l_0 : (List api_Instr)) (x153 : Int) (l235 : List capstanref09_Loop) : Option (capstanref09_all.S ⊕ ((List capstanref09_Loop) × Bool)) :=
  some (.inl (.l1 l235 (IntKind.i64.wrap (x153 + 1))))
def capstanref09_all.j2 (l_0 : (List api_Instr)) (x153 : Int) (x193 : Int) (l218 : List capstanref09_Loop) (x220 : Int) : Option (capstanref09_all.S ⊕ ((List capstanref09_Loop) × Bool)) :=
  some (.inl (.l2 x153 l218 x220 (IntKind.i64.wrap (x193 + 1))))
def capstanref09_all.F (l_0 : (List api_Instr)) : capstanref09_all.S → Option (capstanref09_all.S ⊕ ((List capstanref09_Loop) × Bool))
  | .start => some (.inl (.l1 [] 0))
  | .l1 l151 x153 => if x153 < (l_0.length : Int) then ((elt l_0 x153).bind fun x157 => if x157.Op ≠ 28 then (capstanref09_all.j1 l_0 x153 l151) else (some (.inl (.l2 x153 l151 0 0)))) else (some (.inl (.l3 l151 0)))
  | .l2 x153 l190 x192 x193 => if x193 < (l_0.length : Int) then ((elt l_0 x193).bind fun x197 => (if x197.Op = 29 then ((elt l_0 x193).bind fun x204 => some (decide (x204.A = x153))) else (some false)).bind fun t207 => if t207 = true then ((elt l_0 x153).bind fun x210 => if (l190.length + [(⟨x153, x193, x210.A⟩ : capstanref09_Loop)].length) * 24 ≤ 140737488355328 then (capstanref09_all.j2 l_0 x153 x193 (l190 ++ [(⟨x153, x193, x210.A⟩ : capstanref09_Loop)]) (IntKind.i64.wrap (x192 + 1))) else none) else (capstanref09_all.j2 l_0 x153 x193 l190 x192)) else ((if x192 ≠ 1 then (some true) else ((elt l190 (IntKind.i64.wrap ((l190.length : Int) - 1))).bind fun x225 => some (decide (x225.To < x153)))).bind fun t227 => if t227 = true then (some (.inr ([], false))) else (capstanref09_all.j1 l_0 x153 l190))
  | .l3 l151 x266 => if x266 < (l_0.length : Int) then ((elt l_0 x266).bind fun x270 => (if x270.Op = 29 then ((elt l_0 x266).bind fun x277 => (if x277.A ≥ (l_0.length : Int) then (some true) else ((elt l_0 x266).bind fun x284 => (elt l_0 x284.A).bind fun x289 => some (decide (x289.Op ≠ 28)))).bind fun t292 => some t292) else (some false)).bind fun t293 => if t293 = true then (some (.inr ([], false))) else (some (.inl (.l3 l151 (IntKind.i64.wrap (x266 + 1)))))) else (some (.inr (l151, true)))
def capstanref09_all.f (l_0 : (List api_Instr)) : Option ((List capstanref09_Loop) × Bool) := runF (capstanref09_all.F l_0) .start
theorem capstanref09_all.ok (l_0 : (List api_Instr)) (v_l_0 : Value) (r : (List capstanref09_Loop) × Bool) (H : capstanref09_all.f l_0 = some r) (w : World) (hV : Hp) (sV : Sub hV (hp w)) (h0 : slR k_api_Instr hV v_l_0 l_0) :
    Trip Tryz.prog 83 [v_l_0].toArray em hV w (fun v => HO.ex fun u0 : Value => HO.pand (v = .tuple #[u0, .bool r.2]) (HO.seps [slO k_capstanref09_Loop 159 u0 r.1])) := by
 refine Trip.go 103 Tryz.func83 sV (aS h0 (All.nil _)) fun see => ?_
 obtain ⟨n0, hi⟩ := runF_iff.1 H
 obtain ⟨m0, o, hm0, ho, hr⟩ := iter_some hi
 clear hi
 refine go ?_
 refine CP.seq ?_
 refine go ?_
 obtain rfl := Option.some.inj ho
 refine CP.loop (fun cl1 a w2 => ∃ l151 : List capstanref09_Loop, ∃ x153 : Int, ∃ v152 : Value, cl1 ≤ m0 ∧ iter (capstanref09_all.F l_0) cl1 (.l1 l151 x153) = some r ∧ Env ⟨103, []⟩ [(0, v_l_0), (4, v152), (5, .int .i64 x153)] a ∧ St w em hV [slP k_api_Instr v_l_0 l_0] [slO k_capstanref09_Loop 159 v152 l151] w2) m0 (fun a w2 ha hw => ⟨[], 0, (.slice none 0 0), Nat.le_refl _, hr, ha.sub sb, (St.addO (slO.nil k_capstanref09_Loop 159) hw)⟩) ?_
 clear hr
 rintro cl1 a w2 ⟨l151, x153, v152, hc_l1, hi, ha, hw⟩
 obtain ⟨m154, o, hm_m154, ho, hr⟩ := iter_some hi
 refine CP.app ha hw ?_
 clear ha hw a w2 hi
 refine CP.seq ?_
 refine go ?_
 refine CP.ci ho (fun ho => ?_) fun ho => ?_
 ·refine go ?_
  refine CP.join (fun a w2 => ∃ l235 : List capstanref09_Loop, ∃ v236 : Value, ∃ (m237 : Nat) (o : (capstanref09_all.S ⊕ ((List capstanref09_Loop) × Bool))), m237 ≤ m154 ∧ capstanref09_all.j1 l_0 x153 l235 = some o ∧ next (capstanref09_all.F l_0) m237 o = some r ∧ Env ⟨103, []⟩ [(0, v_l_0), (4, v236), (5, .int .i64 x153)] a ∧ St w em hV [slP k_api_Instr v_l_0 l_0] [slO k_capstanref09_Loop 159 v236 l235] w2) ?_ ?_
  ·rintro a w2 ⟨l235, v236, m237, o, hm_m237, ho, hr, ha, hw⟩
   refine CP.app ha hw ?_
   clear ha hw a w2
   refine go ?_
   obtain rfl := Option.some.inj ho
   exact QE.lower m237 (by omega) fun a w2 ha hw => ⟨l235, (IntKind.i64.wrap (x153 + 1)), v236, (by omega), hr, ha.sub sb, hw⟩
  refine go ?_
  refine CP.seq ?_
  refine go ?_
  obtain ⟨x157, hx, ho⟩ := elt_bind ho
  refine SP.indexP see 0 rfl Tryz.underlying39 sz71 hx.1 hx.2 rfl rfl rfl rfl (fun p155 => ?_)
  clear hx
  refine SP.fieldP see 0 rfl Tryz.underlying71 rfl sz5 k_api_Instr.part_Op rfl rfl rfl (fun p158 => ?_)
  refine SP.val (Val.loadP1 see 0 rfl (fun _ _ e => e) Tryz.underlying5 rfl rfl) rfl rfl rfl ?_
  refine go ?_
  refine CP.ci ho (fun ho => ?_) fun ho => ?_
  ·refine go ?_
   exact QE.meet fun a w2 ha hw => ⟨l151, v152, m154, _, (by omega), ho, hr, ha.sub sb, (St.selP [2] rfl hw)⟩
  refine go ?_
  refine CP.seq ?_
  refine go ?_
  obtain rfl := Option.some.inj ho
  refine CP.loop (fun cl2 a w2 => ∃ l190 : List capstanref09_Loop, ∃ x192 : Int, ∃ x193 : Int, ∃ v191 : Value, cl2 ≤ m154 ∧ iter (capstanref09_all.F l_0) cl2 (.l2 x153 l190 x192 x193) = some r ∧ Env ⟨103, []⟩ [(0, v_l_0), (4, v191), (5, .int .i64 x153), (6, .int .i64 x192), (7, .int .i64 x193)] a ∧ St w em hV [slP k_api_Instr v_l_0 l_0] [slO k_capstanref09_Loop 159 v191 l190] w2) m154 (fun a w2 ha hw => ⟨l151, 0, 0, v152, Nat.le_refl _, hr, ha.sub sb, (St.selP [2] rfl hw)⟩) ?_
  clear hr
  rintro cl2 a w2 ⟨l190, x192, x193, v191, hc_l2, hi, ha, hw⟩
  obtain ⟨m194, o, hm_m194, ho, hr⟩ := iter_some hi
  refine CP.app ha hw ?_
  clear ha hw a w2 hi
  refine CP.seq ?_
  refine go ?_
  refine CP.ci ho (fun ho => ?_) fun ho => ?_
  ·refine go ?_
   refine CP.join (fun a w2 => ∃ l218 : List capstanref09_Loop, ∃ x220 : Int, ∃ v219 : Value, ∃ (m221 : Nat) (o : (capstanref09_all.S ⊕ ((List capstanref09_Loop) × Bool))), m221 ≤ m194 ∧ capstanref09_all.j2 l_0 x153 x193 l218 x220 = some o ∧ next (capstanref09_all.F l_0) m221 o = some r ∧ Env ⟨103, []⟩ [(0, v_l_0), (4, v219), (5, .int .i64 x153), (6, .int .i64 x220), (7, .int .i64 x193)] a ∧ St w em hV [slP k_api_Instr v_l_0 l_0] [slO k_capstanref09_Loop 159 v219 l218] w2) ?_ ?_
   ·rintro a w2 ⟨l218, x220, v219, m221, o, hm_m221, ho, hr, ha, hw⟩
    refine CP.app ha hw ?_
    clear ha hw a w2
    refine go ?_
    obtain rfl := Option.some.inj ho
    exact QE.lower m221 (by omega) fun a w2 ha hw => ⟨l218, x220, (IntKind.i64.wrap (x193 + 1)), v219, (by omega), hr, ha.sub sb, hw⟩
   refine go ?_
   obtain ⟨x197, hx, ho⟩ := elt_bind ho
   refine SP.indexP see 0 rfl Tryz.underlying39 sz71 hx.1 hx.2 rfl rfl rfl rfl (fun p195 => ?_)
   clear hx
   refine SP.fieldP see 0 rfl Tryz.underlying71 rfl sz5 k_api_Instr.part_Op rfl rfl rfl (fun p198 => ?_)
   refine SP.val (Val.loadP1 see 0 rfl (fun _ _ e => e) Tryz.underlying5 rfl rfl) rfl rfl rfl ?_
   refine go ?_
   obtain ⟨t207, hg_t207, ho⟩ := bind_some ho
   refine SP.jn 8 [0, 4, 5, 6, 7] 41 (.bool t207) ?_ ?_
   ·clear hg_t207
    refine go ?_
    refine CP.cb ho (fun ho => ?_) fun ho => ?_
    ·refine go ?_
     obtain ⟨x210, hx, ho⟩ := elt_bind ho
     refine SP.indexP see 2 rfl Tryz.underlying39 sz71 hx.1 hx.2 rfl rfl rfl rfl (fun p208 => ?_)
     clear hx
     refine SP.fieldP see 0 rfl Tryz.underlying71 rfl sz3 k_api_Instr.part_A rfl rfl rfl (fun p211 => ?_)
     refine SP.val (Val.loadP1 see 0 rfl (fun _ _ e => e) Tryz.underlying3 rfl rfl) rfl rfl rfl ?_
     refine SP.val (Val.buildC (us := [(0, .int .i64 x153), (1, .int .i64 x193), (2, .int .i64 x210.A)]) (ucs := [(0, [.int .i64 x153]), (1, [.int .i64 x193]), (2, [.int .i64 x210.A])]) (cs := [.int .i64 x153, .int .i64 x193, .int .i64 x210.A]) bt159 rfl rfl ⟨rfl, rfl, ⟨rfl, rfl, ⟨rfl, rfl, trivial⟩⟩⟩ (by rfl)) rfl rfl rfl ?_
     refine SP.lit (k := k_capstanref09_Loop) (xs := [(⟨x153, x193, x210.A⟩ : capstanref09_Loop)]) (vs := [.agg #[.int .i64 x153, .int .i64 x193, .int .i64 x210.A]]) (cells := [.int .i64 x153, .int .i64 x193, .int .i64 x210.A]) Tryz.underlying123 inf159 rfl rfl rfl rfl rfl rfl rfl rfl (fun _ ap => ⟨[.int .i64 x153, .int .i64 x193, .int .i64 x210.A], _, rfl, rfl, rfl⟩) rfl rfl rfl (fun v213 => ?_)
     refine SP.freezeS see 0 rfl ?_
     obtain ⟨hb, ho⟩ := must_some ho
     refine SP.append see 0 rfl 0 rfl Tryz.underlying123 inf159 rfl rfl hb rfl rfl rfl rfl rfl (fun v215 => ?_)
     clear hb
     refine go ?_
     exact QE.meet fun a w2 ha hw => ⟨(l190 ++ [(⟨x153, x193, x210.A⟩ : capstanref09_Loop)]), (IntKind.i64.wrap (x192 + 1)), v215, m194, _, (by omega), ho, hr, ha.sub sb, (St.selP [5] rfl hw)⟩
    refine go ?_
    exact QE.meet fun a w2 ha hw => ⟨l190, x192, v191, m194, _, (by omega), ho, hr, ha.sub sb, (St.selP [2] rfl hw)⟩
   refine SP.ci 33 hg_t207 (fun hq201 ho => ?_) fun hq201 ho => ?_
   ·refine go ?_
    obtain ⟨x204, hx, ho⟩ := elt_bind ho
    refine SP.indexP see 2 rfl Tryz.underlying39 sz71 hx.1 hx.2 rfl rfl rfl rfl (fun p202 => ?_)
    clear hx
    refine SP.fieldP see 0 rfl Tryz.underlying71 rfl sz3 k_api_Instr.part_A rfl rfl rfl (fun p205 => ?_)
    refine SP.val (Val.loadP1 see 0 rfl (fun _ _ e => e) Tryz.underlying3 rfl rfl) rfl rfl rfl ?_
    refine go ?_
    obtain rfl := Option.some.inj ho
    exact QE.jn fun w2 hw => (St.selP [2, 3, 4] rfl hw)
   refine go ?_
   obtain rfl := Option.some.inj ho
   exact QE.jn fun w2 hw => hw
  refine go ?_
  obtain ⟨t227, hg_t227, ho⟩ := bind_some ho
  refine SP.jn 10 [0, 4, 5] 67 (.bool t227) ?_ ?_
  ·clear hg_t227
   refine go ?_
   refine CP.cb ho (fun ho => ?_) fun ho => ?_
   ·refine go ?_
    obtain rfl := fin ho hr
    exact QE.rt (fun _ h => St.selO [0] rfl rfl (St.addO (slO.nil k_capstanref09_Loop 159) h))
   refine go ?_
   exact QE.meet fun a w2 ha hw => ⟨l190, v191, m194, _, (by omega), ho, hr, ha.sub sb, hw⟩
  refine SP.ci 57 hg_t227 (fun hq223 ho => ?_) fun hq223 ho => ?_
  ·refine go ?_
   obtain rfl := Option.some.inj ho
   exact QE.jn fun w2 hw => hw
  refine go ?_
  refine SP.val (Val.lenW (fun w2 hw => slO.whole (St.own 0 rfl see.sub see.dj hw)) Tryz.underlying123 rfl) rfl rfl rfl ?_
  refine go ?_
  obtain ⟨x225, hx_x225, ho⟩ := elt_bind ho
  refine SP.indexW (fun w2 hw => slO.whole (St.own 0 rfl see.sub see.dj hw)) Tryz.underlying123 sz159 hx_x225.1 hx_x225.2 rfl rfl rfl rfl (fun p224 h_p224 => ?_)
  refine SP.fieldO h_p224 Tryz.underlying159 rfl sz3 rfl rfl rfl (fun p226 h_p226 => ?_)
  refine SP.val (Val.loadW1 (off := 1) (k := k_capstanref09_Loop) (fun w2 hw => slO.whole (St.own 0 rfl see.sub see.dj hw)) hx_x225.2 h_p226 (fun _ _ e => by subst e; rfl) Tryz.underlying3 rfl rfl) rfl rfl rfl ?_
  refine go ?_
  obtain rfl := Option.some.inj ho
  exact QE.jn fun w2 hw => hw
 refine go ?_
 refine CP.seq ?_
 refine go ?_
 obtain rfl := Option.some.inj ho
 refine CP.loop (fun cl3 a w2 => ∃ x266 : Int, cl3 ≤ m154 ∧ iter (capstanref09_all.F l_0) cl3 (.l3 l151 x266) = some r ∧ Env ⟨103, []⟩ [(0, v_l_0), (4, v152), (8, .int .i64 x266)] a ∧ St w em hV [slP k_api_Instr v_l_0 l_0] [slO k_capstanref09_Loop 159 v152 l151] w2) m154 (fun a w2 ha hw => ⟨0, Nat.le_refl _, hr, ha.sub sb, hw⟩) ?_
 clear hr
 rintro cl3 a w2 ⟨x266, hc_l3, hi, ha, hw⟩
 obtain ⟨m267, o, hm_m267, ho, hr⟩ := iter_some hi
 refine CP.app ha hw ?_
 clear ha hw a w2 hi
 refine CP.seq ?_
 refine go ?_
 refine CP.ci ho (fun ho => ?_) fun ho => ?_
 ·refine go ?_
  refine CP.seq ?_
  refine go ?_
  obtain ⟨x270, hx, ho⟩ := elt_bind ho
  refine SP.indexP see 0 rfl Tryz.underlying39 sz71 hx.1 hx.2 rfl rfl rfl rfl (fun p268 => ?_)
  clear hx
  refine SP.fieldP see 0 rfl Tryz.underlying71 rfl sz5 k_api_Instr.part_Op rfl rfl rfl (fun p271 => ?_)
  refine SP.val (Val.loadP1 see 0 rfl (fun _ _ e => e) Tryz.underlying5 rfl rfl) rfl rfl rfl ?_
  refine go ?_
  obtain ⟨t293, hg_t293, ho⟩ := bind_some ho
  refine SP.jn 21 [0, 4, 8] 101 (.bool t293) ?_ ?_
  ·clear hg_t293
   refine go ?_
   refine CP.cb ho (fun ho => ?_) fun ho => ?_
   ·refine go ?_
    obtain rfl := fin ho hr
    exact QE.rt (fun _ h => St.selO [0] rfl rfl (St.addO (slO.nil k_capstanref09_Loop 159) h))
   refine go ?_
   obtain rfl := Option.some.inj ho
   exact QE.lower m267 (by omega) fun a w2 ha hw => ⟨(IntKind.i64.wrap (x266 + 1)), (by omega), hr, ha.sub sb, (St.selP [2] rfl hw)⟩
  refine SP.ci 80 hg_t293 (fun hq274 ho => ?_) fun hq274 ho => ?_
  ·refine go ?_
   obtain ⟨x277, hx, ho⟩ := elt_bind ho
   refine SP.indexP see 2 rfl Tryz.underlying39 sz71 hx.1 hx.2 rfl rfl rfl rfl (fun p275 => ?_)
   clear hx
   refine SP.fieldP see 0 rfl Tryz.underlying71 rfl sz3 k_api_Instr.part_A rfl rfl rfl (fun p278 => ?_)
   refine SP.val (Val.loadP1 see 0 rfl (fun _ _ e => e) Tryz.underlying3 rfl rfl) rfl rfl rfl ?_
   refine go ?_
   obtain ⟨t292, hg_t292, ho⟩ := bind_some ho
   refine SP.jn 11 [0, 4, 8, 80, 81, 82, 83, 84, 85, 86, 87, 88, 89] 100 (.bool t292) ?_ ?_
   ·clear hg_t292
    refine go ?_
    obtain rfl := Option.some.inj ho
    exact QE.jn fun w2 hw => (St.selP [2, 3, 4] rfl hw)
   refine SP.ci 89 hg_t292 (fun hq281 ho => ?_) fun hq281 ho => ?_
   ·refine go ?_
    obtain rfl := Option.some.inj ho
    exact QE.jn (s := ⟨rfl, rfl, rfl, rfl, rfl, rfl, rfl, rfl, rfl, rfl, rfl, rfl, rfl, congrArg (fun z => some (Value.bool z)) hq281.symm, trivial⟩) fun w2 hw => hw
   refine go ?_
   obtain ⟨x284, hx, ho⟩ := elt_bind ho
   refine SP.indexP see 4 rfl Tryz.underlying39 sz71 hx.1 hx.2 rfl rfl rfl rfl (fun p282 => ?_)
   clear hx
   refine SP.fieldP see 0 rfl Tryz.underlying71 rfl sz3 k_api_Instr.part_A rfl rfl rfl (fun p285 => ?_)
   refine SP.val (Val.loadP1 see 0 rfl (fun _ _ e => e) Tryz.underlying3 rfl rfl) rfl rfl rfl ?_
   obtain ⟨x289, hx, ho⟩ := elt_bind ho
   refine SP.indexP see 6 rfl Tryz.underlying39 sz71 hx.1 hx.2 rfl rfl rfl rfl (fun p287 => ?_)
   clear hx
   refine SP.fieldP see 0 rfl Tryz.underlying71 rfl sz5 k_api_Instr.part_Op rfl rfl rfl (fun p290 => ?_)
   refine SP.val (Val.loadP1 see 0 rfl (fun _ _ e => e) Tryz.underlying5 rfl rfl) rfl rfl rfl ?_
   refine go ?_
   obtain rfl := Option.some.inj ho
   exact QE.jn (s := ⟨rfl, rfl, rfl, rfl, rfl, rfl, rfl, rfl, rfl, rfl, rfl, rfl, rfl, congrArg (fun z => some (Value.bool z)) hq281.symm, trivial⟩) fun w2 hw => (St.selP [4, 5, 6, 7, 8] rfl hw)
  refine go ?_
  obtain rfl := Option.some.inj ho
  exact QE.jn fun w2 hw => hw
 refine go ?_
 obtain rfl := fin ho hr
 exact QE.rt (fun _ h => St.selO [0] rfl rfl h)
def capstanref09_within.f (x_0 : capstanref09_Loop) (a1 : Int) : Option Bool :=
  some ((decide (x_0.From < a1)) && (decide (a1 ≤ x_0.To)))
theorem capstanref09_within.ok (x_0 : capstanref09_Loop) (a1 : Int)  (r : Bool) (H : capstanref09_within.f x_0 a1 = some r) (w : World) (hV : Hp) (sV : Sub hV (hp w))  :
    Trip Tryz.prog 85 [.agg #[.int .i64 x_0.From, .int .i64 x_0.To, .int .i64 x_0.Turns], .int .i64 a1].toArray em hV w (fun v => HO.pure (v = .bool r)) := by
 refine Trip.go 15 Tryz.func85 sV (All.nil _) fun see => ?_
 have ho := H
 refine go ?_
 refine SP.box rfl rfl rfl rfl fun b1 => ?_
 refine go ?_
 refine SP.jn 5 [] 14 (.bool ((decide (x_0.From < a1)) && (decide (a1 ≤ x_0.To)))) ?_ ?_
 ·refine go ?_
  obtain rfl := Option.some.inj ho
  exact QE.rt (fun _ h => h)
 refine SP.bb 9 (fun hq4 => ?_) fun hq4 => ?_
 ·refine go ?_
  exact QE.jb (and_t hq4 rfl) fun w2 hw => hw
 refine go ?_
 exact QE.jb (and_f hq4) fun w2 hw => hw
def capstanref09_common.f (x_0 : capstanref09_Loop) (y_1 : capstanref09_Loop) : Option Bool :=
  some ((decide (x_0.From < y_1.To)) && (decide (y_1.From < x_0.To)))
theorem capstanref09_common.ok (x_0 : capstanref09_Loop) (y_1 : capstanref09_Loop)  (r : Bool) (H : capstanref09_common.f x_0 y_1 = some r) (w : World) (hV : Hp) (sV : Sub hV (hp w))  :
    Trip Tryz.prog 118 [.agg #[.int .i64 x_0.From, .int .i64 x_0.To, .int .i64 x_0.Turns], .agg #[.int .i64 y_1.From, .int .i64 y_1.To, .int .i64 y_1.Turns]].toArray em hV w (fun v => HO.pure (v = .bool r)) := by
 refine Trip.go 17 Tryz.func118 sV (All.nil _) fun see => ?_
 have ho := H
 refine go ?_
 refine SP.box rfl rfl rfl rfl fun b1 => ?_
 refine SP.box rfl rfl rfl rfl fun b3 => ?_
 refine go ?_
 refine SP.jn 6 [] 16 (.bool ((decide (x_0.From < y_1.To)) && (decide (y_1.From < x_0.To)))) ?_ ?_
 ·refine go ?_
  obtain rfl := Option.some.inj ho
  exact QE.rt (fun _ h => h)
 refine SP.bb 10 (fun hq6 => ?_) fun hq6 => ?_
 ·refine go ?_
  exact QE.jb (and_t hq6 rfl) fun w2 hw => hw
 refine go ?_
 exact QE.jb (and_f hq6) fun w2 hw => hw
def capstanref09_inside.f (x_0 : capstanref09_Loop) (y_1 : capstanref09_Loop) : Option Bool :=
  (capstanref09_within.f y_1 x_0.From).bind fun t5 => (if t5 = true then ((capstanref09_within.f y_1 x_0.To).bind fun t8 => some t8) else (some false)).bind fun t9 => some t9
theorem capstanref09_inside.ok (x_0 : capstanref09_Loop) (y_1 : capstanref09_Loop)  (r : Bool) (H : capstanref09_inside.f x_0 y_1 = some r) (w : World) (hV : Hp) (sV : Sub hV (hp w))  :
    Trip Tryz.prog 119 [.agg #[.int .i64 x_0.From, .int .i64 x_0.To, .int .i64 x_0.Turns], .agg #[.int .i64 y_1.From, .int .i64 y_1.To, .int .i64 y_1.Turns]].toArray em hV w (fun v => HO.pure (v = .bool r)) := by
 refine Trip.go 15 Tryz.func119 sV (All.nil _) fun see => ?_
 have ho := H
 refine go ?_
 refine SP.box rfl rfl rfl rfl fun b1 => ?_
 refine SP.box rfl rfl rfl rfl fun b3 => ?_
 refine go ?_
 refine SP.val (Val.loadA 0 rfl Tryz.underlying159 rfl sz159 rfl rfl rfl) rfl rfl rfl ?_
 refine go ?_
 obtain ⟨t5, hc, ho⟩ := bind_some ho
 refine SP.callV see (caps := []) (.bool t5) fn85 rfl rfl rfl rfl (fun w2 hP hs sub ap => capstanref09_within.ok _ _  _ hc w2 hP sub ) ?_
 clear hc
 refine go ?_
 obtain ⟨t9, hg_t9, ho⟩ := bind_some ho
 refine SP.jn 5 [] 14 (.bool t9) ?_ ?_
 ·clear hg_t9
  refine go ?_
  obtain rfl := Option.some.inj ho
  exact QE.rt (fun _ h => h)
 refine SP.cb 9 hg_t9 (fun hq7 ho => ?_) fun hq7 ho => ?_
 ·refine SP.val (Val.loadA 0 rfl Tryz.underlying159 rfl sz159 rfl rfl rfl) rfl rfl rfl ?_
  refine go ?_
  obtain ⟨t8, hc, ho⟩ := bind_some ho
  refine SP.callV see (caps := []) (.bool t8) fn85 rfl rfl rfl rfl (fun w2 hP hs sub ap => capstanref09_within.ok _ _  _ hc w2 hP sub ) ?_
  clear hc
  refine go ?_
  obtain rfl := Option.some.inj ho
  exact QE.jn fun w2 hw => hw
 refine go ?_
 obtain rfl := Option.some.inj ho
 exact QE.jn fun w2 hw => hw
inductive capstanref09_nested.S where
  | start
  | l1 (x43 : Int)
  | l2 (x43 : Int) (x79 : Int)
  | l3 (x134 : Int)
  | l4 (x134 : Int) (x143 : Int) (x144 : Int)
def capstanref09_nested.j1 (out_0 : (List capstanref09_Loop)) (many_1 : Int) (x43 : Int) (x79 : Int) (b112 : Bool) : Option (capstanref09_nested.S ⊕ Bool) :=
  if b112 = true then (some (.inr false)) else (some (.inl (.l2 x43 (IntKind.i64.wrap (x79 + 1)))))
def capstanref09_nested.j2 (out_0 : (List capstanref09_Loop)) (many_1 : Int) (x134 : Int) (x144 : Int) (x150 : Int) : Option (capstanref09_nested.S ⊕ Bool) :=
  some (.inl (.l4 x134 x150 (IntKind.i64.wrap (x144 + 1))))
def capstanref09_nested.F (out_0 : (List capstanref09_Loop)) (many_1 : Int) : capstanref09_nested.S → Option (capstanref09_nested.S ⊕ Bool)
  | .start => some (.inl (.l1 0))
  | .l1 x43 => if x43 < (out_0.length : Int) then (some (.inl (.l2 x43 0))) else (some (.inl (.l3 0)))
  | .l2 x43 x79 => if x79 < x43 then ((elt out_0 x43).bind fun x83 => (elt out_0 x79).bind fun x87 => (capstanref09_common.f x83 x87).bind fun t89 => if t89 = true then ((elt out_0 x43).bind fun x93 => (elt out_0 x79).bind fun x97 => (capstanref09_inside.f x93 x97).bind fun t99 => if (!t99) = true then ((elt out_0 x79).bind fun x103 => (elt out_0 x43).bind fun x107 => (capstanref09_inside.f x103 x107).bind fun t109 => capstanref09_nested.j1 out_0 many_1 x43 x79 (!t109)) else (capstanref09_nested.j1 out_0 many_1 x43 x79 false)) else (capstanref09_nested.j1 out_0 many_1 x43 x79 false)) else (some (.inl (.l1 (IntKind.i64.wrap (x43 + 1)))))
  | .l3 x134 => if x134 < many_1 then (some (.inl (.l4 x134 0 0))) else (some (.inr true))
  | .l4 x134 x143 x144 => if x144 < (out_0.length : Int) then ((elt out_0 x144).bind fun x148 => (capstanref09_within.f x148 x134).bind fun t149 => if t149 = true then (capstanref09_nested.j2 out_0 many_1 x134 x144 (IntKind.i64.wrap (x143 + 1))) else (capstanref09_nested.j2 out_0 many_1 x134 x144 x143)) else (if x143 > 4 then (some (.inr false)) else (some (.inl (.l3 (IntKind.i64.wrap (x134 + 1))))))
def capstanref09_nested.f (out_0 : (List capstanref09_Loop)) (many_1 : Int) : Option Bool := runF (capstanref09_nested.F out_0 many_1) .start
theorem capstanref09_nested.ok (out_0 : (List capstanref09_Loop)) (many_1 : Int) (v_out_0 : Value) (r : Bool) (H : capstanref09_nested.f out_0 many_1 = some r) (w : World) (hV : Hp) (sV : Sub hV (hp w)) (h0 : slR k_capstanref09_Loop hV v_out_0 out_0) :
    Trip Tryz.prog 84 [v_out_0, .int .i64 many_1].toArray em hV w (fun v => HO.pure (v = .bool r)) := by
 refine Trip.go 75 Tryz.func84 sV (aS h0 (All.nil _)) fun see => ?_
 obtain ⟨n0, hi⟩ := runF_iff.1 H
 obtain ⟨m0, o, hm0, ho, hr⟩ := iter_some hi
 clear hi
 refine go ?_
 refine CP.seq ?_
 refine go ?_
 obtain rfl := Option.some.inj ho
 refine CP.loop (fun cl1 a w2 => ∃ x43 : Int, cl1 ≤ m0 ∧ iter (capstanref09_nested.F out_0 many_1) cl1 (.l1 x43) = some r ∧ Env ⟨75, []⟩ [(0, v_out_0), (1, .int .i64 many_1), (5, .int .i64 x43)] a ∧ St w em hV [slP k_capstanref09_Loop v_out_0 out_0] [] w2) m0 (fun a w2 ha hw => ⟨0, Nat.le_refl _, hr, ha.sub sb, hw⟩) ?_
 clear hr
 rintro cl1 a w2 ⟨x43, hc_l1, hi, ha, hw⟩
 obtain ⟨m44, o, hm_m44, ho, hr⟩ := iter_some hi
 refine CP.app ha hw ?_
 clear ha hw a w2 hi
 refine CP.seq ?_
 refine go ?_
 refine CP.ci ho (fun ho => ?_) fun ho => ?_
 ·refine go ?_
  refine CP.seq ?_
  refine go ?_
  obtain rfl := Option.some.inj ho
  refine CP.loop (fun cl2 a w2 => ∃ x79 : Int, cl2 ≤ m44 ∧ iter (capstanref09_nested.F out_0 many_1) cl2 (.l2 x43 x79) = some r ∧ Env ⟨75, []⟩ [(0, v_out_0), (1, .int .i64 many_1), (5, .int .i64 x43), (6, .int .i64 x79)] a ∧ St w em hV [slP k_capstanref09_Loop v_out_0 out_0] [] w2) m44 (fun a w2 ha hw => ⟨0, Nat.le_refl _, hr, ha.sub sb, hw⟩) ?_
  clear hr
  rintro cl2 a w2 ⟨x79, hc_l2, hi, ha, hw⟩
  obtain ⟨m80, o, hm_m80, ho, hr⟩ := iter_some hi
  refine CP.app ha hw ?_
  clear ha hw a w2 hi
  refine CP.seq ?_
  refine go ?_
  refine CP.ci ho (fun ho => ?_) fun ho => ?_
  ·refine go ?_
   refine CP.seq ?_
   refine go ?_
   refine CP.join (fun a w2 => ∃ b112 : Bool, ∃ (m113 : Nat) (o : (capstanref09_nested.S ⊕ Bool)), m113 ≤ m80 ∧ capstanref09_nested.j1 out_0 many_1 x43 x79 b112 = some o ∧ next (capstanref09_nested.F out_0 many_1) m113 o = some r ∧ Env ⟨75, []⟩ [(0, v_out_0), (1, .int .i64 many_1), (5, .int .i64 x43), (6, .int .i64 x79), (53, .bool b112)] a ∧ St w em hV [slP k_capstanref09_Loop v_out_0 out_0] [] w2) ?_ ?_
   ·rintro a w2 ⟨b112, m113, o, hm_m113, ho, hr, ha, hw⟩
    refine CP.app ha hw ?_
    clear ha hw a w2
    refine CP.cb ho (fun ho => ?_) fun ho => ?_
    ·refine go ?_
     obtain rfl := fin ho hr
     exact QE.rt (fun _ h => h)
    refine go ?_
    obtain rfl := Option.some.inj ho
    exact QE.lower m113 (by omega) fun a w2 ha hw => ⟨(IntKind.i64.wrap (x79 + 1)), (by omega), hr, ha.sub sb, hw⟩
   refine CP.drawA (by kernel_rfl) (fun w2 k h => h.drawn k) ?_
   obtain ⟨x83, hx, ho⟩ := elt_bind ho
   refine DA.ghost (fun w2 h => h.elem see 0 rfl hx.1 hx.2) (fun p81 h_p81 => ?_)
   clear hx
   refine DA.ghost (fun w2 h => h.openE see 0 rfl (fun _ : Unit => [.int .i64 x83.From, .int .i64 x83.To, .int .i64 x83.Turns]) (fun _ => []) (fun h cs e => ⟨(), e, All.nil _⟩)) (fun _ _ => ?_)
   obtain ⟨x87, hx, ho⟩ := elt_bind ho
   refine DA.ghost (fun w2 h => h.elem see 2 rfl hx.1 hx.2) (fun p85 h_p85 => ?_)
   clear hx
   refine DA.ghost (fun w2 h => h.openE see 0 rfl (fun _ : Unit => [.int .i64 x87.From, .int .i64 x87.To, .int .i64 x87.Turns]) (fun _ => []) (fun h cs e => ⟨(), e, All.nil _⟩)) (fun _ _ => ?_)
   refine DA.ph 0 8 ?_
   refine DT.tk 0 ?_
   refine DT.tk 1 ?_
   refine DT.tv 2 rfl (Val.indexE h_p81 Tryz.underlying123 sz159 rfl rfl) ?_
   refine DT.tv 3 rfl (Val.loadAtA see 2 rfl Tryz.underlying159 rfl sz159 rfl) ?_
   refine DT.tk 4 ?_
   refine DT.tk 5 ?_
   refine DT.tv 6 rfl (Val.indexE h_p85 Tryz.underlying123 sz159 rfl rfl) ?_
   refine DT.tv 7 rfl (Val.loadAtA see 0 rfl Tryz.underlying159 rfl sz159 rfl) ?_
   refine DT.next (by kernel_rfl) ?_
   refine DA.one 8 rfl (by kernel_rfl) ?_
   obtain ⟨t89, hc, ho⟩ := bind_some ho
   refine SP.callV see (caps := []) (.bool t89) fn118 rfl rfl rfl rfl (fun w2 hP hs sub ap => capstanref09_common.ok _ _  _ hc w2 hP sub ) ?_
   clear hc
   refine go ?_
   refine QE.atA ?_
   refine DA.one 9 rfl (by kernel_rfl) ?_
   refine go ?_
   refine QE.atA ?_
   rcases if_some ho with ⟨hc, ho⟩ | ⟨hc, ho⟩
   ·have hg90 := hc
    clear hc
    obtain ⟨x93, hx, ho⟩ := elt_bind ho
    refine DA.ghost (fun w2 h => h.elem see 4 rfl hx.1 hx.2) (fun p91 h_p91 => ?_)
    clear hx
    refine DA.ghost (fun w2 h => h.openE see 0 rfl (fun _ : Unit => [.int .i64 x93.From, .int .i64 x93.To, .int .i64 x93.Turns]) (fun _ => []) (fun h cs e => ⟨(), e, All.nil _⟩)) (fun _ _ => ?_)
    obtain ⟨x97, hx, ho⟩ := elt_bind ho
    refine DA.ghost (fun w2 h => h.elem see 6 rfl hx.1 hx.2) (fun p95 h_p95 => ?_)
    clear hx
    refine DA.ghost (fun w2 h => h.openE see 0 rfl (fun _ : Unit => [.int .i64 x97.From, .int .i64 x97.To, .int .i64 x97.Turns]) (fun _ => []) (fun h cs e => ⟨(), e, All.nil _⟩)) (fun _ _ => ?_)
    refine DA.ph 10 18 ?_
    refine DT.is (d := 30) (b := true) rfl hg90 ?_
    refine DT.tk 10 ?_
    refine DT.tk 11 ?_
    refine DT.tv 12 rfl (Val.indexE h_p91 Tryz.underlying123 sz159 rfl rfl) ?_
    refine DT.tv 13 rfl (Val.loadAtA see 2 rfl Tryz.underlying159 rfl sz159 rfl) ?_
    refine DT.tk 14 ?_
    refine DT.tk 15 ?_
    refine DT.tv 16 rfl (Val.indexE h_p95 Tryz.underlying123 sz159 rfl rfl) ?_
    refine DT.tv 17 rfl (Val.loadAtA see 0 rfl Tryz.underlying159 rfl sz159 rfl) ?_
    refine DT.next (by kernel_rfl) ?_
    refine DA.one 18 rfl (by kernel_rfl) ?_
    obtain ⟨t99, hc, ho⟩ := bind_some ho
    refine SP.callV see (caps := []) (.bool t99) fn119 rfl rfl rfl rfl (fun w2 hP hs sub ap => capstanref09_inside.ok _ _  _ hc w2 hP sub ) ?_
    clear hc
    refine go ?_
    refine QE.atA ?_
    refine DA.one 19 rfl (by kernel_rfl) ?_
    refine go ?_
    refine QE.atA ?_
    refine DA.one 20 rfl (by kernel_rfl) ?_
    refine go ?_
    refine QE.atA ?_
    refine DA.one 21 rfl (by kernel_rfl) ?_
    refine go ?_
    refine QE.atA ?_
    rcases if_some ho with ⟨hc, ho⟩ | ⟨hc, ho⟩
    ·have hg100 := hc
     clear hc
     obtain ⟨x103, hx, ho⟩ := elt_bind ho
     refine DA.ghost (fun w2 h => h.elem see 8 rfl hx.1 hx.2) (fun p101 h_p101 => ?_)
     clear hx
     refine DA.ghost (fun w2 h => h.openE see 0 rfl (fun _ : Unit => [.int .i64 x103.From, .int .i64 x103.To, .int .i64 x103.Turns]) (fun _ => []) (fun h cs e => ⟨(), e, All.nil _⟩)) (fun _ _ => ?_)
     obtain ⟨x107, hx, ho⟩ := elt_bind ho
     refine DA.ghost (fun w2 h => h.elem see 10 rfl hx.1 hx.2) (fun p105 h_p105 => ?_)
     clear hx
     refine DA.ghost (fun w2 h => h.openE see 0 rfl (fun _ : Unit => [.int .i64 x107.From, .int .i64 x107.To, .int .i64 x107.Turns]) (fun _ => []) (fun h cs e => ⟨(), e, All.nil _⟩)) (fun _ _ => ?_)
     refine DA.ph 22 30 ?_
     refine DT.is (d := 42) (b := true) rfl hg100 ?_
     refine DT.tk 22 ?_
     refine DT.tk 23 ?_
     refine DT.tv 24 rfl (Val.indexE h_p101 Tryz.underlying123 sz159 rfl rfl) ?_
     refine DT.tv 25 rfl (Val.loadAtA see 2 rfl Tryz.underlying159 rfl sz159 rfl) ?_
     refine DT.tk 26 ?_
     refine DT.tk 27 ?_
     refine DT.tv 28 rfl (Val.indexE h_p105 Tryz.underlying123 sz159 rfl rfl) ?_
     refine DT.tv 29 rfl (Val.loadAtA see 0 rfl Tryz.underlying159 rfl sz159 rfl) ?_
     refine DT.next (by kernel_rfl) ?_
     refine DA.one 30 rfl (by kernel_rfl) ?_
     obtain ⟨t109, hc, ho⟩ := bind_some ho
     refine SP.callV see (caps := []) (.bool t109) fn119 rfl rfl rfl rfl (fun w2 hP hs sub ap => capstanref09_inside.ok _ _  _ hc w2 hP sub ) ?_
     clear hc
     refine go ?_
     refine QE.atA ?_
     refine DA.one 31 rfl (by kernel_rfl) ?_
     refine go ?_
     refine QE.atA ?_
     refine DA.one 32 rfl (by kernel_rfl) ?_
     refine go ?_
     refine QE.atA ?_
     refine DA.done (by kernel_rfl) ?_
     exact QE.meet fun a w2 ha hw => ⟨(!t109), m80, _, (by omega), ho, hr, ha.sub sb, (St.selP [12] rfl hw)⟩
    have hg110 := (bf hc)
    clear hc
    refine DA.ph 22 30 ?_
    refine DT.is (d := 42) (b := false) rfl hg110 ?_
    refine DT.tn 22 ?_
    refine DT.tn 23 ?_
    refine DT.tn 24 ?_
    refine DT.tn 25 ?_
    refine DT.tn 26 ?_
    refine DT.tn 27 ?_
    refine DT.tn 28 ?_
    refine DT.tn 29 ?_
    refine DT.next (by kernel_rfl) ?_
    refine DA.ph 30 31 ?_
    refine DT.tn 30 ?_
    refine DT.next (by kernel_rfl) ?_
    refine DA.ph 31 32 ?_
    refine DT.tn 31 ?_
    refine DT.next (by kernel_rfl) ?_
    refine DA.one 32 rfl (by kernel_rfl) ?_
    refine go ?_
    refine QE.atA ?_
    refine DA.done (by kernel_rfl) ?_
    exact QE.meet fun a w2 ha hw => ⟨false, m80, _, (by omega), ho, hr, ha.sub sb, (St.selP [8] rfl hw)⟩
   have hg111 := (bf hc)
   clear hc
   refine DA.ph 10 18 ?_
   refine DT.is (d := 30) (b := false) rfl hg111 ?_
   refine DT.tn 10 ?_
   refine DT.tn 11 ?_
   refine DT.tn 12 ?_
   refine DT.tn 13 ?_
   refine DT.tn 14 ?_
   refine DT.tn 15 ?_
   refine DT.tn 16 ?_
   refine DT.tn 17 ?_
   refine DT.next (by kernel_rfl) ?_
   refine DA.ph 18 19 ?_
   refine DT.tn 18 ?_
   refine DT.next (by kernel_rfl) ?_
   refine DA.ph 19 20 ?_
   refine DT.tn 19 ?_
   refine DT.next (by kernel_rfl) ?_
   refine DA.one 20 rfl (by kernel_rfl) ?_
   refine go ?_
   refine QE.atA ?_
   refine DA.one 21 rfl (by kernel_rfl) ?_
   refine go ?_
   refine QE.atA ?_
   refine DA.ph 22 30 ?_
   refine DT.tn 22 ?_
   refine DT.tn 23 ?_
   refine DT.tn 24 ?_
   refine DT.tn 25 ?_
   refine DT.tn 26 ?_
   refine DT.tn 27 ?_
   refine DT.tn 28 ?_
   refine DT.tn 29 ?_
   refine DT.next (by kernel_rfl) ?_
   refine DA.ph 30 31 ?_
   refine DT.tn 30 ?_
   refine DT.next (by kernel_rfl) ?_
   refine DA.ph 31 32 ?_
   refine DT.tn 31 ?_
   refine DT.next (by kernel_rfl) ?_
   refine DA.one 32 rfl (by kernel_rfl) ?_
   refine go ?_
   refine QE.atA ?_
   refine DA.done (by kernel_rfl) ?_
   exact QE.meet fun a w2 ha hw => ⟨false, m80, _, (by omega), ho, hr, ha.sub sb, (St.selP [4] rfl hw)⟩
  refine go ?_
  obtain rfl := Option.some.inj ho
  exact QE.lower m80 (by omega) fun a w2 ha hw => ⟨(IntKind.i64.wrap (x43 + 1)), (by omega), hr, ha.sub sb, hw⟩
 refine go ?_
 refine CP.seq ?_
 refine go ?_
 obtain rfl := Option.some.inj ho
 refine CP.loop (fun cl3 a w2 => ∃ x134 : Int, cl3 ≤ m44 ∧ iter (capstanref09_nested.F out_0 many_1) cl3 (.l3 x134) = some r ∧ Env ⟨75, []⟩ [(0, v_out_0), (1, .int .i64 many_1), (7, .int .i64 x134)] a ∧ St w em hV [slP k_capstanref09_Loop v_out_0 out_0] [] w2) m44 (fun a w2 ha hw => ⟨0, Nat.le_refl _, hr, ha.sub sb, hw⟩) ?_
 clear hr
 rintro cl3 a w2 ⟨x134, hc_l3, hi, ha, hw⟩
 obtain ⟨m135, o, hm_m135, ho, hr⟩ := iter_some hi
 refine CP.app ha hw ?_
 clear ha hw a w2 hi
 refine CP.seq ?_
 refine go ?_
 refine CP.ci ho (fun ho => ?_) fun ho => ?_
 ·refine go ?_
  refine CP.seq ?_
  refine go ?_
  refine CP.seq ?_
  refine go ?_
  obtain rfl := Option.some.inj ho
  refine CP.loop (fun cl4 a w2 => ∃ x143 : Int, ∃ x144 : Int, cl4 ≤ m135 ∧ iter (capstanref09_nested.F out_0 many_1) cl4 (.l4 x134 x143 x144) = some r ∧ Env ⟨75, []⟩ [(0, v_out_0), (1, .int .i64 many_1), (7, .int .i64 x134), (8, .int .i64 x143), (9, .int .i64 x144)] a ∧ St w em hV [slP k_capstanref09_Loop v_out_0 out_0] [] w2) m135 (fun a w2 ha hw => ⟨0, 0, Nat.le_refl _, hr, ha.sub sb, hw⟩) ?_
  clear hr
  rintro cl4 a w2 ⟨x143, x144, hc_l4, hi, ha, hw⟩
  obtain ⟨m145, o, hm_m145, ho, hr⟩ := iter_some hi
  refine CP.app ha hw ?_
  clear ha hw a w2 hi
  refine CP.seq ?_
  refine go ?_
  refine CP.ci ho (fun ho => ?_) fun ho => ?_
  ·refine go ?_
   refine CP.join (fun a w2 => ∃ x150 : Int, ∃ (m151 : Nat) (o : (capstanref09_nested.S ⊕ Bool)), m151 ≤ m145 ∧ capstanref09_nested.j2 out_0 many_1 x134 x144 x150 = some o ∧ next (capstanref09_nested.F out_0 many_1) m151 o = some r ∧ Env ⟨75, []⟩ [(0, v_out_0), (1, .int .i64 many_1), (7, .int .i64 x134), (8, .int .i64 x150), (9, .int .i64 x144)] a ∧ St w em hV [slP k_capstanref09_Loop v_out_0 out_0] [] w2) ?_ ?_
   ·rintro a w2 ⟨x150, m151, o, hm_m151, ho, hr, ha, hw⟩
    refine CP.app ha hw ?_
    clear ha hw a w2
    refine go ?_
    obtain rfl := Option.some.inj ho
    exact QE.lower m151 (by omega) fun a w2 ha hw => ⟨x150, (IntKind.i64.wrap (x144 + 1)), (by omega), hr, ha.sub sb, hw⟩
   refine go ?_
   obtain ⟨x148, hx, ho⟩ := elt_bind ho
   refine SP.indexP see 0 rfl Tryz.underlying123 sz159 hx.1 hx.2 rfl rfl rfl rfl (fun p146 => ?_)
   clear hx
   refine k_capstanref09_Loop.load see 0 rfl Tryz.underlying159 rfl sz159 rfl rfl rfl ?_
   refine go ?_
   obtain ⟨t149, hc, ho⟩ := bind_some ho
   refine SP.callV see (caps := []) (.bool t149) fn85 rfl rfl rfl rfl (fun w2 hP hs sub ap => capstanref09_within.ok _ _  _ hc w2 hP sub ) ?_
   clear hc
   refine go ?_
   refine CP.cb ho (fun ho => ?_) fun ho => ?_
   ·refine go ?_
    exact QE.meet fun a w2 ha hw => ⟨(IntKind.i64.wrap (x143 + 1)), m145, _, (by omega), ho, hr, ha.sub sb, (St.selP [1] rfl hw)⟩
   refine go ?_
   exact QE.meet fun a w2 ha hw => ⟨x143, m145, _, (by omega), ho, hr, ha.sub sb, (St.selP [1] rfl hw)⟩
  refine go ?_
  refine CP.ci ho (fun ho => ?_) fun ho => ?_
  ·refine go ?_
   obtain rfl := fin ho hr
   exact QE.rt (fun _ h => h)
  refine go ?_
  obtain rfl := Option.some.inj ho
  exact QE.lower m145 (by omega) fun a w2 ha hw => ⟨(IntKind.i64.wrap (x134 + 1)), (by omega), hr, ha.sub sb, hw⟩
 refine go ?_
 obtain rfl := fin ho hr
 exact QE.rt (fun _ h => h)
inductive capstanref09_Loops.S where
  | start
  | l1 (x211 : Int)
  | l2 (l336 : List capstanref09_Loop) (x338 : Int)
  | l3 (l336 : List capstanref09_Loop) (x338 : Int) (x389 : Int)
def capstanref09_Loops.j1 (l_0 : (List api_Instr)) (l336 : List capstanref09_Loop) (x338 : Int) : Option (capstanref09_Loops.S ⊕ ((List capstanref09_Loop) × Int)) :=
  some (.inl (.l2 l336 (IntKind.i64.wrap (x338 + 1))))
def capstanref09_Loops.j2 (l_0 : (List api_Instr)) (l336 : List capstanref09_Loop) (x338 : Int) (x389 : Int) (b409 : Bool) : Option (capstanref09_Loops.S ⊕ ((List capstanref09_Loop) × Int)) :=
  if b409 = true then (some (.inr ([], 90))) else (some (.inl (.l3 l336 x338 (IntKind.i64.wrap (x389 + 1)))))
def capstanref09_Loops.F (l_0 : (List api_Instr)) : capstanref09_Loops.S → Option (capstanref09_Loops.S ⊕ ((List capstanref09_Loop) × Int))
  | .start => if ((decide ((l_0.length : Int) < 1)) || (decide ((l_0.length : Int) > 200))) = true then (some (.inr ([], 40))) else (some (.inl (.l1 0)))
  | .l1 x211 => if x211 < (l_0.length : Int) then ((elt l_0 x211).bind fun x215 => (capstanref04_May.f x215).bind fun t216 => if (!t216) = true then (some (.inr ([], 40))) else (some (.inl (.l1 (IntKind.i64.wrap (x211 + 1)))))) else ((capstanref09_all.f l_0).bind fun t218 => (elt l_0 (IntKind.i64.wrap ((l_0.length : Int) - 1))).bind fun x223 => (if (!t218.2) = true then (some true) else ((capstanref09_nested.f t218.1 (l_0.length : Int)).bind fun t228 => some (!t228))).bind fun t229 => if (t229 || ((decide (x223.Op ≠ 31)) && (decide (x223.Op ≠ 32)))) = true then (some (.inr ([], 90))) else (some (.inl (.l2 t218.1 0))))
  | .l2 l336 x338 => if x338 < (l_0.length : Int) then ((elt l_0 x338).bind fun x342 => (if x342.Op ≠ 26 then ((elt l_0 x338).bind fun x349 => some (decide (x349.Op ≠ 27))) else (some false)).bind fun t352 => if t352 = true then (capstanref09_Loops.j1 l_0 l336 x338) else ((elt l_0 x338).bind fun x355 => (if x355.A ≤ x338 then (some true) else ((elt l_0 x338).bind fun x362 => some (decide (x362.A ≥ (l_0.length : Int))))).bind fun t365 => if t365 = true then (some (.inr ([], 90))) else (some (.inl (.l3 l336 x338 0))))) else (some (.inr (l336, 0)))
  | .l3 l336 x338 x389 => if x389 < (l336.length : Int) then ((elt l336 x389).bind fun x393 => (elt l_0 x338).bind fun x397 => (capstanref09_within.f x393 x397.A).bind fun t401 => if t401 = true then ((elt l336 x389).bind fun x405 => (capstanref09_within.f x405 x338).bind fun t407 => capstanref09_Loops.j2 l_0 l336 x338 x389 (!t407)) else (capstanref09_Loops.j2 l_0 l336 x338 x389 false)) else (capstanref09_Loops.j1 l_0 l336 x338)
def capstanref09_Loops.f (l_0 : (List api_Instr)) : Option ((List capstanref09_Loop) × Int) := runF (capstanref09_Loops.F l_0) .start
theorem capstanref09_Loops.ok (l_0 : (List api_Instr)) (v_l_0 : Value) (r : (List capstanref09_Loop) × Int) (H : capstanref09_Loops.f l_0 = some r) (w : World) (hV : Hp) (sV : Sub hV (hp w)) (h0 : slR k_api_Instr hV v_l_0 l_0) :
    Trip Tryz.prog 61 [v_l_0].toArray em hV w (fun v => HO.ex fun u0 : Value => HO.pand (v = .tuple #[u0, .int .i64 r.2]) (HO.seps [HO.ofP (slP k_capstanref09_Loop u0 r.1)])) := by
 refine Trip.go 122 Tryz.func61 sV (aS h0 (All.nil _)) fun see => ?_
 obtain ⟨n0, hi⟩ := runF_iff.1 H
 obtain ⟨m0, o, hm0, ho, hr⟩ := iter_some hi
 clear hi
 refine go ?_
 refine CP.seq ?_
 refine go ?_
 refine SP.jn 4 [0] 17 (.bool ((decide ((l_0.length : Int) < 1)) || (decide ((l_0.length : Int) > 200)))) ?_ ?_
 ·refine go ?_
  refine CP.cb ho (fun ho => ?_) fun ho => ?_
  ·refine go ?_
   obtain rfl := fin ho hr
   exact QE.rt (fun _ h => St.selO [] rfl rfl (St.know (fun h _ => slP.nil k_capstanref09_Loop h) h)) (hk := fun a b p s => ⟨_, rfl, ⟨em, em, Dj.em_left _, Sub.em _, Sub.em _, p.get 0 rfl, trivial⟩⟩)
  refine go ?_
  refine CP.seq ?_
  refine go ?_
  obtain rfl := Option.some.inj ho
  refine CP.loop (fun cl1 a w2 => ∃ x211 : Int, cl1 ≤ m0 ∧ iter (capstanref09_Loops.F l_0) cl1 (.l1 x211) = some r ∧ Env ⟨122, []⟩ [(0, v_l_0), (4, .int .i64 x211)] a ∧ St w em hV [slP k_api_Instr v_l_0 l_0] [] w2) m0 (fun a w2 ha hw => ⟨0, Nat.le_refl _, hr, ha.sub sb, hw⟩) ?_
  clear hr
  rintro cl1 a w2 ⟨x211, hc_l1, hi, ha, hw⟩
  obtain ⟨m212, o, hm_m212, ho, hr⟩ := iter_some hi
  refine CP.app ha hw ?_
  clear ha hw a w2 hi
  refine CP.seq ?_
  refine go ?_
  refine CP.ci ho (fun ho => ?_) fun ho => ?_
  ·refine go ?_
   refine CP.seq ?_
   refine go ?_
   obtain ⟨x215, hx, ho⟩ := elt_bind ho
   refine SP.indexP see 0 rfl Tryz.underlying39 sz71 hx.1 hx.2 rfl rfl rfl rfl (fun p213 => ?_)
   clear hx
   refine k_api_Instr.load see 0 rfl Tryz.underlying71 rfl sz71 rfl rfl rfl ?_
   obtain ⟨t216, hc, ho⟩ := bind_some ho
   refine SP.callV see (caps := []) (.bool t216) fn82 rfl rfl rfl rfl (fun w2 hP hs sub ap => capstanref04_May.ok _  _ hc w2 hP sub ) ?_
   clear hc
   refine go ?_
   refine CP.cb ho (fun ho => ?_) fun ho => ?_
   ·refine go ?_
    obtain rfl := fin ho hr
    exact QE.rt (fun _ h => St.selO [] rfl rfl (St.know (fun h _ => slP.nil k_capstanref09_Loop h) h)) (hk := fun a b p s => ⟨_, rfl, ⟨em, em, Dj.em_left _, Sub.em _, Sub.em _, p.get 0 rfl, trivial⟩⟩)
   refine go ?_
   obtain rfl := Option.some.inj ho
   exact QE.lower m212 (by omega) fun a w2 ha hw => ⟨(IntKind.i64.wrap (x211 + 1)), (by omega), hr, ha.sub sb, (St.selP [1] rfl hw)⟩
  refine go ?_
  obtain ⟨t218, hc, ho⟩ := bind_some ho
  refine SP.callK see (caps := []) _ fn83 rfl rfl rfl rfl (fun w2 hP hs sub ap => capstanref09_all.ok _ _ _ hc w2 hP sub (ap.get 0 rfl)) (SP.k1 fun v219 => ?_)
  clear hc
  refine go ?_
  obtain ⟨x223, hx, ho⟩ := elt_bind ho
  refine SP.indexP see 0 rfl Tryz.underlying39 sz71 hx.1 hx.2 rfl rfl rfl rfl (fun p221 => ?_)
  clear hx
  refine SP.fieldP see 0 rfl Tryz.underlying71 rfl sz5 k_api_Instr.part_Op rfl rfl rfl (fun p224 => ?_)
  refine SP.val (Val.loadP1 see 0 rfl (fun _ _ e => e) Tryz.underlying5 rfl rfl) rfl rfl rfl ?_
  refine go ?_
  refine CP.seq ?_
  refine go ?_
  obtain ⟨t229, hg_t229, ho⟩ := bind_some ho
  refine SP.jn 6 [0, 5, 7] 50 (.bool t229) ?_ ?_
  ·clear hg_t229
   refine go ?_
   refine SP.jn 7 [0, 5] 58 (.bool (t229 || ((decide (x223.Op ≠ 31)) && (decide (x223.Op ≠ 32))))) ?_ ?_
   ·refine go ?_
    refine CP.cb ho (fun ho => ?_) fun ho => ?_
    ·refine go ?_
     obtain rfl := fin ho hr
     exact QE.rt (fun _ h => St.selO [] rfl rfl (St.know (fun h _ => slP.nil k_capstanref09_Loop h) h)) (hk := fun a b p s => ⟨_, rfl, ⟨em, em, Dj.em_left _, Sub.em _, Sub.em _, p.get 0 rfl, trivial⟩⟩)
    refine go ?_
    refine CP.seq ?_
    refine go ?_
    obtain rfl := Option.some.inj ho
    refine CP.loop (fun cl2 a w2 => ∃ l336 : List capstanref09_Loop, ∃ x338 : Int, ∃ v337 : Value, cl2 ≤ m212 ∧ iter (capstanref09_Loops.F l_0) cl2 (.l2 l336 x338) = some r ∧ Env ⟨122, []⟩ [(0, v_l_0), (5, v337), (8, .int .i64 x338)] a ∧ St w em hV [slP k_capstanref09_Loop v337 l336, slP k_api_Instr v_l_0 l_0] [] w2) m212 (fun a w2 ha hw => ⟨t218.1, 0, v219, Nat.le_refl _, hr, ha.sub sb, (St.selP [0, 3] rfl (St.freezeS hw 0 rfl see))⟩) ?_
    clear hr
    rintro cl2 a w2 ⟨l336, x338, v337, hc_l2, hi, ha, hw⟩
    obtain ⟨m339, o, hm_m339, ho, hr⟩ := iter_some hi
    refine CP.app ha hw ?_
    clear ha hw a w2 hi
    refine CP.seq ?_
    refine go ?_
    refine CP.ci ho (fun ho => ?_) fun ho => ?_
    ·refine go ?_
     refine CP.join (fun a w2 => ∃ (m413 : Nat) (o : (capstanref09_Loops.S ⊕ ((List capstanref09_Loop) × Int))), m413 ≤ m339 ∧ capstanref09_Loops.j1 l_0 l336 x338 = some o ∧ next (capstanref09_Loops.F l_0) m413 o = some r ∧ Env ⟨122, []⟩ [(0, v_l_0), (5, v337), (8, .int .i64 x338)] a ∧ St w em hV [slP k_capstanref09_Loop v337 l336, slP k_api_Instr v_l_0 l_0] [] w2) ?_ ?_
     ·rintro a w2 ⟨m413, o, hm_m413, ho, hr, ha, hw⟩
      refine CP.app ha hw ?_
      clear ha hw a w2
      refine go ?_
      obtain rfl := Option.some.inj ho
      exact QE.lower m413 (by omega) fun a w2 ha hw => ⟨l336, (IntKind.i64.wrap (x338 + 1)), v337, (by omega), hr, ha.sub sb, hw⟩
     refine go ?_
     refine CP.seq ?_
     refine go ?_
     obtain ⟨x342, hx, ho⟩ := elt_bind ho
     refine SP.indexP see 1 rfl Tryz.underlying39 sz71 hx.1 hx.2 rfl rfl rfl rfl (fun p340 => ?_)
     clear hx
     refine SP.fieldP see 0 rfl Tryz.underlying71 rfl sz5 k_api_Instr.part_Op rfl rfl rfl (fun p343 => ?_)
     refine SP.val (Val.loadP1 see 0 rfl (fun _ _ e => e) Tryz.underlying5 rfl rfl) rfl rfl rfl ?_
     refine go ?_
     obtain ⟨t352, hg_t352, ho⟩ := bind_some ho
     refine SP.jn 7 [0, 5, 8] 78 (.bool t352) ?_ ?_
     ·clear hg_t352
      refine go ?_
      refine CP.cb ho (fun ho => ?_) fun ho => ?_
      ·refine go ?_
       exact QE.meet fun a w2 ha hw => ⟨m339, _, (by omega), ho, hr, ha.sub sb, (St.selP [2, 3] rfl hw)⟩
      refine go ?_
      refine CP.seq ?_
      refine go ?_
      obtain ⟨x355, hx, ho⟩ := elt_bind ho
      refine SP.indexP see 3 rfl Tryz.underlying39 sz71 hx.1 hx.2 rfl rfl rfl rfl (fun p353 => ?_)
      clear hx
      refine SP.fieldP see 0 rfl Tryz.underlying71 rfl sz3 k_api_Instr.part_A rfl rfl rfl (fun p356 => ?_)
      refine SP.val (Val.loadP1 see 0 rfl (fun _ _ e => e) Tryz.underlying3 rfl rfl) rfl rfl rfl ?_
      refine go ?_
      obtain ⟨t365, hg_t365, ho⟩ := bind_some ho
      refine SP.jn 9 [0, 5, 8] 95 (.bool t365) ?_ ?_
      ·clear hg_t365
       refine go ?_
       refine CP.cb ho (fun ho => ?_) fun ho => ?_
       ·refine go ?_
        obtain rfl := fin ho hr
        exact QE.rt (fun _ h => St.selO [] rfl rfl (St.know (fun h _ => slP.nil k_capstanref09_Loop h) h)) (hk := fun a b p s => ⟨_, rfl, ⟨em, em, Dj.em_left _, Sub.em _, Sub.em _, p.get 0 rfl, trivial⟩⟩)
       refine go ?_
       obtain rfl := Option.some.inj ho
       refine CP.loop (fun cl3 a w2 => ∃ x389 : Int, cl3 ≤ m339 ∧ iter (capstanref09_Loops.F l_0) cl3 (.l3 l336 x338 x389) = some r ∧ Env ⟨122, []⟩ [(0, v_l_0), (5, v337), (8, .int .i64 x338), (9, .int .i64 x389)] a ∧ St w em hV [slP k_capstanref09_Loop v337 l336, slP k_api_Instr v_l_0 l_0] [] w2) m339 (fun a w2 ha hw => ⟨0, Nat.le_refl _, hr, ha.sub sb, (St.selP [4, 5] rfl hw)⟩) ?_
       clear hr
       rintro cl3 a w2 ⟨x389, hc_l3, hi, ha, hw⟩
       obtain ⟨m390, o, hm_m390, ho, hr⟩ := iter_some hi
       refine CP.app ha hw ?_
       clear ha hw a w2 hi
       refine CP.seq ?_
       refine go ?_
       refine CP.ci ho (fun ho => ?_) fun ho => ?_
       ·refine go ?_
        refine CP.seq ?_
        refine go ?_
        refine CP.join (fun a w2 => ∃ b409 : Bool, ∃ (m410 : Nat) (o : (capstanref09_Loops.S ⊕ ((List capstanref09_Loop) × Int))), m410 ≤ m390 ∧ capstanref09_Loops.j2 l_0 l336 x338 x389 b409 = some o ∧ next (capstanref09_Loops.F l_0) m410 o = some r ∧ Env ⟨122, []⟩ [(0, v_l_0), (5, v337), (8, .int .i64 x338), (9, .int .i64 x389), (120, .bool b409)] a ∧ St w em hV [slP k_capstanref09_Loop v337 l336, slP k_api_Instr v_l_0 l_0] [] w2) ?_ ?_
        ·rintro a w2 ⟨b409, m410, o, hm_m410, ho, hr, ha, hw⟩
         refine CP.app ha hw ?_
         clear ha hw a w2
         refine CP.cb ho (fun ho => ?_) fun ho => ?_
         ·refine go ?_
          obtain rfl := fin ho hr
          exact QE.rt (fun _ h => St.selO [] rfl rfl (St.know (fun h _ => slP.nil k_capstanref09_Loop h) h)) (hk := fun a b p s => ⟨_, rfl, ⟨em, em, Dj.em_left _, Sub.em _, Sub.em _, p.get 0 rfl, trivial⟩⟩)
         refine go ?_
         obtain rfl := Option.some.inj ho
         exact QE.lower m410 (by omega) fun a w2 ha hw => ⟨(IntKind.i64.wrap (x389 + 1)), (by omega), hr, ha.sub sb, hw⟩
        refine CP.drawA (by kernel_rfl) (fun w2 k h => h.drawn k) ?_
        obtain ⟨x393, hx, ho⟩ := elt_bind ho
        refine DA.ghost (fun w2 h => h.elem see 0 rfl hx.1 hx.2) (fun p391 h_p391 => ?_)
        clear hx
        refine DA.ghost (fun w2 h => h.openE see 0 rfl (fun _ : Unit => [.int .i64 x393.From, .int .i64 x393.To, .int .i64 x393.Turns]) (fun _ => []) (fun h cs e => ⟨(), e, All.nil _⟩)) (fun _ _ => ?_)
        obtain ⟨x397, hx, ho⟩ := elt_bind ho
        refine DA.ghost (fun w2 h => h.elem see 3 rfl hx.1 hx.2) (fun p395 h_p395 => ?_)
        clear hx
        refine DA.ghost (fun w2 h => h.fieldE see 0 rfl k_api_Instr.part_A) (fun p398 h_p398 => ?_)
        refine DA.ghost (fun w2 h => h.openE see 0 rfl (fun _ : Unit => [.int .i64 x397.A]) (fun _ => []) (fun h cs e => ⟨(), e, All.nil _⟩)) (fun _ _ => ?_)
        refine DA.ph 0 9 ?_
        refine DT.tk 0 ?_
        refine DT.tk 1 ?_
        refine DT.tv 2 rfl (Val.indexE h_p391 Tryz.underlying123 sz159 rfl rfl) ?_
        refine DT.tv 3 rfl (Val.loadAtA see 3 rfl Tryz.underlying159 rfl sz159 rfl) ?_
        refine DT.tk 4 ?_
        refine DT.tk 5 ?_
        refine DT.tv 6 rfl (Val.indexE h_p395 Tryz.underlying39 sz71 rfl rfl) ?_
        refine DT.tv 7 rfl (Val.fieldE h_p398 Tryz.underlying71 rfl rfl sz3 rfl) ?_
        refine DT.tv 8 rfl (Val.loadAt1 see 0 rfl Tryz.underlying3 rfl rfl) ?_
        refine DT.next (by kernel_rfl) ?_
        refine DA.one 9 rfl (by kernel_rfl) ?_
        obtain ⟨t401, hc, ho⟩ := bind_some ho
        refine SP.callV see (caps := []) (.bool t401) fn85 rfl rfl rfl rfl (fun w2 hP hs sub ap => capstanref09_within.ok _ _  _ hc w2 hP sub ) ?_
        clear hc
        refine go ?_
        refine QE.atA ?_
        refine DA.one 10 rfl (by kernel_rfl) ?_
        refine go ?_
        refine QE.atA ?_
        rcases if_some ho with ⟨hc, ho⟩ | ⟨hc, ho⟩
        ·have hg402 := hc
         clear hc
         obtain ⟨x405, hx, ho⟩ := elt_bind ho
         refine DA.ghost (fun w2 h => h.elem see 5 rfl hx.1 hx.2) (fun p403 h_p403 => ?_)
         clear hx
         refine DA.ghost (fun w2 h => h.openE see 0 rfl (fun _ : Unit => [.int .i64 x405.From, .int .i64 x405.To, .int .i64 x405.Turns]) (fun _ => []) (fun h cs e => ⟨(), e, All.nil _⟩)) (fun _ _ => ?_)
         refine DA.ph 11 16 ?_
         refine DT.is (d := 112) (b := true) rfl hg402 ?_
         refine DT.tk 11 ?_
         refine DT.tk 12 ?_
         refine DT.tv 13 rfl (Val.indexE h_p403 Tryz.underlying123 sz159 rfl rfl) ?_
         refine DT.tv 14 rfl (Val.loadAtA see 0 rfl Tryz.underlying159 rfl sz159 rfl) ?_
         refine DT.tk 15 ?_
         refine DT.next (by kernel_rfl) ?_
         refine DA.one 16 rfl (by kernel_rfl) ?_
         obtain ⟨t407, hc, ho⟩ := bind_some ho
         refine SP.callV see (caps := []) (.bool t407) fn85 rfl rfl rfl rfl (fun w2 hP hs sub ap => capstanref09_within.ok _ _  _ hc w2 hP sub ) ?_
         clear hc
         refine go ?_
         refine QE.atA ?_
         refine DA.one 17 rfl (by kernel_rfl) ?_
         refine go ?_
         refine QE.atA ?_
         refine DA.one 18 rfl (by kernel_rfl) ?_
         refine go ?_
         refine QE.atA ?_
         refine DA.done (by kernel_rfl) ?_
         exact QE.meet fun a w2 ha hw => ⟨(!t407), m390, _, (by omega), ho, hr, ha.sub sb, (St.selP [7, 8] rfl hw)⟩
        have hg408 := (bf hc)
        clear hc
        refine DA.ph 11 16 ?_
        refine DT.is (d := 112) (b := false) rfl hg408 ?_
        refine DT.tn 11 ?_
        refine DT.tn 12 ?_
        refine DT.tn 13 ?_
        refine DT.tn 14 ?_
        refine DT.tn 15 ?_
        refine DT.next (by kernel_rfl) ?_
        refine DA.ph 16 17 ?_
        refine DT.tn 16 ?_
        refine DT.next (by kernel_rfl) ?_
        refine DA.ph 17 18 ?_
        refine DT.tn 17 ?_
        refine DT.next (by kernel_rfl) ?_
        refine DA.one 18 rfl (by kernel_rfl) ?_
        refine go ?_
        refine QE.atA ?_
        refine DA.done (by kernel_rfl) ?_
        exact QE.meet fun a w2 ha hw => ⟨false, m390, _, (by omega), ho, hr, ha.sub sb, (St.selP [5, 6] rfl hw)⟩
       refine go ?_
       exact QE.meet fun a w2 ha hw => ⟨m390, _, (by omega), ho, hr, ha.sub sb, hw⟩
      refine SP.ci 86 hg_t365 (fun hq359 ho => ?_) fun hq359 ho => ?_
      ·refine go ?_
       obtain rfl := Option.some.inj ho
       exact QE.jn fun w2 hw => hw
      refine go ?_
      obtain ⟨x362, hx, ho⟩ := elt_bind ho
      refine SP.indexP see 5 rfl Tryz.underlying39 sz71 hx.1 hx.2 rfl rfl rfl rfl (fun p360 => ?_)
      clear hx
      refine SP.fieldP see 0 rfl Tryz.underlying71 rfl sz3 k_api_Instr.part_A rfl rfl rfl (fun p363 => ?_)
      refine SP.val (Val.loadP1 see 0 rfl (fun _ _ e => e) Tryz.underlying3 rfl rfl) rfl rfl rfl ?_
      refine go ?_
      obtain rfl := Option.some.inj ho
      exact QE.jn fun w2 hw => (St.selP [2, 3, 4, 5, 6, 7] rfl hw)
     refine SP.ci 71 hg_t352 (fun hq346 ho => ?_) fun hq346 ho => ?_
     ·refine go ?_
      obtain ⟨x349, hx, ho⟩ := elt_bind ho
      refine SP.indexP see 3 rfl Tryz.underlying39 sz71 hx.1 hx.2 rfl rfl rfl rfl (fun p347 => ?_)
      clear hx
      refine SP.fieldP see 0 rfl Tryz.underlying71 rfl sz5 k_api_Instr.part_Op rfl rfl rfl (fun p350 => ?_)
      refine SP.val (Val.loadP1 see 0 rfl (fun _ _ e => e) Tryz.underlying5 rfl rfl) rfl rfl rfl ?_
      refine go ?_
      obtain rfl := Option.some.inj ho
      exact QE.jn fun w2 hw => (St.selP [2, 3, 4, 5] rfl hw)
     refine go ?_
     obtain rfl := Option.some.inj ho
     exact QE.jn fun w2 hw => hw
    refine go ?_
    obtain rfl := fin ho hr
    exact QE.rt (fun _ h => St.selO [] rfl rfl h) (hk := fun a b p s => ⟨_, rfl, ⟨em, em, Dj.em_left _, Sub.em _, Sub.em _, p.get 0 rfl, trivial⟩⟩)
   refine SP.bb 51 (fun hq231 => ?_) fun hq231 => ?_
   ·refine go ?_
    exact QE.jb (or_t hq231) fun w2 hw => hw
   refine go ?_
   refine SP.jn 3 [0, 5, 51] 57 (.bool ((decide (x223.Op ≠ 31)) && (decide (x223.Op ≠ 32)))) ?_ ?_
   ·refine go ?_
    exact QE.jb (or_f hq231 rfl) fun w2 hw => hw
   refine SP.bb 54 (fun hq233 => ?_) fun hq233 => ?_
   ·refine go ?_
    exact QE.jb (and_t hq233 rfl) fun w2 hw => hw
   refine go ?_
   exact QE.jb (and_f hq233) fun w2 hw => hw
  refine SP.cb 44 hg_t229 (fun hq227 ho => ?_) fun hq227 ho => ?_
  ·refine go ?_
   obtain rfl := Option.some.inj ho
   exact QE.jn fun w2 hw => hw
  refine go ?_
  obtain ⟨t228, hc, ho⟩ := bind_some ho
  refine SP.callVO see (caps := []) (.bool t228) fn84 rfl rfl rfl rfl (fun w2 hs => capstanref09_nested.ok _ _ _ _ hc w2 (hp w2) (Sub.refl _) (slO.read (St.own 0 rfl see.sub see.dj hs) (Sub.refl _) (Sub.refl _))) ?_
  clear hc
  refine go ?_
  obtain rfl := Option.some.inj ho
  exact QE.jn fun w2 hw => hw
 refine SP.bb 13 (fun hq3 => ?_) fun hq3 => ?_
 ·refine go ?_
  exact QE.jb (or_t hq3) fun w2 hw => hw
 refine go ?_
 exact QE.jb (or_f hq3 rfl) fun w2 hw => hw
def capstanref10_there.j2 (m_0 : api_Module) (x_1 : api_Method) (i_2 : api_Instr) (b14 : Bool) : Option Bool :=
  if b14 = true then (some (decide (i_2.A < (m_0.Globals.length : Int)))) else (if i_2.Op = 30 then (some (decide (i_2.A < (m_0.Methods.length : Int)))) else (some true))
def capstanref10_there.j1 (m_0 : api_Module) (x_1 : api_Method) (i_2 : api_Instr) (b13 : Bool) : Option Bool :=
  if b13 = true then (some (decide (i_2.A < (IntKind.i64.wrap ((x_1.Args.length : Int) + (x_1.Locals.length : Int)))))) else (if i_2.Op = 4 then (capstanref10_there.j2 m_0 x_1 i_2 (decide (i_2.Op = 4))) else (capstanref10_there.j2 m_0 x_1 i_2 (decide (i_2.Op = 5))))
def capstanref10_there.f (m_0 : api_Module) (x_1 : api_Method) (i_2 : api_Instr) : Option Bool :=
  if i_2.Op = 1 then (some (decide (i_2.A < (m_0.Pool.length : Int)))) else (if i_2.Op = 2 then (capstanref10_there.j1 m_0 x_1 i_2 (decide (i_2.Op = 2))) else (capstanref10_there.j1 m_0 x_1 i_2 (decide (i_2.Op = 3))))
theorem capstanref10_there.ok (m_0 : api_Module) (x_1 : api_Method) (i_2 : api_Instr) (v_m_0_Globals v_m_0_Pool : Value) (v_m_0_Methods v_x_1_Args : Value) (v_x_1_Locals v_x_1_Code : Value) (r : Bool) (H : capstanref10_there.f m_0 x_1 i_2 = some r) (w : World) (hV : Hp) (sV : Sub hV (hp w)) (h0 : slR k_api_Value hV v_m_0_Globals m_0.Globals) (h1 : slR k_api_Value hV v_m_0_Pool m_0.Pool) (h2 : slR k_api_Method hV v_m_0_Methods m_0.Methods) (h3 : slR (kInt .u8) hV v_x_1_Args x_1.Args) (h4 : slR (kInt .u8) hV v_x_1_Locals x_1.Locals) (h5 : slR k_api_Instr hV v_x_1_Code x_1.Code) :
    Trip Tryz.prog 62 [.agg #[v_m_0_Globals, v_m_0_Pool, v_m_0_Methods, .int .i64 m_0.Migrate], .agg #[v_x_1_Args, v_x_1_Locals, .int .u8 x_1.Result, .bool x_1.Reads, .int .i64 x_1.Fuel, .int .i64 x_1.Stack, .int .i64 x_1.Heap, v_x_1_Code], .agg #[.int .u8 i_2.Op, .int .i64 i_2.A, .int .i64 i_2.B]].toArray em hV w (fun v => HO.pure (v = .bool r)) := by
 refine Trip.go 47 Tryz.func62 sV (aS h0 (aS h1 (aS h2 (aS h3 (aS h4 (aS h5 (All.nil _))))))) fun see => ?_
 have ho := H
 refine go ?_
 refine SP.box rfl rfl rfl rfl fun b7 => ?_
 refine SP.box rfl rfl rfl rfl fun b9 => ?_
 refine SP.box rfl rfl rfl rfl fun b11 => ?_
 refine go ?_
 refine CP.seq ?_
 refine go ?_
 refine CP.ci ho (fun ho => ?_) fun ho => ?_
 ·refine go ?_
  obtain rfl := Option.some.inj ho
  exact QE.rt (fun _ h => h)
 refine CP.join (fun a w2 => ∃ b13 : Bool, capstanref10_there.j1 m_0 x_1 i_2 b13 = some r ∧ Env ⟨47, []⟩ [(3, .pointer (some ⟨b7, 0, none⟩)), (4, .pointer (some ⟨b9, 0, none⟩)), (5, .pointer (some ⟨b11, 0, none⟩)), (8, .int .u8 i_2.Op), (17, .bool b13)] a ∧ St w em hV [slP k_api_Value v_m_0_Globals m_0.Globals, slP k_api_Value v_m_0_Pool m_0.Pool, slP k_api_Method v_m_0_Methods m_0.Methods, slP (kInt .u8) v_x_1_Args x_1.Args, slP (kInt .u8) v_x_1_Locals x_1.Locals, slP k_api_Instr v_x_1_Code x_1.Code] [boxO b11 [.int .u8 i_2.Op, .int .i64 i_2.A, .int .i64 i_2.B] 71, boxO b9 [v_x_1_Args, v_x_1_Locals, .int .u8 x_1.Result, .bool x_1.Reads, .int .i64 x_1.Fuel, .int .i64 x_1.Stack, .int .i64 x_1.Heap, v_x_1_Code] 41, boxO b7 [v_m_0_Globals, v_m_0_Pool, v_m_0_Methods, .int .i64 m_0.Migrate] 25] w2) ?_ ?_
 ·rintro a w2 ⟨b13, ho, ha, hw⟩
  refine CP.app ha hw ?_
  clear ha hw a w2
  refine CP.cb ho (fun ho => ?_) fun ho => ?_
  ·refine go ?_
   obtain rfl := Option.some.inj ho
   exact QE.rt (fun _ h => h)
  refine CP.join (fun a w2 => ∃ b14 : Bool, capstanref10_there.j2 m_0 x_1 i_2 b14 = some r ∧ Env ⟨47, []⟩ [(3, .pointer (some ⟨b7, 0, none⟩)), (5, .pointer (some ⟨b11, 0, none⟩)), (8, .int .u8 i_2.Op), (30, .bool b14)] a ∧ St w em hV [slP k_api_Value v_m_0_Globals m_0.Globals, slP k_api_Value v_m_0_Pool m_0.Pool, slP k_api_Method v_m_0_Methods m_0.Methods] [boxO b11 [.int .u8 i_2.Op, .int .i64 i_2.A, .int .i64 i_2.B] 71, boxO b7 [v_m_0_Globals, v_m_0_Pool, v_m_0_Methods, .int .i64 m_0.Migrate] 25] w2) ?_ ?_
  ·rintro a w2 ⟨b14, ho, ha, hw⟩
   refine CP.app ha hw ?_
   clear ha hw a w2
   refine CP.cb ho (fun ho => ?_) fun ho => ?_
   ·refine go ?_
    obtain rfl := Option.some.inj ho
    exact QE.rt (fun _ h => h)
   refine go ?_
   refine CP.ci ho (fun ho => ?_) fun ho => ?_
   ·refine go ?_
    obtain rfl := Option.some.inj ho
    exact QE.rt (fun _ h => h)
   refine go ?_
   obtain rfl := Option.some.inj ho
   exact QE.rt (fun _ h => h)
  refine go ?_
  refine CP.ci ho (fun ho => ?_) fun ho => ?_
  ·refine go ?_
   exact QE.meet fun a w2 ha hw => ⟨(decide (i_2.Op = 4)), ho, ha.sub sb, (St.selP [0, 1, 2] rfl (St.selO [0, 2] rfl rfl hw))⟩
  refine go ?_
  exact QE.meet fun a w2 ha hw => ⟨(decide (i_2.Op = 5)), ho, ha.sub sb, (St.selP [0, 1, 2] rfl (St.selO [0, 2] rfl rfl hw))⟩
 refine go ?_
 refine CP.ci ho (fun ho => ?_) fun ho => ?_
 ·refine go ?_
  exact QE.meet fun a w2 ha hw => ⟨(decide (i_2.Op = 2)), ho, ha.sub sb, hw⟩
 refine go ?_
 exact QE.meet fun a w2 ha hw => ⟨(decide (i_2.Op = 3)), ho, ha.sub sb, hw⟩
def capstanref10_with.f (row_0 : (List Int)) (kind_1 : Int) : Option (List Int) :=
  if (([] : List Int).length + row_0.length) * 1 ≤ 140737488355328 then (if ((([] : List Int) ++ row_0).length + [kind_1].length) * 1 ≤ 140737488355328 then (some ((([] : List Int) ++ row_0) ++ [kind_1])) else none) else none
theorem capstanref10_with.ok (row_0 : (List Int)) (kind_1 : Int) (v_row_0 : Value) (r : (List Int)) (H : capstanref10_with.f row_0 kind_1 = some r) (w : World) (hV : Hp) (sV : Sub hV (hp w)) (h0 : slR (kInt .u8) hV v_row_0 row_0) :
    Trip Tryz.prog 86 [v_row_0, .int .u8 kind_1].toArray em hV w (fun v => HO.ex fun u0 : Value => HO.pand (v = u0) (HO.seps [slO (kInt .u8) 5 u0 r])) := by
 refine Trip.go 13 Tryz.func86 sV (aS h0 (All.nil _)) fun see => ?_
 have ho := H
 refine go ?_
 refine SP.lit0 (k := (kInt .u8)) Tryz.underlying38 inf5 rfl rfl (fun v2 => ?_)
 refine go ?_
 obtain ⟨hb, ho⟩ := must_some ho
 refine SP.append see 0 rfl 0 rfl Tryz.underlying38 inf5 rfl rfl hb rfl rfl rfl rfl rfl (fun v4 => ?_)
 clear hb
 refine go ?_
 refine SP.lit (k := (kInt .u8)) (xs := [kind_1]) (vs := [.int .u8 kind_1]) (cells := [.int .u8 kind_1]) Tryz.underlying38 inf5 rfl rfl rfl rfl rfl rfl rfl rfl (fun _ ap => ⟨[.int .u8 kind_1], _, rfl, rfl, rfl⟩) rfl rfl rfl (fun v6 => ?_)
 refine SP.freezeS see 0 rfl ?_
 obtain ⟨hb, ho⟩ := must_some ho
 refine SP.append see 0 rfl 0 rfl Tryz.underlying38 inf5 rfl rfl hb rfl rfl rfl rfl rfl (fun v8 => ?_)
 clear hb
 refine go ?_
 obtain rfl := Option.some.inj ho
 exact QE.rt (fun _ h => St.selO [0] rfl rfl h)
def capstanref07_Kinds.f (m_0 : api_Method) : Option (List Int) :=
  if (([] : List Int).length + m_0.Args.length) * 1 ≤ 140737488355328 then (if ((([] : List Int) ++ m_0.Args).length + m_0.Locals.length) * 1 ≤ 140737488355328 then (some ((([] : List Int) ++ m_0.Args) ++ m_0.Locals)) else none) else none
theorem capstanref07_Kinds.ok (m_0 : api_Method) (v_m_0_Args v_m_0_Locals v_m_0_Code : Value) (r : (List Int)) (H : capstanref07_Kinds.f m_0 = some r) (w : World) (hV : Hp) (sV : Sub hV (hp w)) (h0 : slR (kInt .u8) hV v_m_0_Args m_0.Args) (h1 : slR (kInt .u8) hV v_m_0_Locals m_0.Locals) (h2 : slR k_api_Instr hV v_m_0_Code m_0.Code) :
    Trip Tryz.prog 120 [.agg #[v_m_0_Args, v_m_0_Locals, .int .u8 m_0.Result, .bool m_0.Reads, .int .i64 m_0.Fuel, .int .i64 m_0.Stack, .int .i64 m_0.Heap, v_m_0_Code]].toArray em hV w (fun v => HO.ex fun u0 : Value => HO.pand (v = u0) (HO.seps [slO (kInt .u8) 5 u0 r])) := by
 refine Trip.go 12 Tryz.func120 sV (aS h0 (aS h1 (aS h2 (All.nil _)))) fun see => ?_
 have ho := H
 refine go ?_
 refine SP.box rfl rfl rfl rfl fun b4 => ?_
 refine go ?_
 refine SP.imp (fun w2 hw => St.addO (slO.nil (kInt .u8) 5) hw) ?_
 obtain ⟨hb, ho⟩ := must_some ho
 refine SP.append see 0 rfl 0 rfl Tryz.underlying38 inf5 rfl rfl hb rfl rfl rfl rfl rfl (fun v7 => ?_)
 clear hb
 refine go ?_
 obtain ⟨hb, ho⟩ := must_some ho
 refine SP.append see 0 rfl 1 rfl Tryz.underlying38 inf5 rfl rfl hb rfl rfl rfl rfl rfl (fun v9 => ?_)
 clear hb
 refine go ?_
 obtain rfl := Option.some.inj ho
 exact QE.rt (fun _ h => St.selO [0] rfl rfl h)
def capstanref10_local.f (x_0 : api_Method) (n_1 : Int) : Option Int :=
  (capstanref07_Kinds.f x_0).bind fun t6 => (elt t6 n_1).bind fun x10 => some x10
theorem capstanref10_local.ok (x_0 : api_Method) (n_1 : Int) (v_x_0_Args v_x_0_Locals v_x_0_Code : Value) (r : Int) (H : capstanref10_local.f x_0 n_1 = some r) (w : World) (hV : Hp) (sV : Sub hV (hp w)) (h0 : slR (kInt .u8) hV v_x_0_Args x_0.Args) (h1 : slR (kInt .u8) hV v_x_0_Locals x_0.Locals) (h2 : slR k_api_Instr hV v_x_0_Code x_0.Code) :
    Trip Tryz.prog 87 [.agg #[v_x_0_Args, v_x_0_Locals, .int .u8 x_0.Result, .bool x_0.Reads, .int .i64 x_0.Fuel, .int .i64 x_0.Stack, .int .i64 x_0.Heap, v_x_0_Code], .int .i64 n_1].toArray em hV w (fun v => HO.pure (v = .int .u8 r)) := by
 refine Trip.go 10 Tryz.func87 sV (aS h0 (aS h1 (aS h2 (All.nil _)))) fun see => ?_
 have ho := H
 refine go ?_
 refine SP.box rfl rfl rfl rfl fun b4 => ?_
 refine go ?_
 refine SP.val (Val.loadA 0 rfl Tryz.underlying41 rfl sz41 rfl rfl rfl) rfl rfl rfl ?_
 obtain ⟨t6, hc, ho⟩ := bind_some ho
 refine SP.callK see (caps := []) _ fn120 rfl rfl rfl rfl (fun w2 hP hs sub ap => capstanref07_Kinds.ok _ _ _ _ _ hc w2 hP sub (ap.get 0 rfl) (ap.get 1 rfl) (ap.get 2 rfl)) (SP.k1 fun v7 => ?_)
 clear hc
 refine go ?_
 obtain ⟨x10, hx_x10, ho⟩ := elt_bind ho
 refine SP.indexW (fun w2 hw => slO.whole (St.own 0 rfl see.sub see.dj hw)) Tryz.underlying38 sz5 hx_x10.1 hx_x10.2 rfl rfl rfl rfl (fun p9 h_p9 => ?_)
 refine SP.val (Val.loadW1 (off := 0) (k := (kInt .u8)) (fun w2 hw => slO.whole (St.own 0 rfl see.sub see.dj hw)) hx_x10.2 h_p9 (fun _ _ e => by subst e; rfl) Tryz.underlying5 rfl rfl) rfl rfl rfl ?_
 refine go ?_
 obtain rfl := Option.some.inj ho
 exact QE.rt (fun _ h => h)
def capstanref10_taken.f (row_0 : (List Int)) (kind_1 : Int) : Option ((List Int) × Int) :=
  if (row_0.length : Int) = 0 then (some ([], 101)) else ((if kind_1 ≠ 0 then ((elt row_0 (IntKind.i64.wrap ((row_0.length : Int) - 1))).bind fun x7 => some (decide (x7 ≠ kind_1))) else (some false)).bind fun t8 => if t8 = true then (some ([], 100)) else (if (0 : Int) ≤ (IntKind.i64.wrap ((row_0.length : Int) - 1)) ∧ (IntKind.i64.wrap ((row_0.length : Int) - 1)) ≤ (row_0.length : Int) then (some ((row_0.take (IntKind.i64.wrap ((row_0.length : Int) - 1) : Int).toNat), 0)) else none))
theorem capstanref10_taken.ok (row_0 : (List Int)) (kind_1 : Int) (v_row_0 : Value) (r : (List Int) × Int) (H : capstanref10_taken.f row_0 kind_1 = some r) (w : World) (hV : Hp) (sV : Sub hV (hp w)) (h0 : slR (kInt .u8) hV v_row_0 row_0) :
    Trip Tryz.prog 88 [v_row_0, .int .u8 kind_1].toArray em hV w (fun v => HO.ex fun u0 : Value => HO.pand (v = .tuple #[u0, .int .i64 r.2]) (HO.seps [HO.ofP (slP (kInt .u8) u0 r.1)])) := by
 refine Trip.go 26 Tryz.func88 sV (aS h0 (All.nil _)) fun see => ?_
 have ho := H
 refine go ?_
 refine CP.seq ?_
 refine go ?_
 refine CP.ci ho (fun ho => ?_) fun ho => ?_
 ·refine go ?_
  obtain rfl := Option.some.inj ho
  exact QE.rt (fun _ h => St.selO [] rfl rfl (St.know (fun h _ => slP.nil (kInt .u8) h) h)) (hk := fun a b p s => ⟨_, rfl, ⟨em, em, Dj.em_left _, Sub.em _, Sub.em _, p.get 0 rfl, trivial⟩⟩)
 refine go ?_
 refine CP.seq ?_
 refine go ?_
 obtain ⟨t8, hg_t8, ho⟩ := bind_some ho
 refine SP.jn 7 [0, 6] 22 (.bool t8) ?_ ?_
 ·clear hg_t8
  refine go ?_
  refine CP.cb ho (fun ho => ?_) fun ho => ?_
  ·refine go ?_
   obtain rfl := Option.some.inj ho
   exact QE.rt (fun _ h => St.selO [] rfl rfl (St.know (fun h _ => slP.nil (kInt .u8) h) h)) (hk := fun a b p s => ⟨_, rfl, ⟨em, em, Dj.em_left _, Sub.em _, Sub.em _, p.get 0 rfl, trivial⟩⟩)
  refine go ?_
  obtain ⟨hz, ho⟩ := must_some ho
  refine SP.sliceToP see 0 rfl Tryz.underlying38 sz5 rfl rfl hz rfl rfl (fun v10 => ?_)
  clear hz
  refine go ?_
  obtain rfl := Option.some.inj ho
  exact QE.rt (fun _ h => St.selO [] rfl rfl h) (hk := fun a b p s => ⟨_, rfl, ⟨em, em, Dj.em_left _, Sub.em _, Sub.em _, p.get 0 rfl, trivial⟩⟩)
 refine SP.ci 15 hg_t8 (fun hq4 ho => ?_) fun hq4 ho => ?_
 ·refine go ?_
  obtain ⟨x7, hx, ho⟩ := elt_bind ho
  refine SP.indexP see 0 rfl Tryz.underlying38 sz5 hx.1 hx.2 rfl rfl rfl rfl (fun p5 => ?_)
  clear hx
  refine SP.val (Val.loadP1 see 0 rfl (fun _ _ e => e) Tryz.underlying5 rfl rfl) rfl rfl rfl ?_
  refine go ?_
  obtain rfl := Option.some.inj ho
  exact QE.jn fun w2 hw => (St.selP [1] rfl hw)
 refine go ?_
 obtain rfl := Option.some.inj ho
 exact QE.jn fun w2 hw => hw
inductive capstanref10_takes.S where
  | start
  | l1 (l13 : List Int) (x15 : Int)
def capstanref10_takes.F (row_0 : (List Int)) (kinds_1 : (List Int)) : capstanref10_takes.S → Option (capstanref10_takes.S ⊕ ((List Int) × Int))
  | .start => if (row_0.length : Int) < (kinds_1.length : Int) then (some (.inr ([], 101))) else (some (.inl (.l1 row_0 (IntKind.i64.wrap ((kinds_1.length : Int) - 1)))))
  | .l1 l13 x15 => if x15 ≥ 0 then ((elt kinds_1 x15).bind fun x19 => (capstanref10_taken.f l13 x19).bind fun t20 => if t20.2 ≠ 0 then (some (.inr ([], t20.2))) else (some (.inl (.l1 t20.1 (IntKind.i64.wrap (x15 - 1)))))) else (some (.inr (l13, 0)))
def capstanref10_takes.f (row_0 : (List Int)) (kinds_1 : (List Int)) : Option ((List Int) × Int) := runF (capstanref10_takes.F row_0 kinds_1) .start
theorem capstanref10_takes.ok (row_0 : (List Int)) (kinds_1 : (List Int)) (v_row_0 v_kinds_1 : Value) (r : (List Int) × Int) (H : capstanref10_takes.f row_0 kinds_1 = some r) (w : World) (hV : Hp) (sV : Sub hV (hp w)) (h0 : slR (kInt .u8) hV v_row_0 row_0) (h1 : slR (kInt .u8) hV v_kinds_1 kinds_1) :
    Trip Tryz.prog 89 [v_row_0, v_kinds_1].toArray em hV w (fun v => HO.ex fun u0 : Value => HO.pand (v = .tuple #[u0, .int .i64 r.2]) (HO.seps [HO.ofP (slP (kInt .u8) u0 r.1)])) := by
 refine Trip.go 35 Tryz.func89 sV (aS h0 (aS h1 (All.nil _))) fun see => ?_
 obtain ⟨n0, hi⟩ := runF_iff.1 H
 obtain ⟨m0, o, hm0, ho, hr⟩ := iter_some hi
 clear hi
 refine go ?_
 refine CP.seq ?_
 refine go ?_
 refine CP.ci ho (fun ho => ?_) fun ho => ?_
 ·refine go ?_
  obtain rfl := fin ho hr
  exact QE.rt (fun _ h => St.selO [] rfl rfl (St.know (fun h _ => slP.nil (kInt .u8) h) h)) (hk := fun a b p s => ⟨_, rfl, ⟨em, em, Dj.em_left _, Sub.em _, Sub.em _, p.get 0 rfl, trivial⟩⟩)
 refine go ?_
 refine CP.seq ?_
 refine go ?_
 obtain rfl := Option.some.inj ho
 refine CP.loop (fun cl1 a w2 => ∃ l13 : List Int, ∃ x15 : Int, ∃ v14 : Value, cl1 ≤ m0 ∧ iter (capstanref10_takes.F row_0 kinds_1) cl1 (.l1 l13 x15) = some r ∧ Env ⟨35, []⟩ [(0, v14), (1, v_kinds_1), (6, .int .i64 x15)] a ∧ St w em hV [slP (kInt .u8) v14 l13, slP (kInt .u8) v_kinds_1 kinds_1] [] w2) m0 (fun a w2 ha hw => ⟨row_0, (IntKind.i64.wrap ((kinds_1.length : Int) - 1)), v_row_0, Nat.le_refl _, hr, ha.sub sb, hw⟩) ?_
 clear hr
 rintro cl1 a w2 ⟨l13, x15, v14, hc_l1, hi, ha, hw⟩
 obtain ⟨m16, o, hm_m16, ho, hr⟩ := iter_some hi
 refine CP.app ha hw ?_
 clear ha hw a w2 hi
 refine CP.seq ?_
 refine go ?_
 refine CP.ci ho (fun ho => ?_) fun ho => ?_
 ·refine go ?_
  refine CP.seq ?_
  refine go ?_
  obtain ⟨x19, hx, ho⟩ := elt_bind ho
  refine SP.indexP see 1 rfl Tryz.underlying38 sz5 hx.1 hx.2 rfl rfl rfl rfl (fun p17 => ?_)
  clear hx
  refine SP.val (Val.loadP1 see 0 rfl (fun _ _ e => e) Tryz.underlying5 rfl rfl) rfl rfl rfl ?_
  obtain ⟨t20, hc, ho⟩ := bind_some ho
  refine SP.callK see (caps := []) _ fn88 rfl rfl rfl rfl (fun w2 hP hs sub ap => capstanref10_taken.ok _ _ _ _ hc w2 hP sub (ap.get 1 rfl)) (SP.k1 fun v21 => ?_)
  refine SP.imp (fun w2 h => St.toP 0 rfl h) ?_
  clear hc
  refine go ?_
  refine CP.seq ?_
  refine go ?_
  refine CP.ci ho (fun ho => ?_) fun ho => ?_
  ·refine go ?_
   obtain rfl := fin ho hr
   exact QE.rt (fun _ h => St.selO [] rfl rfl (St.know (fun h _ => slP.nil (kInt .u8) h) h)) (hk := fun a b p s => ⟨_, rfl, ⟨em, em, Dj.em_left _, Sub.em _, Sub.em _, p.get 0 rfl, trivial⟩⟩)
  refine go ?_
  obtain rfl := Option.some.inj ho
  exact QE.lower m16 (by omega) fun a w2 ha hw => ⟨t20.1, (IntKind.i64.wrap (x15 - 1)), v21, (by omega), hr, ha.sub sb, (St.selP [0, 3] rfl hw)⟩
 refine go ?_
 obtain rfl := fin ho hr
 exact QE.rt (fun _ h => St.selO [] rfl rfl h) (hk := fun a b p s => ⟨_, rfl, ⟨em, em, Dj.em_left _, Sub.em _, Sub.em _, p.get 0 rfl, trivial⟩⟩)
def capstanref04_shape.j4 (op_0 : Int) (b4 : Bool) : Option (ByteArray × ByteArray) :=
  if b4 = true then (some ((⟨#[112, 112]⟩ : ByteArray), (⟨#[112]⟩ : ByteArray))) else (if op_0 = 21 then (some ((⟨#[112]⟩ : ByteArray), (⟨#[112]⟩ : ByteArray))) else (if op_0 = 22 then (some ((⟨#[110]⟩ : ByteArray), (⟨#[114]⟩ : ByteArray))) else (if op_0 = 23 then (some ((⟨#[114, 110]⟩ : ByteArray), (⟨#[110]⟩ : ByteArray))) else (if op_0 = 24 then (some ((⟨#[114, 110, 110]⟩ : ByteArray), (⟨#[]⟩ : ByteArray))) else (if op_0 = 25 then (some ((⟨#[114]⟩ : ByteArray), (⟨#[110]⟩ : ByteArray))) else (if op_0 = 27 then (some ((⟨#[110]⟩ : ByteArray), (⟨#[]⟩ : ByteArray))) else (if op_0 = 6 then (some ((⟨#[46]⟩ : ByteArray), (⟨#[]⟩ : ByteArray))) else (some ((⟨#[63]⟩ : ByteArray), (⟨#[63]⟩ : ByteArray))))))))))
def capstanref04_shape.j3 (op_0 : Int) (b3 : Bool) : Option (ByteArray × ByteArray) :=
  if b3 = true then (some ((⟨#[112]⟩ : ByteArray), (⟨#[110]⟩ : ByteArray))) else (if op_0 = 19 then (capstanref04_shape.j4 op_0 (decide (op_0 = 19))) else (capstanref04_shape.j4 op_0 (decide (op_0 = 20))))
def capstanref04_shape.j2 (op_0 : Int) (b2 : Bool) : Option (ByteArray × ByteArray) :=
  if b2 = true then (some ((⟨#[110, 110]⟩ : ByteArray), (⟨#[110]⟩ : ByteArray))) else (if op_0 = 16 then (some ((⟨#[110, 110]⟩ : ByteArray), (⟨#[112]⟩ : ByteArray))) else (if op_0 = 17 then (capstanref04_shape.j3 op_0 (decide (op_0 = 17))) else (capstanref04_shape.j3 op_0 (decide (op_0 = 18)))))
def capstanref04_shape.j1 (op_0 : Int) (b1 : Bool) : Option (ByteArray × ByteArray) :=
  if b1 = true then (some ((⟨#[]⟩ : ByteArray), (⟨#[]⟩ : ByteArray))) else (if op_0 = 9 then (capstanref04_shape.j2 op_0 (decide (op_0 = 9))) else (if op_0 = 10 then (capstanref04_shape.j2 op_0 (decide (op_0 = 10))) else (if op_0 = 11 then (capstanref04_shape.j2 op_0 (decide (op_0 = 11))) else (if op_0 = 12 then (capstanref04_shape.j2 op_0 (decide (op_0 = 12))) else (if op_0 = 13 then (capstanref04_shape.j2 op_0 (decide (op_0 = 13))) else (if op_0 = 14 then (capstanref04_shape.j2 op_0 (decide (op_0 = 14))) else (capstanref04_shape.j2 op_0 (decide (op_0 = 15)))))))))
def capstanref04_shape.f (op_0 : Int) : Option (ByteArray × ByteArray) :=
  if op_0 = 0 then (capstanref04_shape.j1 op_0 (decide (op_0 = 0))) else (if op_0 = 26 then (capstanref04_shape.j1 op_0 (decide (op_0 = 26))) else (if op_0 = 28 then (capstanref04_shape.j1 op_0 (decide (op_0 = 28))) else (if op_0 = 29 then (capstanref04_shape.j1 op_0 (decide (op_0 = 29))) else (capstanref04_shape.j1 op_0 (decide (op_0 = 32))))))
theorem capstanref04_shape.ok (op_0 : Int)  (r : ByteArray × ByteArray) (H : capstanref04_shape.f op_0 = some r) (w : World) (hV : Hp) (sV : Sub hV (hp w))  :
    Trip Tryz.prog 121 [.int .u8 op_0].toArray em hV w (fun v => HO.pure (v = .tuple #[.string r.1, .string r.2])) := by
 refine Trip.go 41 Tryz.func121 sV (All.nil _) fun see => ?_
 have ho := H
 refine go ?_
 refine CP.seq ?_
 refine go ?_
 refine CP.join (fun a w2 => ∃ b1 : Bool, capstanref04_shape.j1 op_0 b1 = some r ∧ Env ⟨41, []⟩ [(4, .int .u8 op_0), (5, .bool b1)] a ∧ St w em hV [] [] w2) ?_ ?_
 ·rintro a w2 ⟨b1, ho, ha, hw⟩
  refine CP.app ha hw ?_
  clear ha hw a w2
  refine CP.cb ho (fun ho => ?_) fun ho => ?_
  ·refine go ?_
   obtain rfl := Option.some.inj ho
   exact QE.rt (fun _ h => h)
  refine CP.join (fun a w2 => ∃ b2 : Bool, capstanref04_shape.j2 op_0 b2 = some r ∧ Env ⟨41, []⟩ [(4, .int .u8 op_0), (11, .bool b2)] a ∧ St w em hV [] [] w2) ?_ ?_
  ·rintro a w2 ⟨b2, ho, ha, hw⟩
   refine CP.app ha hw ?_
   clear ha hw a w2
   refine CP.cb ho (fun ho => ?_) fun ho => ?_
   ·refine go ?_
    obtain rfl := Option.some.inj ho
    exact QE.rt (fun _ h => h)
   refine go ?_
   refine CP.ci ho (fun ho => ?_) fun ho => ?_
   ·refine go ?_
    obtain rfl := Option.some.inj ho
    exact QE.rt (fun _ h => h)
   refine CP.join (fun a w2 => ∃ b3 : Bool, capstanref04_shape.j3 op_0 b3 = some r ∧ Env ⟨41, []⟩ [(4, .int .u8 op_0), (21, .bool b3)] a ∧ St w em hV [] [] w2) ?_ ?_
   ·rintro a w2 ⟨b3, ho, ha, hw⟩
    refine CP.app ha hw ?_
    clear ha hw a w2
    refine CP.cb ho (fun ho => ?_) fun ho => ?_
    ·refine go ?_
     obtain rfl := Option.some.inj ho
     exact QE.rt (fun _ h => h)
    refine CP.join (fun a w2 => ∃ b4 : Bool, capstanref04_shape.j4 op_0 b4 = some r ∧ Env ⟨41, []⟩ [(4, .int .u8 op_0), (24, .bool b4)] a ∧ St w em hV [] [] w2) ?_ ?_
    ·rintro a w2 ⟨b4, ho, ha, hw⟩
     refine CP.app ha hw ?_
     clear ha hw a w2
     refine CP.cb ho (fun ho => ?_) fun ho => ?_
     ·refine go ?_
      obtain rfl := Option.some.inj ho
      exact QE.rt (fun _ h => h)
     refine go ?_
     refine CP.ci ho (fun ho => ?_) fun ho => ?_
     ·refine go ?_
      obtain rfl := Option.some.inj ho
      exact QE.rt (fun _ h => h)
     refine go ?_
     refine CP.ci ho (fun ho => ?_) fun ho => ?_
     ·refine go ?_
      obtain rfl := Option.some.inj ho
      exact QE.rt (fun _ h => h)
     refine go ?_
     refine CP.ci ho (fun ho => ?_) fun ho => ?_
     ·refine go ?_
      obtain rfl := Option.some.inj ho
      exact QE.rt (fun _ h => h)
     refine go ?_
     refine CP.ci ho (fun ho => ?_) fun ho => ?_
     ·refine go ?_
      obtain rfl := Option.some.inj ho
      exact QE.rt (fun _ h => h)
     refine go ?_
     refine CP.ci ho (fun ho => ?_) fun ho => ?_
     ·refine go ?_
      obtain rfl := Option.some.inj ho
      exact QE.rt (fun _ h => h)
     refine go ?_
     refine CP.ci ho (fun ho => ?_) fun ho => ?_
     ·refine go ?_
      obtain rfl := Option.some.inj ho
      exact QE.rt (fun _ h => h)
     refine go ?_
     refine CP.ci ho (fun ho => ?_) fun ho => ?_
     ·refine go ?_
      obtain rfl := Option.some.inj ho
      exact QE.rt (fun _ h => h)
     refine go ?_
     obtain rfl := Option.some.inj ho
     exact QE.rt (fun _ h => h)
    refine go ?_
    refine CP.ci ho (fun ho => ?_) fun ho => ?_
    ·refine go ?_
     exact QE.meet fun a w2 ha hw => ⟨(decide (op_0 = 19)), ho, ha.sub sb, hw⟩
    refine go ?_
    exact QE.meet fun a w2 ha hw => ⟨(decide (op_0 = 20)), ho, ha.sub sb, hw⟩
   refine go ?_
   refine CP.ci ho (fun ho => ?_) fun ho => ?_
   ·refine go ?_
    exact QE.meet fun a w2 ha hw => ⟨(decide (op_0 = 17)), ho, ha.sub sb, hw⟩
   refine go ?_
   exact QE.meet fun a w2 ha hw => ⟨(decide (op_0 = 18)), ho, ha.sub sb, hw⟩
  refine go ?_
  refine CP.ci ho (fun ho => ?_) fun ho => ?_
  ·refine go ?_
   exact QE.meet fun a w2 ha hw => ⟨(decide (op_0 = 9)), ho, ha.sub sb, hw⟩
  refine go ?_
  refine CP.ci ho (fun ho => ?_) fun ho => ?_
  ·refine go ?_
   exact QE.meet fun a w2 ha hw => ⟨(decide (op_0 = 10)), ho, ha.sub sb, hw⟩
  refine go ?_
  refine CP.ci ho (fun ho => ?_) fun ho => ?_
  ·refine go ?_
   exact QE.meet fun a w2 ha hw => ⟨(decide (op_0 = 11)), ho, ha.sub sb, hw⟩
  refine go ?_
  refine CP.ci ho (fun ho => ?_) fun ho => ?_
  ·refine go ?_
   exact QE.meet fun a w2 ha hw => ⟨(decide (op_0 = 12)), ho, ha.sub sb, hw⟩
  refine go ?_
  refine CP.ci ho (fun ho => ?_) fun ho => ?_
  ·refine go ?_
   exact QE.meet fun a w2 ha hw => ⟨(decide (op_0 = 13)), ho, ha.sub sb, hw⟩
  refine go ?_
  refine CP.ci ho (fun ho => ?_) fun ho => ?_
  ·refine go ?_
   exact QE.meet fun a w2 ha hw => ⟨(decide (op_0 = 14)), ho, ha.sub sb, hw⟩
  refine go ?_
  exact QE.meet fun a w2 ha hw => ⟨(decide (op_0 = 15)), ho, ha.sub sb, hw⟩
 refine go ?_
 refine CP.ci ho (fun ho => ?_) fun ho => ?_
 ·refine go ?_
  exact QE.meet fun a w2 ha hw => ⟨(decide (op_0 = 0)), ho, ha.sub sb, hw⟩
 refine go ?_
 refine CP.ci ho (fun ho => ?_) fun ho => ?_
 ·refine go ?_
  exact QE.meet fun a w2 ha hw => ⟨(decide (op_0 = 26)), ho, ha.sub sb, hw⟩
 refine go ?_
 refine CP.ci ho (fun ho => ?_) fun ho => ?_
 ·refine go ?_
  exact QE.meet fun a w2 ha hw => ⟨(decide (op_0 = 28)), ho, ha.sub sb, hw⟩
 refine go ?_
 refine CP.ci ho (fun ho => ?_) fun ho => ?_
 ·refine go ?_
  exact QE.meet fun a w2 ha hw => ⟨(decide (op_0 = 29)), ho, ha.sub sb, hw⟩
 refine go ?_
 exact QE.meet fun a w2 ha hw => ⟨(decide (op_0 = 32)), ho, ha.sub sb, hw⟩
def capstanref04_letter.f (c_0 : Int) : Option Int :=
  if c_0 = 110 then (some 1) else (if c_0 = 112 then (some 2) else (if c_0 = 114 then (some 3) else (some 0)))
theorem capstanref04_letter.ok (c_0 r : Int) (H : capstanref04_letter.f c_0 = some r) (w : World) (hV : Hp) (sV : Sub hV (hp w))  :
    Trip Tryz.prog 143 [.int .u8 c_0].toArray em hV w (fun v => HO.pure (v = .int .u8 r)) := by
 refine Trip.go 10 Tryz.func143 sV (All.nil _) fun see => ?_
 have ho := H
 refine go ?_
 refine CP.seq ?_
 refine go ?_
 refine CP.ci ho (fun ho => ?_) fun ho => ?_
 ·refine go ?_
  obtain rfl := Option.some.inj ho
  exact QE.rt (fun _ h => h)
 refine go ?_
 refine CP.ci ho (fun ho => ?_) fun ho => ?_
 ·refine go ?_
  obtain rfl := Option.some.inj ho
  exact QE.rt (fun _ h => h)
 refine go ?_
 refine CP.ci ho (fun ho => ?_) fun ho => ?_
 ·refine go ?_
  obtain rfl := Option.some.inj ho
  exact QE.rt (fun _ h => h)
 refine go ?_
 obtain rfl := Option.some.inj ho
 exact QE.rt (fun _ h => h)
inductive capstanref04_kinds.S where
  | start
  | l1 (l11 : List Int) (x13 : Int)
def capstanref04_kinds.F (s_0 : ByteArray) : capstanref04_kinds.S → Option (capstanref04_kinds.S ⊕ (List Int))
  | .start => some (.inl (.l1 [] 0))
  | .l1 l11 x13 => if x13 < (s_0.size : Int) then ((strAt s_0 x13).bind fun x15 => (capstanref04_letter.f x15).bind fun t16 => if (l11.length + [t16].length) * 1 ≤ 140737488355328 then (some (.inl (.l1 (l11 ++ [t16]) (IntKind.i64.wrap (x13 + 1))))) else none) else (some (.inr l11))
def capstanref04_kinds.f (s_0 : ByteArray) : Option (List Int) := runF (capstanref04_kinds.F s_0) .start
theorem capstanref04_kinds.ok (s_0 : ByteArray)  (r : (List Int)) (H : capstanref04_kinds.f s_0 = some r) (w : World) (hV : Hp) (sV : Sub hV (hp w))  :
    Trip Tryz.prog 122 [.string s_0].toArray em hV w (fun v => HO.ex fun u0 : Value => HO.pand (v = u0) (HO.seps [slO (kInt .u8) 5 u0 r])) := by
 refine Trip.go 19 Tryz.func122 sV (All.nil _) fun see => ?_
 obtain ⟨n0, hi⟩ := runF_iff.1 H
 obtain ⟨m0, o, hm0, ho, hr⟩ := iter_some hi
 clear hi
 refine go ?_
 refine CP.seq ?_
 refine go ?_
 obtain rfl := Option.some.inj ho
 refine CP.loop (fun cl1 a w2 => ∃ l11 : List Int, ∃ x13 : Int, ∃ v12 : Value, cl1 ≤ m0 ∧ iter (capstanref04_kinds.F s_0) cl1 (.l1 l11 x13) = some r ∧ Env ⟨19, []⟩ [(0, .string s_0), (3, v12), (4, .int .i64 x13)] a ∧ St w em hV [] [slO (kInt .u8) 5 v12 l11] w2) m0 (fun a w2 ha hw => ⟨[], 0, (.slice none 0 0), Nat.le_refl _, hr, ha.sub sb, (St.addO (slO.nil (kInt .u8) 5) hw)⟩) ?_
 clear hr
 rintro cl1 a w2 ⟨l11, x13, v12, hc_l1, hi, ha, hw⟩
 obtain ⟨m14, o, hm_m14, ho, hr⟩ := iter_some hi
 refine CP.app ha hw ?_
 clear ha hw a w2 hi
 refine CP.seq ?_
 refine go ?_
 refine SP.val (Val.lenS Tryz.underlying9 rfl) rfl rfl rfl ?_
 refine go ?_
 refine CP.ci ho (fun ho => ?_) fun ho => ?_
 ·refine go ?_
  refine CP.seq ?_
  refine go ?_
  obtain ⟨x15, hx, ho⟩ := bind_some ho
  refine SP.val (Val.indexS Tryz.underlying9 hx rfl rfl) rfl rfl rfl ?_
  clear hx
  obtain ⟨t16, hc, ho⟩ := bind_some ho
  refine SP.callV see (caps := []) (.int .u8 t16) fn143 rfl rfl rfl rfl (fun w2 hP hs sub ap => capstanref04_letter.ok _  _ hc w2 hP sub ) ?_
  clear hc
  refine SP.lit (k := (kInt .u8)) (xs := [t16]) (vs := [.int .u8 t16]) (cells := [.int .u8 t16]) Tryz.underlying38 inf5 rfl rfl rfl rfl rfl rfl rfl rfl (fun _ ap => ⟨[.int .u8 t16], _, rfl, rfl, rfl⟩) rfl rfl rfl (fun v17 => ?_)
  refine SP.freezeS see 0 rfl ?_
  obtain ⟨hb, ho⟩ := must_some ho
  refine SP.append see 0 rfl 0 rfl Tryz.underlying38 inf5 rfl rfl hb rfl rfl rfl rfl rfl (fun v19 => ?_)
  clear hb
  refine go ?_
  obtain rfl := Option.some.inj ho
  exact QE.lower m14 (by omega) fun a w2 ha hw => ⟨(l11 ++ [t16]), (IntKind.i64.wrap (x13 + 1)), v19, (by omega), hr, ha.sub sb, (St.selP [] rfl hw)⟩
 refine go ?_
 obtain rfl := fin ho hr
 exact QE.rt (fun _ h => St.selO [0] rfl rfl h)
def capstanref04_Of.f (op_0 : Int) : Option ((List Int) × (List Int) × Bool) :=
  (capstanref04_shape.f op_0).bind fun t1 => if (t1.1.toList == (⟨#[63]⟩ : ByteArray).toList) = true then (some ([], [], false)) else ((capstanref04_kinds.f t1.1).bind fun t4 => (capstanref04_kinds.f t1.2).bind fun t7 => some (t4, t7, true))
theorem capstanref04_Of.ok (op_0 : Int)  (r : (List Int) × (List Int) × Bool) (H : capstanref04_Of.f op_0 = some r) (w : World) (hV : Hp) (sV : Sub hV (hp w))  :
    Trip Tryz.prog 90 [.int .u8 op_0].toArray em hV w (fun v => HO.ex fun u0 : Value => HO.ex fun u1 : Value => HO.pand (v = .tuple #[u0, u1, .bool r.2.2]) (HO.seps [slO (kInt .u8) 5 u0 r.1, slO (kInt .u8) 5 u1 r.2.1])) := by
 refine Trip.go 18 Tryz.func90 sV (All.nil _) fun see => ?_
 have ho := H
 refine go ?_
 obtain ⟨t1, hc, ho⟩ := bind_some ho
 refine SP.callV see (caps := []) (.tuple #[.string t1.1, .string t1.2]) fn121 rfl rfl rfl rfl (fun w2 hP hs sub ap => capstanref04_shape.ok _  _ hc w2 hP sub ) ?_
 clear hc
 refine go ?_
 refine CP.seq ?_
 refine go ?_
 refine SP.val (Val.eqlS rfl rfl) rfl rfl rfl ?_
 refine go ?_
 refine CP.cb ho (fun ho => ?_) fun ho => ?_
 ·refine go ?_
  obtain rfl := Option.some.inj ho
  exact QE.rt (fun _ h => St.selO [1, 0] rfl rfl (St.addO (slO.nil (kInt .u8) 5) (St.addO (slO.nil (kInt .u8) 5) h)))
 refine go ?_
 obtain ⟨t4, hc, ho⟩ := bind_some ho
 refine SP.callK see (caps := []) _ fn122 rfl rfl rfl rfl (fun w2 hP hs sub ap => capstanref04_kinds.ok _  _ hc w2 hP sub ) (SP.k1 fun v5 => ?_)
 clear hc
 refine go ?_
 obtain ⟨t7, hc, ho⟩ := bind_some ho
 refine SP.callK see (caps := []) _ fn122 rfl rfl rfl rfl (fun w2 hP hs sub ap => capstanref04_kinds.ok _  _ hc w2 hP sub ) (SP.k1 fun v8 => ?_)
 clear hc
 refine go ?_
 obtain rfl := Option.some.inj ho
 exact QE.rt (fun _ h => St.selO [1, 0] rfl rfl h)
end Go.Proofs.YtmhkokkphgchlaaGreatDoor
end
