/- Functions of the program as plain functions, with the proof that the code computes them: printed by gen.py of this session. -/
import Derived.Test.YtmhkokkphgchlaaGreatDoorProg
import Derived.Test.YtmhkokkphgchlaaGreatDoorQ33xCostJust
import Derived.Test.YtmhkokkphgchlaaGreatDoorQ40xCostJust
import Derived.Ground.GgzProg
import Derived.Ground.Names8Prog
import Derived.Ground.NamesProg
import Derived.Ground.SlgcProg
import Derived.Ground.SlgmProg
import Derived.Ground.SlgnProg
import Derived.Ground.SlsfProg
import Derived.Shelf.Bits.Mul64
import Derived.Shelf.Lay
import Derived.Shelf.SlGeneric
import Derived.Shelf.SlIterI.Nil
import Derived.Shelf.SlSortCmp.WholeK
import Derived.Shelf.SlicesE.Reverse
import Derived.Shelf.SlicesG.Cmp
import Derived.Shelf.SlicesG.CompactI
import Derived.Shelf.Small.Bits
import Derived.Shelf.SortM.Plain
import Derived.Shelf.SortM.SortNone
import Derived.Shelf.Spec.SlicesGrow
set_option linter.unusedVariables false
set_option linter.unusedSimpArgs false
set_option maxRecDepth 20000
set_option maxHeartbeats 2000000
set_option linter.defProp false
set_option warn.classDefReducibility false
noncomputable section
namespace Go.Proofs.YtmhkokkphgchlaaGreatDoor
open Go.Q
structure api_Value where
  Kind : Int
  A : Int
  B : Int
def api_Value.zero : api_Value := ⟨0, 0, 0⟩
def k_api_Value : Kd api_Value := ⟨3, fun h cs x => cs = [.int .u8 x.Kind, .int .i64 x.A, .int .i64 x.B], fun _ _ _ _ _ h => h, fun _ _ _ h => by simp [h], fun _ _ _ h => by subst h; rfl⟩
theorem k_api_Value.part_Kind : Part k_api_Value 0 (kInt .u8) (fun x => x.Kind) := fun h cs x e => ⟨[.int .u8 x.Kind], rfl, by subst e; exact seg_get [.int .u8 x.Kind, .int .i64 x.A, .int .i64 x.B] 0 1⟩
theorem k_api_Value.part_A : Part k_api_Value 1 (kInt .i64) (fun x => x.A) := fun h cs x e => ⟨[.int .i64 x.A], rfl, by subst e; exact seg_get [.int .u8 x.Kind, .int .i64 x.A, .int .i64 x.B] 1 1⟩
theorem k_api_Value.load {P : Program} {n : Fr} {ρ : Option Nat} {σ : List (Nat × Value)} {w0 : World} {hA hV : Hp} {ps : List HP} {os : List HO} {L l : List Oper} {Q : Cont} {d : Nat} {t tr : TypeId} {x : Operand} {pos : String} {af : Array Edge} {g : Option (Nat × Bool)} {v : Value} (see : Sees w0 hA hV) (i : Nat) {x0 : api_Value} (hi : ps[i]? = some (elP k_api_Value v x0)) {dsc : TypeDesc} (hu : P.underlying t = some dsc) (hd : (match dsc with | .struct _ | .array _ _ => true | _ => false) = true) (hs : (P.info? t).map (·.size) = some 3) (hg : gd L σ g = some true) (hn : Nat.blt d n.n = true) (hx : ev σ x = some v)
    (h : SP P n ρ ((d, .agg [.int .u8 x0.Kind, .int .i64 x0.A, .int .i64 x0.B].toArray) :: σ) (St w0 hA hV (ps) os) L l Q) : SP P n ρ σ (St w0 hA hV ps os) L (⟨some d, .load t x, tr, pos, af, g⟩ :: l) Q :=
  SP.loadP see i hi hu hd hs hg hn hx fun cs a w ha hw => by
    obtain ⟨m, fr, hN, hO, n1, n2, dj, s1, s2, ap, s⟩ := hw
    obtain rfl := ap.get 0 rfl
    exact h a w ha ⟨m, fr, hN, hO, n1, n2, dj, s1, s2, (fun y hy => ap y (List.mem_cons_of_mem _ hy)), s⟩
structure api_Instr where
  Op : Int
  A : Int
  B : Int
def api_Instr.zero : api_Instr := ⟨0, 0, 0⟩
def k_api_Instr : Kd api_Instr := ⟨3, fun h cs x => cs = [.int .u8 x.Op, .int .i64 x.A, .int .i64 x.B], fun _ _ _ _ _ h => h, fun _ _ _ h => by simp [h], fun _ _ _ h => by subst h; rfl⟩
theorem k_api_Instr.part_A : Part k_api_Instr 1 (kInt .i64) (fun x => x.A) := fun h cs x e => ⟨[.int .i64 x.A], rfl, by subst e; exact seg_get [.int .u8 x.Op, .int .i64 x.A, .int .i64 x.B] 1 1⟩
theorem k_api_Instr.load {P : Program} {n : Fr} {ρ : Option Nat} {σ : List (Nat × Value)} {w0 : World} {hA hV : Hp} {ps : List HP} {os : List HO} {L l : List Oper} {Q : Cont} {d : Nat} {t tr : TypeId} {x : Operand} {pos : String} {af : Array Edge} {g : Option (Nat × Bool)} {v : Value} (see : Sees w0 hA hV) (i : Nat) {x0 : api_Instr} (hi : ps[i]? = some (elP k_api_Instr v x0)) {dsc : TypeDesc} (hu : P.underlying t = some dsc) (hd : (match dsc with | .struct _ | .array _ _ => true | _ => false) = true) (hs : (P.info? t).map (·.size) = some 3) (hg : gd L σ g = some true) (hn : Nat.blt d n.n = true) (hx : ev σ x = some v)
    (h : SP P n ρ ((d, .agg [.int .u8 x0.Op, .int .i64 x0.A, .int .i64 x0.B].toArray) :: σ) (St w0 hA hV (ps) os) L l Q) : SP P n ρ σ (St w0 hA hV ps os) L (⟨some d, .load t x, tr, pos, af, g⟩ :: l) Q :=
  SP.loadP see i hi hu hd hs hg hn hx fun cs a w ha hw => by
    obtain ⟨m, fr, hN, hO, n1, n2, dj, s1, s2, ap, s⟩ := hw
    obtain rfl := ap.get 0 rfl
    exact h a w ha ⟨m, fr, hN, hO, n1, n2, dj, s1, s2, (fun y hy => ap y (List.mem_cons_of_mem _ hy)), s⟩
structure api_Method where
  Args : (List Int)
  Locals : (List Int)
  Result : Int
  Reads : Bool
  Fuel : Int
  Stack : Int
  Heap : Int
  Code : (List api_Instr)
def api_Method.zero : api_Method := ⟨[], [], 0, false, 0, 0, 0, []⟩
def k_api_Method : Kd api_Method := ⟨8, fun h cs x => ∃ v0 v1 v2 : Value, cs = [v0, v1, .int .u8 x.Result, .bool x.Reads, .int .i64 x.Fuel, .int .i64 x.Stack, .int .i64 x.Heap, v2] ∧ slR (kInt .u8) h v0 x.Args ∧ slR (kInt .u8) h v1 x.Locals ∧ slR k_api_Instr h v2 x.Code,
  fun _ _ _ _ s ⟨v0, v1, v2, e, p0, p1, p2⟩ => ⟨v0, v1, v2, e, slR.mono s p0, slR.mono s p1, slR.mono s p2⟩, fun _ _ _ ⟨v0, v1, v2, e, p0, p1, p2⟩ => by simp [e],
  fun _ _ _ ⟨v0, v1, v2, e, p0, p1, p2⟩ => by subst e; obtain ⟨_, _, rfl, -⟩ := p0; obtain ⟨_, _, rfl, -⟩ := p1; obtain ⟨_, _, rfl, -⟩ := p2; rfl⟩
theorem k_api_Method.part_Args : Part k_api_Method 0 (kSl (kInt .u8)) (fun x => x.Args) := fun h cs x ⟨v0, v1, v2, e, p0, p1, p2⟩ => ⟨[v0], ⟨v0, rfl, p0⟩, by subst e; exact seg_get [v0, v1, .int .u8 x.Result, .bool x.Reads, .int .i64 x.Fuel, .int .i64 x.Stack, .int .i64 x.Heap, v2] 0 1⟩
theorem k_api_Method.part_Result : Part k_api_Method 2 (kInt .u8) (fun x => x.Result) := fun h cs x ⟨v0, v1, v2, e, p0, p1, p2⟩ => ⟨[.int .u8 x.Result], rfl, by subst e; exact seg_get [v0, v1, .int .u8 x.Result, .bool x.Reads, .int .i64 x.Fuel, .int .i64 x.Stack, .int .i64 x.Heap, v2] 2 1⟩
theorem k_api_Method.part_Fuel : Part k_api_Method 4 (kInt .i64) (fun x => x.Fuel) := fun h cs x ⟨v0, v1, v2, e, p0, p1, p2⟩ => ⟨[.int .i64 x.Fuel], rfl, by subst e; exact seg_get [v0, v1, .int .u8 x.Result, .bool x.Reads, .int .i64 x.Fuel, .int .i64 x.Stack, .int .i64 x.Heap, v2] 4 1⟩
theorem k_api_Method.part_Stack : Part k_api_Method 5 (kInt .i64) (fun x => x.Stack) := fun h cs x ⟨v0, v1, v2, e, p0, p1, p2⟩ => ⟨[.int .i64 x.Stack], rfl, by subst e; exact seg_get [v0, v1, .int .u8 x.Result, .bool x.Reads, .int .i64 x.Fuel, .int .i64 x.Stack, .int .i64 x.Heap, v2] 5 1⟩
theorem k_api_Method.part_Heap : Part k_api_Method 6 (kInt .i64) (fun x => x.Heap) := fun h cs x ⟨v0, v1, v2, e, p0, p1, p2⟩ => ⟨[.int .i64 x.Heap], rfl, by subst e; exact seg_get [v0, v1, .int .u8 x.Result, .bool x.Reads, .int .i64 x.Fuel, .int .i64 x.Stack, .int .i64 x.Heap, v2] 6 1⟩
theorem k_api_Method.part_Code : Part k_api_Method 7 (kSl k_api_Instr) (fun x => x.Code) := fun h cs x ⟨v0, v1, v2, e, p0, p1, p2⟩ => ⟨[v2], ⟨v2, rfl, p2⟩, by subst e; exact seg_get [v0, v1, .int .u8 x.Result, .bool x.Reads, .int .i64 x.Fuel, .int .i64 x.Stack, .int .i64 x.Heap, v2] 7 1⟩
theorem k_api_Method.load {P : Program} {n : Fr} {ρ : Option Nat} {σ : List (Nat × Value)} {w0 : World} {hA hV : Hp} {ps : List HP} {os : List HO} {L l : List Oper} {Q : Cont} {d : Nat} {t tr : TypeId} {x : Operand} {pos : String} {af : Array Edge} {g : Option (Nat × Bool)} {v : Value} (see : Sees w0 hA hV) (i : Nat) {x0 : api_Method} (hi : ps[i]? = some (elP k_api_Method v x0)) {dsc : TypeDesc} (hu : P.underlying t = some dsc) (hd : (match dsc with | .struct _ | .array _ _ => true | _ => false) = true) (hs : (P.info? t).map (·.size) = some 8) (hg : gd L σ g = some true) (hn : Nat.blt d n.n = true) (hx : ev σ x = some v)
    (h : ∀ v0 v1 v2, SP P n ρ ((d, .agg [v0, v1, .int .u8 x0.Result, .bool x0.Reads, .int .i64 x0.Fuel, .int .i64 x0.Stack, .int .i64 x0.Heap, v2].toArray) :: σ) (St w0 hA hV (slP (kInt .u8) v0 x0.Args :: slP (kInt .u8) v1 x0.Locals :: slP k_api_Instr v2 x0.Code :: ps) os) L l Q) : SP P n ρ σ (St w0 hA hV ps os) L (⟨some d, .load t x, tr, pos, af, g⟩ :: l) Q :=
  SP.loadP see i hi hu hd hs hg hn hx fun cs a w ha hw => by
    obtain ⟨m, fr, hN, hO, n1, n2, dj, s1, s2, ap, s⟩ := hw
    obtain ⟨v0, v1, v2, e, p0, p1, p2⟩ := ap.get 0 rfl
    subst e
    exact h v0 v1 v2 a w ha ⟨m, fr, hN, hO, n1, n2, dj, s1, s2, All.cons p0 (All.cons p1 (All.cons p2 ((fun y hy => ap y (List.mem_cons_of_mem _ hy))))), s⟩
structure api_Module where
  Globals : (List api_Value)
  Pool : (List api_Value)
  Methods : (List api_Method)
  Migrate : Int
def api_Module.zero : api_Module := ⟨[], [], [], 0⟩
def k_api_Module : Kd api_Module := ⟨4, fun h cs x => ∃ v0 v1 v2 : Value, cs = [v0, v1, v2, .int .i64 x.Migrate] ∧ slR k_api_Value h v0 x.Globals ∧ slR k_api_Value h v1 x.Pool ∧ slR k_api_Method h v2 x.Methods,
  fun _ _ _ _ s ⟨v0, v1, v2, e, p0, p1, p2⟩ => ⟨v0, v1, v2, e, slR.mono s p0, slR.mono s p1, slR.mono s p2⟩, fun _ _ _ ⟨v0, v1, v2, e, p0, p1, p2⟩ => by simp [e],
  fun _ _ _ ⟨v0, v1, v2, e, p0, p1, p2⟩ => by subst e; obtain ⟨_, _, rfl, -⟩ := p0; obtain ⟨_, _, rfl, -⟩ := p1; obtain ⟨_, _, rfl, -⟩ := p2; rfl⟩
def o_api_Module : Ko api_Module := ⟨k_api_Module, fun cs x => HO.ex fun v0 : Value => HO.ex fun v1 : Value => HO.ex fun v2 : Value => HO.pand (cs = [v0, v1, v2, .int .i64 x.Migrate]) (HO.seps [slO k_api_Value 62 v0 x.Globals, slO k_api_Value 62 v1 x.Pool, slO k_api_Method 41 v2 x.Methods]), fun ⟨v0, v1, v2, e, q⟩ sa sh => ⟨v0, v1, v2, e, slO.read (Sep.get 0 rfl q) sa sh, slO.read (Sep.get 1 rfl q) sa sh, slO.read (Sep.get 2 rfl q) sa sh⟩⟩
@[reducible] def api_Module.set_Methods (x : api_Module) (l : (List api_Method)) : api_Module := { x with Methods := l }
theorem o_api_Module.leaf2 : Leaf o_api_Module 2 k_api_Method 41 (fun x => x.Methods) api_Module.set_Methods := fun a h c x ⟨v0, v1, v2, e, q⟩ => by
  subst e
  obtain ⟨h1, h2, dj, s1, s2, p, rest⟩ := Sep.take 2 _ rfl q
  exact ⟨v2, h1, h2, rfl, dj, s1, s2, p, fun a' h' l' sa dj' r => ⟨v0, v1, v2, rfl, Sep.back 2 [slO k_api_Value 62 v0 x.Globals, slO k_api_Value 62 v1 x.Pool, slO k_api_Method 41 v2 x.Methods] (x := slO k_api_Method 41 v2 l') (Nat.le_of_ble_eq_true rfl) dj' r (Sep.mono _ sa (Sub.refl _) rest)⟩⟩
theorem k_api_Module.load {P : Program} {n : Fr} {ρ : Option Nat} {σ : List (Nat × Value)} {w0 : World} {hA hV : Hp} {ps : List HP} {os : List HO} {L l : List Oper} {Q : Cont} {d : Nat} {t tr : TypeId} {x : Operand} {pos : String} {af : Array Edge} {g : Option (Nat × Bool)} {v : Value} (see : Sees w0 hA hV) (i : Nat) {x0 : api_Module} (hi : ps[i]? = some (elP k_api_Module v x0)) {dsc : TypeDesc} (hu : P.underlying t = some dsc) (hd : (match dsc with | .struct _ | .array _ _ => true | _ => false) = true) (hs : (P.info? t).map (·.size) = some 4) (hg : gd L σ g = some true) (hn : Nat.blt d n.n = true) (hx : ev σ x = some v)
    (h : ∀ v0 v1 v2, SP P n ρ ((d, .agg [v0, v1, v2, .int .i64 x0.Migrate].toArray) :: σ) (St w0 hA hV (slP k_api_Value v0 x0.Globals :: slP k_api_Value v1 x0.Pool :: slP k_api_Method v2 x0.Methods :: ps) os) L l Q) : SP P n ρ σ (St w0 hA hV ps os) L (⟨some d, .load t x, tr, pos, af, g⟩ :: l) Q :=
  SP.loadP see i hi hu hd hs hg hn hx fun cs a w ha hw => by
    obtain ⟨m, fr, hN, hO, n1, n2, dj, s1, s2, ap, s⟩ := hw
    obtain ⟨v0, v1, v2, e, p0, p1, p2⟩ := ap.get 0 rfl
    subst e
    exact h v0 v1 v2 a w ha ⟨m, fr, hN, hO, n1, n2, dj, s1, s2, All.cons p0 (All.cons p1 (All.cons p2 ((fun y hy => ap y (List.mem_cons_of_mem _ hy))))), s⟩
structure api_Cert where
  Fuel : Int
  Stack : Int
  Heap : Int
def api_Cert.zero : api_Cert := ⟨0, 0, 0⟩
def k_api_Cert : Kd api_Cert := ⟨3, fun h cs x => cs = [.int .i64 x.Fuel, .int .i64 x.Stack, .int .i64 x.Heap], fun _ _ _ _ _ h => h, fun _ _ _ h => by simp [h], fun _ _ _ h => by subst h; rfl⟩
theorem k_api_Cert.part_Fuel : Part k_api_Cert 0 (kInt .i64) (fun x => x.Fuel) := fun h cs x e => ⟨[.int .i64 x.Fuel], rfl, by subst e; exact seg_get [.int .i64 x.Fuel, .int .i64 x.Stack, .int .i64 x.Heap] 0 1⟩
theorem k_api_Cert.part_Stack : Part k_api_Cert 1 (kInt .i64) (fun x => x.Stack) := fun h cs x e => ⟨[.int .i64 x.Stack], rfl, by subst e; exact seg_get [.int .i64 x.Fuel, .int .i64 x.Stack, .int .i64 x.Heap] 1 1⟩
theorem k_api_Cert.part_Heap : Part k_api_Cert 2 (kInt .i64) (fun x => x.Heap) := fun h cs x e => ⟨[.int .i64 x.Heap], rfl, by subst e; exact seg_get [.int .i64 x.Fuel, .int .i64 x.Stack, .int .i64 x.Heap] 2 1⟩
theorem k_api_Cert.load {P : Program} {n : Fr} {ρ : Option Nat} {σ : List (Nat × Value)} {w0 : World} {hA hV : Hp} {ps : List HP} {os : List HO} {L l : List Oper} {Q : Cont} {d : Nat} {t tr : TypeId} {x : Operand} {pos : String} {af : Array Edge} {g : Option (Nat × Bool)} {v : Value} (see : Sees w0 hA hV) (i : Nat) {x0 : api_Cert} (hi : ps[i]? = some (elP k_api_Cert v x0)) {dsc : TypeDesc} (hu : P.underlying t = some dsc) (hd : (match dsc with | .struct _ | .array _ _ => true | _ => false) = true) (hs : (P.info? t).map (·.size) = some 3) (hg : gd L σ g = some true) (hn : Nat.blt d n.n = true) (hx : ev σ x = some v)
    (h : SP P n ρ ((d, .agg [.int .i64 x0.Fuel, .int .i64 x0.Stack, .int .i64 x0.Heap].toArray) :: σ) (St w0 hA hV (ps) os) L l Q) : SP P n ρ σ (St w0 hA hV ps os) L (⟨some d, .load t x, tr, pos, af, g⟩ :: l) Q :=
  SP.loadP see i hi hu hd hs hg hn hx fun cs a w ha hw => by
    obtain ⟨m, fr, hN, hO, n1, n2, dj, s1, s2, ap, s⟩ := hw
    obtain rfl := ap.get 0 rfl
    exact h a w ha ⟨m, fr, hN, hO, n1, n2, dj, s1, s2, (fun y hy => ap y (List.mem_cons_of_mem _ hy)), s⟩
structure types_Row where
  Reached : Bool
  Kinds : (List Int)
def types_Row.zero : types_Row := ⟨false, []⟩
def k_types_Row : Kd types_Row := ⟨2, fun h cs x => ∃ v0 : Value, cs = [.bool x.Reached, v0] ∧ slR (kInt .u8) h v0 x.Kinds,
  fun _ _ _ _ s ⟨v0, e, p0⟩ => ⟨v0, e, slR.mono s p0⟩, fun _ _ _ ⟨v0, e, p0⟩ => by simp [e],
  fun _ _ _ ⟨v0, e, p0⟩ => by subst e; obtain ⟨_, _, rfl, -⟩ := p0; rfl⟩
theorem k_types_Row.part_Kinds : Part k_types_Row 1 (kSl (kInt .u8)) (fun x => x.Kinds) := fun h cs x ⟨v0, e, p0⟩ => ⟨[v0], ⟨v0, rfl, p0⟩, by subst e; exact seg_get [.bool x.Reached, v0] 1 1⟩
theorem k_types_Row.load {P : Program} {n : Fr} {ρ : Option Nat} {σ : List (Nat × Value)} {w0 : World} {hA hV : Hp} {ps : List HP} {os : List HO} {L l : List Oper} {Q : Cont} {d : Nat} {t tr : TypeId} {x : Operand} {pos : String} {af : Array Edge} {g : Option (Nat × Bool)} {v : Value} (see : Sees w0 hA hV) (i : Nat) {x0 : types_Row} (hi : ps[i]? = some (elP k_types_Row v x0)) {dsc : TypeDesc} (hu : P.underlying t = some dsc) (hd : (match dsc with | .struct _ | .array _ _ => true | _ => false) = true) (hs : (P.info? t).map (·.size) = some 2) (hg : gd L σ g = some true) (hn : Nat.blt d n.n = true) (hx : ev σ x = some v)
    (h : ∀ v0, SP P n ρ ((d, .agg [.bool x0.Reached, v0].toArray) :: σ) (St w0 hA hV (slP (kInt .u8) v0 x0.Kinds :: ps) os) L l Q) : SP P n ρ σ (St w0 hA hV ps os) L (⟨some d, .load t x, tr, pos, af, g⟩ :: l) Q :=
  SP.loadP see i hi hu hd hs hg hn hx fun cs a w ha hw => by
    obtain ⟨m, fr, hN, hO, n1, n2, dj, s1, s2, ap, s⟩ := hw
    obtain ⟨v0, e, p0⟩ := ap.get 0 rfl
    subst e
    exact h v0 a w ha ⟨m, fr, hN, hO, n1, n2, dj, s1, s2, All.cons p0 ((fun y hy => ap y (List.mem_cons_of_mem _ hy))), s⟩
structure flow_Loop where
  From : Int
  To : Int
  Turns : Int
def flow_Loop.zero : flow_Loop := ⟨0, 0, 0⟩
def k_flow_Loop : Kd flow_Loop := ⟨3, fun h cs x => cs = [.int .i64 x.From, .int .i64 x.To, .int .i64 x.Turns], fun _ _ _ _ _ h => h, fun _ _ _ h => by simp [h], fun _ _ _ h => by subst h; rfl⟩
theorem k_flow_Loop.load {P : Program} {n : Fr} {ρ : Option Nat} {σ : List (Nat × Value)} {w0 : World} {hA hV : Hp} {ps : List HP} {os : List HO} {L l : List Oper} {Q : Cont} {d : Nat} {t tr : TypeId} {x : Operand} {pos : String} {af : Array Edge} {g : Option (Nat × Bool)} {v : Value} (see : Sees w0 hA hV) (i : Nat) {x0 : flow_Loop} (hi : ps[i]? = some (elP k_flow_Loop v x0)) {dsc : TypeDesc} (hu : P.underlying t = some dsc) (hd : (match dsc with | .struct _ | .array _ _ => true | _ => false) = true) (hs : (P.info? t).map (·.size) = some 3) (hg : gd L σ g = some true) (hn : Nat.blt d n.n = true) (hx : ev σ x = some v)
    (h : SP P n ρ ((d, .agg [.int .i64 x0.From, .int .i64 x0.To, .int .i64 x0.Turns].toArray) :: σ) (St w0 hA hV (ps) os) L l Q) : SP P n ρ σ (St w0 hA hV ps os) L (⟨some d, .load t x, tr, pos, af, g⟩ :: l) Q :=
  SP.loadP see i hi hu hd hs hg hn hx fun cs a w ha hw => by
    obtain ⟨m, fr, hN, hO, n1, n2, dj, s1, s2, ap, s⟩ := hw
    obtain rfl := ap.get 0 rfl
    exact h a w ha ⟨m, fr, hN, hO, n1, n2, dj, s1, s2, (fun y hy => ap y (List.mem_cons_of_mem _ hy)), s⟩
structure arr221 where
  e0 : Int
  e1 : Int
def arr221.zero : arr221 := ⟨0, 0⟩
def k_arr221 : Kd arr221 := ⟨2, fun h cs x => cs = [.int .i64 x.e0, .int .i64 x.e1], fun _ _ _ _ _ h => h, fun _ _ _ h => by simp [h], fun _ _ _ h => by subst h; rfl⟩
theorem k_arr221.load {P : Program} {n : Fr} {ρ : Option Nat} {σ : List (Nat × Value)} {w0 : World} {hA hV : Hp} {ps : List HP} {os : List HO} {L l : List Oper} {Q : Cont} {d : Nat} {t tr : TypeId} {x : Operand} {pos : String} {af : Array Edge} {g : Option (Nat × Bool)} {v : Value} (see : Sees w0 hA hV) (i : Nat) {x0 : arr221} (hi : ps[i]? = some (elP k_arr221 v x0)) {dsc : TypeDesc} (hu : P.underlying t = some dsc) (hd : (match dsc with | .struct _ | .array _ _ => true | _ => false) = true) (hs : (P.info? t).map (·.size) = some 2) (hg : gd L σ g = some true) (hn : Nat.blt d n.n = true) (hx : ev σ x = some v)
    (h : SP P n ρ ((d, .agg [.int .i64 x0.e0, .int .i64 x0.e1].toArray) :: σ) (St w0 hA hV (ps) os) L l Q) : SP P n ρ σ (St w0 hA hV ps os) L (⟨some d, .load t x, tr, pos, af, g⟩ :: l) Q :=
  SP.loadP see i hi hu hd hs hg hn hx fun cs a w ha hw => by
    obtain ⟨m, fr, hN, hO, n1, n2, dj, s1, s2, ap, s⟩ := hw
    obtain rfl := ap.get 0 rfl
    exact h a w ha ⟨m, fr, hN, hO, n1, n2, dj, s1, s2, (fun y hy => ap y (List.mem_cons_of_mem _ hy)), s⟩
structure op_Shape where
  Takes : (List Int)
  Gives : (List Int)
def op_Shape.zero : op_Shape := ⟨[], []⟩
def k_op_Shape : Kd op_Shape := ⟨2, fun h cs x => ∃ v0 v1 : Value, cs = [v0, v1] ∧ slR (kInt .u8) h v0 x.Takes ∧ slR (kInt .u8) h v1 x.Gives,
  fun _ _ _ _ s ⟨v0, v1, e, p0, p1⟩ => ⟨v0, v1, e, slR.mono s p0, slR.mono s p1⟩, fun _ _ _ ⟨v0, v1, e, p0, p1⟩ => by simp [e],
  fun _ _ _ ⟨v0, v1, e, p0, p1⟩ => by subst e; obtain ⟨_, _, rfl, -⟩ := p0; obtain ⟨_, _, rfl, -⟩ := p1; rfl⟩
theorem k_op_Shape.load {P : Program} {n : Fr} {ρ : Option Nat} {σ : List (Nat × Value)} {w0 : World} {hA hV : Hp} {ps : List HP} {os : List HO} {L l : List Oper} {Q : Cont} {d : Nat} {t tr : TypeId} {x : Operand} {pos : String} {af : Array Edge} {g : Option (Nat × Bool)} {v : Value} (see : Sees w0 hA hV) (i : Nat) {x0 : op_Shape} (hi : ps[i]? = some (elP k_op_Shape v x0)) {dsc : TypeDesc} (hu : P.underlying t = some dsc) (hd : (match dsc with | .struct _ | .array _ _ => true | _ => false) = true) (hs : (P.info? t).map (·.size) = some 2) (hg : gd L σ g = some true) (hn : Nat.blt d n.n = true) (hx : ev σ x = some v)
    (h : ∀ v0 v1, SP P n ρ ((d, .agg [v0, v1].toArray) :: σ) (St w0 hA hV (slP (kInt .u8) v0 x0.Takes :: slP (kInt .u8) v1 x0.Gives :: ps) os) L l Q) : SP P n ρ σ (St w0 hA hV ps os) L (⟨some d, .load t x, tr, pos, af, g⟩ :: l) Q :=
  SP.loadP see i hi hu hd hs hg hn hx fun cs a w ha hw => by
    obtain ⟨m, fr, hN, hO, n1, n2, dj, s1, s2, ap, s⟩ := hw
    obtain ⟨v0, v1, e, p0, p1⟩ := ap.get 0 rfl
    subst e
    exact h v0 v1 a w ha ⟨m, fr, hN, hO, n1, n2, dj, s1, s2, All.cons p0 (All.cons p1 ((fun y hy => ap y (List.mem_cons_of_mem _ hy)))), s⟩
structure capstanlaw12_took where
  fuel : Int
  stack : Int
  heap : Int
  over : Bool
def capstanlaw12_took.zero : capstanlaw12_took := ⟨0, 0, 0, false⟩
def k_capstanlaw12_took : Kd capstanlaw12_took := ⟨4, fun h cs x => cs = [.int .i64 x.fuel, .int .i64 x.stack, .int .i64 x.heap, .bool x.over], fun _ _ _ _ _ h => h, fun _ _ _ h => by simp [h], fun _ _ _ h => by subst h; rfl⟩
theorem k_capstanlaw12_took.load {P : Program} {n : Fr} {ρ : Option Nat} {σ : List (Nat × Value)} {w0 : World} {hA hV : Hp} {ps : List HP} {os : List HO} {L l : List Oper} {Q : Cont} {d : Nat} {t tr : TypeId} {x : Operand} {pos : String} {af : Array Edge} {g : Option (Nat × Bool)} {v : Value} (see : Sees w0 hA hV) (i : Nat) {x0 : capstanlaw12_took} (hi : ps[i]? = some (elP k_capstanlaw12_took v x0)) {dsc : TypeDesc} (hu : P.underlying t = some dsc) (hd : (match dsc with | .struct _ | .array _ _ => true | _ => false) = true) (hs : (P.info? t).map (·.size) = some 4) (hg : gd L σ g = some true) (hn : Nat.blt d n.n = true) (hx : ev σ x = some v)
    (h : SP P n ρ ((d, .agg [.int .i64 x0.fuel, .int .i64 x0.stack, .int .i64 x0.heap, .bool x0.over].toArray) :: σ) (St w0 hA hV (ps) os) L l Q) : SP P n ρ σ (St w0 hA hV ps os) L (⟨some d, .load t x, tr, pos, af, g⟩ :: l) Q :=
  SP.loadP see i hi hu hd hs hg hn hx fun cs a w ha hw => by
    obtain ⟨m, fr, hN, hO, n1, n2, dj, s1, s2, ap, s⟩ := hw
    obtain rfl := ap.get 0 rfl
    exact h a w ha ⟨m, fr, hN, hO, n1, n2, dj, s1, s2, (fun y hy => ap y (List.mem_cons_of_mem _ hy)), s⟩
structure capstanlaw12_frame where
  k : Int
  at_ : Int
  left : (List Int)
def capstanlaw12_frame.zero : capstanlaw12_frame := ⟨0, 0, []⟩
def k_capstanlaw12_frame : Kd capstanlaw12_frame := ⟨3, fun h cs x => ∃ v0 : Value, cs = [.int .i64 x.k, .int .i64 x.at_, v0] ∧ slR (kInt .i64) h v0 x.left,
  fun _ _ _ _ s ⟨v0, e, p0⟩ => ⟨v0, e, slR.mono s p0⟩, fun _ _ _ ⟨v0, e, p0⟩ => by simp [e],
  fun _ _ _ ⟨v0, e, p0⟩ => by subst e; obtain ⟨_, _, rfl, -⟩ := p0; rfl⟩
def o_capstanlaw12_frame : Ko capstanlaw12_frame := ⟨k_capstanlaw12_frame, fun cs x => HO.ex fun v0 : Value => HO.pand (cs = [.int .i64 x.k, .int .i64 x.at_, v0]) (HO.seps [slO (kInt .i64) 3 v0 x.left]), fun ⟨v0, e, q⟩ sa sh => ⟨v0, e, slO.read (Sep.get 0 rfl q) sa sh⟩⟩
@[reducible] def capstanlaw12_frame.set_left (x : capstanlaw12_frame) (l : (List Int)) : capstanlaw12_frame := { x with left := l }
theorem o_capstanlaw12_frame.leaf2 : Leaf o_capstanlaw12_frame 2 (kInt .i64) 3 (fun x => x.left) capstanlaw12_frame.set_left := fun a h c x ⟨v0, e, q⟩ => by
  subst e
  obtain ⟨h1, h2, dj, s1, s2, p, rest⟩ := Sep.take 0 _ rfl q
  exact ⟨v0, h1, h2, rfl, dj, s1, s2, p, fun a' h' l' sa dj' r => ⟨v0, rfl, Sep.back 0 [slO (kInt .i64) 3 v0 x.left] (x := slO (kInt .i64) 3 v0 l') (Nat.le_of_ble_eq_true rfl) dj' r (Sep.mono _ sa (Sub.refl _) rest)⟩⟩
theorem k_capstanlaw12_frame.load {P : Program} {n : Fr} {ρ : Option Nat} {σ : List (Nat × Value)} {w0 : World} {hA hV : Hp} {ps : List HP} {os : List HO} {L l : List Oper} {Q : Cont} {d : Nat} {t tr : TypeId} {x : Operand} {pos : String} {af : Array Edge} {g : Option (Nat × Bool)} {v : Value} (see : Sees w0 hA hV) (i : Nat) {x0 : capstanlaw12_frame} (hi : ps[i]? = some (elP k_capstanlaw12_frame v x0)) {dsc : TypeDesc} (hu : P.underlying t = some dsc) (hd : (match dsc with | .struct _ | .array _ _ => true | _ => false) = true) (hs : (P.info? t).map (·.size) = some 3) (hg : gd L σ g = some true) (hn : Nat.blt d n.n = true) (hx : ev σ x = some v)
    (h : ∀ v0, SP P n ρ ((d, .agg [.int .i64 x0.k, .int .i64 x0.at_, v0].toArray) :: σ) (St w0 hA hV (slP (kInt .i64) v0 x0.left :: ps) os) L l Q) : SP P n ρ σ (St w0 hA hV ps os) L (⟨some d, .load t x, tr, pos, af, g⟩ :: l) Q :=
  SP.loadP see i hi hu hd hs hg hn hx fun cs a w ha hw => by
    obtain ⟨m, fr, hN, hO, n1, n2, dj, s1, s2, ap, s⟩ := hw
    obtain ⟨v0, e, p0⟩ := ap.get 0 rfl
    subst e
    exact h v0 a w ha ⟨m, fr, hN, hO, n1, n2, dj, s1, s2, All.cons p0 ((fun y hy => ap y (List.mem_cons_of_mem _ hy))), s⟩
theorem sz3 : (Tryz.prog.info? 3).map (·.size) = some 1 := by kernel_rfl
theorem sz4 : (Tryz.prog.info? 4).map (·.size) = some 1 := by kernel_rfl
theorem sz5 : (Tryz.prog.info? 5).map (·.size) = some 1 := by kernel_rfl
theorem sz22 : (Tryz.prog.info? 22).map (·.size) = some 1 := by kernel_rfl
theorem sz23 : (Tryz.prog.info? 23).map (·.size) = some 1 := by kernel_rfl
theorem sz25 : (Tryz.prog.info? 25).map (·.size) = some 4 := by kernel_rfl
theorem sz33 : (Tryz.prog.info? 33).map (·.size) = some 4 := by kernel_rfl
theorem sz36 : (Tryz.prog.info? 36).map (·.size) = some 3 := by kernel_rfl
theorem sz38 : (Tryz.prog.info? 38).map (·.size) = some 1 := by kernel_rfl
theorem sz39 : (Tryz.prog.info? 39).map (·.size) = some 1 := by kernel_rfl
theorem sz41 : (Tryz.prog.info? 41).map (·.size) = some 8 := by kernel_rfl
theorem sz45 : (Tryz.prog.info? 45).map (·.size) = some 1 := by kernel_rfl
theorem sz55 : (Tryz.prog.info? 55).map (·.size) = some 1 := by kernel_rfl
theorem sz62 : (Tryz.prog.info? 62).map (·.size) = some 3 := by kernel_rfl
theorem sz63 : (Tryz.prog.info? 63).map (·.size) = some 1 := by kernel_rfl
theorem sz67 : (Tryz.prog.info? 67).map (·.size) = some 3 := by kernel_rfl
theorem sz71 : (Tryz.prog.info? 71).map (·.size) = some 3 := by kernel_rfl
theorem sz73 : (Tryz.prog.info? 73).map (·.size) = some 2 := by kernel_rfl
theorem sz93 : (Tryz.prog.info? 93).map (·.size) = some 1 := by kernel_rfl
theorem sz95 : (Tryz.prog.info? 95).map (·.size) = some 400 := by kernel_rfl
theorem sz115 : (Tryz.prog.info? 115).map (·.size) = some 3 := by kernel_rfl
theorem sz152 : (Tryz.prog.info? 152).map (·.size) = some 3 := by kernel_rfl
theorem sz178 : (Tryz.prog.info? 178).map (·.size) = some 4 := by kernel_rfl
theorem sz186 : (Tryz.prog.info? 186).map (·.size) = some 2 := by kernel_rfl
theorem sz221 : (Tryz.prog.info? 221).map (·.size) = some 2 := by kernel_rfl
theorem inf3 : (Tryz.prog.info? 3).map (fun i => ((i.zero.map fun z => z.cells.toList), i.size, i.bytes)) = some (some [.int .i64 0], 1, 8) := by kernel_rfl
theorem inf5 : (Tryz.prog.info? 5).map (fun i => ((i.zero.map fun z => z.cells.toList), i.size, i.bytes)) = some (some [.int .u8 0], 1, 1) := by kernel_rfl
theorem inf25 : (Tryz.prog.info? 25).map (fun i => ((i.zero.map fun z => z.cells.toList), i.size, i.bytes)) = some (some [(.slice none 0 0), (.slice none 0 0), (.slice none 0 0), .int .i64 0], 4, 80) := by kernel_rfl
theorem inf33 : (Tryz.prog.info? 33).map (fun i => ((i.zero.map fun z => z.cells.toList), i.size, i.bytes)) = some (some [.int .i64 0, .int .i64 0, .int .i64 0, .bool false], 4, 32) := by kernel_rfl
theorem inf36 : (Tryz.prog.info? 36).map (fun i => ((i.zero.map fun z => z.cells.toList), i.size, i.bytes)) = some (some [.int .i64 0, .int .i64 0, .int .i64 0], 3, 24) := by kernel_rfl
theorem inf38 : (Tryz.prog.info? 38).map (fun i => ((i.zero.map fun z => z.cells.toList), i.size, i.bytes)) = some (some [(.slice none 0 0)], 1, 24) := by kernel_rfl
theorem inf41 : (Tryz.prog.info? 41).map (fun i => ((i.zero.map fun z => z.cells.toList), i.size, i.bytes)) = some (some [(.slice none 0 0), (.slice none 0 0), .int .u8 0, .bool false, .int .i64 0, .int .i64 0, .int .i64 0, (.slice none 0 0)], 8, 104) := by kernel_rfl
theorem inf45 : (Tryz.prog.info? 45).map (fun i => ((i.zero.map fun z => z.cells.toList), i.size, i.bytes)) = some (some [.int .i64 0], 1, 8) := by kernel_rfl
theorem inf55 : (Tryz.prog.info? 55).map (fun i => ((i.zero.map fun z => z.cells.toList), i.size, i.bytes)) = some (some [(.slice none 0 0)], 1, 24) := by kernel_rfl
theorem inf62 : (Tryz.prog.info? 62).map (fun i => ((i.zero.map fun z => z.cells.toList), i.size, i.bytes)) = some (some [.int .u8 0, .int .i64 0, .int .i64 0], 3, 24) := by kernel_rfl
theorem inf63 : (Tryz.prog.info? 63).map (fun i => ((i.zero.map fun z => z.cells.toList), i.size, i.bytes)) = some (some [(.slice none 0 0)], 1, 24) := by kernel_rfl
theorem inf67 : (Tryz.prog.info? 67).map (fun i => ((i.zero.map fun z => z.cells.toList), i.size, i.bytes)) = some (some [.int .i64 0, .int .i64 0, (.slice none 0 0)], 3, 40) := by kernel_rfl
theorem inf71 : (Tryz.prog.info? 71).map (fun i => ((i.zero.map fun z => z.cells.toList), i.size, i.bytes)) = some (some [.int .u8 0, .int .i64 0, .int .i64 0], 3, 24) := by kernel_rfl
theorem inf73 : (Tryz.prog.info? 73).map (fun i => ((i.zero.map fun z => z.cells.toList), i.size, i.bytes)) = some (some [.bool false, (.slice none 0 0)], 2, 32) := by kernel_rfl
theorem inf93 : (Tryz.prog.info? 93).map (fun i => ((i.zero.map fun z => z.cells.toList), i.size, i.bytes)) = some (some [.pointer none], 1, 8) := by kernel_rfl
theorem inf152 : (Tryz.prog.info? 152).map (fun i => ((i.zero.map fun z => z.cells.toList), i.size, i.bytes)) = some (some [.int .i64 0, .int .i64 0, .int .i64 0], 3, 24) := by kernel_rfl
theorem inf180 : (Tryz.prog.info? 180).map (fun i => ((i.zero.map fun z => z.cells.toList), i.size, i.bytes)) = some (some [.int .i64 0, .int .i64 0, .int .i64 0, .int .i64 0, .int .i64 0], 5, 40) := by kernel_rfl
theorem inf186 : (Tryz.prog.info? 186).map (fun i => ((i.zero.map fun z => z.cells.toList), i.size, i.bytes)) = some (some [(.slice none 0 0), (.slice none 0 0)], 2, 48) := by kernel_rfl
theorem inf221 : (Tryz.prog.info? 221).map (fun i => ((i.zero.map fun z => z.cells.toList), i.size, i.bytes)) = some (some [.int .i64 0, .int .i64 0], 2, 16) := by kernel_rfl
def zz200_2384 : List Value := (List.replicate 200 [.bool false, (.slice none 0 0)]).flatten
theorem bt25 : shapeOf Tryz.prog 25 = some ([(.slice none 0 0), (.slice none 0 0), (.slice none 0 0), .int .i64 0], [(0, 1), (1, 1), (2, 1), (3, 1)]) := by kernel_rfl
theorem bt36 : shapeOf Tryz.prog 36 = some ([.int .i64 0, .int .i64 0, .int .i64 0], [(0, 1), (1, 1), (2, 1)]) := by kernel_rfl
theorem bt41 : shapeOf Tryz.prog 41 = some ([(.slice none 0 0), (.slice none 0 0), .int .u8 0, .bool false, .int .i64 0, .int .i64 0, .int .i64 0, (.slice none 0 0)], [(0, 1), (1, 1), (2, 1), (3, 1), (4, 1), (5, 1), (6, 1), (7, 1)]) := by kernel_rfl
theorem bt62 : shapeOf Tryz.prog 62 = some ([.int .u8 0, .int .i64 0, .int .i64 0], [(0, 1), (1, 1), (2, 1)]) := by kernel_rfl
theorem bt67 : shapeOf Tryz.prog 67 = some ([.int .i64 0, .int .i64 0, (.slice none 0 0)], [(0, 1), (1, 1), (2, 1)]) := by kernel_rfl
theorem bt71 : shapeOf Tryz.prog 71 = some ([.int .u8 0, .int .i64 0, .int .i64 0], [(0, 1), (1, 1), (2, 1)]) := by kernel_rfl
theorem bt73 : shapeOf Tryz.prog 73 = some ([.bool false, (.slice none 0 0)], [(0, 1), (1, 1)]) := by kernel_rfl
theorem bt97 : shapeOf Tryz.prog 97 = some (([(.slice none 0 0), (.slice none 0 0), (.slice none 0 0), .int .i64 0, (.slice none 0 0), (.slice none 0 0), .int .u8 0, .bool false, .int .i64 0, .int .i64 0, .int .i64 0, (.slice none 0 0), (.slice none 0 0)] ++ zz200_2384), [(0, 4), (4, 8), (12, 1), (13, 400)]) := by kernel_rfl
theorem bt117 : shapeOf Tryz.prog 117 = some ([.int .i64 0, .int .i64 0, .int .i64 0, (.slice none 0 0), (.slice none 0 0), .int .u8 0, .bool false, .int .i64 0, .int .i64 0, .int .i64 0, (.slice none 0 0), (.slice none 0 0)], [(0, 3), (3, 8), (11, 1)]) := by kernel_rfl
theorem bt152 : shapeOf Tryz.prog 152 = some ([.int .i64 0, .int .i64 0, .int .i64 0], [(0, 1), (1, 1), (2, 1)]) := by kernel_rfl
theorem bt186 : shapeOf Tryz.prog 186 = some ([(.slice none 0 0), (.slice none 0 0)], [(0, 1), (1, 1)]) := by kernel_rfl
theorem eqA36 (d : Nat) (w : World) (x0 y0 : Int) (x1 y1 : Int) (x2 y2 : Int) : (Op.equalIn (d + 2) 36 (.agg #[.int .i64 x0, .int .i64 x1, .int .i64 x2]) (.agg #[.int .i64 y0, .int .i64 y1, .int .i64 y2])).run Tryz.prog w = .ok (x0 == y0 && (x1 == y1 && (x2 == y2))) w := by
  refine eqA_of Tryz.underlying36 (by kernel_rfl) ?_
  refine eqf_cons (by rfl) (run_part1 Tryz.underlying3 rfl rfl) (run_part1 Tryz.underlying3 rfl rfl) (run_equalIn_int w _ 3 _ _ _ _ Tryz.underlying3) ?_
  refine eqf_cons (by rfl) (run_part1 Tryz.underlying3 rfl rfl) (run_part1 Tryz.underlying3 rfl rfl) (run_equalIn_int w _ 3 _ _ _ _ Tryz.underlying3) ?_
  exact eqf_last (by rfl) (run_part1 Tryz.underlying3 rfl rfl) (run_part1 Tryz.underlying3 rfl rfl) (run_equalIn_int w _ 3 _ _ _ _ Tryz.underlying3)
theorem fn41 : ((Tryz.prog.funcs[41]?).map fun fn => fn.body.isSome && !(fn.name == "runtime.NumGoroutine")) = some true := by rw [Tryz.func41]; rfl
theorem fn21 : ((Tryz.prog.funcs[21]?).map fun fn => fn.body.isSome && !(fn.name == "runtime.NumGoroutine")) = some true := by rw [Tryz.func21]; rfl
theorem fn68 : ((Tryz.prog.funcs[68]?).map fun fn => fn.body.isSome && !(fn.name == "runtime.NumGoroutine")) = some true := by rw [Tryz.func68]; rfl
theorem fn91 : ((Tryz.prog.funcs[91]?).map fun fn => fn.body.isSome && !(fn.name == "runtime.NumGoroutine")) = some true := by rw [Tryz.func91]; rfl
theorem fn39 : ((Tryz.prog.funcs[39]?).map fun fn => fn.body.isSome && !(fn.name == "runtime.NumGoroutine")) = some true := by rw [Tryz.func39]; rfl
theorem fn40 : ((Tryz.prog.funcs[40]?).map fun fn => fn.body.isSome && !(fn.name == "runtime.NumGoroutine")) = some true := by rw [Tryz.func40]; rfl
theorem fn38 : ((Tryz.prog.funcs[38]?).map fun fn => fn.body.isSome && !(fn.name == "runtime.NumGoroutine")) = some true := by rw [Tryz.func38]; rfl
theorem fn50 : ((Tryz.prog.funcs[50]?).map fun fn => fn.body.isSome && !(fn.name == "runtime.NumGoroutine")) = some true := by rw [Tryz.func50]; rfl
theorem fn52 : ((Tryz.prog.funcs[52]?).map fun fn => fn.body.isSome && !(fn.name == "runtime.NumGoroutine")) = some true := by rw [Tryz.func52]; rfl
theorem fn51 : ((Tryz.prog.funcs[51]?).map fun fn => fn.body.isSome && !(fn.name == "runtime.NumGoroutine")) = some true := by rw [Tryz.func51]; rfl
theorem fn79 : ((Tryz.prog.funcs[79]?).map fun fn => fn.body.isSome && !(fn.name == "runtime.NumGoroutine")) = some true := by rw [Tryz.func79]; rfl
theorem fn53 : ((Tryz.prog.funcs[53]?).map fun fn => fn.body.isSome && !(fn.name == "runtime.NumGoroutine")) = some true := by rw [Tryz.func53]; rfl
theorem fn27 : ((Tryz.prog.funcs[27]?).map fun fn => fn.body.isSome && !(fn.name == "runtime.NumGoroutine")) = some true := by rw [Tryz.func27]; rfl
theorem fn138 : ((Tryz.prog.funcs[138]?).map fun fn => fn.body.isSome && !(fn.name == "runtime.NumGoroutine")) = some true := by rw [Tryz.func138]; rfl
theorem fn139 : ((Tryz.prog.funcs[139]?).map fun fn => fn.body.isSome && !(fn.name == "runtime.NumGoroutine")) = some true := by rw [Tryz.func139]; rfl
theorem fn129 : ((Tryz.prog.funcs[129]?).map fun fn => fn.body.isSome && !(fn.name == "runtime.NumGoroutine")) = some true := by rw [Tryz.func129]; rfl
theorem fn104 : ((Tryz.prog.funcs[104]?).map fun fn => fn.body.isSome && !(fn.name == "runtime.NumGoroutine")) = some true := by rw [Tryz.func104]; rfl
theorem fn103 : ((Tryz.prog.funcs[103]?).map fun fn => fn.body.isSome && !(fn.name == "runtime.NumGoroutine")) = some true := by rw [Tryz.func103]; rfl
theorem fn73 : ((Tryz.prog.funcs[73]?).map fun fn => fn.body.isSome && !(fn.name == "runtime.NumGoroutine")) = some true := by rw [Tryz.func73]; rfl
theorem fn44 : ((Tryz.prog.funcs[44]?).map fun fn => fn.body.isSome && !(fn.name == "runtime.NumGoroutine")) = some true := by rw [Tryz.func44]; rfl
theorem fn105 : ((Tryz.prog.funcs[105]?).map fun fn => fn.body.isSome && !(fn.name == "runtime.NumGoroutine")) = some true := by rw [Tryz.func105]; rfl
theorem fn106 : ((Tryz.prog.funcs[106]?).map fun fn => fn.body.isSome && !(fn.name == "runtime.NumGoroutine")) = some true := by rw [Tryz.func106]; rfl
theorem fn107 : ((Tryz.prog.funcs[107]?).map fun fn => fn.body.isSome && !(fn.name == "runtime.NumGoroutine")) = some true := by rw [Tryz.func107]; rfl
theorem fn131 : ((Tryz.prog.funcs[131]?).map fun fn => fn.body.isSome && !(fn.name == "runtime.NumGoroutine")) = some true := by rw [Tryz.func131]; rfl
theorem fn130 : ((Tryz.prog.funcs[130]?).map fun fn => fn.body.isSome && !(fn.name == "runtime.NumGoroutine")) = some true := by rw [Tryz.func130]; rfl
theorem fn145 : ((Tryz.prog.funcs[145]?).map fun fn => fn.body.isSome && !(fn.name == "runtime.NumGoroutine")) = some true := by rw [Tryz.func145]; rfl
theorem fn132 : ((Tryz.prog.funcs[132]?).map fun fn => fn.body.isSome && !(fn.name == "runtime.NumGoroutine")) = some true := by rw [Tryz.func132]; rfl
theorem fn108 : ((Tryz.prog.funcs[108]?).map fun fn => fn.body.isSome && !(fn.name == "runtime.NumGoroutine")) = some true := by rw [Tryz.func108]; rfl
theorem fn109 : ((Tryz.prog.funcs[109]?).map fun fn => fn.body.isSome && !(fn.name == "runtime.NumGoroutine")) = some true := by rw [Tryz.func109]; rfl
theorem fn71 : ((Tryz.prog.funcs[71]?).map fun fn => fn.body.isSome && !(fn.name == "runtime.NumGoroutine")) = some true := by rw [Tryz.func71]; rfl
theorem fn42 : ((Tryz.prog.funcs[42]?).map fun fn => fn.body.isSome && !(fn.name == "runtime.NumGoroutine")) = some true := by rw [Tryz.func42]; rfl
theorem fn72 : ((Tryz.prog.funcs[72]?).map fun fn => fn.body.isSome && !(fn.name == "runtime.NumGoroutine")) = some true := by rw [Tryz.func72]; rfl
theorem fn43 : ((Tryz.prog.funcs[43]?).map fun fn => fn.body.isSome && !(fn.name == "runtime.NumGoroutine")) = some true := by rw [Tryz.func43]; rfl
theorem fn46 : ((Tryz.prog.funcs[46]?).map fun fn => fn.body.isSome && !(fn.name == "runtime.NumGoroutine")) = some true := by rw [Tryz.func46]; rfl
theorem fn45 : ((Tryz.prog.funcs[45]?).map fun fn => fn.body.isSome && !(fn.name == "runtime.NumGoroutine")) = some true := by rw [Tryz.func45]; rfl
theorem fn154 : ((Tryz.prog.funcs[154]?).map fun fn => fn.body.isSome && !(fn.name == "runtime.NumGoroutine")) = some true := by rw [Tryz.func154]; rfl
theorem fn155 : ((Tryz.prog.funcs[155]?).map fun fn => fn.body.isSome && !(fn.name == "runtime.NumGoroutine")) = some true := by rw [Tryz.func155]; rfl
theorem fn134 : ((Tryz.prog.funcs[134]?).map fun fn => fn.body.isSome && !(fn.name == "runtime.NumGoroutine")) = some true := by rw [Tryz.func134]; rfl
theorem fn49 : ((Tryz.prog.funcs[49]?).map fun fn => fn.body.isSome && !(fn.name == "runtime.NumGoroutine")) = some true := by rw [Tryz.func49]; rfl
theorem fn135 : ((Tryz.prog.funcs[135]?).map fun fn => fn.body.isSome && !(fn.name == "runtime.NumGoroutine")) = some true := by rw [Tryz.func135]; rfl
theorem fn136 : ((Tryz.prog.funcs[136]?).map fun fn => fn.body.isSome && !(fn.name == "runtime.NumGoroutine")) = some true := by rw [Tryz.func136]; rfl
theorem fn116 : ((Tryz.prog.funcs[116]?).map fun fn => fn.body.isSome && !(fn.name == "runtime.NumGoroutine")) = some true := by rw [Tryz.func116]; rfl
theorem fn137 : ((Tryz.prog.funcs[137]?).map fun fn => fn.body.isSome && !(fn.name == "runtime.NumGoroutine")) = some true := by rw [Tryz.func137]; rfl
theorem fn112 : ((Tryz.prog.funcs[112]?).map fun fn => fn.body.isSome && !(fn.name == "runtime.NumGoroutine")) = some true := by rw [Tryz.func112]; rfl
theorem fn74 : ((Tryz.prog.funcs[74]?).map fun fn => fn.body.isSome && !(fn.name == "runtime.NumGoroutine")) = some true := by rw [Tryz.func74]; rfl
theorem fn113 : ((Tryz.prog.funcs[113]?).map fun fn => fn.body.isSome && !(fn.name == "runtime.NumGoroutine")) = some true := by rw [Tryz.func113]; rfl
theorem fn114 : ((Tryz.prog.funcs[114]?).map fun fn => fn.body.isSome && !(fn.name == "runtime.NumGoroutine")) = some true := by rw [Tryz.func114]; rfl
theorem fn75 : ((Tryz.prog.funcs[75]?).map fun fn => fn.body.isSome && !(fn.name == "runtime.NumGoroutine")) = some true := by rw [Tryz.func75]; rfl
theorem fn76 : ((Tryz.prog.funcs[76]?).map fun fn => fn.body.isSome && !(fn.name == "runtime.NumGoroutine")) = some true := by rw [Tryz.func76]; rfl
theorem fn47 : ((Tryz.prog.funcs[47]?).map fun fn => fn.body.isSome && !(fn.name == "runtime.NumGoroutine")) = some true := by rw [Tryz.func47]; rfl
theorem fn48 : ((Tryz.prog.funcs[48]?).map fun fn => fn.body.isSome && !(fn.name == "runtime.NumGoroutine")) = some true := by rw [Tryz.func48]; rfl
theorem fn22 : ((Tryz.prog.funcs[22]?).map fun fn => fn.body.isSome && !(fn.name == "runtime.NumGoroutine")) = some true := by rw [Tryz.func22]; rfl
theorem fn28 : ((Tryz.prog.funcs[28]?).map fun fn => fn.body.isSome && !(fn.name == "runtime.NumGoroutine")) = some true := by rw [Tryz.func28]; rfl
theorem fn80 : ((Tryz.prog.funcs[80]?).map fun fn => fn.body.isSome && !(fn.name == "runtime.NumGoroutine")) = some true := by rw [Tryz.func80]; rfl
theorem fn54 : ((Tryz.prog.funcs[54]?).map fun fn => fn.body.isSome && !(fn.name == "runtime.NumGoroutine")) = some true := by rw [Tryz.func54]; rfl
theorem fn56 : ((Tryz.prog.funcs[56]?).map fun fn => fn.body.isSome && !(fn.name == "runtime.NumGoroutine")) = some true := by rw [Tryz.func56]; rfl
theorem fn55 : ((Tryz.prog.funcs[55]?).map fun fn => fn.body.isSome && !(fn.name == "runtime.NumGoroutine")) = some true := by rw [Tryz.func55]; rfl
theorem fn57 : ((Tryz.prog.funcs[57]?).map fun fn => fn.body.isSome && !(fn.name == "runtime.NumGoroutine")) = some true := by rw [Tryz.func57]; rfl
theorem fn58 : ((Tryz.prog.funcs[58]?).map fun fn => fn.body.isSome && !(fn.name == "runtime.NumGoroutine")) = some true := by rw [Tryz.func58]; rfl
theorem fn29 : ((Tryz.prog.funcs[29]?).map fun fn => fn.body.isSome && !(fn.name == "runtime.NumGoroutine")) = some true := by rw [Tryz.func29]; rfl
theorem fn23 : ((Tryz.prog.funcs[23]?).map fun fn => fn.body.isSome && !(fn.name == "runtime.NumGoroutine")) = some true := by rw [Tryz.func23]; rfl
theorem fn11 : ((Tryz.prog.funcs[11]?).map fun fn => fn.body.isSome && !(fn.name == "runtime.NumGoroutine")) = some true := by rw [Tryz.func11]; rfl
theorem fn14 : ((Tryz.prog.funcs[14]?).map fun fn => fn.body.isSome && !(fn.name == "runtime.NumGoroutine")) = some true := by rw [Tryz.func14]; rfl
theorem fn8 : ((Tryz.prog.funcs[8]?).map fun fn => fn.body.isSome && !(fn.name == "runtime.NumGoroutine")) = some true := by rw [Tryz.func8]; rfl
theorem fn24 : ((Tryz.prog.funcs[24]?).map fun fn => fn.body.isSome && !(fn.name == "runtime.NumGoroutine")) = some true := by rw [Tryz.func24]; rfl
theorem fn12 : ((Tryz.prog.funcs[12]?).map fun fn => fn.body.isSome && !(fn.name == "runtime.NumGoroutine")) = some true := by rw [Tryz.func12]; rfl
theorem fn9 : ((Tryz.prog.funcs[9]?).map fun fn => fn.body.isSome && !(fn.name == "runtime.NumGoroutine")) = some true := by rw [Tryz.func9]; rfl
theorem fn37 : ((Tryz.prog.funcs[37]?).map fun fn => fn.body.isSome && !(fn.name == "runtime.NumGoroutine")) = some true := by rw [Tryz.func37]; rfl
theorem fn19 : ((Tryz.prog.funcs[19]?).map fun fn => fn.body.isSome && !(fn.name == "runtime.NumGoroutine")) = some true := by rw [Tryz.func19]; rfl
theorem fn20 : ((Tryz.prog.funcs[20]?).map fun fn => fn.body.isSome && !(fn.name == "runtime.NumGoroutine")) = some true := by rw [Tryz.func20]; rfl
theorem fn10 : ((Tryz.prog.funcs[10]?).map fun fn => fn.body.isSome && !(fn.name == "runtime.NumGoroutine")) = some true := by rw [Tryz.func10]; rfl
def tab0 : List arr221 := [(⟨0, 0⟩ : arr221), (⟨0, 31⟩ : arr221), (⟨0, 15⟩ : arr221), (⟨0, 3⟩ : arr221), (⟨0, 1024⟩ : arr221), (⟨0, 199⟩ : arr221), (⟨0, 15⟩ : arr221), (⟨0, 255⟩ : arr221), (⟨1, 100⟩ : arr221)]
@[reducible, instance] def i_u3 := Und.mk Tryz.underlying3
@[reducible, instance] def i_u4 := Und.mk Tryz.underlying4
@[reducible, instance] def i_u5 := Und.mk Tryz.underlying5
@[reducible, instance] def i_u22 := Und.mk Tryz.underlying22
@[reducible, instance] def i_u23 := Und.mk Tryz.underlying23
@[reducible, instance] def i_u25 := Und.mk Tryz.underlying25
@[reducible, instance] def i_u26 := Und.mk Tryz.underlying26
@[reducible, instance] def i_u28 := Und.mk Tryz.underlying28
@[reducible, instance] def i_u29 := Und.mk Tryz.underlying29
@[reducible, instance] def i_u33 := Und.mk Tryz.underlying33
@[reducible, instance] def i_u36 := Und.mk Tryz.underlying36
@[reducible, instance] def i_u38 := Und.mk Tryz.underlying38
@[reducible, instance] def i_u39 := Und.mk Tryz.underlying39
@[reducible, instance] def i_u41 := Und.mk Tryz.underlying41
@[reducible, instance] def i_u45 := Und.mk Tryz.underlying45
@[reducible, instance] def i_u55 := Und.mk Tryz.underlying55
@[reducible, instance] def i_u62 := Und.mk Tryz.underlying62
@[reducible, instance] def i_u63 := Und.mk Tryz.underlying63
@[reducible, instance] def i_u67 := Und.mk Tryz.underlying67
@[reducible, instance] def i_u68 := Und.mk Tryz.underlying68
@[reducible, instance] def i_u71 := Und.mk Tryz.underlying71
@[reducible, instance] def i_u73 := Und.mk Tryz.underlying73
@[reducible, instance] def i_u93 := Und.mk Tryz.underlying93
@[reducible, instance] def i_u95 := Und.mk Tryz.underlying95
@[reducible, instance] def i_u97 := Und.mk Tryz.underlying97
@[reducible, instance] def i_u103 := Und.mk Tryz.underlying103
@[reducible, instance] def i_u106 := Und.mk Tryz.underlying106
@[reducible, instance] def i_u115 := Und.mk Tryz.underlying115
@[reducible, instance] def i_u117 := Und.mk Tryz.underlying117
@[reducible, instance] def i_u137 := Und.mk Tryz.underlying137
@[reducible, instance] def i_u138 := Und.mk Tryz.underlying138
@[reducible, instance] def i_u141 := Und.mk Tryz.underlying141
@[reducible, instance] def i_u152 := Und.mk Tryz.underlying152
@[reducible, instance] def i_u178 := Und.mk Tryz.underlying178
@[reducible, instance] def i_u180 := Und.mk Tryz.underlying180
@[reducible, instance] def i_u186 := Und.mk Tryz.underlying186
@[reducible, instance] def i_u221 := Und.mk Tryz.underlying221
@[reducible, instance] def i_u222 := Und.mk Tryz.underlying222
@[reducible, instance] def i_z3 := Siz.mk sz3
@[reducible, instance] def i_z4 := Siz.mk sz4
@[reducible, instance] def i_z5 := Siz.mk sz5
@[reducible, instance] def i_z22 := Siz.mk sz22
@[reducible, instance] def i_z23 := Siz.mk sz23
@[reducible, instance] def i_z25 := Siz.mk sz25
@[reducible, instance] def i_z33 := Siz.mk sz33
@[reducible, instance] def i_z36 := Siz.mk sz36
@[reducible, instance] def i_z38 := Siz.mk sz38
@[reducible, instance] def i_z39 := Siz.mk sz39
@[reducible, instance] def i_z41 := Siz.mk sz41
@[reducible, instance] def i_z45 := Siz.mk sz45
@[reducible, instance] def i_z55 := Siz.mk sz55
@[reducible, instance] def i_z62 := Siz.mk sz62
@[reducible, instance] def i_z63 := Siz.mk sz63
@[reducible, instance] def i_z67 := Siz.mk sz67
@[reducible, instance] def i_z71 := Siz.mk sz71
@[reducible, instance] def i_z73 := Siz.mk sz73
@[reducible, instance] def i_z93 := Siz.mk sz93
@[reducible, instance] def i_z95 := Siz.mk sz95
@[reducible, instance] def i_z115 := Siz.mk sz115
@[reducible, instance] def i_z152 := Siz.mk sz152
@[reducible, instance] def i_z178 := Siz.mk sz178
@[reducible, instance] def i_z186 := Siz.mk sz186
@[reducible, instance] def i_z221 := Siz.mk sz221
@[reducible, instance] def i_f25_0 : Fld Tryz.prog 25 0 0 := ⟨⟨_, _, _, Tryz.underlying25, rfl, rfl, sz22⟩⟩
@[reducible, instance] def i_f25_1 : Fld Tryz.prog 25 1 1 := ⟨⟨_, _, _, Tryz.underlying25, rfl, rfl, sz22⟩⟩
@[reducible, instance] def i_f25_2 : Fld Tryz.prog 25 2 2 := ⟨⟨_, _, _, Tryz.underlying25, rfl, rfl, sz23⟩⟩
@[reducible, instance] def i_f33_0 : Fld Tryz.prog 33 0 0 := ⟨⟨_, _, _, Tryz.underlying33, rfl, rfl, sz3⟩⟩
@[reducible, instance] def i_f33_1 : Fld Tryz.prog 33 1 1 := ⟨⟨_, _, _, Tryz.underlying33, rfl, rfl, sz3⟩⟩
@[reducible, instance] def i_f33_2 : Fld Tryz.prog 33 2 2 := ⟨⟨_, _, _, Tryz.underlying33, rfl, rfl, sz3⟩⟩
@[reducible, instance] def i_f33_3 : Fld Tryz.prog 33 3 3 := ⟨⟨_, _, _, Tryz.underlying33, rfl, rfl, sz4⟩⟩
@[reducible, instance] def i_f36_0 : Fld Tryz.prog 36 0 0 := ⟨⟨_, _, _, Tryz.underlying36, rfl, rfl, sz3⟩⟩
@[reducible, instance] def i_f36_1 : Fld Tryz.prog 36 1 1 := ⟨⟨_, _, _, Tryz.underlying36, rfl, rfl, sz3⟩⟩
@[reducible, instance] def i_f36_2 : Fld Tryz.prog 36 2 2 := ⟨⟨_, _, _, Tryz.underlying36, rfl, rfl, sz3⟩⟩
@[reducible, instance] def i_f41_0 : Fld Tryz.prog 41 0 0 := ⟨⟨_, _, _, Tryz.underlying41, rfl, rfl, sz38⟩⟩
@[reducible, instance] def i_f41_1 : Fld Tryz.prog 41 1 1 := ⟨⟨_, _, _, Tryz.underlying41, rfl, rfl, sz38⟩⟩
@[reducible, instance] def i_f41_2 : Fld Tryz.prog 41 2 2 := ⟨⟨_, _, _, Tryz.underlying41, rfl, rfl, sz5⟩⟩
@[reducible, instance] def i_f41_4 : Fld Tryz.prog 41 4 4 := ⟨⟨_, _, _, Tryz.underlying41, rfl, rfl, sz3⟩⟩
@[reducible, instance] def i_f41_5 : Fld Tryz.prog 41 5 5 := ⟨⟨_, _, _, Tryz.underlying41, rfl, rfl, sz3⟩⟩
@[reducible, instance] def i_f41_6 : Fld Tryz.prog 41 6 6 := ⟨⟨_, _, _, Tryz.underlying41, rfl, rfl, sz3⟩⟩
@[reducible, instance] def i_f41_7 : Fld Tryz.prog 41 7 7 := ⟨⟨_, _, _, Tryz.underlying41, rfl, rfl, sz39⟩⟩
@[reducible, instance] def i_f71_0 : Fld Tryz.prog 71 0 0 := ⟨⟨_, _, _, Tryz.underlying71, rfl, rfl, sz5⟩⟩
@[reducible, instance] def i_f71_1 : Fld Tryz.prog 71 1 1 := ⟨⟨_, _, _, Tryz.underlying71, rfl, rfl, sz3⟩⟩
@[reducible, instance] def i_f71_2 : Fld Tryz.prog 71 2 2 := ⟨⟨_, _, _, Tryz.underlying71, rfl, rfl, sz3⟩⟩
@[reducible, instance] def i_f73_0 : Fld Tryz.prog 73 0 0 := ⟨⟨_, _, _, Tryz.underlying73, rfl, rfl, sz4⟩⟩
@[reducible, instance] def i_f73_1 : Fld Tryz.prog 73 1 1 := ⟨⟨_, _, _, Tryz.underlying73, rfl, rfl, sz38⟩⟩
@[reducible, instance] def i_f97_0 : Fld Tryz.prog 97 0 0 := ⟨⟨_, _, _, Tryz.underlying97, rfl, rfl, sz25⟩⟩
@[reducible, instance] def i_f97_1 : Fld Tryz.prog 97 1 4 := ⟨⟨_, _, _, Tryz.underlying97, rfl, rfl, sz41⟩⟩
@[reducible, instance] def i_f97_2 : Fld Tryz.prog 97 2 12 := ⟨⟨_, _, _, Tryz.underlying97, rfl, rfl, sz38⟩⟩
@[reducible, instance] def i_f97_3 : Fld Tryz.prog 97 3 13 := ⟨⟨_, _, _, Tryz.underlying97, rfl, rfl, sz95⟩⟩
@[reducible, instance] def i_f115_0 : Fld Tryz.prog 115 0 0 := ⟨⟨_, _, _, Tryz.underlying115, rfl, rfl, sz36⟩⟩
@[reducible, instance] def i_f117_0 : Fld Tryz.prog 117 0 0 := ⟨⟨_, _, _, Tryz.underlying117, rfl, rfl, sz115⟩⟩
@[reducible, instance] def i_f117_1 : Fld Tryz.prog 117 1 3 := ⟨⟨_, _, _, Tryz.underlying117, rfl, rfl, sz41⟩⟩
@[reducible, instance] def i_f117_2 : Fld Tryz.prog 117 2 11 := ⟨⟨_, _, _, Tryz.underlying117, rfl, rfl, sz63⟩⟩
@[reducible, instance] def i_f152_0 : Fld Tryz.prog 152 0 0 := ⟨⟨_, _, _, Tryz.underlying152, rfl, rfl, sz3⟩⟩
@[reducible, instance] def i_f152_1 : Fld Tryz.prog 152 1 1 := ⟨⟨_, _, _, Tryz.underlying152, rfl, rfl, sz3⟩⟩
@[reducible, instance] def i_f152_2 : Fld Tryz.prog 152 2 2 := ⟨⟨_, _, _, Tryz.underlying152, rfl, rfl, sz3⟩⟩
@[reducible, instance] def i_f180_0 : Fld Tryz.prog 180 0 0 := ⟨⟨_, _, _, Tryz.underlying180, rfl, rfl, sz178⟩⟩
@[reducible, instance] def i_f180_1 : Fld Tryz.prog 180 1 4 := ⟨⟨_, _, _, Tryz.underlying180, rfl, rfl, sz3⟩⟩
@[reducible, instance] def i_f186_0 : Fld Tryz.prog 186 0 0 := ⟨⟨_, _, _, Tryz.underlying186, rfl, rfl, sz38⟩⟩
@[reducible, instance] def i_f186_1 : Fld Tryz.prog 186 1 1 := ⟨⟨_, _, _, Tryz.underlying186, rfl, rfl, sz38⟩⟩
@[reducible, instance] def i_r7 := Rsl.mk Tryz.results7
@[reducible, instance] def i_r8 := Rsl.mk Tryz.results8
@[reducible, instance] def i_r9 := Rsl.mk Tryz.results9
@[reducible, instance] def i_r10 := Rsl.mk Tryz.results10
@[reducible, instance] def i_r11 := Rsl.mk Tryz.results11
@[reducible, instance] def i_r12 := Rsl.mk Tryz.results12
@[reducible, instance] def i_r14 := Rsl.mk Tryz.results14
@[reducible, instance] def i_r19 := Rsl.mk Tryz.results19
@[reducible, instance] def i_r20 := Rsl.mk Tryz.results20
@[reducible, instance] def i_r21 := Rsl.mk Tryz.results21
@[reducible, instance] def i_r22 := Rsl.mk Tryz.results22
@[reducible, instance] def i_r23 := Rsl.mk Tryz.results23
@[reducible, instance] def i_r24 := Rsl.mk Tryz.results24
@[reducible, instance] def i_r27 := Rsl.mk Tryz.results27
@[reducible, instance] def i_r28 := Rsl.mk Tryz.results28
@[reducible, instance] def i_r29 := Rsl.mk Tryz.results29
@[reducible, instance] def i_r37 := Rsl.mk Tryz.results37
@[reducible, instance] def i_r38 := Rsl.mk Tryz.results38
@[reducible, instance] def i_r41 := Rsl.mk Tryz.results41
@[reducible, instance] def i_r42 := Rsl.mk Tryz.results42
@[reducible, instance] def i_r43 := Rsl.mk Tryz.results43
@[reducible, instance] def i_r44 := Rsl.mk Tryz.results44
@[reducible, instance] def i_r45 := Rsl.mk Tryz.results45
@[reducible, instance] def i_r46 := Rsl.mk Tryz.results46
@[reducible, instance] def i_r47 := Rsl.mk Tryz.results47
@[reducible, instance] def i_r48 := Rsl.mk Tryz.results48
@[reducible, instance] def i_r49 := Rsl.mk Tryz.results49
@[reducible, instance] def i_r50 := Rsl.mk Tryz.results50
@[reducible, instance] def i_r53 := Rsl.mk Tryz.results53
@[reducible, instance] def i_r54 := Rsl.mk Tryz.results54
@[reducible, instance] def i_r55 := Rsl.mk Tryz.results55
@[reducible, instance] def i_r56 := Rsl.mk Tryz.results56
@[reducible, instance] def i_r57 := Rsl.mk Tryz.results57
@[reducible, instance] def i_r58 := Rsl.mk Tryz.results58
@[reducible, instance] def i_r68 := Rsl.mk Tryz.results68
@[reducible, instance] def i_r71 := Rsl.mk Tryz.results71
@[reducible, instance] def i_r73 := Rsl.mk Tryz.results73
@[reducible, instance] def i_r74 := Rsl.mk Tryz.results74
@[reducible, instance] def i_r75 := Rsl.mk Tryz.results75
@[reducible, instance] def i_r76 := Rsl.mk Tryz.results76
@[reducible, instance] def i_r79 := Rsl.mk Tryz.results79
@[reducible, instance] def i_r80 := Rsl.mk Tryz.results80
@[reducible, instance] def i_r91 := Rsl.mk Tryz.results91
@[reducible, instance] def i_r103 := Rsl.mk Tryz.results103
@[reducible, instance] def i_r104 := Rsl.mk Tryz.results104
@[reducible, instance] def i_r105 := Rsl.mk Tryz.results105
@[reducible, instance] def i_r106 := Rsl.mk Tryz.results106
@[reducible, instance] def i_r107 := Rsl.mk Tryz.results107
@[reducible, instance] def i_r108 := Rsl.mk Tryz.results108
@[reducible, instance] def i_r112 := Rsl.mk Tryz.results112
@[reducible, instance] def i_r113 := Rsl.mk Tryz.results113
@[reducible, instance] def i_r114 := Rsl.mk Tryz.results114
@[reducible, instance] def i_r129 := Rsl.mk Tryz.results129
@[reducible, instance] def i_r130 := Rsl.mk Tryz.results130
@[reducible, instance] def i_r131 := Rsl.mk Tryz.results131
@[reducible, instance] def i_r132 := Rsl.mk Tryz.results132
@[reducible, instance] def i_r134 := Rsl.mk Tryz.results134
@[reducible, instance] def i_r135 := Rsl.mk Tryz.results135
@[reducible, instance] def i_r137 := Rsl.mk Tryz.results137
@[reducible, instance] def i_r138 := Rsl.mk Tryz.results138
@[reducible, instance] def i_r139 := Rsl.mk Tryz.results139
@[reducible, instance] def i_r145 := Rsl.mk Tryz.results145
@[reducible, instance] def i_r154 := Rsl.mk Tryz.results154
@[reducible, instance] def i_r155 := Rsl.mk Tryz.results155
attribute [local irreducible] CP SP QE DA DT Val St
inductive capstanlaw12_row.S where
  | start
  | l1 (l22 : List api_Instr) (x24 : Int)
def capstanlaw12_row.F (l_0 : (List Int)) : capstanlaw12_row.S → Option (capstanlaw12_row.S ⊕ (List api_Instr))
  | .start => some (.inl (.l1 [] 0))
  | .l1 l22 x24 => if (IntKind.i64.wrap (x24 + 1)) < (l_0.length : Int) then ((elt l_0 x24).bind fun x28 => (elt l_0 (IntKind.i64.wrap (x24 + 1))).bind fun x32 => if (l22.length + [(⟨IntKind.u8.wrap x28, x32, 0⟩ : api_Instr)].length) * 24 ≤ 140737488355328 then (some (.inl (.l1 (l22 ++ [(⟨IntKind.u8.wrap x28, x32, 0⟩ : api_Instr)]) (IntKind.i64.wrap (x24 + 2))))) else none) else (some (.inr l22))
def capstanlaw12_row.f (l_0 : (List Int)) : Option (List api_Instr) := runF (capstanlaw12_row.F l_0) .start
theorem capstanlaw12_row.ok (l_0 : (List Int)) (v_l_0 : Value) (r : (List api_Instr)) (H : capstanlaw12_row.f l_0 = some r) (w : World) (hV : Hp) (sV : Sub hV (hp w)) (h0 : slR (kInt .i64) hV v_l_0 l_0) :
    Trip Tryz.prog 41 [v_l_0].toArray em hV w (fun v => HO.ex fun u0 : Value => HO.pand (v = u0) (HO.seps [slO k_api_Instr 71 u0 r])) := by
 refine Trip.go 27 Tryz.func41 sV (aS h0 (All.nil _)) fun see => ?_
 obtain ⟨n0, hi⟩ := runF_iff.1 H
 obtain ⟨m0, o, hm0, ho, hr⟩ := iter_some hi
 clear hi
 refine go ?_
 refine CP.seq (go ?_)
 obtain rfl := Option.some.inj ho
 refine CP.loop (fun cl1 a w2 => ∃ l22 : List api_Instr, ∃ x24 : Int, ∃ v23 : Value, cl1 ≤ m0 ∧ iter (capstanlaw12_row.F l_0) cl1 (.l1 l22 x24) = some r ∧ Env ⟨27, []⟩ [(0, v_l_0), (3, v23), (4, .int .i64 x24)] a ∧ St w em hV [slP (kInt .i64) v_l_0 l_0] [slO k_api_Instr 71 v23 l22] w2) m0 (fun a w2 ha hw => ⟨[], 0, (.slice none 0 0), Nat.le_refl _, hr, ha.sub sb, (St.addO (slO.nil k_api_Instr 71) hw)⟩) ?_
 clear hr
 rintro cl1 a w2 ⟨l22, x24, v23, hc_l1, hi, ha, hw⟩
 obtain ⟨m25, o, hm_m25, ho, hr⟩ := iter_some hi
 refine CP.app ha hw ?_
 clear ha hw a w2 hi
 refine CP.seq (go ?_)
 refine CP.ci ho (fun ho => ?_) fun ho => ?_
 ·refine go ?_
  refine CP.seq (go ?_)
  refine CP.drawA (by kernel_rfl) (fun w2 k h => h.drawn k) ?_
  obtain ⟨x28, hx, ho⟩ := elt_bind ho
  refine DA.ghost (fun w2 h => h.elem see 0 rfl hx.1 hx.2) (fun p26 h_p26 => ?_)
  clear hx
  refine DA.ghost (fun w2 h => h.openE see 0 rfl (fun _ : Unit => [.int .i64 x28]) (fun _ => []) (fun h cs e => ⟨(), e, All.nil _⟩)) (fun _ _ => ?_)
  obtain ⟨x32, hx, ho⟩ := elt_bind ho
  refine DA.ghost (fun w2 h => h.elem see 2 rfl hx.1 hx.2) (fun p30 h_p30 => ?_)
  clear hx
  refine DA.ghost (fun w2 h => h.openE see 0 rfl (fun _ : Unit => [.int .i64 x32]) (fun _ => []) (fun h cs e => ⟨(), e, All.nil _⟩)) (fun _ _ => ?_)
  refine DA.ph 0 13 ?_
  refine DT.tk 0 ?_
  refine DT.tk 1 ?_
  refine DT.tk 2 ?_
  refine DT.tv 3 rfl (Val.indexE h_p26 Tryz.underlying55 sz3 rfl rfl) ?_
  refine DT.tv 4 rfl (Val.loadAt1 see 2 rfl Tryz.underlying3 rfl rfl) ?_
  refine DT.tv 5 rfl (Val.conv (by rw [Tryz.underlying3]; rfl) Tryz.underlying5 rfl) ?_
  refine DT.tk 6 ?_
  refine DT.tk 7 ?_
  refine DT.tk 8 ?_
  refine DT.tv 9 rfl (Val.indexE h_p30 Tryz.underlying55 sz3 rfl rfl) ?_
  refine DT.tv 10 rfl (Val.loadAt1 see 0 rfl Tryz.underlying3 rfl rfl) ?_
  refine DT.tv 11 rfl (Val.buildC (us := [(0, .int .u8 (IntKind.u8.wrap x28)), (1, .int .i64 x32)]) (ucs := [(0, [.int .u8 (IntKind.u8.wrap x28)]), (1, [.int .i64 x32])]) (cs := [.int .u8 (IntKind.u8.wrap x28), .int .i64 x32, .int .i64 0]) bt71 rfl rfl ⟨rfl, rfl, ⟨rfl, rfl, trivial⟩⟩ (by rfl)) ?_
  refine DT.one 12 rfl (by kernel_rfl) rfl ?_
  refine SP.lit (k := k_api_Instr) (xs := [(⟨IntKind.u8.wrap x28, x32, 0⟩ : api_Instr)]) (vs := [.agg #[.int .u8 (IntKind.u8.wrap x28), .int .i64 x32, .int .i64 0]]) (cells := [.int .u8 (IntKind.u8.wrap x28), .int .i64 x32, .int .i64 0]) Tryz.underlying39 inf71 rfl rfl rfl rfl rfl rfl rfl rfl (fun _ ap => ⟨[.int .u8 (IntKind.u8.wrap x28), .int .i64 x32, .int .i64 0], _, rfl, rfl, rfl⟩) rfl rfl rfl (fun v38 => go ?_)
  refine QE.atT (fun w2 hw => (St.selO [1] rfl rfl hw)) ?_
  refine DT.next (by kernel_rfl) ?_
  refine DA.one 13 rfl (by kernel_rfl) ?_
  refine SP.freezeS see 0 rfl ?_
  obtain ⟨hb, ho⟩ := must_some ho
  refine SP.append see 0 rfl 0 rfl Tryz.underlying39 inf71 rfl rfl hb rfl rfl rfl rfl rfl (fun v40 => ?_)
  clear hb
  refine go ?_
  refine QE.atA ?_
  refine DA.one 14 rfl (by kernel_rfl) (go ?_)
  refine QE.atA ?_
  refine DA.done (by kernel_rfl) (go ?_)
  obtain rfl := Option.some.inj ho
  exact QE.lower m25 (by omega) fun a w2 ha hw => ⟨(l22 ++ [(⟨IntKind.u8.wrap x28, x32, 0⟩ : api_Instr)]), (IntKind.i64.wrap (x24 + 2)), v40, (by omega), hr, ha.sub sb, (St.selP [5] rfl hw)⟩
 refine go ?_
 obtain rfl := fin ho hr
 exact QE.rt (fun _ h => St.selO [0] rfl rfl h)
def capstanlaw12_declared.f (args_0 : (List Int)) (l_1 : (List Int)) : Option api_Method :=
  (capstanlaw12_row.f l_1).bind fun t5 => some (⟨args_0, [], 1, false, 1048576, 256, 1024, t5⟩ : api_Method)
theorem capstanlaw12_declared.ok (args_0 : (List Int)) (l_1 : (List Int)) (v_args_0 v_l_1 : Value) (r : api_Method) (H : capstanlaw12_declared.f args_0 l_1 = some r) (w : World) (hV : Hp) (sV : Sub hV (hp w)) (h0 : slR (kInt .u8) hV v_args_0 args_0) (h1 : slR (kInt .i64) hV v_l_1 l_1) :
    Trip Tryz.prog 21 [v_args_0, v_l_1].toArray em hV w (fun v => HO.ex fun u0 : Value => HO.ex fun u1 : Value => HO.ex fun u2 : Value => HO.pand (v = .agg #[u0, u1, .int .u8 r.Result, .bool r.Reads, .int .i64 r.Fuel, .int .i64 r.Stack, .int .i64 r.Heap, u2]) (HO.seps [HO.ofP (slP (kInt .u8) u0 r.Args), slO (kInt .u8) 5 u1 r.Locals, slO k_api_Instr 71 u2 r.Code])) := by
 refine Trip.go 9 Tryz.func21 sV (aS h0 (aS h1 (All.nil _))) fun see => ?_
 have ho := H
 refine go ?_
 refine SP.alloc (cs := [(.slice none 0 0), (.slice none 0 0), .int .u8 0, .bool false, .int .i64 0, .int .i64 0, .int .i64 0, (.slice none 0 0)]) inf41 rfl rfl (fun b3 => go ?_)
 obtain ⟨t5, hc, ho⟩ := bind_some ho
 refine SP.callK see (caps := []) _ fn41 rfl rfl rfl rfl (fun w2 hP hs sub ap => capstanlaw12_row.ok _ _ _ hc w2 hP sub (ap.get 1 rfl)) (SP.k1 fun v6 => ?_)
 clear hc
 refine SP.have (fun w2 hw => slR.shape (St.pers 0 rfl see.sub see.dj hw)) (fun hs_v_args_0 => ?_)
 refine SP.have (fun w2 hw => slO.shape (St.own 0 rfl see.sub see.dj hw)) (fun hs_v6 => ?_)
 refine SP.val (Val.buildC (us := [(0, v_args_0), (2, .int .u8 1), (4, .int .i64 1048576), (5, .int .i64 256), (6, .int .i64 1024), (7, v6)]) (ucs := [(0, [v_args_0]), (2, [.int .u8 1]), (4, [.int .i64 1048576]), (5, [.int .i64 256]), (6, [.int .i64 1024]), (7, [v6])]) (cs := [v_args_0, (.slice none 0 0), .int .u8 1, .bool false, .int .i64 1048576, .int .i64 256, .int .i64 1024, v6]) bt41 rfl rfl ⟨rfl, one_cells hs_v_args_0, ⟨rfl, rfl, ⟨rfl, rfl, ⟨rfl, rfl, ⟨rfl, rfl, ⟨rfl, one_cells hs_v6, trivial⟩⟩⟩⟩⟩⟩ (by rfl)) rfl rfl rfl ?_
 refine SP.have (fun w2 hw => slR.shape (St.pers 0 rfl see.sub see.dj hw)) (fun hs_v_args_0 => ?_)
 refine SP.have (fun w2 hw => slO.shape (St.own 0 rfl see.sub see.dj hw)) (fun hs_v6 => ?_)
 refine SP.store (v := .agg #[v_args_0, (.slice none 0 0), .int .u8 1, .bool false, .int .i64 1048576, .int .i64 256, .int .i64 1024, v6]) (vs := [v_args_0, (.slice none 0 0), .int .u8 1, .bool false, .int .i64 1048576, .int .i64 256, .int .i64 1024, v6]) 1 (by rfl) sz41 (by rfl) (by rfl) (by rfl) (by rfl) (one_cons hs_v_args_0 (one_cons rfl (one_cons rfl (one_cons rfl (one_cons rfl (one_cons rfl (one_cons rfl (one_cons hs_v6 (rfl))))))))) (by rfl) (go ?_)
 obtain rfl := Option.some.inj ho
 exact QE.rt (fun _ h => St.selO [0, 1] rfl rfl (St.addO (slO.nil (kInt .u8) 5) h)) (rs := [.cell 4 41]) (vs := [.agg #[v_args_0, (.slice none 0 0), .int .u8 1, .bool false, .int .i64 1048576, .int .i64 256, .int .i64 1024, v6]]) (hv := ⟨RVs.cellA 1 rfl rfl Tryz.underlying41 rfl sz41, trivial⟩) (hk := fun a b p s => ⟨_, _, _, rfl, ⟨em, _, Dj.em_left _, Sub.em _, Sub.refl _, p.get 0 rfl, s⟩⟩)
def calls_named.f (m_0 : api_Module) (k_1 : Int) : Option Unit :=
  some ()
theorem calls_named.ok (m_0 : api_Module) (k_1 : Int) (v_m_0_Globals v_m_0_Pool v_m_0_Methods : Value) (r : Unit) (H : calls_named.f m_0 k_1 = some r) (w : World) (hV : Hp) (sV : Sub hV (hp w)) (h0 : slR k_api_Value hV v_m_0_Globals m_0.Globals) (h1 : slR k_api_Value hV v_m_0_Pool m_0.Pool) (h2 : slR k_api_Method hV v_m_0_Methods m_0.Methods) :
    Trip Tryz.prog 68 [.agg #[v_m_0_Globals, v_m_0_Pool, v_m_0_Methods, .int .i64 m_0.Migrate], .int .i64 k_1].toArray em hV w (fun v => HO.ex fun b0_ : Nat => HO.ex fun b1_ : Nat => HO.pand (v = .func (.func 91) #[] #[.pointer (some ⟨b0_, 0, none⟩), .pointer (some ⟨b1_, 0, none⟩)]) (HO.seps [HO.ofP (boxP b0_ [v_m_0_Globals, v_m_0_Pool, v_m_0_Methods, .int .i64 m_0.Migrate] 25), HO.ofP (boxP b1_ [.int .i64 k_1] 3)])) := by
 refine Trip.go 6 Tryz.func68 sV (aS h0 (aS h1 (aS h2 (All.nil _)))) fun see => ?_
 have ho := H
 refine go ?_
 refine SP.box rfl rfl rfl rfl fun b4 => ?_
 refine SP.box rfl rfl rfl rfl fun b6 => go ?_
 refine SP.val (Val.makeFunc (us := []) (vs := [.pointer (some ⟨b4, 0, none⟩), .pointer (some ⟨b6, 0, none⟩)]) rfl rfl) rfl rfl rfl (go ?_)
 refine QE.freezeB see 1 rfl ?_
 refine QE.freezeB see 0 rfl ?_
 exact QE.rt (fun _ h => h) (hk := fun a b p s => ⟨_, _, rfl, ⟨em, em, Dj.em_left _, Sub.em _, Sub.em _, p.get 1 rfl, ⟨em, em, Dj.em_left _, Sub.em _, Sub.em _, p.get 0 rfl, trivial⟩⟩⟩)
inductive calls_named_1_s1.S (S_ : Type) where
  | start
  | l1 (x15 : api_Method) (s30 : S_) (x31 : Int)
def calls_named_1_s1.F {S_ : Type} (Y : S_ → Int → Option (S_ × Bool)) (y0 : S_) (c0_1 : List api_Value) (c0_3 : List api_Value) (c0_5 : List api_Method) (c0_7 : Int) (c1_10 : Int) : calls_named_1_s1.S S_ → Option (calls_named_1_s1.S S_ ⊕ S_)
  | .start => (elt c0_5 c1_10).bind fun x15 => some (.inl (.l1 x15 y0 0))
  | .l1 x15 s30 x31 => if x31 < (x15.Code.length : Int) then ((elt x15.Code x31).bind fun x35 => (if x35.Op = 30 then ((Y s30 x35.A).bind fun y40 => some (!y40.2, y40.1)) else (some (false, s30))).bind fun t41 => if t41.1 = true then (some (.inr t41.2)) else (some (.inl (.l1 x15 t41.2 (IntKind.i64.wrap (x31 + 1)))))) else (some (.inr s30))
def calls_named_1_s1.f {S_ : Type} (Y : S_ → Int → Option (S_ × Bool)) (y0 : S_) (c0_1 : List api_Value) (c0_3 : List api_Value) (c0_5 : List api_Method) (c0_7 : Int) (c1_10 : Int) : Option S_ := runF (calls_named_1_s1.F Y y0 c0_1 c0_3 c0_5 c0_7 c1_10) .start
theorem calls_named_1_s1.ok {S_ : Type} (Y : S_ → Int → Option (S_ × Bool)) (y0 : S_) (c0_1 : List api_Value) (c0_3 : List api_Value) (c0_5 : List api_Method) (c0_7 c1_10 : Int) (v_c0_1 v_c0_3 v_c0_5 : Value) (b8 : Nat) (b11 : Nat) (r : S_) (H : calls_named_1_s1.f Y y0 c0_1 c0_3 c0_5 c0_7 c1_10 = some r) (w : World) (hV : Hp) (sV : Sub hV (hp w)) (h0 : slR k_api_Value hV v_c0_1 c0_1) (h1 : slR k_api_Value hV v_c0_3 c0_3) (h2 : slR k_api_Method hV v_c0_5 c0_5) (h3 : (boxP b8 [v_c0_1, v_c0_3, v_c0_5, .int .i64 c0_7] 25).p hV) (h4 : (boxP b11 [.int .i64 c1_10] 3).p hV) (lY : Nat) (I : S_ → HO) (hA : Hp) (sA : Sub hA (hp w)) (dA : Dj hV hA) (hI : (I y0).p hV hA) (hY : Go.Q.Yields Tryz.prog lY hV Y I (E1 (kInt .i64) false)) :
    Trip Tryz.prog 91 [.func (.yield lY) #[] #[], .pointer (some ⟨b8, 0, none⟩), .pointer (some ⟨b11, 0, none⟩)].toArray hA hV w (fun v => HO.pand (v = .tuple #[]) (HO.seps [I r])) := by
 have see : Sees w hA hV := ⟨sV, dA⟩
 refine Trip.of (P := Tryz.prog) (n := ⟨28, []⟩) Tryz.func91 rfl ⟨rfl, rfl⟩ rfl (St.beginA (os := [I y0]) sA (aS h0 (aS h1 (aS h2 (All.cons (x := boxP b8 [v_c0_1, v_c0_3, v_c0_5, .int .i64 c0_7] 25) h3 (All.cons (x := boxP b11 [.int .i64 c1_10] 3) h4 (All.nil _)))))) ⟨hA, em, Dj.em_right _, Sub.refl _, Sub.em _, hI, trivial⟩) ?_
 obtain ⟨n0, hi⟩ := runF_iff.1 H
 obtain ⟨m0, o, hm0, ho, hr⟩ := iter_some hi
 clear hi
 refine CP.seq ?_
 refine CP.region ?_
 refine SP.val (Val.fieldAddr Tryz.underlying25 rfl sz23 rfl) rfl rfl rfl ?_
 refine SP.val (Val.loadB1 see 3 rfl Tryz.underlying23 rfl rfl rfl) rfl rfl rfl ?_
 refine SP.val (Val.loadB1 see 4 rfl Tryz.underlying3 rfl rfl rfl) rfl rfl rfl ?_
 obtain ⟨x15, hx, ho⟩ := elt_bind ho
 refine SP.indexP see 2 rfl Tryz.underlying23 sz41 hx.1 hx.2 rfl rfl rfl rfl (fun p13 => ?_)
 clear hx
 refine SP.fieldP see 0 rfl Tryz.underlying41 rfl sz39 k_api_Method.part_Code rfl rfl rfl (fun p16 => ?_)
 refine SP.loadPS see 0 rfl Tryz.underlying39 rfl rfl rfl (fun v18 => go ?_)
 obtain rfl := Option.some.inj ho
 refine CP.loop (fun cl1 a w2 => ∃ s30 : S_, ∃ x31 : Int, cl1 ≤ m0 ∧ iter (calls_named_1_s1.F Y y0 c0_1 c0_3 c0_5 c0_7 c1_10) cl1 (.l1 x15 s30 x31) = some r ∧ Env ⟨28, []⟩ [(0, .func (.yield lY) #[] #[]), (11, v18), (12, .int .i64 (x15.Code.length : Int)), (13, .int .i64 x31)] a ∧ St w hA hV [slP k_api_Instr v18 x15.Code] [I s30] w2) m0 (fun a w2 ha hw => ⟨y0, 0, Nat.le_refl _, hr, ha.sub sb, (St.selP [0] rfl hw)⟩) ?_
 clear hr
 rintro cl1 a w2 ⟨s30, x31, hc_l1, hi, ha, hw⟩
 obtain ⟨m32, o, hm_m32, ho, hr⟩ := iter_some hi
 refine CP.app ha hw ?_
 clear ha hw a w2 hi
 refine go ?_
 refine CP.seq ?_
 refine CP.ci ho (fun ho => ?_) fun ho => ?_
 ·refine go ?_
  refine CP.seq (go ?_)
  obtain ⟨x35, hx, ho⟩ := elt_bind ho
  refine SP.indexP see 0 rfl Tryz.underlying39 sz71 hx.1 hx.2 rfl rfl rfl rfl (fun p33 => ?_)
  clear hx
  refine k_api_Instr.load see 0 rfl Tryz.underlying71 rfl sz71 rfl rfl rfl ?_
  refine SP.alloc (cs := [.int .u8 0, .int .i64 0, .int .i64 0]) inf71 rfl rfl (fun b36 => ?_)
  refine SP.store (v := .agg #[.int .u8 x35.Op, .int .i64 x35.A, .int .i64 x35.B]) (vs := [.int .u8 x35.Op, .int .i64 x35.A, .int .i64 x35.B]) 0 (by rfl) sz71 (by rfl) (by rfl) (by rfl) (by rfl) (by rfl) (by rfl) (go ?_)
  obtain ⟨t41, hg_t41, ho⟩ := bind_some ho
  refine SP.js 6 [0, 11, 12, 13] 26 (.bool t41.1) (fun w2 => St w hA hV [elP k_api_Instr p33 x35, slP k_api_Instr v18 x15.Code] [boxO b36 [.int .u8 x35.Op, .int .i64 x35.A, .int .i64 x35.B] 71, I t41.2] w2) ?_ ?_
  ·clear hg_t41
   refine go ?_
   refine CP.cb ho (fun ho => ?_) fun ho => ?_
   ·refine go ?_
    obtain rfl := fin ho hr
    exact QE.rt (fun _ h => St.selO [1] rfl rfl h)
   refine go ?_
   obtain rfl := Option.some.inj ho
   exact QE.lower m32 (by omega) fun a w2 ha hw => ⟨t41.2, (IntKind.i64.wrap (x31 + 1)), (by omega), hr, ha.sub sb, (St.selP [1] rfl (St.selO [1] rfl rfl hw))⟩
  refine SP.ci 20 hg_t41 (fun hq39 ho => ?_) fun hq39 ho => ?_
  ·refine go ?_
   refine SP.imp (fun w2 hw => St.selO [1, 0] rfl rfl hw) ?_
   obtain ⟨y40, hc, ho⟩ := bind_some ho
   refine SP.callY see hY (t := y40.1) (b := y40.2) hc rfl rfl rfl rfl (fun hP ap => ⟨_, rfl, ⟨_, rfl, rfl⟩⟩) ?_
   clear hc
   refine go ?_
   obtain rfl := Option.some.inj ho
   exact QE.jn fun w2 hw => (St.selO [1, 0] rfl rfl hw)
  refine go ?_
  obtain rfl := Option.some.inj ho
  exact QE.jn fun w2 hw => hw
 refine go ?_
 obtain rfl := fin ho hr
 exact QE.over (rs := []) (vs := []) Tryz.results91 rfl trivial (fun w2 h => St.done (fun a b p s => ⟨rfl, s⟩) (St.selO [0] rfl rfl h))
shelf_lay_g SlLaysM.n5 Slgm 5 at Tryz 39 as Tryz.sorti39
theorem srti39_trip {v : Value} {l : List Int} (hll : l.length < 4611686018427387904) {w : World} {hP h1 : Hp} (sub : Sub hP (hp w)) (s1 : Sub h1 (hp w)) (dj : Dj hP h1) (hI : (slO (kInt .i64) 3 v l).p hP h1) :
    Trip Tryz.prog 39 #[v] h1 hP w (fun r => HO.pand (r = .tuple #[]) (HO.seps [slO (kInt .i64) 3 v (l.mergeSort fun x y => decide (x ≤ y))])) := by
  have h := slO.rowTrip (P := Tryz.prog) (f := 39) (fun v => #[v]) (fun _ => .tuple #[]) (fun x => [Value.int .i64 x]) (fun h cs x => Iff.rfl) (fun d : Array Int => (d.toList.mergeSort fun x y => decide (x ≤ y)).toArray) (fun d => by simp) (fun blk cap d w hH hb hsz _ _ => ?_) (fun _ w hV sV => ?_) hll sub s1 dj hI
  · simpa using h
  · have := AnyM.slices_Sort_int Tryz.sorti39 blk 0 cap d.toList w (holdsOne.1 hH) hb (by simpa using hsz)
    refine this.mono fun e w' ⟨h1, n, os, h2⟩ => ⟨h1, n, os, h2.trans (Eq.symm sortOne)⟩
  · refine (AnyM.slices_Sort_int_none Tryz.sorti39 none 0 w).mono fun e w' ⟨he, hw⟩ => ?_
    subst hw
    exact ⟨_, he, Met.refl _, fun _ _ e _ => e, em, em, fun _ _ _ => rfl, fun _ _ _ => rfl, Dj.em_left _, Sub.em _, Sub.em _, rfl⟩
shelf_lay_g SlLaysN.n43 Slgn 43 at Tryz 40 as Tryz.compacti40
theorem compacti40_trip {v : Value} {l : List Int} (hll : l.length < 4611686018427387904) {w : World} {hP h1 : Hp} (sub : Sub hP (hp w)) (s1 : Sub h1 (hp w)) (dj : Dj hP h1) (hI : (slO (kInt .i64) 3 v l).p hP h1) :
    Trip Tryz.prog 40 #[v] h1 hP w (fun r => HO.ex fun u : Value => HO.pand (r = u) (HO.seps [slO (kInt .i64) 3 u (Lib.compact l)])) := by
  have hle : (Lib.compact l).length ≤ l.length := compact_le l
  have h := slO.rowTrip (P := Tryz.prog) (f := 40) (fun v => #[v]) (fun v => shrinkV v (Lib.compact l).length) (fun x => [Value.int .i64 x]) (fun h cs x => Iff.rfl) (fun d : Array Int => (Lib.compact d.toList ++ List.replicate (d.size - (Lib.compact d.toList).length) 0).toArray) (fun d => by have := compact_le d.toList; simp at this ⊢; omega) (fun blk cap d w hH hb hsz hcap hd => ?_) (fun h0 w hV sV => ?_) hll sub s1 dj hI
  · exact slO.shrinkT (by simp only [List.length_append]; omega) (by simp) h
  · have := AnyG.slices_Compact_int Tryz.compacti40 blk 0 cap d.toList w (holdsOne.1 hH) (by simp; omega) (by simpa using hcap)
    refine this.mono fun e w' ⟨h1, n, h2⟩ => ⟨?_, n, #[], h2.trans (Eq.trans ?_ (Eq.symm sortOne))⟩
    · rw [h1, hd]; rfl
    · rw [grow_none]; simp
  · refine (AnyG.slices_Compact_int_empty Tryz.compacti40 none 0 w).mono fun e w' ⟨he, hw⟩ => ?_
    subst hw
    exact ⟨_, he, Met.refl _, fun _ _ e _ => e, em, em, fun _ _ _ => rfl, fun _ _ _ => rfl, Dj.em_left _, Sub.em _, Sub.em _, rfl⟩
def calls_Whom.y1 (m_0 : api_Module) (k_1 : Int) (l39 : List Int) (x41 : Int) (x42 : Int) : Option ((((List Int) × Int) × Bool) × Bool) :=
  if ((decide (x42 < 0)) || (decide (x42 ≥ (m_0.Methods.length : Int)))) = true then (some (((l39, 2), true), false)) else (if (l39.length + [x42].length) * 8 ≤ 140737488355328 then (some (((l39 ++ [x42], x41), false), true)) else none)
def calls_Whom.f (m_0 : api_Module) (k_1 : Int) : Option ((List Int) × Int) :=
  if ((decide (k_1 < 0)) || (decide (k_1 ≥ (m_0.Methods.length : Int)))) = true then (some ([], 2)) else ((calls_named.f m_0 k_1).bind fun t15 => (calls_named_1_s1.f (fun s x => bif s.2 then none else calls_Whom.y1 m_0 k_1 s.1.1 s.1.2 x) (([], 0), false) m_0.Globals m_0.Pool m_0.Methods m_0.Migrate k_1).bind fun s55 => match s55 with | ((l39, x41), lf57) => if lf57 = true then (some ([], x41)) else (if l39.length < 4611686018427387904 then (if (l39.mergeSort fun x y => decide (x ≤ y)).length < 4611686018427387904 then (some ((Lib.compact (l39.mergeSort fun x y => decide (x ≤ y))), 0)) else none) else none))
theorem calls_Whom.ok (m_0 : api_Module) (k_1 : Int) (v_m_0_Globals v_m_0_Pool v_m_0_Methods : Value) (r : (List Int) × Int) (H : calls_Whom.f m_0 k_1 = some r) (w : World) (hV : Hp) (sV : Sub hV (hp w)) (h0 : slR k_api_Value hV v_m_0_Globals m_0.Globals) (h1 : slR k_api_Value hV v_m_0_Pool m_0.Pool) (h2 : slR k_api_Method hV v_m_0_Methods m_0.Methods) :
    Trip Tryz.prog 38 [.agg #[v_m_0_Globals, v_m_0_Pool, v_m_0_Methods, .int .i64 m_0.Migrate], .int .i64 k_1].toArray em hV w (fun v => HO.ex fun u0 : Value => HO.pand (v = .tuple #[u0, .int .i64 r.2]) (HO.seps [slO (kInt .i64) 3 u0 r.1])) := by
 have see : Sees w em hV := ⟨sV, Dj.em_right _⟩
 refine Trip.ofM (P := Tryz.prog) (n := ⟨38, []⟩) Tryz.func38 rfl ⟨rfl, rfl⟩ rfl (St.begin (aS h0 (aS h1 (aS h2 (All.nil _))))) ?_
 have ho := H
 refine go ?_
 refine SP.box rfl rfl rfl rfl fun b4 => ?_
 refine SP.alloc (cs := [(.slice none 0 0)]) inf55 rfl rfl (fun b6 => ?_)
 refine SP.alloc (cs := [.int .i64 0]) inf45 rfl rfl (fun b8 => go ?_)
 refine CP.seq (go ?_)
 refine SP.jn 6 [1, 2, 4, 5] 16 (.bool ((decide (k_1 < 0)) || (decide (k_1 ≥ (m_0.Methods.length : Int))))) ?_ ?_
 ·refine go ?_
  refine CP.cb ho (fun ho => ?_) fun ho => ?_
  ·refine go ?_
   refine SP.store (v := (.slice none 0 0)) (vs := [(.slice none 0 0)]) 1 (by rfl) sz55 (by rfl) (by rfl) (by rfl) (by rfl) (by rfl) (by rfl) ?_
   refine SP.store (v := .int .i64 2) (vs := [.int .i64 2]) 0 (by rfl) sz45 (by rfl) (by rfl) (by rfl) (by rfl) (by rfl) (by rfl) (go ?_)
   obtain rfl := Option.some.inj ho
   exact QE.retsM 3 rfl (rs := [.cell 4 55, .cell 5 45]) (vs := [(.slice none 0 0), .int .i64 2]) Tryz.results38 ⟨RVs.cell1 1 rfl rfl Tryz.underlying55 rfl, RVs.cell1 0 rfl rfl Tryz.underlying45 rfl, trivial⟩ (fun w2 h => St.done (fun a b p s => ⟨_, rfl, s⟩) (St.selO [0] rfl rfl (St.addO (slO.nil (kInt .i64) 3) h)))
  refine go ?_
  refine SP.alloc (cs := [(.slice none 0 0)]) inf55 rfl rfl (fun b13 => go ?_)
  refine CP.seq (go ?_)
  refine SP.val (Val.loadA 3 rfl Tryz.underlying25 rfl sz25 rfl rfl rfl) rfl rfl rfl (go ?_)
  obtain ⟨t15, hc, ho⟩ := bind_some ho
  refine SP.callK see (caps := []) _ fn68 rfl rfl rfl rfl (fun w2 hP hs sub ap => calls_named.ok _ _ _ _ _ _ hc w2 hP sub (ap.get 0 rfl) (ap.get 1 rfl) (ap.get 2 rfl)) (SP.k2 fun b16 b17 => ?_)
  refine SP.imp (fun w2 h => St.toP 0 rfl h) ?_
  refine SP.imp (fun w2 h => St.toP 0 rfl h) ?_
  clear hc
  refine go ?_
  obtain ⟨s55, hc, ho⟩ := bind_some ho
  obtain ⟨⟨l39, x41⟩, lf57⟩ := s55
  refine CP.imp (A' := fun w2 => St w em hV [boxP b17 [.int .i64 k_1] 3, boxP b16 [v_m_0_Globals, v_m_0_Pool, v_m_0_Methods, .int .i64 m_0.Migrate] 25, slP k_api_Value v_m_0_Globals m_0.Globals, slP k_api_Value v_m_0_Pool m_0.Pool, slP k_api_Method v_m_0_Methods m_0.Methods] [(fun s : (List Int) × Int => (fun (l39 : List Int) (x41 : Int) => HO.ex fun v40 : Value => HO.seps [slO (kInt .i64) 3 v40 l39, boxO b13 [v40] 55, boxO b8 [.int .i64 x41] 45, boxO b6 [(.slice none 0 0)] 55, boxO b4 [v_m_0_Globals, v_m_0_Pool, v_m_0_Methods, .int .i64 m_0.Migrate] 25]) s.1 s.2) ([], 0), marksO []] w2) (fun w2 hw => St.shut (.slice none 0 0) (St.group _ (St.addO (slO.nil (kInt .i64) 3) hw))) ?_
  refine CP.rangeR see (J := fun s : (List Int) × Int => (fun (l39 : List Int) (x41 : Int) => HO.ex fun v40 : Value => HO.seps [slO (kInt .i64) 3 v40 l39, boxO b13 [v40] 55, boxO b8 [.int .i64 x41] 45, boxO b6 [(.slice none 0 0)] 55, boxO b4 [v_m_0_Globals, v_m_0_Pool, v_m_0_Methods, .int .i64 m_0.Migrate] 25]) s.1 s.2) (Y := fun s x => bif s.2 then none else calls_Whom.y1 m_0 k_1 s.1.1 s.1.2 x) (s0 := ([], 0)) (sf := (l39, x41)) (E := (E1 (kInt .i64) false)) (caps := [.pointer (some ⟨b16, 0, none⟩), .pointer (some ⟨b17, 0, none⟩)]) fn91 rfl (σ1 := [(2, .pointer (some ⟨b4, 0, none⟩)), (4, .pointer (some ⟨b6, 0, none⟩)), (5, .pointer (some ⟨b8, 0, none⟩)), (6, .pointer (some ⟨b13, 0, none⟩))]) ⟨rfl, rfl, rfl, rfl, trivial⟩ rfl (E1.len rfl) (fun _ _ => rfl) (fun lY I w2 hP h1 sub s1 d1 ap hI hY => calls_named_1_s1.ok (fun s x => bif s.2 then none else calls_Whom.y1 m_0 k_1 s.1.1 s.1.2 x) (([], 0), false) m_0.Globals m_0.Pool m_0.Methods m_0.Migrate k_1 _ _ _ _ _ _ hc w2 hP sub (ap.get 2 rfl) (ap.get 3 rfl) (ap.get 4 rfl) (ap.get 1 rfl) (ap.get 0 rfl) lY I h1 s1 d1 hI hY) ?_ ho (fun D56 ho => ?_) (fun D56 ho => ?_)
  ·rintro lY LO hLO s_ x42 t l b vals ho w3 hP3 h3 sub3 s3 d3 ap3 hE
   obtain ⟨l39, x41⟩ := s_
   obtain ⟨q43, rfl, cs0, hk0, e0⟩ := hE
   replace e0 : [q43] = cs0 := e0
   subst e0
   obtain rfl : q43 = .int .i64 x42 := (List.cons.inj hk0).1
   have see : Sees w3 h3 hP3 := ⟨sub3, d3⟩
   refine CP.weak (σ' := [(2, .pointer (some ⟨b4, 0, none⟩)), (4, .pointer (some ⟨b6, 0, none⟩)), (5, .pointer (some ⟨b8, 0, none⟩)), (6, .pointer (some ⟨b13, 0, none⟩)), (20, .int .i64 x42)]) ⟨rfl, rfl, rfl, rfl, rfl, trivial⟩ (fun _ h => h) ?_
   refine CP.ex (fun w2 h => St.open h) (fun v40 => ?_)
   refine CP.imp (fun w2 h => St.seps h) (go ?_)
   refine QE.beginR hLO 5 rfl (go ?_)
   refine CP.seq (go ?_)
   refine SP.jn 6 [4, 5, 6, 7] 29 (.bool ((decide (x42 < 0)) || (decide (x42 ≥ (m_0.Methods.length : Int))))) ?_ ?_
   ·refine go ?_
    refine CP.cb ho (fun ho => ?_) fun ho => ?_
    ·refine go ?_
     refine SP.store (v := (.slice none 0 0)) (vs := [(.slice none 0 0)]) 3 (by rfl) sz55 (by rfl) (by rfl) (by rfl) (by rfl) (by rfl) (by rfl) ?_
     refine SP.store (v := .int .i64 2) (vs := [.int .i64 2]) 2 (by rfl) sz45 (by rfl) (by rfl) (by rfl) (by rfl) (by rfl) (by rfl) (go ?_)
     obtain ⟨h_, rfl⟩ := Prod.mk.inj (Option.some.inj ho)
     obtain ⟨rfl, rfl⟩ := Prod.mk.inj h_
     exact QE.overR hLO 5 rfl fun w2 hw => St.shut v40 (St.group _ (St.selP [] rfl hw))
    refine go ?_
    refine SP.lit (k := (kInt .i64)) (xs := [x42]) (vs := [.int .i64 x42]) (cells := [.int .i64 x42]) Tryz.underlying55 inf3 rfl rfl rfl rfl rfl rfl rfl rfl (fun _ ap => ⟨[.int .i64 x42], _, rfl, rfl, rfl⟩) rfl rfl rfl (fun v46 => ?_)
    refine SP.freezeS see 0 rfl ?_
    obtain ⟨hb, ho⟩ := must_some ho
    refine SP.append see 0 rfl 0 rfl Tryz.underlying55 inf3 rfl rfl hb rfl rfl rfl rfl rfl (fun v48 => ?_)
    clear hb
    refine SP.have (fun w2 hw => slO.shape (St.own 0 rfl see.sub see.dj hw)) (fun hs_v48 => ?_)
    refine SP.store (v := v48) (vs := [v48]) 1 (by rfl) sz55 (by rfl) (by rfl) (by rfl) (one_cells hs_v48) (one_cons hs_v48 (rfl)) (by rfl) (go ?_)
    obtain ⟨h_, rfl⟩ := Prod.mk.inj (Option.some.inj ho)
    obtain ⟨rfl, rfl⟩ := Prod.mk.inj h_
    exact QE.overN hLO 5 rfl fun w2 hw => St.shut v48 (St.group _ (St.selP [] rfl hw))
   refine SP.bb 23 (fun hq45 => ?_) fun hq45 => ?_
   ·refine go ?_
    exact QE.jb (or_t hq45) fun w2 hw => hw
   refine go ?_
   exact QE.jb (or_f hq45 rfl) fun w2 hw => hw
  ·refine QE.ex (fun w2 h => St.open h) (fun v40 => ?_)
   refine QE.imp (fun w2 h => St.seps h) (go ?_)
   obtain rfl := Option.some.inj ho
   exact QE.retsM 5 rfl (rs := [.cell 4 55, .cell 5 45]) (vs := [(.slice none 0 0), .int .i64 x41]) Tryz.results38 ⟨RVs.cell1 3 rfl rfl Tryz.underlying55 rfl, RVs.cell1 2 rfl rfl Tryz.underlying45 rfl, trivial⟩ (fun w2 h => St.done (fun a b p s => ⟨_, rfl, s⟩) (St.selO [0] rfl rfl (St.addO (slO.nil (kInt .i64) 3) h)))
  refine QE.ex (fun w2 h => St.open h) (fun v40 => ?_)
  refine QE.imp (fun w2 h => St.seps h) (go ?_)
  obtain ⟨hb, ho⟩ := must_some ho
  refine SP.callA see (caps := []) (fun r => HO.pand (r = .tuple #[]) (HO.seps [slO (kInt .i64) 3 v40 (l39.mergeSort fun x y => decide (x ≤ y))])) fn39 rfl rfl rfl rfl (fun w2 hP h1 sub s1 d1 ap hI => srti39_trip hb sub s1 d1 hI) (SP.k0 ?_)
  clear hb
  refine go ?_
  obtain ⟨hb, ho⟩ := must_some ho
  refine SP.callA see (caps := []) (fun r => HO.ex fun u : Value => HO.pand (r = u) (HO.seps [slO (kInt .i64) 3 u (Lib.compact (l39.mergeSort fun x y => decide (x ≤ y)))])) fn40 rfl rfl rfl rfl (fun w2 hP h1 sub s1 d1 ap hI => compacti40_trip hb sub s1 d1 hI) (SP.k1 fun v61 => ?_)
  clear hb
  refine SP.have (fun w2 hw => slO.shape (St.own 0 rfl see.sub see.dj hw)) (fun hs_v61 => ?_)
  refine SP.store (v := v61) (vs := [v61]) 3 (by rfl) sz55 (by rfl) (by rfl) (by rfl) (one_cells hs_v61) (one_cons hs_v61 (rfl)) (by rfl) ?_
  refine SP.store (v := .int .i64 0) (vs := [.int .i64 0]) 2 (by rfl) sz45 (by rfl) (by rfl) (by rfl) (by rfl) (by rfl) (by rfl) (go ?_)
  obtain rfl := Option.some.inj ho
  exact QE.retsM 5 rfl (rs := [.cell 4 55, .cell 5 45]) (vs := [v61, .int .i64 0]) Tryz.results38 ⟨RVs.cell1 3 rfl rfl Tryz.underlying55 rfl, RVs.cell1 2 rfl rfl Tryz.underlying45 rfl, trivial⟩ (fun w2 h => St.done (fun a b p s => ⟨_, rfl, s⟩) (St.selO [0] rfl rfl h))
 refine SP.bb 10 (fun hq11 => ?_) fun hq11 => ?_
 ·refine go ?_
  exact QE.jb (or_t hq11) fun w2 hw => hw
 refine go ?_
 exact QE.jb (or_f hq11 rfl) fun w2 hw => hw
inductive calls_all.S where
  | start
  | l1 (l18 : List (List Int)) (x20 : Int)
def calls_all.F (m_0 : api_Module) : calls_all.S → Option (calls_all.S ⊕ ((List (List Int)) × Int))
  | .start => some (.inl (.l1 [] 0))
  | .l1 l18 x20 => if x20 < (m_0.Methods.length : Int) then ((calls_Whom.f m_0 x20).bind fun t22 => if t22.2 ≠ 0 then (some (.inr ([], t22.2))) else (if (l18.length + [t22.1].length) * 24 ≤ 140737488355328 then (some (.inl (.l1 (l18 ++ [t22.1]) (IntKind.i64.wrap (x20 + 1))))) else none)) else (some (.inr (l18, 0)))
def calls_all.f (m_0 : api_Module) : Option ((List (List Int)) × Int) := runF (calls_all.F m_0) .start
theorem calls_all.ok (m_0 : api_Module) (v_m_0_Globals v_m_0_Pool v_m_0_Methods : Value) (r : (List (List Int)) × Int) (H : calls_all.f m_0 = some r) (w : World) (hV : Hp) (sV : Sub hV (hp w)) (h0 : slR k_api_Value hV v_m_0_Globals m_0.Globals) (h1 : slR k_api_Value hV v_m_0_Pool m_0.Pool) (h2 : slR k_api_Method hV v_m_0_Methods m_0.Methods) :
    Trip Tryz.prog 50 [.agg #[v_m_0_Globals, v_m_0_Pool, v_m_0_Methods, .int .i64 m_0.Migrate]].toArray em hV w (fun v => HO.ex fun u0 : Value => HO.pand (v = .tuple #[u0, .int .i64 r.2]) (HO.seps [slO (kSl (kInt .i64)) 55 u0 r.1])) := by
 refine Trip.go 29 Tryz.func50 sV (aS h0 (aS h1 (aS h2 (All.nil _)))) fun see => ?_
 obtain ⟨n0, hi⟩ := runF_iff.1 H
 obtain ⟨m0, o, hm0, ho, hr⟩ := iter_some hi
 clear hi
 refine go ?_
 refine SP.box rfl rfl rfl rfl fun b4 => go ?_
 refine CP.seq (go ?_)
 obtain rfl := Option.some.inj ho
 refine CP.loop (fun cl1 a w2 => ∃ l18 : List (List Int), ∃ x20 : Int, ∃ v19 : Value, cl1 ≤ m0 ∧ iter (calls_all.F m_0) cl1 (.l1 l18 x20) = some r ∧ Env ⟨29, []⟩ [(1, .pointer (some ⟨b4, 0, none⟩)), (4, v19), (10, .int .i64 (m_0.Methods.length : Int)), (11, .int .i64 x20)] a ∧ St w em hV [slP k_api_Value v_m_0_Globals m_0.Globals, slP k_api_Value v_m_0_Pool m_0.Pool, slP k_api_Method v_m_0_Methods m_0.Methods] [slO (kSl (kInt .i64)) 55 v19 l18, boxO b4 [v_m_0_Globals, v_m_0_Pool, v_m_0_Methods, .int .i64 m_0.Migrate] 25] w2) m0 (fun a w2 ha hw => ⟨[], 0, (.slice none 0 0), Nat.le_refl _, hr, ha.sub sb, (St.addO (slO.nil (kSl (kInt .i64)) 55) hw)⟩) ?_
 clear hr
 rintro cl1 a w2 ⟨l18, x20, v19, hc_l1, hi, ha, hw⟩
 obtain ⟨m21, o, hm_m21, ho, hr⟩ := iter_some hi
 refine CP.app ha hw ?_
 clear ha hw a w2 hi
 refine go ?_
 refine CP.seq ?_
 refine CP.ci ho (fun ho => ?_) fun ho => ?_
 ·refine go ?_
  refine CP.seq (go ?_)
  refine SP.val (Val.loadA 1 rfl Tryz.underlying25 rfl sz25 rfl rfl rfl) rfl rfl rfl (go ?_)
  obtain ⟨t22, hc, ho⟩ := bind_some ho
  refine SP.callK see (caps := []) _ fn38 rfl rfl rfl rfl (fun w2 hP hs sub ap => calls_Whom.ok _ _ _ _ _ _ hc w2 hP sub (ap.get 0 rfl) (ap.get 1 rfl) (ap.get 2 rfl)) (SP.k1 fun v23 => ?_)
  clear hc
  refine go ?_
  refine CP.seq (go ?_)
  refine CP.ci ho (fun ho => ?_) fun ho => ?_
  ·refine go ?_
   obtain rfl := fin ho hr
   exact QE.rt (fun _ h => St.selO [0] rfl rfl (St.addO (slO.nil (kSl (kInt .i64)) 55) h))
  refine go ?_
  refine SP.freezeS see 0 rfl ?_
  refine SP.litS (k := (kSl (kInt .i64))) (xs := [t22.1]) (vs := [v23]) Tryz.underlying103 inf55 rfl rfl rfl rfl rfl rfl (fun _ ap => ⟨slR.cells1 (ap.get 0 rfl), trivial⟩) (fun _ ap => ⟨[v23], _, rfl, ⟨_, rfl, ap.get 0 rfl⟩, rfl⟩) rfl rfl rfl (fun v26 => ?_)
  refine SP.freezeS see 0 rfl ?_
  obtain ⟨hb, ho⟩ := must_some ho
  refine SP.append see 0 rfl 0 rfl Tryz.underlying103 inf55 rfl rfl hb rfl rfl rfl rfl rfl (fun v28 => ?_)
  clear hb
  refine go ?_
  obtain rfl := Option.some.inj ho
  exact QE.lower m21 (by omega) fun a w2 ha hw => ⟨(l18 ++ [t22.1]), (IntKind.i64.wrap (x20 + 1)), v28, (by omega), hr, ha.sub sb, (St.selP [2, 3, 4] rfl hw)⟩
 refine go ?_
 obtain rfl := fin ho hr
 exact QE.rt (fun _ h => St.selO [0] rfl rfl h)
shelf_lay_g SlLaysZI.n7 Ggz 7 at Tryz 52 as Tryz.keys52
shelf_lay_g SlLaysZI.n6 Ggz 6 at Tryz 51 as Tryz.sorted51
open Go.RowKit Go.Maps Go.Sort Go.Shelf in
theorem sorts51 (m : Nat) : AnyZI.SortsIn Tryz.prog Tryz.sorted51_ren Fence.wide m :=
  ⟨fun blk off cap ss W hH hblk hsz => callsIn_wide.2 (AnyM.slices_Sort_int Tryz.sorti39 blk off cap ss W hH hblk hsz),
   fun p cap W => callsIn_wide.2 (AnyM.slices_Sort_int_none Tryz.sorti39 p cap W)⟩
theorem keys52_trip (b : Nat) (w : World) (hV : Hp) : Trip Tryz.prog 52 #[.map (some b)] em hV w (fun v => HO.ex fun c : Nat => HO.pand (v = .func (.func 78) #[] #[.pointer (some ⟨c, 0, none⟩)]) (HO.seps [boxO c [.map (some b)] 106])) := by
  have cK : CallsIn Fence.wide 5 Tryz.prog 52 #[.map (some b)] w fun e w' => e = .returned (.func (.func 78) #[] #[.pointer (some ⟨w.heap.size, 0, none⟩)]) ∧ w' = w.alloc (.cells #[.map (some b)] 106) := AnyZI.keys_in Tryz.keys52 Fence.wide 5 trivial rfl (some b) w
  refine ((callsIn_wide (n := 5)).1 cK).mono fun e w' ⟨he, hw⟩ => ?_
  subst he; subst hw
  exact St.done (os := [boxO w.heap.size [.map (some b)] 106]) (fun a b p s => ⟨_, rfl, s⟩) ((St.begin (All.nil hV)).box [.map (some b)] 106)
open Go.RowKit Go.Maps Go.Sort Go.Shelf in
theorem sorted51_trip {β : Type} {kv : β → Value} {m : List (Int × β)} {b c : Nat} (ok : okKeys m = true) (w : World) (h1 : (boxO c [.map (some b)] 106).p (hp w) (hp w)) (h2 : (mapO b .i64 kv m).p (hp w) (hp w)) :
    Trip Tryz.prog 51 #[.func (.func 78) #[] #[.pointer (some ⟨c, 0, none⟩)]] em (hp w) w (fun r => HO.ex fun u : Value => HO.pand (r = u) (HO.seps [slO (kInt .i64) 3 u (sortedKeys m)])) := by
  obtain ⟨D0, hown, hperm, hsize⟩ := ownsOf Tryz.underlying3 h2 ok
  have hcell : w.heap[c]? = some (.cells #[.map (some b)] 106 (0, 0)) := h1
  have hlen : m.length ≤ 1000000 := by simp only [okKeys, Bool.and_eq_true, decide_eq_true_eq] at ok; exact ok.2
  have hseq : SeqGives Fence.wide 2 Tryz.prog 78 #[.pointer (some ⟨c, 0, none⟩)] encZ (fun ss => ss.Perm (intKeys D0)) (Maps.size D0) w :=
    AnyZI.keys_gives (ρ := Tryz.keys52_ren) { Tryz.keys52 with } Fence.wide _ trivial rfl (by omega) c b m.length D0 _ (Array.getElem?_eq_some_iff.1 hcell).1 (by simp [World.cell?, hcell]) hown
  have cS := AnyZI.sorted_in Tryz.sorted51 Fence.wide 5 trivial trivial trivial trivial rfl (by omega) (sorts51 _) (enters_of Tryz.func39 (by kernel_rfl) rfl) 78 #[.pointer (some ⟨c, 0, none⟩)] trivial (enters_of Tryz.func78 (by kernel_rfl) rfl) _ _ (by rw [hsize]; simp only [maxLen]; omega) (by rw [hsize]; omega) _ hseq
  change CallsIn _ _ Tryz.prog 51 _ _ _ at cS
  refine ((callsIn_wide (n := 5)).1 cS).mono fun e w' ⟨v, ss, he, hS, hrow, hnil, hb⟩ => ?_
  subst he
  have e1 : (ss.mergeSort fun x y => decide (x ≤ y)) = sortedKeys m := mergeSort_of_perm_i (hS.trans hperm)
  have e2 : ss.length = (sortedKeys m).length := by rw [← e1, List.length_mergeSort]
  rw [e1, e2] at hrow
  exact owned_trip (k := kInt .i64) hrow hb (flat_ints _)
inductive slices_Index_int_int.S where
  | start
  | l1 (x6 : Int)
def slices_Index_int_int.F (s_0 : (List Int)) (v_1 : Int) : slices_Index_int_int.S → Option (slices_Index_int_int.S ⊕ Int)
  | .start => some (.inl (.l1 0))
  | .l1 x6 => if x6 < (s_0.length : Int) then ((elt s_0 x6).bind fun x10 => if v_1 = x10 then (some (.inr x6)) else (some (.inl (.l1 (IntKind.i64.wrap (x6 + 1)))))) else (some (.inr (-1)))
def slices_Index_int_int.f (s_0 : (List Int)) (v_1 : Int) : Option Int := runF (slices_Index_int_int.F s_0 v_1) .start
theorem slices_Index_int_int.ok (s_0 : (List Int)) (v_1 : Int) (v_s_0 : Value) (r : Int) (H : slices_Index_int_int.f s_0 v_1 = some r) (w : World) (hV : Hp) (sV : Sub hV (hp w)) (h0 : slR (kInt .i64) hV v_s_0 s_0) :
    Trip Tryz.prog 79 [v_s_0, .int .i64 v_1].toArray em hV w (fun v => HO.pure (v = .int .i64 r)) := by
 refine Trip.go 19 Tryz.func79 sV (aS h0 (All.nil _)) fun see => ?_
 obtain ⟨n0, hi⟩ := runF_iff.1 H
 obtain ⟨m0, o, hm0, ho, hr⟩ := iter_some hi
 clear hi
 refine go ?_
 refine CP.seq (go ?_)
 obtain rfl := Option.some.inj ho
 refine CP.loop (fun cl1 a w2 => ∃ x6 : Int, cl1 ≤ m0 ∧ iter (slices_Index_int_int.F s_0 v_1) cl1 (.l1 x6) = some r ∧ Env ⟨19, []⟩ [(0, v_s_0), (1, .int .i64 v_1), (7, .int .i64 (s_0.length : Int)), (8, .int .i64 x6)] a ∧ St w em hV [slP (kInt .i64) v_s_0 s_0] [] w2) m0 (fun a w2 ha hw => ⟨0, Nat.le_refl _, hr, ha.sub sb, hw⟩) ?_
 clear hr
 rintro cl1 a w2 ⟨x6, hc_l1, hi, ha, hw⟩
 obtain ⟨m7, o, hm_m7, ho, hr⟩ := iter_some hi
 refine CP.app ha hw ?_
 clear ha hw a w2 hi
 refine go ?_
 refine CP.seq ?_
 refine CP.ci ho (fun ho => ?_) fun ho => ?_
 ·refine go ?_
  refine CP.seq (go ?_)
  obtain ⟨x10, hx, ho⟩ := elt_bind ho
  refine SP.indexP see 0 rfl Tryz.underlying55 sz3 hx.1 hx.2 rfl rfl rfl rfl (fun p8 => ?_)
  clear hx
  refine SP.val (Val.loadP1 see 0 rfl (fun _ _ e => e) Tryz.underlying3 rfl rfl) rfl rfl rfl (go ?_)
  refine CP.ci ho (fun ho => ?_) fun ho => ?_
  ·refine go ?_
   obtain rfl := fin ho hr
   exact QE.rt (fun _ h => h)
  refine go ?_
  obtain rfl := Option.some.inj ho
  exact QE.lower m7 (by omega) fun a w2 ha hw => ⟨(IntKind.i64.wrap (x6 + 1)), (by omega), hr, ha.sub sb, (St.selP [1] rfl hw)⟩
 refine go ?_
 obtain rfl := fin ho hr
 exact QE.rt (fun _ h => h)
def slices_Contains_int_int.f (s_0 : (List Int)) (v_1 : Int) : Option Bool :=
  (slices_Index_int_int.f s_0 v_1).bind fun t2 => some (decide (t2 ≥ 0))
theorem slices_Contains_int_int.ok (s_0 : (List Int)) (v_1 : Int) (v_s_0 : Value) (r : Bool) (H : slices_Contains_int_int.f s_0 v_1 = some r) (w : World) (hV : Hp) (sV : Sub hV (hp w)) (h0 : slR (kInt .i64) hV v_s_0 s_0) :
    Trip Tryz.prog 53 [v_s_0, .int .i64 v_1].toArray em hV w (fun v => HO.pure (v = .bool r)) := by
 refine Trip.go 9 Tryz.func53 sV (aS h0 (All.nil _)) fun see => ?_
 have ho := H
 refine go ?_
 obtain ⟨t2, hc, ho⟩ := bind_some ho
 refine SP.callV see (caps := []) (.int .i64 t2) fn79 rfl rfl rfl rfl (fun w2 hP hs sub ap => slices_Index_int_int.ok _ _ _ _ hc w2 hP sub (ap.get 0 rfl)) ?_
 clear hc
 refine go ?_
 obtain rfl := Option.some.inj ho
 exact QE.rt (fun _ h => h)
inductive calls_Order.S where
  | start
  | l1 (t6 : (List (List Int)) × Int) (l131 : List (Int × Int)) (x132 : Int)
  | l2 (t6 : (List (List Int)) × Int) (l192 : List (Int × Int)) (l194 : List Int)
  | l3 (t6 : (List (List Int)) × Int) (l192 : List (Int × Int)) (l194 : List Int) (x206 : Int)
  | l4 (t6 : (List (List Int)) × Int) (l194 : List Int) (x211 : Int) (l229 : List (Int × Int)) (l230 : List (Int × Int))
  | p5 (t6 : (List (List Int)) × Int) (l194 : List Int) (x211 : Int) (l229 : List (Int × Int)) (k236 : Int) (x237 : Int) (l238 : List (Int × Int))
def calls_Order.j1 (m_0 : api_Module) (t6 : (List (List Int)) × Int) (l192 : List (Int × Int)) (l194 : List Int) (x211 : Int) : Option (List calls_Order.S ⊕ ((List Int) × Int)) :=
  if x211 < 0 then (some (.inr ([], 110))) else (some (.inl [.l4 t6 l194 x211 (mdel l192 x211) (mdel l192 x211)]))
def calls_Order.F (m_0 : api_Module) : calls_Order.S → Option (List calls_Order.S ⊕ ((List Int) × Int))
  | .start => (calls_all.f m_0).bind fun t6 => if t6.2 ≠ 0 then (some (.inr ([], t6.2))) else (some (.inl [.l1 t6 ([] : List (Int × Int)) 0]))
  | .l1 t6 l131 x132 => if x132 < (t6.1.length : Int) then ((elt t6.1 x132).bind fun x135 => some (.inl [.l1 t6 (mset l131 x132 (x135.length : Int)) (IntKind.i64.wrap (x132 + 1))])) else (some (.inl [.l2 t6 l131 []]))
  | .l2 t6 l192 l194 => if (l192.length : Int) > 0 then (if okKeys l192 = true then (some (.inl [.l3 t6 l192 l194 0])) else none) else (some (.inr (l194, 0)))
  | .l3 t6 l192 l194 x206 => if x206 < ((sortedKeys l192).length : Int) then ((elt (sortedKeys l192) x206).bind fun x209 => if ((mget l192 x209).getD 0) = 0 then (calls_Order.j1 m_0 t6 l192 l194 x209) else (some (.inl [.l3 t6 l192 l194 (IntKind.i64.wrap (x206 + 1))]))) else (calls_Order.j1 m_0 t6 l192 l194 (-1))
  | .l4 t6 l194 x211 l229 l230 => if l230.isEmpty = true then (if (l194.length + [x211].length) * 8 ≤ 140737488355328 then (some (.inl [.l2 t6 l229 (l194 ++ [x211])])) else none) else some (.inl ((picks l230).map (fun z => .p5 t6 l194 x211 l229 z.1.1 z.1.2 z.2)))
  | .p5 t6 l194 x211 l229 k236 x237 l238 => (elt t6.1 k236).bind fun x241 => (slices_Contains_int_int.f x241 x211).bind fun t244 => if t244 = true then (if (l229.map (fun p => p.1)).Nodup ∧ (mget l229 k236).isSome = true then (some (.inl [.l4 t6 l194 x211 (mup l229 k236 (IntKind.i64.wrap (((mget l229 k236).getD 0) - 1))) (mup l238 k236 (IntKind.i64.wrap (((mget l229 k236).getD 0) - 1)))])) else none) else (some (.inl [.l4 t6 l194 x211 l229 l238]))
def calls_Order.f (m_0 : api_Module) : Option ((List Int) × Int) := runD (calls_Order.F m_0) .start
theorem calls_Order.ok (m_0 : api_Module) (v_m_0_Globals v_m_0_Pool v_m_0_Methods : Value) (r : (List Int) × Int) (H : calls_Order.f m_0 = some r) (w : World) (hV : Hp) (sV : Sub hV (hp w)) (h0 : slR k_api_Value hV v_m_0_Globals m_0.Globals) (h1 : slR k_api_Value hV v_m_0_Pool m_0.Pool) (h2 : slR k_api_Method hV v_m_0_Methods m_0.Methods) :
    Trip Tryz.prog 27 [.agg #[v_m_0_Globals, v_m_0_Pool, v_m_0_Methods, .int .i64 m_0.Migrate]].toArray em hV w (fun v => HO.ex fun u0 : Value => HO.pand (v = .tuple #[u0, .int .i64 r.2]) (HO.seps [slO (kInt .i64) 3 u0 r.1])) := by
 refine Trip.go 77 Tryz.func27 sV (aS h0 (aS h1 (aS h2 (All.nil _)))) fun see => ?_
 obtain ⟨n0, hi⟩ := runD_iff.1 H
 obtain ⟨m0, o, hm0, ho, hr⟩ := stepsD_some hi
 clear hi
 refine go ?_
 refine SP.box rfl rfl rfl rfl fun b4 => go ?_
 refine SP.val (Val.loadA 0 rfl Tryz.underlying25 rfl sz25 rfl rfl rfl) rfl rfl rfl ?_
 obtain ⟨t6, hc, ho⟩ := bind_some ho
 refine SP.callK see (caps := []) _ fn50 rfl rfl rfl rfl (fun w2 hP hs sub ap => calls_all.ok _ _ _ _ _ hc w2 hP sub (ap.get 0 rfl) (ap.get 1 rfl) (ap.get 2 rfl)) (SP.k1 fun v7 => ?_)
 clear hc
 refine go ?_
 refine CP.seq (go ?_)
 refine CP.ci ho (fun ho => ?_) fun ho => ?_
 ·refine go ?_
  obtain rfl := Option.some.inj ho
  obtain rfl : _ = r := hr
  exact QE.rt (fun _ h => St.selO [0] rfl rfl (St.addO (slO.nil (kInt .i64) 3) h))
 refine go ?_
 refine SP.makeMap .i64 (fun z : Int => Value.int .i64 z) rfl rfl (fun b10 => go ?_)
 refine CP.seq (go ?_)
 refine SP.val (Val.lenW (fun w2 hw => slO.whole (St.own 1 rfl see.sub see.dj hw)) Tryz.underlying103 rfl) rfl rfl rfl (go ?_)
 obtain rfl := Option.some.inj ho
 refine CP.loop (fun cl1 a w2 => ∃ l131 : List (Int × Int), ∃ x132 : Int, cl1 ≤ m0 ∧ stepsD (calls_Order.F m_0) cl1 (.l1 t6 l131 x132) r ∧ Env ⟨77, []⟩ [(4, v7), (6, .map (some b10)), (23, v7), (24, .int .i64 (t6.1.length : Int)), (25, .int .i64 x132)] a ∧ St w em hV [] [mapO b10 .i64 (fun z : Int => Value.int .i64 z) l131, slO (kSl (kInt .i64)) 55 v7 t6.1] w2) m0 (fun a w2 ha hw => ⟨([] : List (Int × Int)), 0, Nat.le_refl _, (nextD_one hr), ha.sub sb, (St.selP [] rfl (St.selO [0, 1] rfl rfl hw))⟩) ?_
 clear hr
 rintro cl1 a w2 ⟨l131, x132, hc_l1, hi, ha, hw⟩
 obtain ⟨m133, o, hm_m133, ho, hr⟩ := stepsD_some hi
 refine CP.app ha hw ?_
 clear ha hw a w2 hi
 refine go ?_
 refine CP.seq ?_
 refine CP.ci ho (fun ho => ?_) fun ho => ?_
 ·refine go ?_
  refine CP.seq (go ?_)
  obtain ⟨x135, hx_x135, ho⟩ := elt_bind ho
  refine SP.indexW (fun w2 hw => slO.whole (St.own 1 rfl see.sub see.dj hw)) Tryz.underlying103 sz55 hx_x135.1 hx_x135.2 rfl rfl rfl rfl (fun p134 h_p134 => ?_)
  refine SP.loadOS (j := x132) see 1 0 rfl hx_x135.2 h_p134 (fun _ _ ⟨v0_, e, p0_⟩ => ⟨v0_, by subst e; rfl, p0_⟩) Tryz.underlying55 rfl rfl rfl (fun v136 => go ?_)
  refine SP.mapUpdate see 0 rfl Tryz.underlying106 Tryz.underlying3 rfl rfl rfl rfl (go ?_)
  obtain rfl := Option.some.inj ho
  exact QE.lower m133 (by omega) fun a w2 ha hw => ⟨(mset l131 x132 (x135.length : Int)), (IntKind.i64.wrap (x132 + 1)), (by omega), (nextD_one hr), ha.sub sb, (St.selP [] rfl hw)⟩
 refine go ?_
 refine CP.seq (go ?_)
 obtain rfl := Option.some.inj ho
 refine CP.loop (fun cl2 a w2 => ∃ l192 : List (Int × Int), ∃ l194 : List Int, ∃ v195 : Value, cl2 ≤ m133 ∧ stepsD (calls_Order.F m_0) cl2 (.l2 t6 l192 l194) r ∧ Env ⟨77, []⟩ [(4, v7), (6, .map (some b10)), (9, v195)] a ∧ St w em hV [] [slO (kInt .i64) 3 v195 l194, mapO b10 .i64 (fun z : Int => Value.int .i64 z) l192, slO (kSl (kInt .i64)) 55 v7 t6.1] w2) m133 (fun a w2 ha hw => ⟨l131, [], (.slice none 0 0), Nat.le_refl _, (nextD_one hr), ha.sub sb, (St.addO (slO.nil (kInt .i64) 3) hw)⟩) ?_
 clear hr
 rintro cl2 a w2 ⟨l192, l194, v195, hc_l2, hi, ha, hw⟩
 obtain ⟨m196, o, hm_m196, ho, hr⟩ := stepsD_some hi
 refine CP.app ha hw ?_
 clear ha hw a w2 hi
 refine CP.seq (go ?_)
 refine SP.val (Val.lenM see 1 rfl Tryz.underlying106 rfl) rfl rfl rfl (go ?_)
 refine CP.ci ho (fun ho => ?_) fun ho => ?_
 ·refine go ?_
  refine CP.join (fun a w2 => ∃ x211 : Int, ∃ (m212 : Nat) (o : (List calls_Order.S ⊕ ((List Int) × Int))), m212 ≤ m196 ∧ calls_Order.j1 m_0 t6 l192 l194 x211 = some o ∧ nextD (calls_Order.F m_0) m212 r o ∧ Env ⟨77, []⟩ [(4, v7), (6, .map (some b10)), (9, v195), (10, .int .i64 x211)] a ∧ St w em hV [] [slO (kInt .i64) 3 v195 l194, mapO b10 .i64 (fun z : Int => Value.int .i64 z) l192, slO (kSl (kInt .i64)) 55 v7 t6.1] w2) ?_ ?_
  ·rintro a w2 ⟨x211, m212, o, hm_m212, ho, hr, ha, hw⟩
   refine CP.app ha hw ?_
   clear ha hw a w2
   refine CP.seq (go ?_)
   refine CP.ci ho (fun ho => ?_) fun ho => ?_
   ·refine go ?_
    obtain rfl := Option.some.inj ho
    obtain rfl : _ = r := hr
    exact QE.rt (fun _ h => St.selO [0] rfl rfl (St.addO (slO.nil (kInt .i64) 3) h))
   refine go ?_
   refine SP.delete see 1 rfl Tryz.underlying106 Tryz.underlying3 rfl rfl rfl (go ?_)
   refine CP.seq (go ?_)
   refine SP.imp (fun w2 hw => St.selO [1, 0, 2] rfl rfl hw) ?_
   refine SP.range see Tryz.underlying106 rfl rfl rfl (fun r214 => go ?_)
   obtain rfl := Option.some.inj ho
   refine CP.loop (fun cl4 a w2 => ∃ l229 : List (Int × Int), ∃ l230 : List (Int × Int), cl4 ≤ m212 ∧ stepsD (calls_Order.F m_0) cl4 (.l4 t6 l194 x211 l229 l230) r ∧ Env ⟨77, []⟩ [(4, v7), (6, .map (some b10)), (9, v195), (10, .int .i64 x211), (57, .pointer (some ⟨r214, 0, none⟩))] a ∧ St w em hV [] [rangeO r214 b10 .i64 (fun z : Int => Value.int .i64 z) l229 l230 none, slO (kInt .i64) 3 v195 l194, slO (kSl (kInt .i64)) 55 v7 t6.1] w2) m212 (fun a w2 ha hw => ⟨(mdel l192 x211), (mdel l192 x211), Nat.le_refl _, (nextD_one hr), ha.sub sb, hw⟩) ?_
   clear hr
   rintro cl4 a w2 ⟨l229, l230, hc_l4, hi, ha, hw⟩
   obtain ⟨m231, o, hm_m231, ho, hr⟩ := stepsD_some hi
   refine CP.app ha hw ?_
   clear ha hw a w2 hi
   refine go ?_
   rcases if_some ho with ⟨hc, ho⟩ | ⟨hc, ho⟩
   ·refine SP.next see 0 rfl rfl rfl rfl (fun _ => go ?_) (fun j k v hj => by rw [List.isEmpty_iff.1 hc] at hj; simp at hj)
    refine CP.seq ?_
    refine CP.condF rfl rfl (go ?_)
    refine SP.lit (k := (kInt .i64)) (xs := [x211]) (vs := [.int .i64 x211]) (cells := [.int .i64 x211]) Tryz.underlying55 inf3 rfl rfl rfl rfl rfl rfl rfl rfl (fun _ ap => ⟨[.int .i64 x211], _, rfl, rfl, rfl⟩) rfl rfl rfl (fun v232 => ?_)
    refine SP.freezeS see 0 rfl ?_
    obtain ⟨hb, ho⟩ := must_some ho
    refine SP.append see 1 rfl 0 rfl Tryz.underlying55 inf3 rfl rfl hb rfl rfl rfl rfl rfl (fun v234 => ?_)
    clear hb
    refine go ?_
    obtain rfl := Option.some.inj ho
    exact QE.lower m231 (by omega) fun a w2 ha hw => ⟨l229, (l194 ++ [x211]), v234, (by omega), (nextD_one hr), ha.sub sb, (St.selP [] rfl (St.selO [1, 0, 2] rfl rfl (St.weakO 0 rfl rangeO.toMap hw)))⟩
   refine SP.next see 0 rfl rfl rfl rfl (fun h0 => absurd (by rw [h0]; rfl) hc) (fun j k236 x237 hj => ?_)
   obtain rfl := Option.some.inj ho
   replace hr := hr.2 _ (List.mem_map_of_mem (mem_picks hj))
   obtain ⟨m239, o, hm_m239, ho, hr⟩ := stepsD_some hr
   clear hj hc
   generalize List.eraseIdx l230 j = l238 at ho ⊢
   refine go ?_
   refine CP.seq ?_
   refine CP.condT rfl rfl (go ?_)
   refine SP.val (Val.entry see 0 (p := (k236, x237)) rfl rfl) rfl rfl rfl (go ?_)
   obtain ⟨x241, hx_x241, ho⟩ := elt_bind ho
   refine SP.indexW (fun w2 hw => slO.whole (St.own 2 rfl see.sub see.dj hw)) Tryz.underlying103 sz55 hx_x241.1 hx_x241.2 rfl rfl rfl rfl (fun p240 h_p240 => ?_)
   refine SP.loadOS (j := k236) see 2 0 rfl hx_x241.2 h_p240 (fun _ _ ⟨v0_, e, p0_⟩ => ⟨v0_, by subst e; rfl, p0_⟩) Tryz.underlying55 rfl rfl rfl (fun v242 => go ?_)
   obtain ⟨t244, hc, ho⟩ := bind_some ho
   refine SP.callV see (caps := []) (.bool t244) fn53 rfl rfl rfl rfl (fun w2 hP hs sub ap => slices_Contains_int_int.ok _ _ _ _ hc w2 hP sub (ap.get 0 rfl)) ?_
   clear hc
   refine go ?_
   refine CP.cb ho (fun ho => ?_) fun ho => ?_
   ·refine go ?_
    refine SP.val (Val.lookupR (z0 := 0) see 0 rfl Tryz.underlying106 Tryz.underlying3 inf3 (by kernel_rfl) rfl rfl) rfl rfl rfl (go ?_)
    obtain ⟨hb, ho⟩ := must_some ho
    refine SP.mapUpdateR see 0 rfl Tryz.underlying106 Tryz.underlying3 hb rfl rfl rfl rfl ?_
    clear hb
    refine go ?_
    obtain rfl := Option.some.inj ho
    exact QE.lower m239 (by omega) fun a w2 ha hw => ⟨(mup l229 k236 (IntKind.i64.wrap (((mget l229 k236).getD 0) - 1))), (mup l238 k236 (IntKind.i64.wrap (((mget l229 k236).getD 0) - 1))), (by omega), (nextD_one hr), ha.sub sb, (St.selP [] rfl hw)⟩
   refine go ?_
   obtain rfl := Option.some.inj ho
   exact QE.lower m239 (by omega) fun a w2 ha hw => ⟨l229, l238, (by omega), (nextD_one hr), ha.sub sb, (St.selP [] rfl (St.weakO 0 rfl rangeO.forget hw))⟩
  refine go ?_
  refine SP.callK see (caps := []) _ fn52 rfl rfl rfl rfl (fun w2 hP hs sub ap => keys52_trip _ w2 hP) (SP.k1 fun b198 => ?_)
  obtain ⟨hb, ho⟩ := must_some ho
  refine SP.callKO see (caps := []) _ fn51 rfl rfl rfl rfl (fun w2 hs => sorted51_trip hb w2 (St.own 0 rfl see.sub see.dj hs) (St.own 2 rfl see.sub see.dj hs)) (fun v a a2 b ⟨v201, e, h⟩ => ⟨v201, e, (Sep.fcons (fun _ => slO.flip (fun _ _ _ _ h => h)) (fun _ => Sep.fnil)) h⟩) (SP.k1 fun v201 => ?_)
  clear hb
  refine SP.val (Val.lenW (fun w2 hw => slO.whole (St.own 0 rfl see.sub see.dj hw)) Tryz.underlying55 rfl) rfl rfl rfl (go ?_)
  obtain rfl := Option.some.inj ho
  refine CP.loop (fun cl3 a w2 => ∃ x206 : Int, cl3 ≤ m196 ∧ stepsD (calls_Order.F m_0) cl3 (.l3 t6 l192 l194 x206) r ∧ Env ⟨77, []⟩ [(4, v7), (6, .map (some b10)), (9, v195), (10, .int .i64 (-1)), (40, v201), (41, .int .i64 ((sortedKeys l192).length : Int)), (42, .int .i64 x206)] a ∧ St w em hV [] [slO (kInt .i64) 3 v201 (sortedKeys l192), slO (kInt .i64) 3 v195 l194, mapO b10 .i64 (fun z : Int => Value.int .i64 z) l192, slO (kSl (kInt .i64)) 55 v7 t6.1] w2) m196 (fun a w2 ha hw => ⟨0, Nat.le_refl _, (nextD_one hr), ha.sub sb, (St.selO [0, 2, 3, 4] rfl rfl hw)⟩) ?_
  clear hr
  rintro cl3 a w2 ⟨x206, hc_l3, hi, ha, hw⟩
  obtain ⟨m207, o, hm_m207, ho, hr⟩ := stepsD_some hi
  refine CP.app ha hw ?_
  clear ha hw a w2 hi
  refine go ?_
  refine CP.seq ?_
  refine CP.ci ho (fun ho => ?_) fun ho => ?_
  ·refine go ?_
   refine CP.seq (go ?_)
   obtain ⟨x209, hx_x209, ho⟩ := elt_bind ho
   refine SP.indexW (fun w2 hw => slO.whole (St.own 0 rfl see.sub see.dj hw)) Tryz.underlying55 sz3 hx_x209.1 hx_x209.2 rfl rfl rfl rfl (fun p208 h_p208 => ?_)
   refine SP.val (Val.loadW1 (off := 0) (k := (kInt .i64)) (fun w2 hw => slO.whole (St.own 0 rfl see.sub see.dj hw)) hx_x209.2 h_p208 (fun _ _ e => by subst e; rfl) Tryz.underlying3 rfl rfl) rfl rfl rfl (go ?_)
   refine SP.val (Val.lookup (z0 := 0) see 2 rfl Tryz.underlying106 Tryz.underlying3 inf3 (by kernel_rfl) rfl rfl) rfl rfl rfl (go ?_)
   refine CP.ci ho (fun ho => ?_) fun ho => ?_
   ·refine go ?_
    exact QE.meet fun a w2 ha hw => ⟨x209, m207, _, (by omega), ho, hr, ha.sub sb, (St.selO [1, 2, 3] rfl rfl hw)⟩
   refine go ?_
   obtain rfl := Option.some.inj ho
   exact QE.lower m207 (by omega) fun a w2 ha hw => ⟨(IntKind.i64.wrap (x206 + 1)), (by omega), (nextD_one hr), ha.sub sb, hw⟩
  refine go ?_
  exact QE.meet fun a w2 ha hw => ⟨(-1), m207, _, (by omega), ho, hr, ha.sub sb, (St.selO [1, 2, 3] rfl rfl hw)⟩
 refine go ?_
 obtain rfl := Option.some.inj ho
 obtain rfl : _ = r := hr
 exact QE.rt (fun _ h => St.selO [0] rfl rfl h)
def op_Known.f (op_0 : Int) : Option Bool :=
  some (decide ((IntKind.i64.wrap op_0) < 33))
theorem op_Known.ok (op_0 : Int)  (r : Bool) (H : op_Known.f op_0 = some r) (w : World) (hV : Hp) (sV : Sub hV (hp w))  :
    Trip Tryz.prog 138 [.int .u8 op_0].toArray em hV w (fun v => HO.pure (v = .bool r)) := by
 refine Trip.go 6 Tryz.func138 sV (All.nil _) fun see => ?_
 have ho := H
 refine go ?_
 refine SP.val (Val.conv (by rw [Tryz.underlying5]; rfl) Tryz.underlying3 rfl) rfl rfl rfl (go ?_)
 obtain rfl := Option.some.inj ho
 exact QE.rt (fun _ h => h)
def op_sign.j3 (op_0 : Int) (b3 : Bool) : Option Int :=
  if b3 = true then (some 5) else (if op_0 = 30 then (some 6) else (if op_0 = 32 then (some 7) else (if op_0 = 28 then (some 8) else (some 0))))
def op_sign.j2 (op_0 : Int) (b2 : Bool) : Option Int :=
  if b2 = true then (some 3) else (if op_0 = 22 then (some 4) else (if op_0 = 26 then (op_sign.j3 op_0 (decide (op_0 = 26))) else (if op_0 = 27 then (op_sign.j3 op_0 (decide (op_0 = 27))) else (op_sign.j3 op_0 (decide (op_0 = 29))))))
def op_sign.j1 (op_0 : Int) (b1 : Bool) : Option Int :=
  if b1 = true then (some 2) else (if op_0 = 4 then (op_sign.j2 op_0 (decide (op_0 = 4))) else (op_sign.j2 op_0 (decide (op_0 = 5))))
def op_sign.f (op_0 : Int) : Option Int :=
  if op_0 = 1 then (some 1) else (if op_0 = 2 then (op_sign.j1 op_0 (decide (op_0 = 2))) else (op_sign.j1 op_0 (decide (op_0 = 3))))
theorem op_sign.ok (op_0 r : Int) (H : op_sign.f op_0 = some r) (w : World) (hV : Hp) (sV : Sub hV (hp w))  :
    Trip Tryz.prog 139 [.int .u8 op_0].toArray em hV w (fun v => HO.pure (v = .int .i64 r)) := by
 refine Trip.go 24 Tryz.func139 sV (All.nil _) fun see => ?_
 have ho := H
 refine go ?_
 refine CP.seq (go ?_)
 refine CP.ci ho (fun ho => ?_) fun ho => ?_
 ·refine go ?_
  obtain rfl := Option.some.inj ho
  exact QE.rt (fun _ h => h)
 refine CP.join (fun a w2 => ∃ b1 : Bool, op_sign.j1 op_0 b1 = some r ∧ Env ⟨24, []⟩ [(3, .int .u8 op_0), (6, .bool b1)] a ∧ St w em hV [] [] w2) ?_ ?_
 ·rintro a w2 ⟨b1, ho, ha, hw⟩
  refine CP.app ha hw ?_
  clear ha hw a w2
  refine CP.cb ho (fun ho => ?_) fun ho => ?_
  ·refine go ?_
   obtain rfl := Option.some.inj ho
   exact QE.rt (fun _ h => h)
  refine CP.join (fun a w2 => ∃ b2 : Bool, op_sign.j2 op_0 b2 = some r ∧ Env ⟨24, []⟩ [(3, .int .u8 op_0), (9, .bool b2)] a ∧ St w em hV [] [] w2) ?_ ?_
  ·rintro a w2 ⟨b2, ho, ha, hw⟩
   refine CP.app ha hw ?_
   clear ha hw a w2
   refine CP.cb ho (fun ho => ?_) fun ho => ?_
   ·refine go ?_
    obtain rfl := Option.some.inj ho
    exact QE.rt (fun _ h => h)
   refine go ?_
   refine CP.ci ho (fun ho => ?_) fun ho => ?_
   ·refine go ?_
    obtain rfl := Option.some.inj ho
    exact QE.rt (fun _ h => h)
   refine CP.join (fun a w2 => ∃ b3 : Bool, op_sign.j3 op_0 b3 = some r ∧ Env ⟨24, []⟩ [(3, .int .u8 op_0), (14, .bool b3)] a ∧ St w em hV [] [] w2) ?_ ?_
   ·rintro a w2 ⟨b3, ho, ha, hw⟩
    refine CP.app ha hw ?_
    clear ha hw a w2
    refine CP.cb ho (fun ho => ?_) fun ho => ?_
    ·refine go ?_
     obtain rfl := Option.some.inj ho
     exact QE.rt (fun _ h => h)
    refine go ?_
    refine CP.ci ho (fun ho => ?_) fun ho => ?_
    ·refine go ?_
     obtain rfl := Option.some.inj ho
     exact QE.rt (fun _ h => h)
    refine go ?_
    refine CP.ci ho (fun ho => ?_) fun ho => ?_
    ·refine go ?_
     obtain rfl := Option.some.inj ho
     exact QE.rt (fun _ h => h)
    refine go ?_
    refine CP.ci ho (fun ho => ?_) fun ho => ?_
    ·refine go ?_
     obtain rfl := Option.some.inj ho
     exact QE.rt (fun _ h => h)
    refine go ?_
    obtain rfl := Option.some.inj ho
    exact QE.rt (fun _ h => h)
   refine go ?_
   refine CP.ci ho (fun ho => ?_) fun ho => ?_
   ·refine go ?_
    exact QE.meet fun a w2 ha hw => ⟨(decide (op_0 = 26)), ho, ha.sub sb, hw⟩
   refine go ?_
   refine CP.ci ho (fun ho => ?_) fun ho => ?_
   ·refine go ?_
    exact QE.meet fun a w2 ha hw => ⟨(decide (op_0 = 27)), ho, ha.sub sb, hw⟩
   refine go ?_
   exact QE.meet fun a w2 ha hw => ⟨(decide (op_0 = 29)), ho, ha.sub sb, hw⟩
  refine go ?_
  refine CP.ci ho (fun ho => ?_) fun ho => ?_
  ·refine go ?_
   exact QE.meet fun a w2 ha hw => ⟨(decide (op_0 = 4)), ho, ha.sub sb, hw⟩
  refine go ?_
  exact QE.meet fun a w2 ha hw => ⟨(decide (op_0 = 5)), ho, ha.sub sb, hw⟩
 refine go ?_
 refine CP.ci ho (fun ho => ?_) fun ho => ?_
 ·refine go ?_
  exact QE.meet fun a w2 ha hw => ⟨(decide (op_0 = 2)), ho, ha.sub sb, hw⟩
 refine go ?_
 exact QE.meet fun a w2 ha hw => ⟨(decide (op_0 = 3)), ho, ha.sub sb, hw⟩
def op_Bounds.f (op_0 : Int) : Option (Int × Int) :=
  (op_Known.f op_0).bind fun t1 => if (!t1) = true then (some (0, (-1))) else ((op_sign.f op_0).bind fun t2 => (elt tab0 t2).bind fun x5 => some (x5.e0, x5.e1))
theorem op_Bounds.ok (op_0 : Int)  (r : Int × Int) (H : op_Bounds.f op_0 = some r) (w : World) (hV : Hp) (sV : Sub hV (hp w)) (h0 : (arrP k_arr221 0 tab0).p hV) :
    Trip Tryz.prog 129 [.int .u8 op_0].toArray em hV w (fun v => HO.pure (v = .tuple #[.int .i64 r.1, .int .i64 r.2])) := by
 refine Trip.go 16 Tryz.func129 sV (All.cons (x := arrP k_arr221 0 tab0) h0 (All.nil _)) fun see => ?_
 have ho := H
 refine go ?_
 refine CP.seq (go ?_)
 obtain ⟨t1, hc, ho⟩ := bind_some ho
 refine SP.callV see (caps := []) (.bool t1) fn138 rfl rfl rfl rfl (fun w2 hP hs sub ap => op_Known.ok _  _ hc w2 hP sub ) ?_
 clear hc
 refine go ?_
 refine CP.cb ho (fun ho => ?_) fun ho => ?_
 ·refine go ?_
  obtain rfl := Option.some.inj ho
  exact QE.rt (fun _ h => h)
 refine go ?_
 obtain ⟨t2, hc, ho⟩ := bind_some ho
 refine SP.callV see (caps := []) (.int .i64 t2) fn139 rfl rfl rfl rfl (fun w2 hP hs sub ap => op_sign.ok _  _ hc w2 hP sub ) ?_
 clear hc
 obtain ⟨x5, hx, ho⟩ := elt_bind ho
 refine SP.indexG see 0 rfl Tryz.underlying222 rfl sz221 hx.1 hx.2 rfl rfl rfl rfl (fun p3 => ?_)
 clear hx
 refine k_arr221.load see 0 rfl Tryz.underlying221 rfl sz221 rfl rfl rfl ?_
 refine SP.alloc (cs := [.int .i64 0, .int .i64 0]) inf221 rfl rfl (fun b6 => ?_)
 refine SP.store (v := .agg #[.int .i64 x5.e0, .int .i64 x5.e1]) (vs := [.int .i64 x5.e0, .int .i64 x5.e1]) 0 (by rfl) sz221 (by rfl) (by rfl) (by rfl) (by rfl) (by rfl) (by rfl) (go ?_)
 refine CP.seq ?_
 refine CP.drawA (by kernel_rfl) (fun w2 k h => h.drawn k) ?_
 refine DA.ph 0 5 ?_
 refine DT.tv 0 rfl (Val.indexC (off2 := 0) Tryz.underlying221 sz3 (by decide) rfl rfl rfl) ?_
 refine DT.tk 1 ?_
 refine DT.tv 2 rfl (Val.indexC (off2 := 1) Tryz.underlying221 sz3 (by decide) rfl rfl rfl) ?_
 refine DT.tk 3 ?_
 refine DT.tk 4 ?_
 refine DT.next (by kernel_rfl) ?_
 refine DA.one 5 rfl (by kernel_rfl) (go ?_)
 refine QE.atA ?_
 refine DA.done (by kernel_rfl) (go ?_)
 obtain rfl := Option.some.inj ho
 exact QE.rt (fun _ h => h)
def op_May.f (i_0 : api_Instr) : Option Bool :=
  (op_Bounds.f i_0.Op).bind fun t3 => some (((decide (i_0.A ≥ t3.1)) && (decide (i_0.A ≤ t3.2))) && (decide (i_0.B = 0)))
theorem op_May.ok (i_0 : api_Instr)  (r : Bool) (H : op_May.f i_0 = some r) (w : World) (hV : Hp) (sV : Sub hV (hp w)) (h0 : (arrP k_arr221 0 tab0).p hV) :
    Trip Tryz.prog 104 [.agg #[.int .u8 i_0.Op, .int .i64 i_0.A, .int .i64 i_0.B]].toArray em hV w (fun v => HO.pure (v = .bool r)) := by
 refine Trip.go 26 Tryz.func104 sV (All.cons (x := arrP k_arr221 0 tab0) h0 (All.nil _)) fun see => ?_
 have ho := H
 refine go ?_
 refine SP.box rfl rfl rfl rfl fun b1 => go ?_
 obtain ⟨t3, hc, ho⟩ := bind_some ho
 refine SP.callV see (caps := []) (.tuple #[.int .i64 t3.1, .int .i64 t3.2]) fn129 rfl rfl rfl rfl (fun w2 hP hs sub ap => op_Bounds.ok _  _ hc w2 hP sub (ap.get 0 rfl)) ?_
 clear hc
 refine go ?_
 refine SP.jn 5 [1] 20 (.bool ((decide (i_0.A ≥ t3.1)) && (decide (i_0.A ≤ t3.2)))) ?_ ?_
 ·refine go ?_
  refine SP.jn 4 [] 25 (.bool (((decide (i_0.A ≥ t3.1)) && (decide (i_0.A ≤ t3.2))) && (decide (i_0.B = 0)))) ?_ ?_
  ·refine go ?_
   obtain rfl := Option.some.inj ho
   exact QE.rt (fun _ h => h)
  refine SP.bb 21 (fun hq7 => ?_) fun hq7 => ?_
  ·refine go ?_
   exact QE.jb (and_t hq7 rfl) fun w2 hw => hw
  refine go ?_
  exact QE.jb (and_f hq7) fun w2 hw => hw
 refine SP.bb 15 (fun hq5 => ?_) fun hq5 => ?_
 ·refine go ?_
  exact QE.jb (and_t hq5 rfl) fun w2 hw => hw
 refine go ?_
 exact QE.jb (and_f hq5) fun w2 hw => hw
def flow_Loops_1.f (i_0 : api_Instr) : Option Bool :=
  (op_May.f i_0).bind fun t3 => some (!t3)
theorem flow_Loops_1.ok (i_0 : api_Instr)  (r : Bool) (H : flow_Loops_1.f i_0 = some r) (w : World) (hV : Hp) (sV : Sub hV (hp w)) (h0 : (arrP k_arr221 0 tab0).p hV) :
    Trip Tryz.prog 103 [.agg #[.int .u8 i_0.Op, .int .i64 i_0.A, .int .i64 i_0.B]].toArray em hV w (fun v => HO.pure (v = .bool r)) := by
 refine Trip.go 6 Tryz.func103 sV (All.cons (x := arrP k_arr221 0 tab0) h0 (All.nil _)) fun see => ?_
 have ho := H
 refine go ?_
 refine SP.box rfl rfl rfl rfl fun b1 => go ?_
 refine SP.val (Val.loadA 0 rfl Tryz.underlying71 rfl sz71 rfl rfl rfl) rfl rfl rfl ?_
 obtain ⟨t3, hc, ho⟩ := bind_some ho
 refine SP.callV see (caps := []) (.bool t3) fn104 rfl rfl rfl rfl (fun w2 hP hs sub ap => op_May.ok _  _ hc w2 hP sub (ap.get 0 rfl)) ?_
 clear hc
 refine go ?_
 obtain rfl := Option.some.inj ho
 exact QE.rt (fun _ h => h)
inductive slices_IndexFunc_api_Instr_api_Instr_s1.S where
  | start
  | l1 (x7 : Int)
def slices_IndexFunc_api_Instr_api_Instr_s1.F (s_0 : (List api_Instr)) : slices_IndexFunc_api_Instr_api_Instr_s1.S → Option (slices_IndexFunc_api_Instr_api_Instr_s1.S ⊕ Int)
  | .start => some (.inl (.l1 0))
  | .l1 x7 => if x7 < (s_0.length : Int) then ((elt s_0 x7).bind fun x11 => (flow_Loops_1.f x11).bind fun t12 => if t12 = true then (some (.inr x7)) else (some (.inl (.l1 (IntKind.i64.wrap (x7 + 1)))))) else (some (.inr (-1)))
def slices_IndexFunc_api_Instr_api_Instr_s1.f (s_0 : (List api_Instr)) : Option Int := runF (slices_IndexFunc_api_Instr_api_Instr_s1.F s_0) .start
theorem slices_IndexFunc_api_Instr_api_Instr_s1.ok (s_0 : (List api_Instr)) (v_s_0 : Value)  (r : Int) (H : slices_IndexFunc_api_Instr_api_Instr_s1.f s_0 = some r) (w : World) (hV : Hp) (sV : Sub hV (hp w)) (h0 : slR k_api_Instr hV v_s_0 s_0) (h1 : (arrP k_arr221 0 tab0).p hV) :
    Trip Tryz.prog 73 [v_s_0, .func (.func 103) #[] #[]].toArray em hV w (fun v => HO.pure (v = .int .i64 r)) := by
 refine Trip.go 19 Tryz.func73 sV (aS h0 (All.cons (x := arrP k_arr221 0 tab0) h1 (All.nil _))) fun see => ?_
 obtain ⟨n0, hi⟩ := runF_iff.1 H
 obtain ⟨m0, o, hm0, ho, hr⟩ := iter_some hi
 clear hi
 refine go ?_
 refine CP.seq (go ?_)
 obtain rfl := Option.some.inj ho
 refine CP.loop (fun cl1 a w2 => ∃ x7 : Int, cl1 ≤ m0 ∧ iter (slices_IndexFunc_api_Instr_api_Instr_s1.F s_0) cl1 (.l1 x7) = some r ∧ Env ⟨19, []⟩ [(0, v_s_0), (1, .func (.func 103) #[] #[]), (7, .int .i64 (s_0.length : Int)), (8, .int .i64 x7)] a ∧ St w em hV [slP k_api_Instr v_s_0 s_0, arrP k_arr221 0 tab0] [] w2) m0 (fun a w2 ha hw => ⟨0, Nat.le_refl _, hr, ha.sub sb, hw⟩) ?_
 clear hr
 rintro cl1 a w2 ⟨x7, hc_l1, hi, ha, hw⟩
 obtain ⟨m8, o, hm_m8, ho, hr⟩ := iter_some hi
 refine CP.app ha hw ?_
 clear ha hw a w2 hi
 refine go ?_
 refine CP.seq ?_
 refine CP.ci ho (fun ho => ?_) fun ho => ?_
 ·refine go ?_
  refine CP.seq (go ?_)
  obtain ⟨x11, hx, ho⟩ := elt_bind ho
  refine SP.indexP see 0 rfl Tryz.underlying39 sz71 hx.1 hx.2 rfl rfl rfl rfl (fun p9 => ?_)
  clear hx
  refine k_api_Instr.load see 0 rfl Tryz.underlying71 rfl sz71 rfl rfl rfl ?_
  obtain ⟨t12, hc, ho⟩ := bind_some ho
  refine SP.callV see (caps := []) (.bool t12) fn103 rfl rfl rfl rfl (fun w2 hP hs sub ap => flow_Loops_1.ok _  _ hc w2 hP sub (ap.get 2 rfl)) ?_
  clear hc
  refine go ?_
  refine CP.cb ho (fun ho => ?_) fun ho => ?_
  ·refine go ?_
   obtain rfl := fin ho hr
   exact QE.rt (fun _ h => h)
  refine go ?_
  obtain rfl := Option.some.inj ho
  exact QE.lower m8 (by omega) fun a w2 ha hw => ⟨(IntKind.i64.wrap (x7 + 1)), (by omega), hr, ha.sub sb, (St.selP [1, 2] rfl hw)⟩
 refine go ?_
 obtain rfl := fin ho hr
 exact QE.rt (fun _ h => h)
def slices_ContainsFunc_api_Instr_api_Instr_s1.f (s_0 : (List api_Instr)) : Option Bool :=
  (slices_IndexFunc_api_Instr_api_Instr_s1.f s_0).bind fun t2 => some (decide (t2 ≥ 0))
theorem slices_ContainsFunc_api_Instr_api_Instr_s1.ok (s_0 : (List api_Instr)) (v_s_0 : Value)  (r : Bool) (H : slices_ContainsFunc_api_Instr_api_Instr_s1.f s_0 = some r) (w : World) (hV : Hp) (sV : Sub hV (hp w)) (h0 : slR k_api_Instr hV v_s_0 s_0) (h1 : (arrP k_arr221 0 tab0).p hV) :
    Trip Tryz.prog 44 [v_s_0, .func (.func 103) #[] #[]].toArray em hV w (fun v => HO.pure (v = .bool r)) := by
 refine Trip.go 9 Tryz.func44 sV (aS h0 (All.cons (x := arrP k_arr221 0 tab0) h1 (All.nil _))) fun see => ?_
 have ho := H
 refine go ?_
 obtain ⟨t2, hc, ho⟩ := bind_some ho
 refine SP.callV see (caps := []) (.int .i64 t2) fn73 rfl rfl rfl rfl (fun w2 hP hs sub ap => slices_IndexFunc_api_Instr_api_Instr_s1.ok _ _ _ hc w2 hP sub (ap.get 0 rfl) (ap.get 1 rfl)) ?_
 clear hc
 refine go ?_
 obtain rfl := Option.some.inj ho
 exact QE.rt (fun _ h => h)
def flow_open_push_s2.f (l2 : List Int) (a0_3 : Int) (a1 : Int) : Option (Bool × (List Int) × Int) :=
  if a0_3 = 4 then (some (false, l2, a0_3)) else ((elt l2 a0_3).bind fun x4 => some (true, l2.set a0_3.toNat a1, IntKind.i64.wrap (a0_3 + 1)))
theorem flow_open_push_s2.ok (l2 : List Int) (a0_3 a1 : Int)  (r : Bool × (List Int) × Int) (H : flow_open_push_s2.f l2 a0_3 a1 = some r) (w : World) (hV : Hp) (sV : Sub hV (hp w))  (b1 : Nat) (hA : Hp) (sA : Sub hA (hp w)) (dA : Dj hV hA) (hI : (arrO b1 [] (fun z : Int => Value.int .i64 z) 4 l2 [.int .i64 a0_3] 180).p hV hA) :
    Trip Tryz.prog 105 [.pointer (some ⟨b1, 0, none⟩), .int .i64 a1].toArray hA hV w (fun v => HO.pand (v = .bool r.1) (HO.seps [arrO b1 [] (fun z : Int => Value.int .i64 z) 4 r.2.1 [.int .i64 r.2.2] 180])) := by
 have see : Sees w hA hV := ⟨sV, dA⟩
 refine Trip.of (P := Tryz.prog) (n := ⟨26, []⟩) Tryz.func105 rfl ⟨rfl, rfl⟩ rfl (St.beginA (os := [arrO b1 [] (fun z : Int => Value.int .i64 z) 4 l2 [.int .i64 a0_3] 180]) sA (All.nil _) ⟨hA, em, Dj.em_right _, Sub.refl _, Sub.em _, hI, trivial⟩) ?_
 have ho := H
 refine go ?_
 refine CP.seq (go ?_)
 refine SP.val (Val.loadArrPost (k := 0) 0 rfl Tryz.underlying3 rfl rfl rfl rfl) rfl rfl rfl (go ?_)
 refine CP.ci ho (fun ho => ?_) fun ho => ?_
 ·refine go ?_
  obtain rfl := Option.some.inj ho
  exact QE.rt (fun _ h => St.selO [0] rfl rfl h)
 refine go ?_
 refine CP.seq ?_
 refine CP.drawA (by kernel_rfl) (fun w2 k h => h.drawn k) ?_
 refine DA.ph 0 8 ?_
 refine DT.tk 0 ?_
 refine DT.tk 1 ?_
 refine DT.tk 2 ?_
 refine DT.tk 3 ?_
 refine DT.tv 4 rfl (Val.loadArrPost (k := 0) 0 rfl Tryz.underlying3 rfl rfl rfl rfl) ?_
 refine DT.tk 5 ?_
 refine DT.tk 6 ?_
 refine DT.tk 7 ?_
 refine DT.next (by kernel_rfl) ?_
 refine DA.one 8 rfl (by kernel_rfl) ?_
 obtain ⟨x4, hx_x4, ho⟩ := elt_bind ho
 refine SP.val (Val.indexArr 0 rfl Tryz.underlying178 sz3 hx_x4.1 hx_x4.2 rfl rfl rfl) rfl rfl rfl (go ?_)
 refine QE.atA ?_
 refine DA.one 9 rfl (by kernel_rfl) ?_
 refine SP.storeArr 0 rfl sz3 rfl hx_x4.2 rfl rfl rfl (fun _ => rfl) (fun _ => rfl) (go ?_)
 refine QE.atA ?_
 refine DA.done (by kernel_rfl) (go ?_)
 refine SP.val (Val.loadArrPost (k := 0) 0 rfl Tryz.underlying3 rfl rfl rfl rfl) rfl rfl rfl (go ?_)
 refine SP.storeArrPost (k := 0) 0 rfl sz3 rfl rfl rfl rfl rfl rfl rfl (go ?_)
 obtain rfl := Option.some.inj ho
 exact QE.rt (fun _ h => St.selO [0] rfl rfl h)
def flow_open_pop_s2.j1 (l2 : List Int) (a0_3 : Int) (a1 : Int) (b10 : Bool) : Option (Bool × (List Int) × Int) :=
  if b10 = true then (some (false, l2, a0_3)) else (some (true, l2, IntKind.i64.wrap (a0_3 - 1)))
def flow_open_pop_s2.f (l2 : List Int) (a0_3 : Int) (a1 : Int) : Option (Bool × (List Int) × Int) :=
  if a0_3 = 0 then (flow_open_pop_s2.j1 l2 a0_3 a1 true) else ((elt l2 (IntKind.i64.wrap (a0_3 - 1))).bind fun x9 => flow_open_pop_s2.j1 l2 a0_3 a1 (decide (x9 ≠ a1)))
theorem flow_open_pop_s2.ok (l2 : List Int) (a0_3 a1 : Int)  (r : Bool × (List Int) × Int) (H : flow_open_pop_s2.f l2 a0_3 a1 = some r) (w : World) (hV : Hp) (sV : Sub hV (hp w))  (b1 : Nat) (hA : Hp) (sA : Sub hA (hp w)) (dA : Dj hV hA) (hI : (arrO b1 [] (fun z : Int => Value.int .i64 z) 4 l2 [.int .i64 a0_3] 180).p hV hA) :
    Trip Tryz.prog 106 [.pointer (some ⟨b1, 0, none⟩), .int .i64 a1].toArray hA hV w (fun v => HO.pand (v = .bool r.1) (HO.seps [arrO b1 [] (fun z : Int => Value.int .i64 z) 4 r.2.1 [.int .i64 r.2.2] 180])) := by
 have see : Sees w hA hV := ⟨sV, dA⟩
 refine Trip.of (P := Tryz.prog) (n := ⟨31, []⟩) Tryz.func106 rfl ⟨rfl, rfl⟩ rfl (St.beginA (os := [arrO b1 [] (fun z : Int => Value.int .i64 z) 4 l2 [.int .i64 a0_3] 180]) sA (All.nil _) ⟨hA, em, Dj.em_right _, Sub.refl _, Sub.em _, hI, trivial⟩) ?_
 have ho := H
 refine go ?_
 refine CP.seq ?_
 refine CP.join (fun a w2 => ∃ b10 : Bool, flow_open_pop_s2.j1 l2 a0_3 a1 b10 = some r ∧ Env ⟨31, []⟩ [(0, .pointer (some ⟨b1, 0, none⟩)), (23, .bool b10)] a ∧ St w hA hV [] [arrO b1 [] (fun z : Int => Value.int .i64 z) 4 l2 [.int .i64 a0_3] 180] w2) ?_ ?_
 ·rintro a w2 ⟨b10, ho, ha, hw⟩
  refine CP.app ha hw ?_
  clear ha hw a w2
  refine CP.cb ho (fun ho => ?_) fun ho => ?_
  ·refine go ?_
   obtain rfl := Option.some.inj ho
   exact QE.rt (fun _ h => St.selO [0] rfl rfl h)
  refine go ?_
  refine SP.val (Val.loadArrPost (k := 0) 0 rfl Tryz.underlying3 rfl rfl rfl rfl) rfl rfl rfl (go ?_)
  refine SP.storeArrPost (k := 0) 0 rfl sz3 rfl rfl rfl rfl rfl rfl rfl (go ?_)
  obtain rfl := Option.some.inj ho
  exact QE.rt (fun _ h => St.selO [0] rfl rfl h)
 refine CP.drawA (by kernel_rfl) (fun w2 k h => h.drawn k) ?_
 refine DA.one 0 rfl (by kernel_rfl) (go ?_)
 refine QE.atA ?_
 refine DA.one 1 rfl (by kernel_rfl) (go ?_)
 refine QE.atA ?_
 refine DA.one 2 rfl (by kernel_rfl) (go ?_)
 refine QE.atA ?_
 refine DA.one 3 rfl (by kernel_rfl) ?_
 refine SP.val (Val.loadArrPost (k := 0) 0 rfl Tryz.underlying3 rfl rfl rfl rfl) rfl rfl rfl (go ?_)
 refine QE.atA ?_
 refine DA.one 4 rfl (by kernel_rfl) (go ?_)
 refine QE.atA ?_
 refine DA.one 5 rfl (by kernel_rfl) (go ?_)
 refine QE.atA ?_
 rcases if_some ho with ⟨hc, ho⟩ | ⟨hc, ho⟩
 ·have hg4 := (decide_eq_true hc)
  clear hc
  refine DA.ph 6 17 ?_
  refine DT.is (d := 10) (b := true) rfl hg4 ?_
  refine DT.tn 6 ?_
  refine DT.tn 7 ?_
  refine DT.tn 8 ?_
  refine DT.tn 9 ?_
  refine DT.tn 10 ?_
  refine DT.tn 11 ?_
  refine DT.tn 12 ?_
  refine DT.tn 13 ?_
  refine DT.tn 14 ?_
  refine DT.tn 15 ?_
  refine DT.tn 16 ?_
  refine DT.next (by kernel_rfl) ?_
  refine DA.ph 17 18 ?_
  refine DT.tn 17 ?_
  refine DT.next (by kernel_rfl) ?_
  refine DA.one 18 rfl (by kernel_rfl) (go ?_)
  refine QE.atA ?_
  refine DA.done (by kernel_rfl) ?_
  exact QE.meet fun a w2 ha hw => ⟨true, ho, ha.sub sb, hw⟩
 have hg5 := (decide_eq_false hc)
 clear hc
 refine DA.ph 6 17 ?_
 refine DT.is (d := 10) (b := false) rfl hg5 ?_
 refine DT.tk 6 ?_
 refine DT.tk 7 ?_
 refine DT.tk 8 ?_
 refine DT.tk 9 ?_
 refine DT.tv 10 rfl (Val.loadArrPost (k := 0) 0 rfl Tryz.underlying3 rfl rfl rfl rfl) ?_
 refine DT.tk 11 ?_
 refine DT.tk 12 ?_
 refine DT.tk 13 ?_
 refine DT.tk 16 ?_
 refine DT.one 14 rfl (by kernel_rfl) rfl ?_
 obtain ⟨x9, hx_x9, ho⟩ := elt_bind ho
 refine SP.val (Val.indexArr 0 rfl Tryz.underlying178 sz3 hx_x9.1 hx_x9.2 rfl rfl rfl) rfl rfl rfl (go ?_)
 refine QE.atT (fun w2 hw => hw) ?_
 refine DT.tv 15 rfl (Val.loadArr 0 rfl Tryz.underlying3 rfl hx_x9.2 rfl rfl) ?_
 refine DT.next (by kernel_rfl) ?_
 refine DA.one 17 rfl (by kernel_rfl) (go ?_)
 refine QE.atA ?_
 refine DA.one 18 rfl (by kernel_rfl) (go ?_)
 refine QE.atA ?_
 refine DA.done (by kernel_rfl) ?_
 exact QE.meet fun a w2 ha hw => ⟨(decide (x9 ≠ a1)), ho, ha.sub sb, hw⟩
def flow_last.f (i_0 : api_Instr) : Option Bool :=
  some ((decide (i_0.Op = 31)) || (decide (i_0.Op = 32)))
theorem flow_last.ok (i_0 : api_Instr)  (r : Bool) (H : flow_last.f i_0 = some r) (w : World) (hV : Hp) (sV : Sub hV (hp w))  :
    Trip Tryz.prog 107 [.agg #[.int .u8 i_0.Op, .int .i64 i_0.A, .int .i64 i_0.B]].toArray em hV w (fun v => HO.pure (v = .bool r)) := by
 refine Trip.go 11 Tryz.func107 sV (All.nil _) fun see => ?_
 have ho := H
 refine go ?_
 refine SP.box rfl rfl rfl rfl fun b1 => go ?_
 refine SP.jn 4 [] 10 (.bool ((decide (i_0.Op = 31)) || (decide (i_0.Op = 32)))) ?_ ?_
 ·refine go ?_
  obtain rfl := Option.some.inj ho
  exact QE.rt (fun _ h => h)
 refine SP.bb 6 (fun hq4 => ?_) fun hq4 => ?_
 ·refine go ?_
  exact QE.jb (or_t hq4) fun w2 hw => hw
 refine go ?_
 exact QE.jb (or_f hq4 rfl) fun w2 hw => hw
def flow_Loop_has.f (x_0 : flow_Loop) (a1 : Int) : Option Bool :=
  some ((decide (a1 > x_0.From)) && (decide (a1 ≤ x_0.To)))
theorem flow_Loop_has.ok (x_0 : flow_Loop) (a1 : Int)  (r : Bool) (H : flow_Loop_has.f x_0 a1 = some r) (w : World) (hV : Hp) (sV : Sub hV (hp w))  :
    Trip Tryz.prog 131 [.agg #[.int .i64 x_0.From, .int .i64 x_0.To, .int .i64 x_0.Turns], .int .i64 a1].toArray em hV w (fun v => HO.pure (v = .bool r)) := by
 refine Trip.go 15 Tryz.func131 sV (All.nil _) fun see => ?_
 have ho := H
 refine go ?_
 refine SP.box rfl rfl rfl rfl fun b1 => go ?_
 refine SP.jn 5 [] 14 (.bool ((decide (a1 > x_0.From)) && (decide (a1 ≤ x_0.To)))) ?_ ?_
 ·refine go ?_
  obtain rfl := Option.some.inj ho
  exact QE.rt (fun _ h => h)
 refine SP.bb 9 (fun hq4 => ?_) fun hq4 => ?_
 ·refine go ?_
  exact QE.jb (and_t hq4 rfl) fun w2 hw => hw
 refine go ?_
 exact QE.jb (and_f hq4) fun w2 hw => hw
def flow_jumps_1_s1.f (x_0 : flow_Loop) (c0_1 : Int) (c0_2 : Int) (c0_3 : Int) (c1_6 : Int) : Option Bool :=
  (flow_Loop_has.f x_0 c0_2).bind fun t11 => (if t11 = true then ((flow_Loop_has.f x_0 c1_6).bind fun t14 => some (!t14)) else (some false)).bind fun t15 => some t15
theorem flow_jumps_1_s1.ok (x_0 : flow_Loop) (c0_1 c0_2 : Int) (c0_3 c1_6 : Int) (b4 : Nat) (b7 : Nat) (r : Bool) (H : flow_jumps_1_s1.f x_0 c0_1 c0_2 c0_3 c1_6 = some r) (w : World) (hV : Hp) (sV : Sub hV (hp w)) (h0 : (boxP b4 [.int .u8 c0_1, .int .i64 c0_2, .int .i64 c0_3] 71).p hV) (h1 : (boxP b7 [.int .i64 c1_6] 3).p hV) :
    Trip Tryz.prog 130 [.agg #[.int .i64 x_0.From, .int .i64 x_0.To, .int .i64 x_0.Turns], .pointer (some ⟨b4, 0, none⟩), .pointer (some ⟨b7, 0, none⟩)].toArray em hV w (fun v => HO.pure (v = .bool r)) := by
 refine Trip.go 15 Tryz.func130 sV (All.cons (x := boxP b4 [.int .u8 c0_1, .int .i64 c0_2, .int .i64 c0_3] 71) h0 (All.cons (x := boxP b7 [.int .i64 c1_6] 3) h1 (All.nil _))) fun see => ?_
 have ho := H
 refine go ?_
 refine SP.box rfl rfl rfl rfl fun b9 => go ?_
 refine SP.val (Val.loadA 0 rfl Tryz.underlying152 rfl sz152 rfl rfl rfl) rfl rfl rfl ?_
 refine SP.val (Val.fieldAddr Tryz.underlying71 rfl sz3 rfl) rfl rfl rfl ?_
 refine SP.val (Val.loadB1 see 0 rfl Tryz.underlying3 rfl rfl rfl) rfl rfl rfl ?_
 obtain ⟨t11, hc, ho⟩ := bind_some ho
 refine SP.callV see (caps := []) (.bool t11) fn131 rfl rfl rfl rfl (fun w2 hP hs sub ap => flow_Loop_has.ok _ _  _ hc w2 hP sub ) ?_
 clear hc
 refine go ?_
 obtain ⟨t15, hg_t15, ho⟩ := bind_some ho
 refine SP.jn 5 [] 14 (.bool t15) ?_ ?_
 ·clear hg_t15
  refine go ?_
  obtain rfl := Option.some.inj ho
  exact QE.rt (fun _ h => h)
 refine SP.cb 9 hg_t15 (fun hq13 ho => ?_) fun hq13 ho => ?_
 ·refine SP.val (Val.loadA 0 rfl Tryz.underlying152 rfl sz152 rfl rfl rfl) rfl rfl rfl ?_
  refine SP.val (Val.loadB1 see 1 rfl Tryz.underlying3 rfl rfl rfl) rfl rfl rfl ?_
  obtain ⟨t14, hc, ho⟩ := bind_some ho
  refine SP.callV see (caps := []) (.bool t14) fn131 rfl rfl rfl rfl (fun w2 hP hs sub ap => flow_Loop_has.ok _ _  _ hc w2 hP sub ) ?_
  clear hc
  refine go ?_
  obtain rfl := Option.some.inj ho
  exact QE.jn fun w2 hw => hw
 refine go ?_
 obtain rfl := Option.some.inj ho
 exact QE.jn fun w2 hw => hw
inductive slices_IndexFunc_flow_Loop_flow_Loop_s1.S where
  | start
  | l1 (x15 : Int)
def slices_IndexFunc_flow_Loop_flow_Loop_s1.F (s_0 : (List flow_Loop)) (f_1_2 : Int) (f_1_3 : Int) (f_1_4 : Int) (f_1_7 : Int) : slices_IndexFunc_flow_Loop_flow_Loop_s1.S → Option (slices_IndexFunc_flow_Loop_flow_Loop_s1.S ⊕ Int)
  | .start => some (.inl (.l1 0))
  | .l1 x15 => if x15 < (s_0.length : Int) then ((elt s_0 x15).bind fun x19 => (flow_jumps_1_s1.f x19 f_1_2 f_1_3 f_1_4 f_1_7).bind fun t20 => if t20 = true then (some (.inr x15)) else (some (.inl (.l1 (IntKind.i64.wrap (x15 + 1)))))) else (some (.inr (-1)))
def slices_IndexFunc_flow_Loop_flow_Loop_s1.f (s_0 : (List flow_Loop)) (f_1_2 : Int) (f_1_3 : Int) (f_1_4 : Int) (f_1_7 : Int) : Option Int := runF (slices_IndexFunc_flow_Loop_flow_Loop_s1.F s_0 f_1_2 f_1_3 f_1_4 f_1_7) .start
theorem slices_IndexFunc_flow_Loop_flow_Loop_s1.ok (s_0 : (List flow_Loop)) (f_1_2 f_1_3 : Int) (f_1_4 f_1_7 : Int) (v_s_0 : Value) (b5 : Nat) (b8 : Nat) (r : Int) (H : slices_IndexFunc_flow_Loop_flow_Loop_s1.f s_0 f_1_2 f_1_3 f_1_4 f_1_7 = some r) (w : World) (hV : Hp) (sV : Sub hV (hp w)) (h0 : slR k_flow_Loop hV v_s_0 s_0) (h1 : (boxP b5 [.int .u8 f_1_2, .int .i64 f_1_3, .int .i64 f_1_4] 71).p hV) (h2 : (boxP b8 [.int .i64 f_1_7] 3).p hV) :
    Trip Tryz.prog 145 [v_s_0, .func (.func 130) #[] #[.pointer (some ⟨b5, 0, none⟩), .pointer (some ⟨b8, 0, none⟩)]].toArray em hV w (fun v => HO.pure (v = .int .i64 r)) := by
 refine Trip.go 19 Tryz.func145 sV (aS h0 (All.cons (x := boxP b5 [.int .u8 f_1_2, .int .i64 f_1_3, .int .i64 f_1_4] 71) h1 (All.cons (x := boxP b8 [.int .i64 f_1_7] 3) h2 (All.nil _)))) fun see => ?_
 obtain ⟨n0, hi⟩ := runF_iff.1 H
 obtain ⟨m0, o, hm0, ho, hr⟩ := iter_some hi
 clear hi
 refine go ?_
 refine CP.seq (go ?_)
 obtain rfl := Option.some.inj ho
 refine CP.loop (fun cl1 a w2 => ∃ x15 : Int, cl1 ≤ m0 ∧ iter (slices_IndexFunc_flow_Loop_flow_Loop_s1.F s_0 f_1_2 f_1_3 f_1_4 f_1_7) cl1 (.l1 x15) = some r ∧ Env ⟨19, []⟩ [(0, v_s_0), (1, .func (.func 130) #[] #[.pointer (some ⟨b5, 0, none⟩), .pointer (some ⟨b8, 0, none⟩)]), (7, .int .i64 (s_0.length : Int)), (8, .int .i64 x15)] a ∧ St w em hV [slP k_flow_Loop v_s_0 s_0, boxP b5 [.int .u8 f_1_2, .int .i64 f_1_3, .int .i64 f_1_4] 71, boxP b8 [.int .i64 f_1_7] 3] [] w2) m0 (fun a w2 ha hw => ⟨0, Nat.le_refl _, hr, ha.sub sb, hw⟩) ?_
 clear hr
 rintro cl1 a w2 ⟨x15, hc_l1, hi, ha, hw⟩
 obtain ⟨m16, o, hm_m16, ho, hr⟩ := iter_some hi
 refine CP.app ha hw ?_
 clear ha hw a w2 hi
 refine go ?_
 refine CP.seq ?_
 refine CP.ci ho (fun ho => ?_) fun ho => ?_
 ·refine go ?_
  refine CP.seq (go ?_)
  obtain ⟨x19, hx, ho⟩ := elt_bind ho
  refine SP.indexP see 0 rfl Tryz.underlying138 sz152 hx.1 hx.2 rfl rfl rfl rfl (fun p17 => ?_)
  clear hx
  refine k_flow_Loop.load see 0 rfl Tryz.underlying152 rfl sz152 rfl rfl rfl ?_
  obtain ⟨t20, hc, ho⟩ := bind_some ho
  refine SP.callV see (caps := [.pointer (some ⟨b5, 0, none⟩), .pointer (some ⟨b8, 0, none⟩)]) (.bool t20) fn130 rfl rfl rfl rfl (fun w2 hP hs sub ap => flow_jumps_1_s1.ok _ _ _ _ _ _ _ _ hc w2 hP sub (ap.get 2 rfl) (ap.get 3 rfl)) ?_
  clear hc
  refine go ?_
  refine CP.cb ho (fun ho => ?_) fun ho => ?_
  ·refine go ?_
   obtain rfl := fin ho hr
   exact QE.rt (fun _ h => h)
  refine go ?_
  obtain rfl := Option.some.inj ho
  exact QE.lower m16 (by omega) fun a w2 ha hw => ⟨(IntKind.i64.wrap (x15 + 1)), (by omega), hr, ha.sub sb, (St.selP [1, 2, 3] rfl hw)⟩
 refine go ?_
 obtain rfl := fin ho hr
 exact QE.rt (fun _ h => h)
def slices_ContainsFunc_flow_Loop_flow_Loop_s1.f (s_0 : (List flow_Loop)) (f_1_2 : Int) (f_1_3 : Int) (f_1_4 : Int) (f_1_7 : Int) : Option Bool :=
  (slices_IndexFunc_flow_Loop_flow_Loop_s1.f s_0 f_1_2 f_1_3 f_1_4 f_1_7).bind fun t10 => some (decide (t10 ≥ 0))
theorem slices_ContainsFunc_flow_Loop_flow_Loop_s1.ok (s_0 : (List flow_Loop)) (f_1_2 f_1_3 : Int) (f_1_4 f_1_7 : Int) (v_s_0 : Value) (b5 : Nat) (b8 : Nat) (r : Bool) (H : slices_ContainsFunc_flow_Loop_flow_Loop_s1.f s_0 f_1_2 f_1_3 f_1_4 f_1_7 = some r) (w : World) (hV : Hp) (sV : Sub hV (hp w)) (h0 : slR k_flow_Loop hV v_s_0 s_0) (h1 : (boxP b5 [.int .u8 f_1_2, .int .i64 f_1_3, .int .i64 f_1_4] 71).p hV) (h2 : (boxP b8 [.int .i64 f_1_7] 3).p hV) :
    Trip Tryz.prog 132 [v_s_0, .func (.func 130) #[] #[.pointer (some ⟨b5, 0, none⟩), .pointer (some ⟨b8, 0, none⟩)]].toArray em hV w (fun v => HO.pure (v = .bool r)) := by
 refine Trip.go 9 Tryz.func132 sV (aS h0 (All.cons (x := boxP b5 [.int .u8 f_1_2, .int .i64 f_1_3, .int .i64 f_1_4] 71) h1 (All.cons (x := boxP b8 [.int .i64 f_1_7] 3) h2 (All.nil _)))) fun see => ?_
 have ho := H
 refine go ?_
 obtain ⟨t10, hc, ho⟩ := bind_some ho
 refine SP.callV see (caps := []) (.int .i64 t10) fn145 rfl rfl rfl rfl (fun w2 hP hs sub ap => slices_IndexFunc_flow_Loop_flow_Loop_s1.ok _ _ _ _ _ _ _ _ _ hc w2 hP sub (ap.get 0 rfl) (ap.get 1 rfl) (ap.get 2 rfl)) ?_
 clear hc
 refine go ?_
 obtain rfl := Option.some.inj ho
 exact QE.rt (fun _ h => h)
inductive flow_jumps.S where
  | start
  | l1 (x27 : Int)
def flow_jumps.j1 (l_0 : (List api_Instr)) (loops_1 : (List flow_Loop)) (x27 : Int) : Option (flow_jumps.S ⊕ Bool) :=
  some (.inl (.l1 (IntKind.i64.wrap (x27 + 1))))
def flow_jumps.F (l_0 : (List api_Instr)) (loops_1 : (List flow_Loop)) : flow_jumps.S → Option (flow_jumps.S ⊕ Bool)
  | .start => some (.inl (.l1 0))
  | .l1 x27 => if x27 < (l_0.length : Int) then ((elt l_0 x27).bind fun x31 => if ((decide (x31.Op ≠ 26)) && (decide (x31.Op ≠ 27))) = true then (flow_jumps.j1 l_0 loops_1 x27) else ((if ((decide (x31.A ≤ x27)) || (decide (x31.A ≥ (l_0.length : Int)))) = true then (some true) else ((slices_ContainsFunc_flow_Loop_flow_Loop_s1.f loops_1 x31.Op x31.A x31.B x27).bind fun t49 => some t49)).bind fun t50 => if t50 = true then (some (.inr false)) else (flow_jumps.j1 l_0 loops_1 x27))) else (some (.inr true))
def flow_jumps.f (l_0 : (List api_Instr)) (loops_1 : (List flow_Loop)) : Option Bool := runF (flow_jumps.F l_0 loops_1) .start
theorem flow_jumps.ok (l_0 : (List api_Instr)) (loops_1 : (List flow_Loop)) (v_l_0 v_loops_1 : Value) (r : Bool) (H : flow_jumps.f l_0 loops_1 = some r) (w : World) (hV : Hp) (sV : Sub hV (hp w)) (h0 : slR k_api_Instr hV v_l_0 l_0) (h1 : slR k_flow_Loop hV v_loops_1 loops_1) :
    Trip Tryz.prog 108 [v_l_0, v_loops_1].toArray em hV w (fun v => HO.pure (v = .bool r)) := by
 refine Trip.go 41 Tryz.func108 sV (aS h0 (aS h1 (All.nil _))) fun see => ?_
 obtain ⟨n0, hi⟩ := runF_iff.1 H
 obtain ⟨m0, o, hm0, ho, hr⟩ := iter_some hi
 clear hi
 refine go ?_
 refine CP.seq (go ?_)
 obtain rfl := Option.some.inj ho
 refine CP.loop (fun cl1 a w2 => ∃ x27 : Int, cl1 ≤ m0 ∧ iter (flow_jumps.F l_0 loops_1) cl1 (.l1 x27) = some r ∧ Env ⟨41, []⟩ [(0, v_l_0), (1, v_loops_1), (8, v_l_0), (9, .int .i64 (l_0.length : Int)), (10, .int .i64 x27)] a ∧ St w em hV [slP k_api_Instr v_l_0 l_0, slP k_flow_Loop v_loops_1 loops_1] [] w2) m0 (fun a w2 ha hw => ⟨0, Nat.le_refl _, hr, ha.sub sb, hw⟩) ?_
 clear hr
 rintro cl1 a w2 ⟨x27, hc_l1, hi, ha, hw⟩
 obtain ⟨m28, o, hm_m28, ho, hr⟩ := iter_some hi
 refine CP.app ha hw ?_
 clear ha hw a w2 hi
 refine go ?_
 refine CP.seq ?_
 refine CP.ci ho (fun ho => ?_) fun ho => ?_
 ·refine go ?_
  refine CP.join (fun a w2 => ∃ (m51 : Nat) (o : (flow_jumps.S ⊕ Bool)), m51 ≤ m28 ∧ flow_jumps.j1 l_0 loops_1 x27 = some o ∧ next (flow_jumps.F l_0 loops_1) m51 o = some r ∧ Env ⟨41, []⟩ [(0, v_l_0), (1, v_loops_1), (8, v_l_0), (9, .int .i64 (l_0.length : Int)), (10, .int .i64 x27)] a ∧ St w em hV [slP k_api_Instr v_l_0 l_0, slP k_flow_Loop v_loops_1 loops_1] [] w2) ?_ ?_
  ·rintro a w2 ⟨m51, o, hm_m51, ho, hr, ha, hw⟩
   refine CP.app ha hw ?_
   clear ha hw a w2
   refine go ?_
   obtain rfl := Option.some.inj ho
   exact QE.lower m51 (by omega) fun a w2 ha hw => ⟨(IntKind.i64.wrap (x27 + 1)), (by omega), hr, ha.sub sb, hw⟩
  refine go ?_
  obtain ⟨x31, hx, ho⟩ := elt_bind ho
  refine SP.indexP see 0 rfl Tryz.underlying39 sz71 hx.1 hx.2 rfl rfl rfl rfl (fun p29 => ?_)
  clear hx
  refine k_api_Instr.load see 0 rfl Tryz.underlying71 rfl sz71 rfl rfl rfl ?_
  refine SP.alloc (cs := [.int .i64 0]) inf3 rfl rfl (fun b32 => ?_)
  refine SP.alloc (cs := [.int .u8 0, .int .i64 0, .int .i64 0]) inf71 rfl rfl (fun b34 => ?_)
  refine SP.store (v := .int .i64 x27) (vs := [.int .i64 x27]) 1 (by rfl) sz3 (by rfl) (by rfl) (by rfl) (by rfl) (by rfl) (by rfl) ?_
  refine SP.store (v := .agg #[.int .u8 x31.Op, .int .i64 x31.A, .int .i64 x31.B]) (vs := [.int .u8 x31.Op, .int .i64 x31.A, .int .i64 x31.B]) 0 (by rfl) sz71 (by rfl) (by rfl) (by rfl) (by rfl) (by rfl) (by rfl) (go ?_)
  refine CP.seq (go ?_)
  refine SP.jn 4 [0, 1, 8, 9, 10, 5, 6] 22 (.bool ((decide (x31.Op ≠ 26)) && (decide (x31.Op ≠ 27)))) ?_ ?_
  ·refine go ?_
   refine CP.cb ho (fun ho => ?_) fun ho => ?_
   ·refine go ?_
    exact QE.meet fun a w2 ha hw => ⟨m28, _, (by omega), ho, hr, ha.sub sb, (St.selP [1, 2] rfl (St.selO [] rfl rfl hw))⟩
   refine go ?_
   refine SP.val (Val.makeFunc (us := []) (vs := [.pointer (some ⟨b34, 0, none⟩), .pointer (some ⟨b32, 0, none⟩)]) rfl rfl) rfl rfl rfl (go ?_)
   refine SP.jn 6 [0, 1, 8, 9, 10, 7] 34 (.bool ((decide (x31.A ≤ x27)) || (decide (x31.A ≥ (l_0.length : Int))))) ?_ ?_
   ·refine go ?_
    refine SP.freezeB see 0 rfl ?_
    refine SP.freezeB see 0 rfl ?_
    obtain ⟨t50, hg_t50, ho⟩ := bind_some ho
    refine SP.jn 4 [0, 1, 8, 9, 10] 39 (.bool t50) ?_ ?_
    ·clear hg_t50
     refine go ?_
     refine CP.cb ho (fun ho => ?_) fun ho => ?_
     ·refine go ?_
      obtain rfl := fin ho hr
      exact QE.rt (fun _ h => h)
     refine go ?_
     exact QE.meet fun a w2 ha hw => ⟨m28, _, (by omega), ho, hr, ha.sub sb, (St.selP [3, 4] rfl hw)⟩
    refine SP.cb 35 hg_t50 (fun hq48 ho => ?_) fun hq48 ho => ?_
    ·refine go ?_
     obtain rfl := Option.some.inj ho
     exact QE.jn fun w2 hw => hw
    refine go ?_
    obtain ⟨t49, hc, ho⟩ := bind_some ho
    refine SP.callV see (caps := []) (.bool t49) fn132 rfl rfl rfl rfl (fun w2 hP hs sub ap => slices_ContainsFunc_flow_Loop_flow_Loop_s1.ok _ _ _ _ _ _ _ _ _ hc w2 hP sub (ap.get 4 rfl) (ap.get 1 rfl) (ap.get 0 rfl)) ?_
    clear hc
    refine go ?_
    obtain rfl := Option.some.inj ho
    exact QE.jn fun w2 hw => hw
   refine SP.bb 28 (fun hq39 => ?_) fun hq39 => ?_
   ·refine go ?_
    exact QE.jb (or_t hq39) fun w2 hw => hw
   refine go ?_
   exact QE.jb (or_f hq39 rfl) fun w2 hw => hw
  refine SP.bb 18 (fun hq37 => ?_) fun hq37 => ?_
  ·refine go ?_
   exact QE.jb (and_t hq37 rfl) fun w2 hw => hw
  refine go ?_
  exact QE.jb (and_f hq37) fun w2 hw => hw
 refine go ?_
 obtain rfl := fin ho hr
 exact QE.rt (fun _ h => h)
shelf_lay_g SlLaysF0.n6 Slsf 6 at Tryz 109 as Tryz.sort109
shelf_lay_g SlLaysC2.n5 Slgc 5 at Tryz 111 as Tryz.cmp111
shelf_lay Lays.n125 Nm 125 at Tryz as Tryz.bitsLen70
instance : Inhabited flow_Loop := ⟨flow_Loop.zero⟩
def enc109 (x : flow_Loop) : List Value := [.int .i64 x.From, .int .i64 x.To, .int .i64 x.Turns]
def cf109 (x y : flow_Loop) : Int := Lib.compareInt x.From y.From
theorem lt109 (x y : flow_Loop) : Go.Proofs.ltOf cf109 x y = decide (x.From < y.From) := by
  unfold Go.Proofs.ltOf cf109 Lib.compareInt
  by_cases h1 : x.From < y.From
  · simp [h1]
  · by_cases h2 : y.From < x.From <;> simp [h1, h2]
theorem swo109 : Go.Sort.SWO (Go.Proofs.ltOf cf109) where
  irrefl x := by rw [lt109]; simp
  trans x y z h1 h2 := by rw [lt109] at *; simp at *; omega
  ntrans x y z h1 h2 := by rw [lt109] at *; simp at *; omega
set_option maxHeartbeats 1000000 in
theorem clos109 (x y : flow_Loop) (W : World) : Calls Tryz.prog 110 #[.agg (enc109 x).toArray, .agg (enc109 y).toArray] W fun e w' => e = .returned (.int .i64 (cf109 x y)) ∧ ∃ q os', w' = Go.Sort.grow (W.drewN q) os' := by
  have hcon := fun W' => Go.Proofs.AnyG.cmp_Compare_int Tryz.cmp111 x.From y.From W'
  change ∀ W', Calls Tryz.prog 111 _ _ _ at hcon
  unfold cf109 enc109
  generalize Lib.compareInt x.From y.From = r at hcon ⊢
  go_enter Tryz.func110, Tryz.ntmps110
  go_wp2_with (go_at_call 111; refine (hcon _).mono ?_; rintro e w' ⟨rfl, rfl⟩)
  go_ret
  exact ⟨rfl, 0, _, by rw [Go.Sort.alloc_eq_grow, Go.Sort.alloc_eq_grow, Go.Sort.grow_grow]; rfl⟩
def srt109 (d : Array flow_Loop) : Array flow_Loop := Go.Sort.pdq (Go.Proofs.ltOf cf109) d 0 d.size (Lib.bitLen d.size) true true
theorem srt109_sorts (d : Array flow_Loop) : Go.Sort.PermIn 0 d.size d (srt109 d) ∧ Go.Sort.SortedIn (Go.Proofs.ltOf cf109) 0 d.size (srt109 d) :=
  Go.Sort.pdq_sorts (Go.Proofs.ltOf cf109) swo109 d 0 d.size (Lib.bitLen d.size) true true (Nat.zero_le _) (Nat.le_refl _) (Or.inl rfl)
theorem ins109_nil (F : Value) (w : World) : Calls Tryz.prog 146 #[.slice none 0 0, .int .i64 0, .int .i64 0, F] w fun e w' => e = .returned (.tuple #[]) ∧ w' = w := by
  go_enter Tryz.func146, Tryz.ntmps146
  go_wp2
  refine wp_loop_rounds 1 ?_
  rw [rounds_succ]
  go_wp2
  go_end0
  exact ⟨rfl, rfl⟩
theorem pdq109_nil (F : Value) (w : World) : Calls Tryz.prog 133 #[.slice none 0 0, .int .i64 0, .int .i64 0, .int .i64 0, F] w fun e w' => e = .returned (.tuple #[]) ∧ w' = w := by
  have hi := ins109_nil F w
  go_enter Tryz.func133, Tryz.ntmps133
  go_wp2
  refine wp_loop_rounds 1 ?_
  rw [rounds_succ]
  go_wp2_with (go_at_call 146; refine hi.mono ?_; rintro e w' ⟨rfl, rfl⟩)
  (try simp only [Exit.inBlock, Exit.then]); refine bodyPost_ret (results_none rfl _ _ _) rfl ?_
  exact ⟨rfl, rfl⟩
theorem srt109_nil (F : Value) (w : World) : Calls Tryz.prog 109 #[.slice none 0 0, F] w fun e w' => e = .returned (.tuple #[]) ∧ w' = w := by
  have hi := pdq109_nil F w
  have hl : Calls Tryz.prog 70 #[.int .u64 0] w fun e w' => e = .returned (.int .i64 0) ∧ w' = w := by
    have h := Any.bits_Len Tryz.bitsLen70 0 w (by omega) (by omega)
    exact h
  go_enter Tryz.func109, Tryz.ntmps109
  go_wp2_with (first | (go_at_call 70; refine hl.mono ?_; rintro e w' ⟨rfl, rfl⟩) | (go_at_call 133; refine hi.mono ?_; rintro e w' ⟨rfl, rfl⟩))
  go_end0
  exact ⟨rfl, rfl⟩
theorem srt109_nilT (F : Value) (w : World) (hV : Hp) : Trip Tryz.prog 109 #[.slice none 0 0, F] em hV w (fun v => HO.pure (v = .tuple #[])) :=
  (srt109_nil F w).mono fun e w' ⟨he, hw⟩ => by
    subst hw
    exact ⟨_, he, Met.refl _, fun _ _ e _ => e, em, em, fun _ _ _ => rfl, fun _ _ _ => rfl, Dj.em_left _, Sub.em _, Sub.em _, rfl⟩
theorem srt109_trip {v : Value} {l : List flow_Loop} (hll : l.length < 4611686018427387904) {w : World} {hP h1 : Hp} (sub : Sub hP (hp w)) (s1 : Sub h1 (hp w)) (dj : Dj hP h1) (hI : (slO k_flow_Loop 152 v l).p hP h1) :
    Trip Tryz.prog 109 #[v, .func (.func 110) #[] #[]] h1 hP w (fun r => HO.pand (r = .tuple #[]) (HO.seps [slO k_flow_Loop 152 v (srt109 l.toArray).toList])) := by
  refine slO.rowTrip (fun v => #[v, .func (.func 110) #[] #[]]) (fun _ => .tuple #[]) enc109 (fun h cs x => Iff.rfl) srt109 (fun d => (srt109_sorts d).1.1) (fun blk cap d w hH hb hsz _ _ => ?_) (fun _ w hV sV => ?_) hll sub s1 dj hI
  · exact AnyQ.slices_SortFunc_eq Tryz.sort109 3 Tryz.isAgg152 Tryz.sizeOf152 enc109 (fun _ => rfl) (fun x v hv => by simp [enc109] at hv; rcases hv with rfl | rfl | rfl <;> rfl) cf109 swo109 110 #[] blk 0 cap d w (enters_of Tryz.func110 (by kernel_rfl) rfl) (fun _ _ _ _ x y => clos109 x y _) hH hb hsz
  · exact srt109_nilT _ w hV
inductive flow_Loops.S where
  | start
  | l1 (l52 : List Int) (x53 : Int) (l55 : List flow_Loop) (x57 : Int)
def flow_Loops.j1 (l_0 : (List api_Instr))  : Option (flow_Loops.S ⊕ ((List flow_Loop) × Int)) :=
  some (.inr ([], 90))
def flow_Loops.j2 (l_0 : (List api_Instr)) (x57 : Int) (l80 : List Int) (x81 : Int) (l83 : List flow_Loop) : Option (flow_Loops.S ⊕ ((List flow_Loop) × Int)) :=
  some (.inl (.l1 l80 x81 l83 (IntKind.i64.wrap (x57 + 1))))
def flow_Loops.F (l_0 : (List api_Instr)) : flow_Loops.S → Option (flow_Loops.S ⊕ ((List flow_Loop) × Int))
  | .start => (if ((decide ((l_0.length : Int) = 0)) || (decide ((l_0.length : Int) > 200))) = true then (some true) else ((slices_ContainsFunc_api_Instr_api_Instr_s1.f l_0).bind fun t6 => some t6)).bind fun t7 => if t7 = true then (some (.inr ([], 40))) else (some (.inl (.l1 (List.replicate 4 0 : List Int) 0 [] 0)))
  | .l1 l52 x53 l55 x57 => if x57 < (l_0.length : Int) then ((elt l_0 x57).bind fun x61 => if x61.Op = 28 then ((flow_open_push_s2.f l52 x53 x57).bind fun t64 => if (!t64.1) = true then (flow_Loops.j1 l_0) else (flow_Loops.j2 l_0 x57 t64.2.1 t64.2.2 l55)) else (if x61.Op = 29 then ((flow_open_pop_s2.f l52 x53 x61.A).bind fun t65 => if (!t65.1) = true then (flow_Loops.j1 l_0) else ((elt l_0 x61.A).bind fun x68 => if (l55.length + [(⟨x61.A, x57, x68.A⟩ : flow_Loop)].length) * 24 ≤ 140737488355328 then (flow_Loops.j2 l_0 x57 t65.2.1 t65.2.2 (l55 ++ [(⟨x61.A, x57, x68.A⟩ : flow_Loop)])) else none)) else (flow_Loops.j2 l_0 x57 l52 x53 l55))) else ((if x53 > 0 then (some true) else ((elt l_0 (IntKind.i64.wrap ((l_0.length : Int) - 1))).bind fun x90 => (flow_last.f x90).bind fun t91 => some (!t91))).bind fun t92 => (if t92 = true then (some true) else ((flow_jumps.f l_0 l55).bind fun t95 => some (!t95))).bind fun t96 => if t96 = true then (flow_Loops.j1 l_0) else (if l55.length < 4611686018427387904 then (some (.inr ((srt109 l55.toArray).toList, 0))) else none))
def flow_Loops.f (l_0 : (List api_Instr)) : Option ((List flow_Loop) × Int) := runF (flow_Loops.F l_0) .start
theorem flow_Loops.ok (l_0 : (List api_Instr)) (v_l_0 : Value)  (r : (List flow_Loop) × Int) (H : flow_Loops.f l_0 = some r) (w : World) (hV : Hp) (sV : Sub hV (hp w)) (h0 : slR k_api_Instr hV v_l_0 l_0) (h1 : (arrP k_arr221 0 tab0).p hV) :
    Trip Tryz.prog 71 [v_l_0].toArray em hV w (fun v => HO.ex fun u0 : Value => HO.pand (v = .tuple #[u0, .int .i64 r.2]) (HO.seps [slO k_flow_Loop 152 u0 r.1])) := by
 refine Trip.go 76 Tryz.func71 sV (aS h0 (All.cons (x := arrP k_arr221 0 tab0) h1 (All.nil _))) fun see => ?_
 obtain ⟨n0, hi⟩ := runF_iff.1 H
 obtain ⟨m0, o, hm0, ho, hr⟩ := iter_some hi
 clear hi
 refine go ?_
 refine CP.scope 0 (fun a w2 => ∃ (m107 : Nat) (o : (flow_Loops.S ⊕ ((List flow_Loop) × Int))), m107 ≤ m0 ∧ flow_Loops.j1 l_0 = some o ∧ next (flow_Loops.F l_0) m107 o = some r ∧ Env ⟨76, []⟩ [] a ∧ St w em hV [arrP k_arr221 0 tab0] [] w2) rfl (fun _ _ _ h => h) ?_ ?_
 ·rintro a w2 ⟨m107, o, hm_m107, ho, hr, ha, hw⟩
  refine CP.app ha hw ?_
  clear ha hw a w2
  refine CP.seq (go ?_)
  obtain rfl := fin ho hr
  exact QE.rt (fun _ h => St.selO [0] rfl rfl (St.addO (slO.nil k_flow_Loop 152) h))
 refine CP.seq (go ?_)
 refine SP.jn 4 [0] 15 (.bool ((decide ((l_0.length : Int) = 0)) || (decide ((l_0.length : Int) > 200)))) ?_ ?_
 ·refine go ?_
  obtain ⟨t7, hg_t7, ho⟩ := bind_some ho
  refine SP.jn 3 [0] 19 (.bool t7) ?_ ?_
  ·clear hg_t7
   refine go ?_
   refine CP.cb ho (fun ho => ?_) fun ho => ?_
   ·refine go ?_
    refine QE.scopeX rfl ?_
    obtain rfl := fin ho hr
    exact QE.rt (fun _ h => St.selO [0] rfl rfl (St.addO (slO.nil k_flow_Loop 152) h))
   refine go ?_
   refine SP.alloc (cs := [.int .i64 0, .int .i64 0, .int .i64 0, .int .i64 0, .int .i64 0]) inf180 rfl rfl (fun b9 => go ?_)
   refine CP.seq (go ?_)
   obtain rfl := Option.some.inj ho
   refine CP.loop (fun cl1 a w2 => ∃ l52 : List Int, ∃ x53 : Int, ∃ l55 : List flow_Loop, ∃ x57 : Int, ∃ v56 : Value, cl1 ≤ m0 ∧ iter (flow_Loops.F l_0) cl1 (.l1 l52 x53 l55 x57) = some r ∧ Env ⟨76, []⟩ [(0, v_l_0), (4, v56), (5, .pointer (some ⟨b9, 0, none⟩)), (20, v_l_0), (21, .int .i64 (l_0.length : Int)), (22, .int .i64 x57)] a ∧ St w em hV [slP k_api_Instr v_l_0 l_0, arrP k_arr221 0 tab0] [slO k_flow_Loop 152 v56 l55, arrO b9 [] (fun z : Int => Value.int .i64 z) 4 l52 [.int .i64 x53] 180] w2) m0 (fun a w2 ha hw => ⟨(List.replicate 4 0 : List Int), 0, [], 0, (.slice none 0 0), Nat.le_refl _, hr, ha.sub sb, (St.addO (slO.nil k_flow_Loop 152) (St.arr (f := (fun z : Int => Value.int .i64 z)) 0 rfl (List.replicate 4 0 : List Int) [] [.int .i64 0] rfl rfl hw))⟩) ?_
   clear hr
   rintro cl1 a w2 ⟨l52, x53, l55, x57, v56, hc_l1, hi, ha, hw⟩
   obtain ⟨m58, o, hm_m58, ho, hr⟩ := iter_some hi
   refine CP.app ha hw ?_
   clear ha hw a w2 hi
   refine go ?_
   refine CP.seq ?_
   refine CP.ci ho (fun ho => ?_) fun ho => ?_
   ·refine go ?_
    refine CP.join (fun a w2 => ∃ l80 : List Int, ∃ x81 : Int, ∃ l83 : List flow_Loop, ∃ v84 : Value, ∃ (m85 : Nat) (o : (flow_Loops.S ⊕ ((List flow_Loop) × Int))), m85 ≤ m58 ∧ flow_Loops.j2 l_0 x57 l80 x81 l83 = some o ∧ next (flow_Loops.F l_0) m85 o = some r ∧ Env ⟨76, []⟩ [(0, v_l_0), (4, v84), (5, .pointer (some ⟨b9, 0, none⟩)), (20, v_l_0), (21, .int .i64 (l_0.length : Int)), (22, .int .i64 x57)] a ∧ St w em hV [slP k_api_Instr v_l_0 l_0, arrP k_arr221 0 tab0] [slO k_flow_Loop 152 v84 l83, arrO b9 [] (fun z : Int => Value.int .i64 z) 4 l80 [.int .i64 x81] 180] w2) ?_ ?_
    ·rintro a w2 ⟨l80, x81, l83, v84, m85, o, hm_m85, ho, hr, ha, hw⟩
     refine CP.app ha hw ?_
     clear ha hw a w2
     refine go ?_
     obtain rfl := Option.some.inj ho
     exact QE.lower m85 (by omega) fun a w2 ha hw => ⟨l80, x81, l83, (IntKind.i64.wrap (x57 + 1)), v84, (by omega), hr, ha.sub sb, hw⟩
    refine go ?_
    obtain ⟨x61, hx, ho⟩ := elt_bind ho
    refine SP.indexP see 0 rfl Tryz.underlying39 sz71 hx.1 hx.2 rfl rfl rfl rfl (fun p59 => ?_)
    clear hx
    refine k_api_Instr.load see 0 rfl Tryz.underlying71 rfl sz71 rfl rfl rfl ?_
    refine SP.alloc (cs := [.int .u8 0, .int .i64 0, .int .i64 0]) inf71 rfl rfl (fun b62 => go ?_)
    refine SP.store (v := .agg #[.int .u8 x61.Op, .int .i64 x61.A, .int .i64 x61.B]) (vs := [.int .u8 x61.Op, .int .i64 x61.A, .int .i64 x61.B]) 0 (by rfl) sz71 (by rfl) (by rfl) (by rfl) (by rfl) (by rfl) (by rfl) (go ?_)
    refine CP.ci ho (fun ho => ?_) fun ho => ?_
    ·refine go ?_
     refine SP.imp (fun w2 hw => St.selO [2, 0, 1] rfl rfl hw) ?_
     obtain ⟨t64, hc, ho⟩ := bind_some ho
     refine SP.callA see (caps := []) _ fn105 rfl rfl rfl rfl (fun w2 hP h1 sub s1 d1 ap hI => flow_open_push_s2.ok _ _ _  _ hc w2 hP sub  _ h1 s1 d1 hI) (SP.k0 ?_)
     clear hc
     refine go ?_
     refine CP.cb ho (fun ho => ?_) fun ho => ?_
     ·refine CP.goto ?_
      refine QE.blockG ?_
      refine QE.blockG (go ?_)
      refine QE.blockG (go ?_)
      exact QE.jump fun a w2 ha hw => ⟨m58, _, (by omega), ho, hr, ha.sub trivial, (St.selP [2] rfl (St.selO [] rfl rfl hw))⟩
     refine go ?_
     exact QE.meet fun a w2 ha hw => ⟨t64.2.1, t64.2.2, l55, v56, m58, _, (by omega), ho, hr, ha.sub sb, (St.selP [1, 2] rfl (St.selO [2, 0] rfl rfl hw))⟩
    refine go ?_
    refine CP.ci ho (fun ho => ?_) fun ho => ?_
    ·refine CP.seq (go ?_)
     refine SP.imp (fun w2 hw => St.selO [2, 0, 1] rfl rfl hw) ?_
     obtain ⟨t65, hc, ho⟩ := bind_some ho
     refine SP.callA see (caps := []) _ fn106 rfl rfl rfl rfl (fun w2 hP h1 sub s1 d1 ap hI => flow_open_pop_s2.ok _ _ _  _ hc w2 hP sub  _ h1 s1 d1 hI) (SP.k0 ?_)
     clear hc
     refine go ?_
     refine CP.cb ho (fun ho => ?_) fun ho => ?_
     ·refine CP.goto (go ?_)
      refine QE.blockG ?_
      refine QE.blockG (go ?_)
      refine QE.blockG (go ?_)
      exact QE.jump fun a w2 ha hw => ⟨m58, _, (by omega), ho, hr, ha.sub trivial, (St.selP [2] rfl (St.selO [] rfl rfl hw))⟩
     refine go ?_
     refine CP.drawA (by kernel_rfl) (fun w2 k h => h.drawn k) ?_
     obtain ⟨x68, hx, ho⟩ := elt_bind ho
     refine DA.ghost (fun w2 h => h.elem see 1 rfl hx.1 hx.2) (fun p66 h_p66 => ?_)
     clear hx
     refine DA.ghost (fun w2 h => h.fieldE see 0 rfl k_api_Instr.part_A) (fun p69 h_p69 => ?_)
     refine DA.ghost (fun w2 h => h.openE see 0 rfl (fun _ : Unit => [.int .i64 x68.A]) (fun _ => []) (fun h cs e => ⟨(), e, All.nil _⟩)) (fun _ _ => ?_)
     refine DA.ph 0 12 ?_
     refine DT.tk 0 ?_
     refine DT.tk 1 ?_
     refine DT.tk 2 ?_
     refine DT.tk 3 ?_
     refine DT.tk 4 ?_
     refine DT.tk 5 ?_
     refine DT.tk 6 ?_
     refine DT.tv 7 rfl (Val.indexE h_p66 Tryz.underlying39 sz71 rfl rfl) ?_
     refine DT.tv 8 rfl (Val.fieldE h_p69 Tryz.underlying71 rfl rfl sz3 rfl) ?_
     refine DT.tv 9 rfl (Val.loadAt1 see 0 rfl Tryz.underlying3 rfl rfl) ?_
     refine DT.tv 10 rfl (Val.buildC (us := [(0, .int .i64 x61.A), (1, .int .i64 x57), (2, .int .i64 x68.A)]) (ucs := [(0, [.int .i64 x61.A]), (1, [.int .i64 x57]), (2, [.int .i64 x68.A])]) (cs := [.int .i64 x61.A, .int .i64 x57, .int .i64 x68.A]) bt152 rfl rfl ⟨rfl, rfl, ⟨rfl, rfl, ⟨rfl, rfl, trivial⟩⟩⟩ (by rfl)) ?_
     refine DT.one 11 rfl (by kernel_rfl) rfl ?_
     refine SP.lit (k := k_flow_Loop) (xs := [(⟨x61.A, x57, x68.A⟩ : flow_Loop)]) (vs := [.agg #[.int .i64 x61.A, .int .i64 x57, .int .i64 x68.A]]) (cells := [.int .i64 x61.A, .int .i64 x57, .int .i64 x68.A]) Tryz.underlying138 inf152 rfl rfl rfl rfl rfl rfl rfl rfl (fun _ ap => ⟨[.int .i64 x61.A, .int .i64 x57, .int .i64 x68.A], _, rfl, rfl, rfl⟩) rfl rfl rfl (fun v76 => go ?_)
     refine QE.atT (fun w2 hw => (St.selO [1, 2, 3] rfl rfl hw)) ?_
     refine DT.next (by kernel_rfl) ?_
     refine DA.one 12 rfl (by kernel_rfl) ?_
     refine SP.freezeS see 0 rfl ?_
     obtain ⟨hb, ho⟩ := must_some ho
     refine SP.append see 2 rfl 0 rfl Tryz.underlying138 inf152 rfl rfl hb rfl rfl rfl rfl rfl (fun v78 => ?_)
     clear hb
     refine go ?_
     refine QE.atA ?_
     refine DA.one 13 rfl (by kernel_rfl) (go ?_)
     refine QE.atA ?_
     refine DA.done (by kernel_rfl) (go ?_)
     exact QE.meet fun a w2 ha hw => ⟨t65.2.1, t65.2.2, (l55 ++ [(⟨x61.A, x57, x68.A⟩ : flow_Loop)]), v78, m58, _, (by omega), ho, hr, ha.sub sb, (St.selP [5, 6] rfl (St.selO [2, 0] rfl rfl hw))⟩
    refine go ?_
    exact QE.meet fun a w2 ha hw => ⟨l52, x53, l55, v56, m58, _, (by omega), ho, hr, ha.sub sb, (St.selP [1, 2] rfl (St.selO [1, 2] rfl rfl hw))⟩
   refine go ?_
   refine CP.seq (go ?_)
   refine SP.val (Val.loadArrPost (k := 0) 1 rfl Tryz.underlying3 rfl rfl rfl rfl) rfl rfl rfl (go ?_)
   obtain ⟨t92, hg_t92, ho⟩ := bind_some ho
   refine SP.jn 9 [0, 4] 66 (.bool t92) ?_ ?_
   ·clear hg_t92
    refine go ?_
    obtain ⟨t96, hg_t96, ho⟩ := bind_some ho
    refine SP.jn 5 [4] 72 (.bool t96) ?_ ?_
    ·clear hg_t96
     refine go ?_
     refine CP.cb ho (fun ho => ?_) fun ho => ?_
     ·refine CP.goto (go ?_)
      exact QE.jump fun a w2 ha hw => ⟨m58, _, (by omega), ho, hr, ha.sub trivial, (St.selP [1] rfl (St.selO [] rfl rfl hw))⟩
     refine go ?_
     obtain ⟨hb, ho⟩ := must_some ho
     refine SP.callA see (caps := []) (fun r => HO.pand (r = .tuple #[]) (HO.seps [slO k_flow_Loop 152 v56 ((srt109 l55.toArray).toList)])) fn109 rfl rfl rfl rfl (fun w2 hP h1 sub s1 d1 ap hI => srt109_trip hb sub s1 d1 hI) (SP.k0 ?_)
     clear hb
     refine go ?_
     refine CP.seq (go ?_)
     refine QE.scopeX rfl ?_
     obtain rfl := fin ho hr
     exact QE.rt (fun _ h => St.selO [0] rfl rfl h)
    refine SP.cb 67 hg_t96 (fun hq94 ho => ?_) fun hq94 ho => ?_
    ·refine go ?_
     obtain rfl := Option.some.inj ho
     exact QE.jn fun w2 hw => hw
    refine go ?_
    obtain ⟨t95, hc, ho⟩ := bind_some ho
    refine SP.callVO see (caps := []) (.bool t95) fn108 rfl rfl rfl rfl (fun w2 hs => flow_jumps.ok _ _ _ _ _ hc w2 (hp w2) (Sub.refl _) ((St.pers 0 rfl see.sub see.dj hs)) (slO.read (St.own 0 rfl see.sub see.dj hs) (Sub.refl _) (Sub.refl _))) ?_
    clear hc
    refine go ?_
    obtain rfl := Option.some.inj ho
    exact QE.jn fun w2 hw => hw
   refine SP.ci 57 hg_t92 (fun hq87 ho => ?_) fun hq87 ho => ?_
   ·refine go ?_
    obtain rfl := Option.some.inj ho
    exact QE.jn fun w2 hw => hw
   refine go ?_
   obtain ⟨x90, hx, ho⟩ := elt_bind ho
   refine SP.indexP see 0 rfl Tryz.underlying39 sz71 hx.1 hx.2 rfl rfl rfl rfl (fun p88 => ?_)
   clear hx
   refine k_api_Instr.load see 0 rfl Tryz.underlying71 rfl sz71 rfl rfl rfl ?_
   obtain ⟨t91, hc, ho⟩ := bind_some ho
   refine SP.callV see (caps := []) (.bool t91) fn107 rfl rfl rfl rfl (fun w2 hP hs sub ap => flow_last.ok _  _ hc w2 hP sub ) ?_
   clear hc
   refine go ?_
   obtain rfl := Option.some.inj ho
   exact QE.jn fun w2 hw => (St.selP [1, 2] rfl hw)
  refine SP.cb 16 hg_t7 (fun hq5 ho => ?_) fun hq5 ho => ?_
  ·refine go ?_
   obtain rfl := Option.some.inj ho
   exact QE.jn fun w2 hw => hw
  refine go ?_
  obtain ⟨t6, hc, ho⟩ := bind_some ho
  refine SP.callV see (caps := []) (.bool t6) fn44 rfl rfl rfl rfl (fun w2 hP hs sub ap => slices_ContainsFunc_api_Instr_api_Instr_s1.ok _ _ _ hc w2 hP sub (ap.get 0 rfl) (ap.get 1 rfl)) ?_
  clear hc
  refine go ?_
  obtain rfl := Option.some.inj ho
  exact QE.jn fun w2 hw => hw
 refine SP.bb 11 (fun hq3 => ?_) fun hq3 => ?_
 ·refine go ?_
  exact QE.jb (or_t hq3) fun w2 hw => hw
 refine go ?_
 exact QE.jb (or_f hq3 rfl) fun w2 hw => hw
def flow_Check.f (l_0 : (List api_Instr)) : Option Int :=
  (flow_Loops.f l_0).bind fun t2 => some t2.2
theorem flow_Check.ok (l_0 : (List api_Instr)) (v_l_0 : Value)  (r : Int) (H : flow_Check.f l_0 = some r) (w : World) (hV : Hp) (sV : Sub hV (hp w)) (h0 : slR k_api_Instr hV v_l_0 l_0) (h1 : (arrP k_arr221 0 tab0).p hV) :
    Trip Tryz.prog 42 [v_l_0].toArray em hV w (fun v => HO.pure (v = .int .i64 r)) := by
 refine Trip.go 11 Tryz.func42 sV (aS h0 (All.cons (x := arrP k_arr221 0 tab0) h1 (All.nil _))) fun see => ?_
 have ho := H
 refine go ?_
 obtain ⟨t2, hc, ho⟩ := bind_some ho
 refine SP.callK see (caps := []) _ fn71 rfl rfl rfl rfl (fun w2 hP hs sub ap => flow_Loops.ok _ _ _ hc w2 hP sub (ap.get 0 rfl) (ap.get 1 rfl)) (SP.k1 fun v3 => ?_)
 clear hc
 refine go ?_
 obtain rfl := Option.some.inj ho
 exact QE.rt (fun _ h => h)
shelf_lay_g Lays8.n4 Nm8 4 at Tryz 72 as Tryz.grow72
theorem grow72_trip {n : Int} (h0 : 0 ≤ n) (hb : n * 1 ≤ 140737488355328) (w : World) (hV : Hp) :
    Trip Tryz.prog 72 #[.slice none 0 0, .int .i64 n] em hV w (fun r => HO.ex fun u : Value => HO.pand (r = u) (HO.seps [slO (kInt .u8) 5 u []])) := by
  obtain ⟨m, rfl⟩ := Int.eq_ofNat_of_zero_le h0
  obtain ⟨i0, z, hi0, hz0, hsz, hbt, hzl⟩ := growInfo (P := Tryz.prog) inf5
  by_cases hm : m = 0
  · subst hm
    exact (Any8.slices_Grow_room Tryz.grow72 none 0 0 0 w (by omega) (by omega) (by omega) (by omega)).mono fun e w' ⟨he, hw⟩ => by
      subst hw
      exact ⟨_, he, Met.refl _, fun _ _ e _ => e, em, em, fun _ _ _ => rfl, fun _ _ _ => rfl, Dj.em_left _, Sub.em _, Sub.em _, _, rfl, em, em, Dj.em_left _, Sub.em _, Sub.em _, slO.nil _ _ _, trivial⟩
  · have h := Any8.slices_Grow_grow Tryz.grow72 i0 z hi0 hz0 (by omega) none 0 0 m [] w (by omega) (by omega) (by rw [hbt]; omega) (by omega) (by simp) (fun _ => rfl) (fun a ha => by cases ha)
    exact h.mono fun e w' ⟨he, hw⟩ => grown_trip he hw (grownCap_le_maxLen _ _ _ _ (by simp only [maxLen]; omega)) (zeros_size (by have := grownCap_ge w (0 + m) 0 5; rw [Nat.zero_add] at this ⊢; exact this) hzl)
inductive slices_Concat_uint8_uint8.S where
  | start
  | l1 (x36 : Int) (x37 : Int)
  | l2 (l57 : List Int) (x59 : Int)
def slices_Concat_uint8_uint8.j1 (slices_0 : (List (List Int))) (x36 : Int) (x37 : Int) (x41 : (List Int)) : Option (slices_Concat_uint8_uint8.S ⊕ (List Int)) :=
  some (.inl (.l1 (IntKind.i64.wrap (x36 + (x41.length : Int))) (IntKind.i64.wrap (x37 + 1))))
def slices_Concat_uint8_uint8.F (slices_0 : (List (List Int))) : slices_Concat_uint8_uint8.S → Option (slices_Concat_uint8_uint8.S ⊕ (List Int))
  | .start => some (.inl (.l1 0 0))
  | .l1 x36 x37 => if x37 < (slices_0.length : Int) then ((elt slices_0 x37).bind fun x41 => if (IntKind.i64.wrap (x36 + (x41.length : Int))) < 0 then (none) else (slices_Concat_uint8_uint8.j1 slices_0 x36 x37 x41)) else (if 0 ≤ x36 ∧ x36 * 1 ≤ 140737488355328 then (some (.inl (.l2 ([] : List Int) 0))) else none)
  | .l2 l57 x59 => if x59 < (slices_0.length : Int) then ((elt slices_0 x59).bind fun x63 => if (l57.length + x63.length) * 1 ≤ 140737488355328 then (some (.inl (.l2 (l57 ++ x63) (IntKind.i64.wrap (x59 + 1))))) else none) else (some (.inr l57))
def slices_Concat_uint8_uint8.f (slices_0 : (List (List Int))) : Option (List Int) := runF (slices_Concat_uint8_uint8.F slices_0) .start
theorem slices_Concat_uint8_uint8.ok (slices_0 : (List (List Int))) (v_slices_0 : Value) (r : (List Int)) (H : slices_Concat_uint8_uint8.f slices_0 = some r) (w : World) (hV : Hp) (sV : Sub hV (hp w)) (h0 : slR (kSl (kInt .u8)) hV v_slices_0 slices_0) :
    Trip Tryz.prog 43 [v_slices_0].toArray em hV w (fun v => HO.ex fun u0 : Value => HO.pand (v = u0) (HO.seps [slO (kInt .u8) 5 u0 r])) := by
 refine Trip.go 36 Tryz.func43 sV (aS h0 (All.nil _)) fun see => ?_
 obtain ⟨n0, hi⟩ := runF_iff.1 H
 obtain ⟨m0, o, hm0, ho, hr⟩ := iter_some hi
 clear hi
 refine go ?_
 refine CP.seq (go ?_)
 obtain rfl := Option.some.inj ho
 refine CP.loop (fun cl1 a w2 => ∃ x36 : Int, ∃ x37 : Int, cl1 ≤ m0 ∧ iter (slices_Concat_uint8_uint8.F slices_0) cl1 (.l1 x36 x37) = some r ∧ Env ⟨36, []⟩ [(0, v_slices_0), (3, .int .i64 x36), (9, v_slices_0), (10, .int .i64 (slices_0.length : Int)), (11, .int .i64 x37)] a ∧ St w em hV [slP (kSl (kInt .u8)) v_slices_0 slices_0] [] w2) m0 (fun a w2 ha hw => ⟨0, 0, Nat.le_refl _, hr, ha.sub sb, hw⟩) ?_
 clear hr
 rintro cl1 a w2 ⟨x36, x37, hc_l1, hi, ha, hw⟩
 obtain ⟨m38, o, hm_m38, ho, hr⟩ := iter_some hi
 refine CP.app ha hw ?_
 clear ha hw a w2 hi
 refine go ?_
 refine CP.seq ?_
 refine CP.ci ho (fun ho => ?_) fun ho => ?_
 ·refine go ?_
  refine CP.join (fun a w2 => ∃ x41 : (List Int), ∃ (m44 : Nat) (o : (slices_Concat_uint8_uint8.S ⊕ (List Int))), m44 ≤ m38 ∧ slices_Concat_uint8_uint8.j1 slices_0 x36 x37 x41 = some o ∧ next (slices_Concat_uint8_uint8.F slices_0) m44 o = some r ∧ Env ⟨36, []⟩ [(0, v_slices_0), (3, .int .i64 (IntKind.i64.wrap (x36 + (x41.length : Int)))), (9, v_slices_0), (10, .int .i64 (slices_0.length : Int)), (11, .int .i64 x37)] a ∧ St w em hV [slP (kSl (kInt .u8)) v_slices_0 slices_0] [] w2) ?_ ?_
  ·rintro a w2 ⟨x41, m44, o, hm_m44, ho, hr, ha, hw⟩
   refine CP.app ha hw ?_
   clear ha hw a w2
   refine go ?_
   obtain rfl := Option.some.inj ho
   exact QE.lower m44 (by omega) fun a w2 ha hw => ⟨(IntKind.i64.wrap (x36 + (x41.length : Int))), (IntKind.i64.wrap (x37 + 1)), (by omega), hr, ha.sub sb, hw⟩
  refine go ?_
  obtain ⟨x41, hx, ho⟩ := elt_bind ho
  refine SP.indexP see 0 rfl Tryz.underlying141 sz38 hx.1 hx.2 rfl rfl rfl rfl (fun p39 => ?_)
  clear hx
  refine SP.loadPS see 0 rfl Tryz.underlying38 rfl rfl rfl (fun v42 => go ?_)
  refine CP.ci ho (fun ho => ?_) fun ho => ?_
  ·cases ho
  refine go ?_
  exact QE.meet fun a w2 ha hw => ⟨x41, m38, _, (by omega), ho, hr, ha.sub sb, (St.selP [2] rfl hw)⟩
 refine go ?_
 obtain ⟨hb, ho⟩ := must_some ho
 refine SP.callK see (caps := []) _ fn72 rfl rfl rfl rfl (fun w2 hP hs sub ap => grow72_trip hb.1 hb.2 w2 hP) (SP.k1 fun v46 => ?_)
 clear hb
 refine go ?_
 refine CP.seq (go ?_)
 obtain rfl := Option.some.inj ho
 refine CP.loop (fun cl2 a w2 => ∃ l57 : List Int, ∃ x59 : Int, ∃ v58 : Value, cl2 ≤ m38 ∧ iter (slices_Concat_uint8_uint8.F slices_0) cl2 (.l2 l57 x59) = some r ∧ Env ⟨36, []⟩ [(6, v58), (25, v_slices_0), (26, .int .i64 (slices_0.length : Int)), (27, .int .i64 x59)] a ∧ St w em hV [slP (kSl (kInt .u8)) v_slices_0 slices_0] [slO (kInt .u8) 5 v58 l57] w2) m38 (fun a w2 ha hw => ⟨([] : List Int), 0, v46, Nat.le_refl _, hr, ha.sub sb, hw⟩) ?_
 clear hr
 rintro cl2 a w2 ⟨l57, x59, v58, hc_l2, hi, ha, hw⟩
 obtain ⟨m60, o, hm_m60, ho, hr⟩ := iter_some hi
 refine CP.app ha hw ?_
 clear ha hw a w2 hi
 refine go ?_
 refine CP.seq ?_
 refine CP.ci ho (fun ho => ?_) fun ho => ?_
 ·refine go ?_
  refine CP.seq (go ?_)
  obtain ⟨x63, hx, ho⟩ := elt_bind ho
  refine SP.indexP see 0 rfl Tryz.underlying141 sz38 hx.1 hx.2 rfl rfl rfl rfl (fun p61 => ?_)
  clear hx
  refine SP.loadPS see 0 rfl Tryz.underlying38 rfl rfl rfl (fun v64 => go ?_)
  obtain ⟨hb, ho⟩ := must_some ho
  refine SP.append see 0 rfl 0 rfl Tryz.underlying38 inf5 rfl rfl hb rfl rfl rfl rfl rfl (fun v66 => ?_)
  clear hb
  refine go ?_
  obtain rfl := Option.some.inj ho
  exact QE.lower m60 (by omega) fun a w2 ha hw => ⟨(l57 ++ x63), (IntKind.i64.wrap (x59 + 1)), v66, (by omega), hr, ha.sub sb, (St.selP [2] rfl hw)⟩
 refine go ?_
 obtain rfl := fin ho hr
 exact QE.rt (fun _ h => St.selO [0] rfl rfl h)
def types_look_there_s1.j1 (k_0_1 : List api_Value) (k_0_3 : List api_Value) (k_0_5 : List api_Method) (k_0_7 : Int) (k_0_8 : List Int) (k_0_10 : List Int) (k_0_12 : Int) (k_0_13 : Bool) (k_0_14 : Int) (k_0_15 : Int) (k_0_16 : Int) (k_0_17 : List api_Instr) (k_0_19 : List Int) (i_1 : api_Instr) (x27 : Int) : Option Bool :=
  some (decide (i_1.A < x27))
def types_look_there_s1.j3 (k_0_1 : List api_Value) (k_0_3 : List api_Value) (k_0_5 : List api_Method) (k_0_7 : Int) (k_0_8 : List Int) (k_0_10 : List Int) (k_0_12 : Int) (k_0_13 : Bool) (k_0_14 : Int) (k_0_15 : Int) (k_0_16 : Int) (k_0_17 : List api_Instr) (k_0_19 : List Int) (i_1 : api_Instr) (b26 : Bool) : Option Bool :=
  if b26 = true then (types_look_there_s1.j1 k_0_1 k_0_3 k_0_5 k_0_7 k_0_8 k_0_10 k_0_12 k_0_13 k_0_14 k_0_15 k_0_16 k_0_17 k_0_19 i_1 (k_0_1.length : Int)) else (if i_1.Op = 30 then (types_look_there_s1.j1 k_0_1 k_0_3 k_0_5 k_0_7 k_0_8 k_0_10 k_0_12 k_0_13 k_0_14 k_0_15 k_0_16 k_0_17 k_0_19 i_1 (k_0_5.length : Int)) else (some true))
def types_look_there_s1.j2 (k_0_1 : List api_Value) (k_0_3 : List api_Value) (k_0_5 : List api_Method) (k_0_7 : Int) (k_0_8 : List Int) (k_0_10 : List Int) (k_0_12 : Int) (k_0_13 : Bool) (k_0_14 : Int) (k_0_15 : Int) (k_0_16 : Int) (k_0_17 : List api_Instr) (k_0_19 : List Int) (i_1 : api_Instr) (b25 : Bool) : Option Bool :=
  if b25 = true then (types_look_there_s1.j1 k_0_1 k_0_3 k_0_5 k_0_7 k_0_8 k_0_10 k_0_12 k_0_13 k_0_14 k_0_15 k_0_16 k_0_17 k_0_19 i_1 (k_0_19.length : Int)) else (if i_1.Op = 4 then (types_look_there_s1.j3 k_0_1 k_0_3 k_0_5 k_0_7 k_0_8 k_0_10 k_0_12 k_0_13 k_0_14 k_0_15 k_0_16 k_0_17 k_0_19 i_1 (decide (i_1.Op = 4))) else (types_look_there_s1.j3 k_0_1 k_0_3 k_0_5 k_0_7 k_0_8 k_0_10 k_0_12 k_0_13 k_0_14 k_0_15 k_0_16 k_0_17 k_0_19 i_1 (decide (i_1.Op = 5))))
def types_look_there_s1.f (k_0_1 : List api_Value) (k_0_3 : List api_Value) (k_0_5 : List api_Method) (k_0_7 : Int) (k_0_8 : List Int) (k_0_10 : List Int) (k_0_12 : Int) (k_0_13 : Bool) (k_0_14 : Int) (k_0_15 : Int) (k_0_16 : Int) (k_0_17 : List api_Instr) (k_0_19 : List Int) (i_1 : api_Instr) : Option Bool :=
  if i_1.Op = 1 then (types_look_there_s1.j1 k_0_1 k_0_3 k_0_5 k_0_7 k_0_8 k_0_10 k_0_12 k_0_13 k_0_14 k_0_15 k_0_16 k_0_17 k_0_19 i_1 (k_0_3.length : Int)) else (if i_1.Op = 2 then (types_look_there_s1.j2 k_0_1 k_0_3 k_0_5 k_0_7 k_0_8 k_0_10 k_0_12 k_0_13 k_0_14 k_0_15 k_0_16 k_0_17 k_0_19 i_1 (decide (i_1.Op = 2))) else (types_look_there_s1.j2 k_0_1 k_0_3 k_0_5 k_0_7 k_0_8 k_0_10 k_0_12 k_0_13 k_0_14 k_0_15 k_0_16 k_0_17 k_0_19 i_1 (decide (i_1.Op = 3))))
theorem types_look_there_s1.ok (k_0_1 : List api_Value) (k_0_3 : List api_Value) (k_0_5 : List api_Method) (k_0_7 : Int) (k_0_8 : List Int) (k_0_10 : List Int) (k_0_12 : Int) (k_0_13 : Bool) (k_0_14 k_0_15 k_0_16 : Int) (k_0_17 : List api_Instr) (k_0_19 : List Int) (i_1 : api_Instr) (v_k_0_1 v_k_0_3 : Value) (v_k_0_5 v_k_0_8 : Value) (v_k_0_10 v_k_0_17 v_k_0_19 : Value) (b21 : Nat) (r : Bool) (H : types_look_there_s1.f k_0_1 k_0_3 k_0_5 k_0_7 k_0_8 k_0_10 k_0_12 k_0_13 k_0_14 k_0_15 k_0_16 k_0_17 k_0_19 i_1 = some r) (w : World) (hV : Hp) (sV : Sub hV (hp w)) (h0 : slR k_api_Value hV v_k_0_1 k_0_1) (h1 : slR k_api_Value hV v_k_0_3 k_0_3) (h2 : slR k_api_Method hV v_k_0_5 k_0_5) (h3 : slR (kInt .u8) hV v_k_0_8 k_0_8) (h4 : slR (kInt .u8) hV v_k_0_10 k_0_10) (h5 : slR k_api_Instr hV v_k_0_17 k_0_17) (h6 : slR (kInt .u8) hV v_k_0_19 k_0_19) (h7 : (preP b21 [v_k_0_1, v_k_0_3, v_k_0_5, .int .i64 k_0_7, v_k_0_8, v_k_0_10, .int .u8 k_0_12, .bool k_0_13, .int .i64 k_0_14, .int .i64 k_0_15, .int .i64 k_0_16, v_k_0_17, v_k_0_19] 97).p hV) :
    Trip Tryz.prog 46 [.pointer (some ⟨b21, 0, none⟩), .agg #[.int .u8 i_1.Op, .int .i64 i_1.A, .int .i64 i_1.B]].toArray em hV w (fun v => HO.pure (v = .bool r)) := by
 refine Trip.go 45 Tryz.func46 sV (aS h0 (aS h1 (aS h2 (aS h3 (aS h4 (aS h5 (aS h6 (All.cons (x := preP b21 [v_k_0_1, v_k_0_3, v_k_0_5, .int .i64 k_0_7, v_k_0_8, v_k_0_10, .int .u8 k_0_12, .bool k_0_13, .int .i64 k_0_14, .int .i64 k_0_15, .int .i64 k_0_16, v_k_0_17, v_k_0_19] 97) h7 (All.nil _))))))))) fun see => ?_
 have ho := H
 refine go ?_
 refine SP.box rfl rfl rfl rfl fun b23 => go ?_
 refine CP.join (fun a w2 => ∃ x27 : Int, types_look_there_s1.j1 k_0_1 k_0_3 k_0_5 k_0_7 k_0_8 k_0_10 k_0_12 k_0_13 k_0_14 k_0_15 k_0_16 k_0_17 k_0_19 i_1 x27 = some r ∧ Env ⟨45, []⟩ [(3, .pointer (some ⟨b23, 0, none⟩)), (5, .int .i64 x27)] a ∧ St w em hV [] [boxO b23 [.int .u8 i_1.Op, .int .i64 i_1.A, .int .i64 i_1.B] 71] w2) ?_ ?_
 ·rintro a w2 ⟨x27, ho, ha, hw⟩
  refine CP.app ha hw ?_
  clear ha hw a w2
  refine go ?_
  obtain rfl := Option.some.inj ho
  exact QE.rt (fun _ h => h)
 refine go ?_
 refine CP.ci ho (fun ho => ?_) fun ho => ?_
 ·refine go ?_
  refine SP.val (Val.loadPre1 see 7 rfl Tryz.underlying22 rfl rfl rfl) rfl rfl rfl (go ?_)
  exact QE.meet fun a w2 ha hw => ⟨(k_0_3.length : Int), ho, ha.sub sb, (St.selP [] rfl hw)⟩
 refine CP.join (fun a w2 => ∃ b25 : Bool, types_look_there_s1.j2 k_0_1 k_0_3 k_0_5 k_0_7 k_0_8 k_0_10 k_0_12 k_0_13 k_0_14 k_0_15 k_0_16 k_0_17 k_0_19 i_1 b25 = some r ∧ Env ⟨45, []⟩ [(0, .pointer (some ⟨b21, 0, none⟩)), (3, .pointer (some ⟨b23, 0, none⟩)), (7, .int .u8 i_1.Op), (16, .bool b25)] a ∧ St w em hV [slP k_api_Value v_k_0_1 k_0_1, slP k_api_Value v_k_0_3 k_0_3, slP k_api_Method v_k_0_5 k_0_5, slP (kInt .u8) v_k_0_8 k_0_8, slP (kInt .u8) v_k_0_10 k_0_10, slP k_api_Instr v_k_0_17 k_0_17, slP (kInt .u8) v_k_0_19 k_0_19, preP b21 [v_k_0_1, v_k_0_3, v_k_0_5, .int .i64 k_0_7, v_k_0_8, v_k_0_10, .int .u8 k_0_12, .bool k_0_13, .int .i64 k_0_14, .int .i64 k_0_15, .int .i64 k_0_16, v_k_0_17, v_k_0_19] 97] [boxO b23 [.int .u8 i_1.Op, .int .i64 i_1.A, .int .i64 i_1.B] 71] w2) ?_ ?_
 ·rintro a w2 ⟨b25, ho, ha, hw⟩
  refine CP.app ha hw ?_
  clear ha hw a w2
  refine CP.cb ho (fun ho => ?_) fun ho => ?_
  ·refine go ?_
   refine SP.val (Val.loadPre1 see 7 rfl Tryz.underlying38 rfl rfl rfl) rfl rfl rfl (go ?_)
   exact QE.meet fun a w2 ha hw => ⟨(k_0_19.length : Int), ho, ha.sub sb, (St.selP [] rfl hw)⟩
  refine CP.join (fun a w2 => ∃ b26 : Bool, types_look_there_s1.j3 k_0_1 k_0_3 k_0_5 k_0_7 k_0_8 k_0_10 k_0_12 k_0_13 k_0_14 k_0_15 k_0_16 k_0_17 k_0_19 i_1 b26 = some r ∧ Env ⟨45, []⟩ [(0, .pointer (some ⟨b21, 0, none⟩)), (3, .pointer (some ⟨b23, 0, none⟩)), (7, .int .u8 i_1.Op), (24, .bool b26)] a ∧ St w em hV [slP k_api_Value v_k_0_1 k_0_1, slP k_api_Value v_k_0_3 k_0_3, slP k_api_Method v_k_0_5 k_0_5, slP (kInt .u8) v_k_0_8 k_0_8, slP (kInt .u8) v_k_0_10 k_0_10, slP k_api_Instr v_k_0_17 k_0_17, slP (kInt .u8) v_k_0_19 k_0_19, preP b21 [v_k_0_1, v_k_0_3, v_k_0_5, .int .i64 k_0_7, v_k_0_8, v_k_0_10, .int .u8 k_0_12, .bool k_0_13, .int .i64 k_0_14, .int .i64 k_0_15, .int .i64 k_0_16, v_k_0_17, v_k_0_19] 97] [boxO b23 [.int .u8 i_1.Op, .int .i64 i_1.A, .int .i64 i_1.B] 71] w2) ?_ ?_
  ·rintro a w2 ⟨b26, ho, ha, hw⟩
   refine CP.app ha hw ?_
   clear ha hw a w2
   refine CP.cb ho (fun ho => ?_) fun ho => ?_
   ·refine go ?_
    refine SP.val (Val.loadPre1 see 7 rfl Tryz.underlying22 rfl rfl rfl) rfl rfl rfl (go ?_)
    exact QE.meet fun a w2 ha hw => ⟨(k_0_1.length : Int), ho, ha.sub sb, (St.selP [] rfl hw)⟩
   refine go ?_
   refine CP.ci ho (fun ho => ?_) fun ho => ?_
   ·refine go ?_
    refine SP.val (Val.loadPre1 see 7 rfl Tryz.underlying23 rfl rfl rfl) rfl rfl rfl (go ?_)
    exact QE.meet fun a w2 ha hw => ⟨(k_0_5.length : Int), ho, ha.sub sb, (St.selP [] rfl hw)⟩
   refine go ?_
   obtain rfl := Option.some.inj ho
   exact QE.rt (fun _ h => h)
  refine go ?_
  refine CP.ci ho (fun ho => ?_) fun ho => ?_
  ·refine go ?_
   exact QE.meet fun a w2 ha hw => ⟨(decide (i_1.Op = 4)), ho, ha.sub sb, hw⟩
  refine go ?_
  exact QE.meet fun a w2 ha hw => ⟨(decide (i_1.Op = 5)), ho, ha.sub sb, hw⟩
 refine go ?_
 refine CP.ci ho (fun ho => ?_) fun ho => ?_
 ·refine go ?_
  exact QE.meet fun a w2 ha hw => ⟨(decide (i_1.Op = 2)), ho, ha.sub sb, hw⟩
 refine go ?_
 exact QE.meet fun a w2 ha hw => ⟨(decide (i_1.Op = 3)), ho, ha.sub sb, hw⟩
def types_Rows_1_s1.f (i_0 : api_Instr) (c0_1 : List api_Value) (c0_3 : List api_Value) (c0_5 : List api_Method) (c0_7 : Int) (c0_8 : List Int) (c0_10 : List Int) (c0_12 : Int) (c0_13 : Bool) (c0_14 : Int) (c0_15 : Int) (c0_16 : Int) (c0_17 : List api_Instr) (c0_19 : List Int) : Option Bool :=
  (types_look_there_s1.f c0_1 c0_3 c0_5 c0_7 c0_8 c0_10 c0_12 c0_13 c0_14 c0_15 c0_16 c0_17 c0_19 i_0).bind fun t27 => some (!t27)
theorem types_Rows_1_s1.ok (i_0 : api_Instr) (c0_1 : List api_Value) (c0_3 : List api_Value) (c0_5 : List api_Method) (c0_7 : Int) (c0_8 : List Int) (c0_10 : List Int) (c0_12 : Int) (c0_13 : Bool) (c0_14 c0_15 c0_16 : Int) (c0_17 : List api_Instr) (c0_19 : List Int) (v_c0_1 v_c0_3 : Value) (v_c0_5 v_c0_8 : Value) (v_c0_10 v_c0_17 v_c0_19 : Value) (b21 : Nat) (b23 : Nat) (r : Bool) (H : types_Rows_1_s1.f i_0 c0_1 c0_3 c0_5 c0_7 c0_8 c0_10 c0_12 c0_13 c0_14 c0_15 c0_16 c0_17 c0_19 = some r) (w : World) (hV : Hp) (sV : Sub hV (hp w)) (h0 : slR k_api_Value hV v_c0_1 c0_1) (h1 : slR k_api_Value hV v_c0_3 c0_3) (h2 : slR k_api_Method hV v_c0_5 c0_5) (h3 : slR (kInt .u8) hV v_c0_8 c0_8) (h4 : slR (kInt .u8) hV v_c0_10 c0_10) (h5 : slR k_api_Instr hV v_c0_17 c0_17) (h6 : slR (kInt .u8) hV v_c0_19 c0_19) (h7 : (preP b21 [v_c0_1, v_c0_3, v_c0_5, .int .i64 c0_7, v_c0_8, v_c0_10, .int .u8 c0_12, .bool c0_13, .int .i64 c0_14, .int .i64 c0_15, .int .i64 c0_16, v_c0_17, v_c0_19] 97).p hV) (h8 : (boxP b23 [.pointer (some ⟨b21, 0, none⟩)] 93).p hV) :
    Trip Tryz.prog 45 [.agg #[.int .u8 i_0.Op, .int .i64 i_0.A, .int .i64 i_0.B], .pointer (some ⟨b23, 0, none⟩)].toArray em hV w (fun v => HO.pure (v = .bool r)) := by
 refine Trip.go 8 Tryz.func45 sV (aS h0 (aS h1 (aS h2 (aS h3 (aS h4 (aS h5 (aS h6 (All.cons (x := preP b21 [v_c0_1, v_c0_3, v_c0_5, .int .i64 c0_7, v_c0_8, v_c0_10, .int .u8 c0_12, .bool c0_13, .int .i64 c0_14, .int .i64 c0_15, .int .i64 c0_16, v_c0_17, v_c0_19] 97) h7 (All.cons (x := boxP b23 [.pointer (some ⟨b21, 0, none⟩)] 93) h8 (All.nil _)))))))))) fun see => ?_
 have ho := H
 refine go ?_
 refine SP.box rfl rfl rfl rfl fun b25 => ?_
 refine SP.val (Val.assign rfl) rfl rfl rfl ?_
 refine SP.nil ?_
 refine QE.then ?_
 refine CP.seq ?_
 refine CP.region ?_
 refine SP.val (Val.loadB1 see 8 rfl Tryz.underlying93 rfl rfl rfl) rfl rfl rfl ?_
 refine SP.val (Val.loadA 0 rfl Tryz.underlying71 rfl sz71 rfl rfl rfl) rfl rfl rfl ?_
 obtain ⟨t27, hc, ho⟩ := bind_some ho
 refine SP.callV see (caps := []) (.bool t27) fn46 rfl rfl rfl rfl (fun w2 hP hs sub ap => types_look_there_s1.ok _ _ _ _ _ _ _ _ _ _ _ _ _ _ _ _ _ _ _ _ _ _ _ hc w2 hP sub (ap.get 0 rfl) (ap.get 1 rfl) (ap.get 2 rfl) (ap.get 3 rfl) (ap.get 4 rfl) (ap.get 5 rfl) (ap.get 6 rfl) (ap.get 7 rfl)) ?_
 clear hc
 refine go ?_
 obtain rfl := Option.some.inj ho
 exact QE.rt (fun _ h => h)
inductive slices_IndexFunc_api_Instr_api_Instr_s2.S where
  | start
  | l1 (x31 : Int)
def slices_IndexFunc_api_Instr_api_Instr_s2.F (s_0 : (List api_Instr)) (f_1_2 : List api_Value) (f_1_4 : List api_Value) (f_1_6 : List api_Method) (f_1_8 : Int) (f_1_9 : List Int) (f_1_11 : List Int) (f_1_13 : Int) (f_1_14 : Bool) (f_1_15 : Int) (f_1_16 : Int) (f_1_17 : Int) (f_1_18 : List api_Instr) (f_1_20 : List Int) : slices_IndexFunc_api_Instr_api_Instr_s2.S → Option (slices_IndexFunc_api_Instr_api_Instr_s2.S ⊕ Int)
  | .start => some (.inl (.l1 0))
  | .l1 x31 => if x31 < (s_0.length : Int) then ((elt s_0 x31).bind fun x35 => (types_Rows_1_s1.f x35 f_1_2 f_1_4 f_1_6 f_1_8 f_1_9 f_1_11 f_1_13 f_1_14 f_1_15 f_1_16 f_1_17 f_1_18 f_1_20).bind fun t36 => if t36 = true then (some (.inr x31)) else (some (.inl (.l1 (IntKind.i64.wrap (x31 + 1)))))) else (some (.inr (-1)))
def slices_IndexFunc_api_Instr_api_Instr_s2.f (s_0 : (List api_Instr)) (f_1_2 : List api_Value) (f_1_4 : List api_Value) (f_1_6 : List api_Method) (f_1_8 : Int) (f_1_9 : List Int) (f_1_11 : List Int) (f_1_13 : Int) (f_1_14 : Bool) (f_1_15 : Int) (f_1_16 : Int) (f_1_17 : Int) (f_1_18 : List api_Instr) (f_1_20 : List Int) : Option Int := runF (slices_IndexFunc_api_Instr_api_Instr_s2.F s_0 f_1_2 f_1_4 f_1_6 f_1_8 f_1_9 f_1_11 f_1_13 f_1_14 f_1_15 f_1_16 f_1_17 f_1_18 f_1_20) .start
theorem slices_IndexFunc_api_Instr_api_Instr_s2.ok (s_0 : (List api_Instr)) (f_1_2 : List api_Value) (f_1_4 : List api_Value) (f_1_6 : List api_Method) (f_1_8 : Int) (f_1_9 : List Int) (f_1_11 : List Int) (f_1_13 : Int) (f_1_14 : Bool) (f_1_15 f_1_16 f_1_17 : Int) (f_1_18 : List api_Instr) (f_1_20 : List Int) (v_s_0 v_f_1_2 : Value) (v_f_1_4 v_f_1_6 : Value) (v_f_1_9 v_f_1_11 : Value) (v_f_1_18 v_f_1_20 : Value) (b22 : Nat) (b24 : Nat) (r : Int) (H : slices_IndexFunc_api_Instr_api_Instr_s2.f s_0 f_1_2 f_1_4 f_1_6 f_1_8 f_1_9 f_1_11 f_1_13 f_1_14 f_1_15 f_1_16 f_1_17 f_1_18 f_1_20 = some r) (w : World) (hV : Hp) (sV : Sub hV (hp w)) (h0 : slR k_api_Instr hV v_s_0 s_0) (h1 : slR k_api_Value hV v_f_1_2 f_1_2) (h2 : slR k_api_Value hV v_f_1_4 f_1_4) (h3 : slR k_api_Method hV v_f_1_6 f_1_6) (h4 : slR (kInt .u8) hV v_f_1_9 f_1_9) (h5 : slR (kInt .u8) hV v_f_1_11 f_1_11) (h6 : slR k_api_Instr hV v_f_1_18 f_1_18) (h7 : slR (kInt .u8) hV v_f_1_20 f_1_20) (h8 : (preP b22 [v_f_1_2, v_f_1_4, v_f_1_6, .int .i64 f_1_8, v_f_1_9, v_f_1_11, .int .u8 f_1_13, .bool f_1_14, .int .i64 f_1_15, .int .i64 f_1_16, .int .i64 f_1_17, v_f_1_18, v_f_1_20] 97).p hV) (h9 : (boxP b24 [.pointer (some ⟨b22, 0, none⟩)] 93).p hV) :
    Trip Tryz.prog 73 [v_s_0, .func (.func 45) #[] #[.pointer (some ⟨b24, 0, none⟩)]].toArray em hV w (fun v => HO.pure (v = .int .i64 r)) := by
 refine Trip.go 19 Tryz.func73 sV (aS h0 (aS h1 (aS h2 (aS h3 (aS h4 (aS h5 (aS h6 (aS h7 (All.cons (x := preP b22 [v_f_1_2, v_f_1_4, v_f_1_6, .int .i64 f_1_8, v_f_1_9, v_f_1_11, .int .u8 f_1_13, .bool f_1_14, .int .i64 f_1_15, .int .i64 f_1_16, .int .i64 f_1_17, v_f_1_18, v_f_1_20] 97) h8 (All.cons (x := boxP b24 [.pointer (some ⟨b22, 0, none⟩)] 93) h9 (All.nil _))))))))))) fun see => ?_
 obtain ⟨n0, hi⟩ := runF_iff.1 H
 obtain ⟨m0, o, hm0, ho, hr⟩ := iter_some hi
 clear hi
 refine go ?_
 refine CP.seq (go ?_)
 obtain rfl := Option.some.inj ho
 refine CP.loop (fun cl1 a w2 => ∃ x31 : Int, cl1 ≤ m0 ∧ iter (slices_IndexFunc_api_Instr_api_Instr_s2.F s_0 f_1_2 f_1_4 f_1_6 f_1_8 f_1_9 f_1_11 f_1_13 f_1_14 f_1_15 f_1_16 f_1_17 f_1_18 f_1_20) cl1 (.l1 x31) = some r ∧ Env ⟨19, []⟩ [(0, v_s_0), (1, .func (.func 45) #[] #[.pointer (some ⟨b24, 0, none⟩)]), (7, .int .i64 (s_0.length : Int)), (8, .int .i64 x31)] a ∧ St w em hV [slP k_api_Instr v_s_0 s_0, slP k_api_Value v_f_1_2 f_1_2, slP k_api_Value v_f_1_4 f_1_4, slP k_api_Method v_f_1_6 f_1_6, slP (kInt .u8) v_f_1_9 f_1_9, slP (kInt .u8) v_f_1_11 f_1_11, slP k_api_Instr v_f_1_18 f_1_18, slP (kInt .u8) v_f_1_20 f_1_20, preP b22 [v_f_1_2, v_f_1_4, v_f_1_6, .int .i64 f_1_8, v_f_1_9, v_f_1_11, .int .u8 f_1_13, .bool f_1_14, .int .i64 f_1_15, .int .i64 f_1_16, .int .i64 f_1_17, v_f_1_18, v_f_1_20] 97, boxP b24 [.pointer (some ⟨b22, 0, none⟩)] 93] [] w2) m0 (fun a w2 ha hw => ⟨0, Nat.le_refl _, hr, ha.sub sb, hw⟩) ?_
 clear hr
 rintro cl1 a w2 ⟨x31, hc_l1, hi, ha, hw⟩
 obtain ⟨m32, o, hm_m32, ho, hr⟩ := iter_some hi
 refine CP.app ha hw ?_
 clear ha hw a w2 hi
 refine go ?_
 refine CP.seq ?_
 refine CP.ci ho (fun ho => ?_) fun ho => ?_
 ·refine go ?_
  refine CP.seq (go ?_)
  obtain ⟨x35, hx, ho⟩ := elt_bind ho
  refine SP.indexP see 0 rfl Tryz.underlying39 sz71 hx.1 hx.2 rfl rfl rfl rfl (fun p33 => ?_)
  clear hx
  refine k_api_Instr.load see 0 rfl Tryz.underlying71 rfl sz71 rfl rfl rfl ?_
  obtain ⟨t36, hc, ho⟩ := bind_some ho
  refine SP.callV see (caps := [.pointer (some ⟨b24, 0, none⟩)]) (.bool t36) fn45 rfl rfl rfl rfl (fun w2 hP hs sub ap => types_Rows_1_s1.ok _ _ _ _ _ _ _ _ _ _ _ _ _ _ _ _ _ _ _ _ _ _ _ _ hc w2 hP sub (ap.get 2 rfl) (ap.get 3 rfl) (ap.get 4 rfl) (ap.get 5 rfl) (ap.get 6 rfl) (ap.get 7 rfl) (ap.get 8 rfl) (ap.get 9 rfl) (ap.get 10 rfl)) ?_
  clear hc
  refine go ?_
  refine CP.cb ho (fun ho => ?_) fun ho => ?_
  ·refine go ?_
   obtain rfl := fin ho hr
   exact QE.rt (fun _ h => h)
  refine go ?_
  obtain rfl := Option.some.inj ho
  exact QE.lower m32 (by omega) fun a w2 ha hw => ⟨(IntKind.i64.wrap (x31 + 1)), (by omega), hr, ha.sub sb, (St.selP [1, 2, 3, 4, 5, 6, 7, 8, 9, 10] rfl hw)⟩
 refine go ?_
 obtain rfl := fin ho hr
 exact QE.rt (fun _ h => h)
def slices_ContainsFunc_api_Instr_api_Instr_s2.f (s_0 : (List api_Instr)) (f_1_2 : List api_Value) (f_1_4 : List api_Value) (f_1_6 : List api_Method) (f_1_8 : Int) (f_1_9 : List Int) (f_1_11 : List Int) (f_1_13 : Int) (f_1_14 : Bool) (f_1_15 : Int) (f_1_16 : Int) (f_1_17 : Int) (f_1_18 : List api_Instr) (f_1_20 : List Int) : Option Bool :=
  (slices_IndexFunc_api_Instr_api_Instr_s2.f s_0 f_1_2 f_1_4 f_1_6 f_1_8 f_1_9 f_1_11 f_1_13 f_1_14 f_1_15 f_1_16 f_1_17 f_1_18 f_1_20).bind fun t26 => some (decide (t26 ≥ 0))
theorem slices_ContainsFunc_api_Instr_api_Instr_s2.ok (s_0 : (List api_Instr)) (f_1_2 : List api_Value) (f_1_4 : List api_Value) (f_1_6 : List api_Method) (f_1_8 : Int) (f_1_9 : List Int) (f_1_11 : List Int) (f_1_13 : Int) (f_1_14 : Bool) (f_1_15 f_1_16 f_1_17 : Int) (f_1_18 : List api_Instr) (f_1_20 : List Int) (v_s_0 v_f_1_2 : Value) (v_f_1_4 v_f_1_6 : Value) (v_f_1_9 v_f_1_11 : Value) (v_f_1_18 v_f_1_20 : Value) (b22 : Nat) (b24 : Nat) (r : Bool) (H : slices_ContainsFunc_api_Instr_api_Instr_s2.f s_0 f_1_2 f_1_4 f_1_6 f_1_8 f_1_9 f_1_11 f_1_13 f_1_14 f_1_15 f_1_16 f_1_17 f_1_18 f_1_20 = some r) (w : World) (hV : Hp) (sV : Sub hV (hp w)) (h0 : slR k_api_Instr hV v_s_0 s_0) (h1 : slR k_api_Value hV v_f_1_2 f_1_2) (h2 : slR k_api_Value hV v_f_1_4 f_1_4) (h3 : slR k_api_Method hV v_f_1_6 f_1_6) (h4 : slR (kInt .u8) hV v_f_1_9 f_1_9) (h5 : slR (kInt .u8) hV v_f_1_11 f_1_11) (h6 : slR k_api_Instr hV v_f_1_18 f_1_18) (h7 : slR (kInt .u8) hV v_f_1_20 f_1_20) (h8 : (preP b22 [v_f_1_2, v_f_1_4, v_f_1_6, .int .i64 f_1_8, v_f_1_9, v_f_1_11, .int .u8 f_1_13, .bool f_1_14, .int .i64 f_1_15, .int .i64 f_1_16, .int .i64 f_1_17, v_f_1_18, v_f_1_20] 97).p hV) (h9 : (boxP b24 [.pointer (some ⟨b22, 0, none⟩)] 93).p hV) :
    Trip Tryz.prog 44 [v_s_0, .func (.func 45) #[] #[.pointer (some ⟨b24, 0, none⟩)]].toArray em hV w (fun v => HO.pure (v = .bool r)) := by
 refine Trip.go 9 Tryz.func44 sV (aS h0 (aS h1 (aS h2 (aS h3 (aS h4 (aS h5 (aS h6 (aS h7 (All.cons (x := preP b22 [v_f_1_2, v_f_1_4, v_f_1_6, .int .i64 f_1_8, v_f_1_9, v_f_1_11, .int .u8 f_1_13, .bool f_1_14, .int .i64 f_1_15, .int .i64 f_1_16, .int .i64 f_1_17, v_f_1_18, v_f_1_20] 97) h8 (All.cons (x := boxP b24 [.pointer (some ⟨b22, 0, none⟩)] 93) h9 (All.nil _))))))))))) fun see => ?_
 have ho := H
 refine go ?_
 obtain ⟨t26, hc, ho⟩ := bind_some ho
 refine SP.callV see (caps := []) (.int .i64 t26) fn73 rfl rfl rfl rfl (fun w2 hP hs sub ap => slices_IndexFunc_api_Instr_api_Instr_s2.ok _ _ _ _ _ _ _ _ _ _ _ _ _ _ _ _ _ _ _ _ _ _ _ _ _ hc w2 hP sub (ap.get 0 rfl) (ap.get 1 rfl) (ap.get 2 rfl) (ap.get 3 rfl) (ap.get 4 rfl) (ap.get 5 rfl) (ap.get 6 rfl) (ap.get 7 rfl) (ap.get 8 rfl) (ap.get 9 rfl)) ?_
 clear hc
 refine go ?_
 obtain rfl := Option.some.inj ho
 exact QE.rt (fun _ h => h)
def op_Shape_take_s2.f (s_0_2 : List Int) (s_0_5 : List Int) (kind_1 : Int) : Option ((List Int) × (List Int)) :=
  if (s_0_2.length + [kind_1].length) * 1 ≤ 140737488355328 then (some (s_0_2 ++ [kind_1], s_0_5)) else none
theorem op_Shape_take_s2.ok (s_0_2 : List Int) (s_0_5 : List Int) (kind_1 : Int) (v_s_0_2 v_s_0_5 : Value) (r : (List Int) × (List Int)) (H : op_Shape_take_s2.f s_0_2 s_0_5 kind_1 = some r) (w : World) (hV : Hp) (sV : Sub hV (hp w)) (h0 : anyP.p hV) (h1 : anyP.p hV) (b1 : Nat) (hA : Hp) (sA : Sub hA (hp w)) (dA : Dj hV hA) (hI : (HO.seps [boxO b1 [v_s_0_2, v_s_0_5] 186, slO (kInt .u8) 5 v_s_0_2 s_0_2, slO (kInt .u8) 5 v_s_0_5 s_0_5]).p hV hA) :
    Trip Tryz.prog 154 [.pointer (some ⟨b1, 0, none⟩), .int .u8 kind_1].toArray hA hV w (fun v => HO.pand (v = .tuple #[]) (HO.seps [HO.ex fun v12 : Value => HO.ex fun v13 : Value => HO.seps [boxO b1 [v12, v13] 186, slO (kInt .u8) 5 v12 r.1, slO (kInt .u8) 5 v13 r.2]])) := by
 have see : Sees w hA hV := ⟨sV, dA⟩
 refine Trip.of (P := Tryz.prog) (n := ⟨14, []⟩) Tryz.func154 rfl ⟨rfl, rfl⟩ rfl (St.beginA (os := [boxO b1 [v_s_0_2, v_s_0_5] 186, slO (kInt .u8) 5 v_s_0_2 s_0_2, slO (kInt .u8) 5 v_s_0_5 s_0_5]) sA (All.cons (x := anyP) h0 (All.cons (x := anyP) h1 (All.nil _))) hI) ?_
 have ho := H
 refine go ?_
 refine SP.lit (k := (kInt .u8)) (xs := [kind_1]) (vs := [.int .u8 kind_1]) (cells := [.int .u8 kind_1]) Tryz.underlying38 inf5 rfl rfl rfl rfl rfl rfl rfl rfl (fun _ ap => ⟨[.int .u8 kind_1], _, rfl, rfl, rfl⟩) rfl rfl rfl (fun v8 => ?_)
 refine SP.freezeS see 0 rfl ?_
 obtain ⟨hb, ho⟩ := must_some ho
 refine SP.append see 1 rfl 0 rfl Tryz.underlying38 inf5 rfl rfl hb rfl rfl rfl rfl rfl (fun v10 => ?_)
 clear hb
 refine go ?_
 refine SP.have (fun w2 hw => slO.shape (St.own 1 rfl see.sub see.dj hw)) (fun hs_v10 => ?_)
 refine SP.store (v := v10) (vs := [v10]) 0 (by rfl) sz38 (by rfl) (by rfl) (by rfl) (one_cells hs_v10) (one_cons hs_v10 (rfl)) (by rfl) (go ?_)
 obtain rfl := Option.some.inj ho
 exact QE.over (rs := []) (vs := []) Tryz.results154 rfl trivial (fun w2 h => St.done (fun a b p s => ⟨rfl, s⟩) (St.shut v10 (St.shut v_s_0_5 (St.group [boxO b1 [v10, v_s_0_5] 186, slO (kInt .u8) 5 v10 (s_0_2 ++ [kind_1]), slO (kInt .u8) 5 v_s_0_5 s_0_5] (St.selO [0, 1, 2] rfl rfl h)))))
def op_Shape_give_s2.f (s_0_2 : List Int) (s_0_5 : List Int) (kind_1 : Int) : Option ((List Int) × (List Int)) :=
  if (s_0_5.length + [kind_1].length) * 1 ≤ 140737488355328 then (some (s_0_2, s_0_5 ++ [kind_1])) else none
theorem op_Shape_give_s2.ok (s_0_2 : List Int) (s_0_5 : List Int) (kind_1 : Int) (v_s_0_2 v_s_0_5 : Value) (r : (List Int) × (List Int)) (H : op_Shape_give_s2.f s_0_2 s_0_5 kind_1 = some r) (w : World) (hV : Hp) (sV : Sub hV (hp w)) (h0 : anyP.p hV) (h1 : anyP.p hV) (b1 : Nat) (hA : Hp) (sA : Sub hA (hp w)) (dA : Dj hV hA) (hI : (HO.seps [boxO b1 [v_s_0_2, v_s_0_5] 186, slO (kInt .u8) 5 v_s_0_2 s_0_2, slO (kInt .u8) 5 v_s_0_5 s_0_5]).p hV hA) :
    Trip Tryz.prog 155 [.pointer (some ⟨b1, 0, none⟩), .int .u8 kind_1].toArray hA hV w (fun v => HO.pand (v = .tuple #[]) (HO.seps [HO.ex fun v12 : Value => HO.ex fun v13 : Value => HO.seps [boxO b1 [v12, v13] 186, slO (kInt .u8) 5 v12 r.1, slO (kInt .u8) 5 v13 r.2]])) := by
 have see : Sees w hA hV := ⟨sV, dA⟩
 refine Trip.of (P := Tryz.prog) (n := ⟨14, []⟩) Tryz.func155 rfl ⟨rfl, rfl⟩ rfl (St.beginA (os := [boxO b1 [v_s_0_2, v_s_0_5] 186, slO (kInt .u8) 5 v_s_0_2 s_0_2, slO (kInt .u8) 5 v_s_0_5 s_0_5]) sA (All.cons (x := anyP) h0 (All.cons (x := anyP) h1 (All.nil _))) hI) ?_
 have ho := H
 refine go ?_
 refine SP.lit (k := (kInt .u8)) (xs := [kind_1]) (vs := [.int .u8 kind_1]) (cells := [.int .u8 kind_1]) Tryz.underlying38 inf5 rfl rfl rfl rfl rfl rfl rfl rfl (fun _ ap => ⟨[.int .u8 kind_1], _, rfl, rfl, rfl⟩) rfl rfl rfl (fun v8 => ?_)
 refine SP.freezeS see 0 rfl ?_
 obtain ⟨hb, ho⟩ := must_some ho
 refine SP.append see 2 rfl 0 rfl Tryz.underlying38 inf5 rfl rfl hb rfl rfl rfl rfl rfl (fun v10 => ?_)
 clear hb
 refine go ?_
 refine SP.have (fun w2 hw => slO.shape (St.own 2 rfl see.sub see.dj hw)) (fun hs_v10 => ?_)
 refine SP.store (v := v10) (vs := [v10]) 0 (by rfl) sz38 (by rfl) (by rfl) (by rfl) (one_cells hs_v10) (one_cons hs_v10 (rfl)) (by rfl) (go ?_)
 obtain rfl := Option.some.inj ho
 exact QE.over (rs := []) (vs := []) Tryz.results155 rfl trivial (fun w2 h => St.done (fun a b p s => ⟨rfl, s⟩) (St.shut v_s_0_2 (St.shut v10 (St.group [boxO b1 [v_s_0_2, v10] 186, slO (kInt .u8) 5 v_s_0_2 s_0_2, slO (kInt .u8) 5 v10 (s_0_5 ++ [kind_1])] (St.selO [0, 1, 2] rfl rfl h)))))
def op_Of.j1 (op_0 : Int) (l112 : List Int) (l115 : List Int) : Option (op_Shape × Bool) :=
  some ((⟨l112, l115⟩ : op_Shape), true)
def op_Of.j2 (op_0 : Int) (l98 : List Int) (l101 : List Int) : Option (op_Shape × Bool) :=
  (op_Shape_take_s2.f l98 l101 2).bind fun t103 => (op_Shape_give_s2.f t103.1 t103.2 2).bind fun t106 => op_Of.j1 op_0 t106.1 t106.2
def op_Of.j3 (op_0 : Int) (l87 : List Int) (l90 : List Int) : Option (op_Shape × Bool) :=
  (op_Shape_take_s2.f l87 l90 1).bind fun t92 => op_Of.j1 op_0 t92.1 t92.2
def op_Of.j7 (op_0 : Int) (b51 : Bool) : Option (op_Shape × Bool) :=
  if b51 = true then ((op_Shape_take_s2.f ([] : List Int) ([] : List Int) 2).bind fun t52 => op_Of.j2 op_0 t52.1 t52.2) else (if op_0 = 21 then (op_Of.j2 op_0 [] []) else (if op_0 = 22 then ((op_Shape_take_s2.f ([] : List Int) ([] : List Int) 1).bind fun t57 => (op_Shape_give_s2.f t57.1 t57.2 3).bind fun t62 => op_Of.j1 op_0 t62.1 t62.2) else (if op_0 = 23 then ((op_Shape_take_s2.f ([] : List Int) ([] : List Int) 3).bind fun t65 => (op_Shape_take_s2.f t65.1 t65.2 1).bind fun t70 => (op_Shape_give_s2.f t70.1 t70.2 1).bind fun t73 => op_Of.j1 op_0 t73.1 t73.2) else (if op_0 = 25 then ((op_Shape_take_s2.f ([] : List Int) ([] : List Int) 3).bind fun t76 => (op_Shape_give_s2.f t76.1 t76.2 1).bind fun t81 => op_Of.j1 op_0 t81.1 t81.2) else (some ((⟨[], []⟩ : op_Shape), false))))))
def op_Of.j6 (op_0 : Int) (b42 : Bool) : Option (op_Shape × Bool) :=
  if b42 = true then ((op_Shape_give_s2.f ([] : List Int) ([] : List Int) 1).bind fun t43 => (op_Shape_take_s2.f t43.1 t43.2 2).bind fun t48 => op_Of.j1 op_0 t48.1 t48.2) else (if op_0 = 19 then (op_Of.j7 op_0 (decide (op_0 = 19))) else (op_Of.j7 op_0 (decide (op_0 = 20))))
def op_Of.j5 (op_0 : Int) (b19 : Bool) : Option (op_Shape × Bool) :=
  if b19 = true then ((op_Shape_give_s2.f ([] : List Int) ([] : List Int) 1).bind fun t20 => (op_Shape_take_s2.f t20.1 t20.2 1).bind fun t25 => (op_Shape_take_s2.f t25.1 t25.2 1).bind fun t28 => op_Of.j1 op_0 t28.1 t28.2) else (if op_0 = 16 then ((op_Shape_give_s2.f ([] : List Int) ([] : List Int) 2).bind fun t31 => (op_Shape_take_s2.f t31.1 t31.2 1).bind fun t36 => (op_Shape_take_s2.f t36.1 t36.2 1).bind fun t39 => op_Of.j1 op_0 t39.1 t39.2) else (if op_0 = 17 then (op_Of.j6 op_0 (decide (op_0 = 17))) else (op_Of.j6 op_0 (decide (op_0 = 18)))))
def op_Of.j4 (op_0 : Int) (b5 : Bool) : Option (op_Shape × Bool) :=
  if b5 = true then (op_Of.j1 op_0 [] []) else (if op_0 = 6 then ((op_Shape_take_s2.f ([] : List Int) ([] : List Int) 0).bind fun t6 => op_Of.j1 op_0 t6.1 t6.2) else (if op_0 = 24 then ((op_Shape_take_s2.f ([] : List Int) ([] : List Int) 3).bind fun t11 => (op_Shape_take_s2.f t11.1 t11.2 1).bind fun t16 => op_Of.j3 op_0 t16.1 t16.2) else (if op_0 = 27 then (op_Of.j3 op_0 [] []) else (if op_0 = 9 then (op_Of.j5 op_0 (decide (op_0 = 9))) else (if op_0 = 10 then (op_Of.j5 op_0 (decide (op_0 = 10))) else (if op_0 = 11 then (op_Of.j5 op_0 (decide (op_0 = 11))) else (if op_0 = 12 then (op_Of.j5 op_0 (decide (op_0 = 12))) else (if op_0 = 13 then (op_Of.j5 op_0 (decide (op_0 = 13))) else (if op_0 = 14 then (op_Of.j5 op_0 (decide (op_0 = 14))) else (op_Of.j5 op_0 (decide (op_0 = 15))))))))))))
def op_Of.f (op_0 : Int) : Option (op_Shape × Bool) :=
  if op_0 = 0 then (op_Of.j4 op_0 (decide (op_0 = 0))) else (if op_0 = 26 then (op_Of.j4 op_0 (decide (op_0 = 26))) else (if op_0 = 28 then (op_Of.j4 op_0 (decide (op_0 = 28))) else (if op_0 = 29 then (op_Of.j4 op_0 (decide (op_0 = 29))) else (op_Of.j4 op_0 (decide (op_0 = 32))))))
theorem op_Of.ok (op_0 : Int)  (r : op_Shape × Bool) (H : op_Of.f op_0 = some r) (w : World) (hV : Hp) (sV : Sub hV (hp w))  :
    Trip Tryz.prog 134 [.int .u8 op_0].toArray em hV w (fun v => HO.ex fun u0 : Value => HO.ex fun u1 : Value => HO.pand (v = .tuple #[.agg #[u0, u1], .bool r.2]) (HO.seps [slO (kInt .u8) 5 u0 r.1.Takes, slO (kInt .u8) 5 u1 r.1.Gives])) := by
 refine Trip.go 66 Tryz.func134 sV (All.nil _) fun see => ?_
 have ho := H
 refine go ?_
 refine SP.alloc (cs := [(.slice none 0 0), (.slice none 0 0)]) inf186 rfl rfl (fun b1 => go ?_)
 refine SP.alloc (cs := [(.slice none 0 0), (.slice none 0 0)]) inf186 rfl rfl (fun b3 => go ?_)
 refine CP.join (fun a w2 => ∃ l112 : List Int, ∃ l115 : List Int, ∃ v113 : Value, ∃ v116 : Value, op_Of.j1 op_0 l112 l115 = some r ∧ Env ⟨66, []⟩ [(2, .pointer (some ⟨b1, 0, none⟩)), (4, .pointer (some ⟨b3, 0, none⟩))] a ∧ St w em hV [] [slO (kInt .u8) 5 v116 l115, slO (kInt .u8) 5 v113 l112, boxO b3 [v113, v116] 186, boxO b1 [(.slice none 0 0), (.slice none 0 0)] 186] w2) ?_ ?_
 ·rintro a w2 ⟨l112, l115, v113, v116, ho, ha, hw⟩
  refine CP.app ha hw ?_
  clear ha hw a w2
  refine go ?_
  refine SP.val (Val.loadA 2 rfl Tryz.underlying186 rfl sz186 rfl rfl rfl) rfl rfl rfl ?_
  refine SP.have (fun w2 hw => slO.shape (St.own 1 rfl see.sub see.dj hw)) (fun hs_v113 => ?_)
  refine SP.have (fun w2 hw => slO.shape (St.own 0 rfl see.sub see.dj hw)) (fun hs_v116 => ?_)
  refine SP.store (v := .agg #[v113, v116]) (vs := [v113, v116]) 3 (by rfl) sz186 (by rfl) (by rfl) (by rfl) (by rfl) (one_cons hs_v113 (one_cons hs_v116 (rfl))) (by rfl) (go ?_)
  obtain rfl := Option.some.inj ho
  exact QE.rt (fun _ h => St.selO [1, 0] rfl rfl h) (rs := [.cell 2 186, .tmp 3]) (vs := [.agg #[v113, v116], .bool true]) (hv := ⟨RVs.cellA 3 rfl rfl Tryz.underlying186 rfl sz186, RVs.tmp rfl, trivial⟩)
 refine go ?_
 refine CP.seq (go ?_)
 refine CP.seq (go ?_)
 refine CP.seq (go ?_)
 refine CP.seq (go ?_)
 refine CP.join (fun a w2 => ∃ l98 : List Int, ∃ l101 : List Int, ∃ v99 : Value, ∃ v102 : Value, op_Of.j2 op_0 l98 l101 = some r ∧ Env ⟨66, []⟩ [(2, .pointer (some ⟨b1, 0, none⟩)), (4, .pointer (some ⟨b3, 0, none⟩))] a ∧ St w em hV [] [slO (kInt .u8) 5 v102 l101, slO (kInt .u8) 5 v99 l98, boxO b3 [v99, v102] 186, boxO b1 [(.slice none 0 0), (.slice none 0 0)] 186] w2) ?_ ?_
 ·rintro a w2 ⟨l98, l101, v99, v102, ho, ha, hw⟩
  refine CP.app ha hw ?_
  clear ha hw a w2
  refine CP.seq (go ?_)
  refine SP.imp (fun w2 hw => St.selO [2, 1, 0, 3] rfl rfl hw) ?_
  refine SP.imp (fun w2 hw => St.group [boxO b3 [v99, v102] 186, slO (kInt .u8) 5 v99 l98, slO (kInt .u8) 5 v102 l101] hw) ?_
  obtain ⟨t103, hc, ho⟩ := bind_some ho
  refine SP.callA see (caps := []) _ fn154 rfl rfl rfl rfl (fun w2 hP h1 sub s1 d1 ap hI => op_Shape_take_s2.ok _ _ _ v99 v102 _ hc w2 hP sub trivial trivial _ h1 s1 d1 hI) (SP.k0 ?_)
  refine SP.ex (fun w2 h => St.open h) (fun v104 => ?_)
  refine SP.ex (fun w2 h => St.open h) (fun v105 => ?_)
  refine SP.imp (fun w2 h => St.seps h) ?_
  clear hc
  refine go ?_
  refine SP.imp (fun w2 hw => St.group [boxO b3 [v104, v105] 186, slO (kInt .u8) 5 v104 t103.1, slO (kInt .u8) 5 v105 t103.2] hw) ?_
  obtain ⟨t106, hc, ho⟩ := bind_some ho
  refine SP.callA see (caps := []) _ fn155 rfl rfl rfl rfl (fun w2 hP h1 sub s1 d1 ap hI => op_Shape_give_s2.ok _ _ _ v104 v105 _ hc w2 hP sub trivial trivial _ h1 s1 d1 hI) (SP.k0 ?_)
  refine SP.ex (fun w2 h => St.open h) (fun v107 => ?_)
  refine SP.ex (fun w2 h => St.open h) (fun v108 => ?_)
  refine SP.imp (fun w2 h => St.seps h) ?_
  clear hc
  refine go ?_
  exact QE.meet fun a w2 ha hw => ⟨t106.1, t106.2, v107, v108, ho, ha.sub sb, (St.selO [2, 1, 0, 3] rfl rfl hw)⟩
 refine go ?_
 refine CP.seq (go ?_)
 refine CP.seq (go ?_)
 refine CP.seq (go ?_)
 refine CP.seq (go ?_)
 refine CP.join (fun a w2 => ∃ l87 : List Int, ∃ l90 : List Int, ∃ v88 : Value, ∃ v91 : Value, op_Of.j3 op_0 l87 l90 = some r ∧ Env ⟨66, []⟩ [(2, .pointer (some ⟨b1, 0, none⟩)), (4, .pointer (some ⟨b3, 0, none⟩))] a ∧ St w em hV [] [slO (kInt .u8) 5 v91 l90, slO (kInt .u8) 5 v88 l87, boxO b3 [v88, v91] 186, boxO b1 [(.slice none 0 0), (.slice none 0 0)] 186] w2) ?_ ?_
 ·rintro a w2 ⟨l87, l90, v88, v91, ho, ha, hw⟩
  refine CP.app ha hw ?_
  clear ha hw a w2
  refine go ?_
  refine SP.imp (fun w2 hw => St.selO [2, 1, 0, 3] rfl rfl hw) ?_
  refine SP.imp (fun w2 hw => St.group [boxO b3 [v88, v91] 186, slO (kInt .u8) 5 v88 l87, slO (kInt .u8) 5 v91 l90] hw) ?_
  obtain ⟨t92, hc, ho⟩ := bind_some ho
  refine SP.callA see (caps := []) _ fn154 rfl rfl rfl rfl (fun w2 hP h1 sub s1 d1 ap hI => op_Shape_take_s2.ok _ _ _ v88 v91 _ hc w2 hP sub trivial trivial _ h1 s1 d1 hI) (SP.k0 ?_)
  refine SP.ex (fun w2 h => St.open h) (fun v93 => ?_)
  refine SP.ex (fun w2 h => St.open h) (fun v94 => ?_)
  refine SP.imp (fun w2 h => St.seps h) ?_
  clear hc
  refine go ?_
  exact QE.meet fun a w2 ha hw => ⟨t92.1, t92.2, v93, v94, ho, ha.sub sb, (St.selO [2, 1, 0, 3] rfl rfl hw)⟩
 refine go ?_
 refine CP.seq (go ?_)
 refine CP.seq (go ?_)
 refine CP.seq (go ?_)
 refine CP.seq ?_
 refine CP.seq ?_
 refine CP.join (fun a w2 => ∃ b5 : Bool, op_Of.j4 op_0 b5 = some r ∧ Env ⟨66, []⟩ [(2, .pointer (some ⟨b1, 0, none⟩)), (4, .pointer (some ⟨b3, 0, none⟩)), (5, .int .u8 op_0), (6, .bool b5)] a ∧ St w em hV [] [boxO b3 [(.slice none 0 0), (.slice none 0 0)] 186, boxO b1 [(.slice none 0 0), (.slice none 0 0)] 186] w2) ?_ ?_
 ·rintro a w2 ⟨b5, ho, ha, hw⟩
  refine CP.app ha hw ?_
  clear ha hw a w2
  refine CP.cb ho (fun ho => ?_) fun ho => ?_
  ·refine go ?_
   exact QE.meet fun a w2 ha hw => ⟨[], [], (.slice none 0 0), (.slice none 0 0), ho, ha.sub sb, (St.addO (slO.nil (kInt .u8) 5) (St.addO (slO.nil (kInt .u8) 5) hw))⟩
  refine go ?_
  refine CP.seq (go ?_)
  refine CP.ci ho (fun ho => ?_) fun ho => ?_
  ·refine go ?_
   refine SP.imp (fun w2 hw => St.addO (slO.nil (kInt .u8) 5) hw) ?_
   refine SP.imp (fun w2 hw => St.addO (slO.nil (kInt .u8) 5) hw) ?_
   refine SP.imp (fun w2 hw => St.selO [2, 1, 0, 3] rfl rfl hw) ?_
   refine SP.imp (fun w2 hw => St.group [boxO b3 [(.slice none 0 0), (.slice none 0 0)] 186, slO (kInt .u8) 5 (.slice none 0 0) ([] : List Int), slO (kInt .u8) 5 (.slice none 0 0) ([] : List Int)] hw) ?_
   obtain ⟨t6, hc, ho⟩ := bind_some (x := op_Shape_take_s2.f ([] : List Int) ([] : List Int) 0) ho
   refine SP.callA see (caps := []) _ fn154 rfl rfl rfl rfl (fun w2 hP h1 sub s1 d1 ap hI => op_Shape_take_s2.ok _ _ _ (.slice none 0 0) (.slice none 0 0) _ hc w2 hP sub trivial trivial _ h1 s1 d1 hI) (SP.k0 ?_)
   refine SP.ex (fun w2 h => St.open h) (fun v9 => ?_)
   refine SP.ex (fun w2 h => St.open h) (fun v10 => ?_)
   refine SP.imp (fun w2 h => St.seps h) ?_
   clear hc
   refine go ?_
   exact QE.meet fun a w2 ha hw => ⟨t6.1, t6.2, v9, v10, ho, ha.sub sb, (St.selO [2, 1, 0, 3] rfl rfl hw)⟩
  refine go ?_
  refine CP.seq (go ?_)
  refine CP.ci ho (fun ho => ?_) fun ho => ?_
  ·refine go ?_
   refine SP.imp (fun w2 hw => St.addO (slO.nil (kInt .u8) 5) hw) ?_
   refine SP.imp (fun w2 hw => St.addO (slO.nil (kInt .u8) 5) hw) ?_
   refine SP.imp (fun w2 hw => St.selO [2, 1, 0, 3] rfl rfl hw) ?_
   refine SP.imp (fun w2 hw => St.group [boxO b3 [(.slice none 0 0), (.slice none 0 0)] 186, slO (kInt .u8) 5 (.slice none 0 0) ([] : List Int), slO (kInt .u8) 5 (.slice none 0 0) ([] : List Int)] hw) ?_
   obtain ⟨t11, hc, ho⟩ := bind_some (x := op_Shape_take_s2.f ([] : List Int) ([] : List Int) 3) ho
   refine SP.callA see (caps := []) _ fn154 rfl rfl rfl rfl (fun w2 hP h1 sub s1 d1 ap hI => op_Shape_take_s2.ok _ _ _ (.slice none 0 0) (.slice none 0 0) _ hc w2 hP sub trivial trivial _ h1 s1 d1 hI) (SP.k0 ?_)
   refine SP.ex (fun w2 h => St.open h) (fun v14 => ?_)
   refine SP.ex (fun w2 h => St.open h) (fun v15 => ?_)
   refine SP.imp (fun w2 h => St.seps h) ?_
   clear hc
   refine go ?_
   refine SP.imp (fun w2 hw => St.group [boxO b3 [v14, v15] 186, slO (kInt .u8) 5 v14 t11.1, slO (kInt .u8) 5 v15 t11.2] hw) ?_
   obtain ⟨t16, hc, ho⟩ := bind_some ho
   refine SP.callA see (caps := []) _ fn154 rfl rfl rfl rfl (fun w2 hP h1 sub s1 d1 ap hI => op_Shape_take_s2.ok _ _ _ v14 v15 _ hc w2 hP sub trivial trivial _ h1 s1 d1 hI) (SP.k0 ?_)
   refine SP.ex (fun w2 h => St.open h) (fun v17 => ?_)
   refine SP.ex (fun w2 h => St.open h) (fun v18 => ?_)
   refine SP.imp (fun w2 h => St.seps h) ?_
   clear hc
   refine go ?_
   exact QE.meet fun a w2 ha hw => ⟨t16.1, t16.2, v17, v18, ho, ha.sub sb, (St.selO [2, 1, 0, 3] rfl rfl hw)⟩
  refine go ?_
  refine CP.seq (go ?_)
  refine CP.ci ho (fun ho => ?_) fun ho => ?_
  ·refine go ?_
   exact QE.meet fun a w2 ha hw => ⟨[], [], (.slice none 0 0), (.slice none 0 0), ho, ha.sub sb, (St.addO (slO.nil (kInt .u8) 5) (St.addO (slO.nil (kInt .u8) 5) hw))⟩
  refine go ?_
  refine CP.seq ?_
  refine CP.join (fun a w2 => ∃ b19 : Bool, op_Of.j5 op_0 b19 = some r ∧ Env ⟨66, []⟩ [(2, .pointer (some ⟨b1, 0, none⟩)), (4, .pointer (some ⟨b3, 0, none⟩)), (5, .int .u8 op_0), (18, .bool b19)] a ∧ St w em hV [] [boxO b3 [(.slice none 0 0), (.slice none 0 0)] 186, boxO b1 [(.slice none 0 0), (.slice none 0 0)] 186] w2) ?_ ?_
  ·rintro a w2 ⟨b19, ho, ha, hw⟩
   refine CP.app ha hw ?_
   clear ha hw a w2
   refine CP.cb ho (fun ho => ?_) fun ho => ?_
   ·refine go ?_
    refine CP.seq (go ?_)
    refine SP.imp (fun w2 hw => St.addO (slO.nil (kInt .u8) 5) hw) ?_
    refine SP.imp (fun w2 hw => St.addO (slO.nil (kInt .u8) 5) hw) ?_
    refine SP.imp (fun w2 hw => St.selO [2, 1, 0, 3] rfl rfl hw) ?_
    refine SP.imp (fun w2 hw => St.group [boxO b3 [(.slice none 0 0), (.slice none 0 0)] 186, slO (kInt .u8) 5 (.slice none 0 0) ([] : List Int), slO (kInt .u8) 5 (.slice none 0 0) ([] : List Int)] hw) ?_
    obtain ⟨t20, hc, ho⟩ := bind_some (x := op_Shape_give_s2.f ([] : List Int) ([] : List Int) 1) ho
    refine SP.callA see (caps := []) _ fn155 rfl rfl rfl rfl (fun w2 hP h1 sub s1 d1 ap hI => op_Shape_give_s2.ok _ _ _ (.slice none 0 0) (.slice none 0 0) _ hc w2 hP sub trivial trivial _ h1 s1 d1 hI) (SP.k0 ?_)
    refine SP.ex (fun w2 h => St.open h) (fun v23 => ?_)
    refine SP.ex (fun w2 h => St.open h) (fun v24 => ?_)
    refine SP.imp (fun w2 h => St.seps h) ?_
    clear hc
    refine go ?_
    refine SP.imp (fun w2 hw => St.group [boxO b3 [v23, v24] 186, slO (kInt .u8) 5 v23 t20.1, slO (kInt .u8) 5 v24 t20.2] hw) ?_
    obtain ⟨t25, hc, ho⟩ := bind_some ho
    refine SP.callA see (caps := []) _ fn154 rfl rfl rfl rfl (fun w2 hP h1 sub s1 d1 ap hI => op_Shape_take_s2.ok _ _ _ v23 v24 _ hc w2 hP sub trivial trivial _ h1 s1 d1 hI) (SP.k0 ?_)
    refine SP.ex (fun w2 h => St.open h) (fun v26 => ?_)
    refine SP.ex (fun w2 h => St.open h) (fun v27 => ?_)
    refine SP.imp (fun w2 h => St.seps h) ?_
    clear hc
    refine go ?_
    refine SP.imp (fun w2 hw => St.group [boxO b3 [v26, v27] 186, slO (kInt .u8) 5 v26 t25.1, slO (kInt .u8) 5 v27 t25.2] hw) ?_
    obtain ⟨t28, hc, ho⟩ := bind_some ho
    refine SP.callA see (caps := []) _ fn154 rfl rfl rfl rfl (fun w2 hP h1 sub s1 d1 ap hI => op_Shape_take_s2.ok _ _ _ v26 v27 _ hc w2 hP sub trivial trivial _ h1 s1 d1 hI) (SP.k0 ?_)
    refine SP.ex (fun w2 h => St.open h) (fun v29 => ?_)
    refine SP.ex (fun w2 h => St.open h) (fun v30 => ?_)
    refine SP.imp (fun w2 h => St.seps h) ?_
    clear hc
    refine go ?_
    exact QE.meet fun a w2 ha hw => ⟨t28.1, t28.2, v29, v30, ho, ha.sub sb, (St.selO [2, 1, 0, 3] rfl rfl hw)⟩
   refine go ?_
   refine CP.seq (go ?_)
   refine CP.ci ho (fun ho => ?_) fun ho => ?_
   ·refine go ?_
    refine CP.seq (go ?_)
    refine SP.imp (fun w2 hw => St.addO (slO.nil (kInt .u8) 5) hw) ?_
    refine SP.imp (fun w2 hw => St.addO (slO.nil (kInt .u8) 5) hw) ?_
    refine SP.imp (fun w2 hw => St.selO [2, 1, 0, 3] rfl rfl hw) ?_
    refine SP.imp (fun w2 hw => St.group [boxO b3 [(.slice none 0 0), (.slice none 0 0)] 186, slO (kInt .u8) 5 (.slice none 0 0) ([] : List Int), slO (kInt .u8) 5 (.slice none 0 0) ([] : List Int)] hw) ?_
    obtain ⟨t31, hc, ho⟩ := bind_some (x := op_Shape_give_s2.f ([] : List Int) ([] : List Int) 2) ho
    refine SP.callA see (caps := []) _ fn155 rfl rfl rfl rfl (fun w2 hP h1 sub s1 d1 ap hI => op_Shape_give_s2.ok _ _ _ (.slice none 0 0) (.slice none 0 0) _ hc w2 hP sub trivial trivial _ h1 s1 d1 hI) (SP.k0 ?_)
    refine SP.ex (fun w2 h => St.open h) (fun v34 => ?_)
    refine SP.ex (fun w2 h => St.open h) (fun v35 => ?_)
    refine SP.imp (fun w2 h => St.seps h) ?_
    clear hc
    refine go ?_
    refine SP.imp (fun w2 hw => St.group [boxO b3 [v34, v35] 186, slO (kInt .u8) 5 v34 t31.1, slO (kInt .u8) 5 v35 t31.2] hw) ?_
    obtain ⟨t36, hc, ho⟩ := bind_some ho
    refine SP.callA see (caps := []) _ fn154 rfl rfl rfl rfl (fun w2 hP h1 sub s1 d1 ap hI => op_Shape_take_s2.ok _ _ _ v34 v35 _ hc w2 hP sub trivial trivial _ h1 s1 d1 hI) (SP.k0 ?_)
    refine SP.ex (fun w2 h => St.open h) (fun v37 => ?_)
    refine SP.ex (fun w2 h => St.open h) (fun v38 => ?_)
    refine SP.imp (fun w2 h => St.seps h) ?_
    clear hc
    refine go ?_
    refine SP.imp (fun w2 hw => St.group [boxO b3 [v37, v38] 186, slO (kInt .u8) 5 v37 t36.1, slO (kInt .u8) 5 v38 t36.2] hw) ?_
    obtain ⟨t39, hc, ho⟩ := bind_some ho
    refine SP.callA see (caps := []) _ fn154 rfl rfl rfl rfl (fun w2 hP h1 sub s1 d1 ap hI => op_Shape_take_s2.ok _ _ _ v37 v38 _ hc w2 hP sub trivial trivial _ h1 s1 d1 hI) (SP.k0 ?_)
    refine SP.ex (fun w2 h => St.open h) (fun v40 => ?_)
    refine SP.ex (fun w2 h => St.open h) (fun v41 => ?_)
    refine SP.imp (fun w2 h => St.seps h) ?_
    clear hc
    refine go ?_
    exact QE.meet fun a w2 ha hw => ⟨t39.1, t39.2, v40, v41, ho, ha.sub sb, (St.selO [2, 1, 0, 3] rfl rfl hw)⟩
   refine go ?_
   refine CP.seq ?_
   refine CP.join (fun a w2 => ∃ b42 : Bool, op_Of.j6 op_0 b42 = some r ∧ Env ⟨66, []⟩ [(2, .pointer (some ⟨b1, 0, none⟩)), (4, .pointer (some ⟨b3, 0, none⟩)), (5, .int .u8 op_0), (28, .bool b42)] a ∧ St w em hV [] [boxO b3 [(.slice none 0 0), (.slice none 0 0)] 186, boxO b1 [(.slice none 0 0), (.slice none 0 0)] 186] w2) ?_ ?_
   ·rintro a w2 ⟨b42, ho, ha, hw⟩
    refine CP.app ha hw ?_
    clear ha hw a w2
    refine CP.cb ho (fun ho => ?_) fun ho => ?_
    ·refine go ?_
     refine CP.seq (go ?_)
     refine SP.imp (fun w2 hw => St.addO (slO.nil (kInt .u8) 5) hw) ?_
     refine SP.imp (fun w2 hw => St.addO (slO.nil (kInt .u8) 5) hw) ?_
     refine SP.imp (fun w2 hw => St.selO [2, 1, 0, 3] rfl rfl hw) ?_
     refine SP.imp (fun w2 hw => St.group [boxO b3 [(.slice none 0 0), (.slice none 0 0)] 186, slO (kInt .u8) 5 (.slice none 0 0) ([] : List Int), slO (kInt .u8) 5 (.slice none 0 0) ([] : List Int)] hw) ?_
     obtain ⟨t43, hc, ho⟩ := bind_some (x := op_Shape_give_s2.f ([] : List Int) ([] : List Int) 1) ho
     refine SP.callA see (caps := []) _ fn155 rfl rfl rfl rfl (fun w2 hP h1 sub s1 d1 ap hI => op_Shape_give_s2.ok _ _ _ (.slice none 0 0) (.slice none 0 0) _ hc w2 hP sub trivial trivial _ h1 s1 d1 hI) (SP.k0 ?_)
     refine SP.ex (fun w2 h => St.open h) (fun v46 => ?_)
     refine SP.ex (fun w2 h => St.open h) (fun v47 => ?_)
     refine SP.imp (fun w2 h => St.seps h) ?_
     clear hc
     refine go ?_
     refine SP.imp (fun w2 hw => St.group [boxO b3 [v46, v47] 186, slO (kInt .u8) 5 v46 t43.1, slO (kInt .u8) 5 v47 t43.2] hw) ?_
     obtain ⟨t48, hc, ho⟩ := bind_some ho
     refine SP.callA see (caps := []) _ fn154 rfl rfl rfl rfl (fun w2 hP h1 sub s1 d1 ap hI => op_Shape_take_s2.ok _ _ _ v46 v47 _ hc w2 hP sub trivial trivial _ h1 s1 d1 hI) (SP.k0 ?_)
     refine SP.ex (fun w2 h => St.open h) (fun v49 => ?_)
     refine SP.ex (fun w2 h => St.open h) (fun v50 => ?_)
     refine SP.imp (fun w2 h => St.seps h) ?_
     clear hc
     refine go ?_
     exact QE.meet fun a w2 ha hw => ⟨t48.1, t48.2, v49, v50, ho, ha.sub sb, (St.selO [2, 1, 0, 3] rfl rfl hw)⟩
    refine go ?_
    refine CP.seq ?_
    refine CP.join (fun a w2 => ∃ b51 : Bool, op_Of.j7 op_0 b51 = some r ∧ Env ⟨66, []⟩ [(2, .pointer (some ⟨b1, 0, none⟩)), (4, .pointer (some ⟨b3, 0, none⟩)), (5, .int .u8 op_0), (31, .bool b51)] a ∧ St w em hV [] [boxO b3 [(.slice none 0 0), (.slice none 0 0)] 186, boxO b1 [(.slice none 0 0), (.slice none 0 0)] 186] w2) ?_ ?_
    ·rintro a w2 ⟨b51, ho, ha, hw⟩
     refine CP.app ha hw ?_
     clear ha hw a w2
     refine CP.cb ho (fun ho => ?_) fun ho => ?_
     ·refine go ?_
      refine SP.imp (fun w2 hw => St.addO (slO.nil (kInt .u8) 5) hw) ?_
      refine SP.imp (fun w2 hw => St.addO (slO.nil (kInt .u8) 5) hw) ?_
      refine SP.imp (fun w2 hw => St.selO [2, 1, 0, 3] rfl rfl hw) ?_
      refine SP.imp (fun w2 hw => St.group [boxO b3 [(.slice none 0 0), (.slice none 0 0)] 186, slO (kInt .u8) 5 (.slice none 0 0) ([] : List Int), slO (kInt .u8) 5 (.slice none 0 0) ([] : List Int)] hw) ?_
      obtain ⟨t52, hc, ho⟩ := bind_some (x := op_Shape_take_s2.f ([] : List Int) ([] : List Int) 2) ho
      refine SP.callA see (caps := []) _ fn154 rfl rfl rfl rfl (fun w2 hP h1 sub s1 d1 ap hI => op_Shape_take_s2.ok _ _ _ (.slice none 0 0) (.slice none 0 0) _ hc w2 hP sub trivial trivial _ h1 s1 d1 hI) (SP.k0 ?_)
      refine SP.ex (fun w2 h => St.open h) (fun v55 => ?_)
      refine SP.ex (fun w2 h => St.open h) (fun v56 => ?_)
      refine SP.imp (fun w2 h => St.seps h) ?_
      clear hc
      refine go ?_
      exact QE.meet fun a w2 ha hw => ⟨t52.1, t52.2, v55, v56, ho, ha.sub sb, (St.selO [2, 1, 0, 3] rfl rfl hw)⟩
     refine go ?_
     refine CP.seq (go ?_)
     refine CP.ci ho (fun ho => ?_) fun ho => ?_
     ·refine go ?_
      exact QE.meet fun a w2 ha hw => ⟨[], [], (.slice none 0 0), (.slice none 0 0), ho, ha.sub sb, (St.addO (slO.nil (kInt .u8) 5) (St.addO (slO.nil (kInt .u8) 5) hw))⟩
     refine go ?_
     refine CP.seq (go ?_)
     refine CP.ci ho (fun ho => ?_) fun ho => ?_
     ·refine go ?_
      refine CP.seq (go ?_)
      refine SP.imp (fun w2 hw => St.addO (slO.nil (kInt .u8) 5) hw) ?_
      refine SP.imp (fun w2 hw => St.addO (slO.nil (kInt .u8) 5) hw) ?_
      refine SP.imp (fun w2 hw => St.selO [2, 1, 0, 3] rfl rfl hw) ?_
      refine SP.imp (fun w2 hw => St.group [boxO b3 [(.slice none 0 0), (.slice none 0 0)] 186, slO (kInt .u8) 5 (.slice none 0 0) ([] : List Int), slO (kInt .u8) 5 (.slice none 0 0) ([] : List Int)] hw) ?_
      obtain ⟨t57, hc, ho⟩ := bind_some (x := op_Shape_take_s2.f ([] : List Int) ([] : List Int) 1) ho
      refine SP.callA see (caps := []) _ fn154 rfl rfl rfl rfl (fun w2 hP h1 sub s1 d1 ap hI => op_Shape_take_s2.ok _ _ _ (.slice none 0 0) (.slice none 0 0) _ hc w2 hP sub trivial trivial _ h1 s1 d1 hI) (SP.k0 ?_)
      refine SP.ex (fun w2 h => St.open h) (fun v60 => ?_)
      refine SP.ex (fun w2 h => St.open h) (fun v61 => ?_)
      refine SP.imp (fun w2 h => St.seps h) ?_
      clear hc
      refine go ?_
      refine SP.imp (fun w2 hw => St.group [boxO b3 [v60, v61] 186, slO (kInt .u8) 5 v60 t57.1, slO (kInt .u8) 5 v61 t57.2] hw) ?_
      obtain ⟨t62, hc, ho⟩ := bind_some ho
      refine SP.callA see (caps := []) _ fn155 rfl rfl rfl rfl (fun w2 hP h1 sub s1 d1 ap hI => op_Shape_give_s2.ok _ _ _ v60 v61 _ hc w2 hP sub trivial trivial _ h1 s1 d1 hI) (SP.k0 ?_)
      refine SP.ex (fun w2 h => St.open h) (fun v63 => ?_)
      refine SP.ex (fun w2 h => St.open h) (fun v64 => ?_)
      refine SP.imp (fun w2 h => St.seps h) ?_
      clear hc
      refine go ?_
      exact QE.meet fun a w2 ha hw => ⟨t62.1, t62.2, v63, v64, ho, ha.sub sb, (St.selO [2, 1, 0, 3] rfl rfl hw)⟩
     refine go ?_
     refine CP.seq (go ?_)
     refine CP.ci ho (fun ho => ?_) fun ho => ?_
     ·refine go ?_
      refine CP.seq (go ?_)
      refine SP.imp (fun w2 hw => St.addO (slO.nil (kInt .u8) 5) hw) ?_
      refine SP.imp (fun w2 hw => St.addO (slO.nil (kInt .u8) 5) hw) ?_
      refine SP.imp (fun w2 hw => St.selO [2, 1, 0, 3] rfl rfl hw) ?_
      refine SP.imp (fun w2 hw => St.group [boxO b3 [(.slice none 0 0), (.slice none 0 0)] 186, slO (kInt .u8) 5 (.slice none 0 0) ([] : List Int), slO (kInt .u8) 5 (.slice none 0 0) ([] : List Int)] hw) ?_
      obtain ⟨t65, hc, ho⟩ := bind_some (x := op_Shape_take_s2.f ([] : List Int) ([] : List Int) 3) ho
      refine SP.callA see (caps := []) _ fn154 rfl rfl rfl rfl (fun w2 hP h1 sub s1 d1 ap hI => op_Shape_take_s2.ok _ _ _ (.slice none 0 0) (.slice none 0 0) _ hc w2 hP sub trivial trivial _ h1 s1 d1 hI) (SP.k0 ?_)
      refine SP.ex (fun w2 h => St.open h) (fun v68 => ?_)
      refine SP.ex (fun w2 h => St.open h) (fun v69 => ?_)
      refine SP.imp (fun w2 h => St.seps h) ?_
      clear hc
      refine go ?_
      refine SP.imp (fun w2 hw => St.group [boxO b3 [v68, v69] 186, slO (kInt .u8) 5 v68 t65.1, slO (kInt .u8) 5 v69 t65.2] hw) ?_
      obtain ⟨t70, hc, ho⟩ := bind_some ho
      refine SP.callA see (caps := []) _ fn154 rfl rfl rfl rfl (fun w2 hP h1 sub s1 d1 ap hI => op_Shape_take_s2.ok _ _ _ v68 v69 _ hc w2 hP sub trivial trivial _ h1 s1 d1 hI) (SP.k0 ?_)
      refine SP.ex (fun w2 h => St.open h) (fun v71 => ?_)
      refine SP.ex (fun w2 h => St.open h) (fun v72 => ?_)
      refine SP.imp (fun w2 h => St.seps h) ?_
      clear hc
      refine go ?_
      refine SP.imp (fun w2 hw => St.group [boxO b3 [v71, v72] 186, slO (kInt .u8) 5 v71 t70.1, slO (kInt .u8) 5 v72 t70.2] hw) ?_
      obtain ⟨t73, hc, ho⟩ := bind_some ho
      refine SP.callA see (caps := []) _ fn155 rfl rfl rfl rfl (fun w2 hP h1 sub s1 d1 ap hI => op_Shape_give_s2.ok _ _ _ v71 v72 _ hc w2 hP sub trivial trivial _ h1 s1 d1 hI) (SP.k0 ?_)
      refine SP.ex (fun w2 h => St.open h) (fun v74 => ?_)
      refine SP.ex (fun w2 h => St.open h) (fun v75 => ?_)
      refine SP.imp (fun w2 h => St.seps h) ?_
      clear hc
      refine go ?_
      exact QE.meet fun a w2 ha hw => ⟨t73.1, t73.2, v74, v75, ho, ha.sub sb, (St.selO [2, 1, 0, 3] rfl rfl hw)⟩
     refine go ?_
     refine CP.ci ho (fun ho => ?_) fun ho => ?_
     ·refine go ?_
      refine CP.seq (go ?_)
      refine SP.imp (fun w2 hw => St.addO (slO.nil (kInt .u8) 5) hw) ?_
      refine SP.imp (fun w2 hw => St.addO (slO.nil (kInt .u8) 5) hw) ?_
      refine SP.imp (fun w2 hw => St.selO [2, 1, 0, 3] rfl rfl hw) ?_
      refine SP.imp (fun w2 hw => St.group [boxO b3 [(.slice none 0 0), (.slice none 0 0)] 186, slO (kInt .u8) 5 (.slice none 0 0) ([] : List Int), slO (kInt .u8) 5 (.slice none 0 0) ([] : List Int)] hw) ?_
      obtain ⟨t76, hc, ho⟩ := bind_some (x := op_Shape_take_s2.f ([] : List Int) ([] : List Int) 3) ho
      refine SP.callA see (caps := []) _ fn154 rfl rfl rfl rfl (fun w2 hP h1 sub s1 d1 ap hI => op_Shape_take_s2.ok _ _ _ (.slice none 0 0) (.slice none 0 0) _ hc w2 hP sub trivial trivial _ h1 s1 d1 hI) (SP.k0 ?_)
      refine SP.ex (fun w2 h => St.open h) (fun v79 => ?_)
      refine SP.ex (fun w2 h => St.open h) (fun v80 => ?_)
      refine SP.imp (fun w2 h => St.seps h) ?_
      clear hc
      refine go ?_
      refine SP.imp (fun w2 hw => St.group [boxO b3 [v79, v80] 186, slO (kInt .u8) 5 v79 t76.1, slO (kInt .u8) 5 v80 t76.2] hw) ?_
      obtain ⟨t81, hc, ho⟩ := bind_some ho
      refine SP.callA see (caps := []) _ fn155 rfl rfl rfl rfl (fun w2 hP h1 sub s1 d1 ap hI => op_Shape_give_s2.ok _ _ _ v79 v80 _ hc w2 hP sub trivial trivial _ h1 s1 d1 hI) (SP.k0 ?_)
      refine SP.ex (fun w2 h => St.open h) (fun v82 => ?_)
      refine SP.ex (fun w2 h => St.open h) (fun v83 => ?_)
      refine SP.imp (fun w2 h => St.seps h) ?_
      clear hc
      refine go ?_
      exact QE.meet fun a w2 ha hw => ⟨t81.1, t81.2, v82, v83, ho, ha.sub sb, (St.selO [2, 1, 0, 3] rfl rfl hw)⟩
     refine go ?_
     refine CP.seq (go ?_)
     refine SP.val (Val.buildC (us := []) (ucs := []) (cs := [(.slice none 0 0), (.slice none 0 0)]) bt186 rfl rfl trivial (by rfl)) rfl rfl rfl ?_
     refine SP.store (v := .agg #[(.slice none 0 0), (.slice none 0 0)]) (vs := [(.slice none 0 0), (.slice none 0 0)]) 1 (by rfl) sz186 (by rfl) (by rfl) (by rfl) (by rfl) (by rfl) (by rfl) (go ?_)
     obtain rfl := Option.some.inj ho
     exact QE.rt (fun _ h => St.selO [1, 0] rfl rfl (St.addO (slO.nil (kInt .u8) 5) (St.addO (slO.nil (kInt .u8) 5) h))) (rs := [.cell 2 186, .tmp 3]) (vs := [.agg #[(.slice none 0 0), (.slice none 0 0)], .bool false]) (hv := ⟨RVs.cellA 1 rfl rfl Tryz.underlying186 rfl sz186, RVs.tmp rfl, trivial⟩)
    refine go ?_
    refine CP.ci ho (fun ho => ?_) fun ho => ?_
    ·refine go ?_
     exact QE.meet fun a w2 ha hw => ⟨(decide (op_0 = 19)), ho, ha.sub sb, hw⟩
    refine go ?_
    exact QE.meet fun a w2 ha hw => ⟨(decide (op_0 = 20)), ho, ha.sub sb, hw⟩
   refine go ?_
   refine CP.ci ho (fun ho => ?_) fun ho => ?_
   ·refine go ?_
    exact QE.meet fun a w2 ha hw => ⟨(decide (op_0 = 17)), ho, ha.sub sb, hw⟩
   refine go ?_
   exact QE.meet fun a w2 ha hw => ⟨(decide (op_0 = 18)), ho, ha.sub sb, hw⟩
  refine go ?_
  refine CP.ci ho (fun ho => ?_) fun ho => ?_
  ·refine go ?_
   exact QE.meet fun a w2 ha hw => ⟨(decide (op_0 = 9)), ho, ha.sub sb, hw⟩
  refine go ?_
  refine CP.ci ho (fun ho => ?_) fun ho => ?_
  ·refine go ?_
   exact QE.meet fun a w2 ha hw => ⟨(decide (op_0 = 10)), ho, ha.sub sb, hw⟩
  refine go ?_
  refine CP.ci ho (fun ho => ?_) fun ho => ?_
  ·refine go ?_
   exact QE.meet fun a w2 ha hw => ⟨(decide (op_0 = 11)), ho, ha.sub sb, hw⟩
  refine go ?_
  refine CP.ci ho (fun ho => ?_) fun ho => ?_
  ·refine go ?_
   exact QE.meet fun a w2 ha hw => ⟨(decide (op_0 = 12)), ho, ha.sub sb, hw⟩
  refine go ?_
  refine CP.ci ho (fun ho => ?_) fun ho => ?_
  ·refine go ?_
   exact QE.meet fun a w2 ha hw => ⟨(decide (op_0 = 13)), ho, ha.sub sb, hw⟩
  refine go ?_
  refine CP.ci ho (fun ho => ?_) fun ho => ?_
  ·refine go ?_
   exact QE.meet fun a w2 ha hw => ⟨(decide (op_0 = 14)), ho, ha.sub sb, hw⟩
  refine go ?_
  exact QE.meet fun a w2 ha hw => ⟨(decide (op_0 = 15)), ho, ha.sub sb, hw⟩
 refine go ?_
 refine CP.ci ho (fun ho => ?_) fun ho => ?_
 ·refine go ?_
  exact QE.meet fun a w2 ha hw => ⟨(decide (op_0 = 0)), ho, ha.sub sb, hw⟩
 refine go ?_
 refine CP.ci ho (fun ho => ?_) fun ho => ?_
 ·refine go ?_
  exact QE.meet fun a w2 ha hw => ⟨(decide (op_0 = 26)), ho, ha.sub sb, hw⟩
 refine go ?_
 refine CP.ci ho (fun ho => ?_) fun ho => ?_
 ·refine go ?_
  exact QE.meet fun a w2 ha hw => ⟨(decide (op_0 = 28)), ho, ha.sub sb, hw⟩
 refine go ?_
 refine CP.ci ho (fun ho => ?_) fun ho => ?_
 ·refine go ?_
  exact QE.meet fun a w2 ha hw => ⟨(decide (op_0 = 29)), ho, ha.sub sb, hw⟩
 refine go ?_
 exact QE.meet fun a w2 ha hw => ⟨(decide (op_0 = 32)), ho, ha.sub sb, hw⟩
def slices_Clone_uint8_uint8.f (s_0 : (List Int)) : Option (List Int) :=
  nilOr s_0 (some []) (if (([] : List Int).length + s_0.length) * 1 ≤ 140737488355328 then (some (([] : List Int) ++ s_0)) else none)
theorem slices_Clone_uint8_uint8.ok (s_0 : (List Int)) (v_s_0 : Value) (r : (List Int)) (H : slices_Clone_uint8_uint8.f s_0 = some r) (w : World) (hV : Hp) (sV : Sub hV (hp w)) (h0 : slR (kInt .u8) hV v_s_0 s_0) :
    Trip Tryz.prog 49 [v_s_0].toArray em hV w (fun v => HO.ex fun u0 : Value => HO.pand (v = u0) (HO.seps [slO (kInt .u8) 5 u0 r])) := by
 refine Trip.go 8 Tryz.func49 sV (aS h0 (All.nil _)) fun see => ?_
 have ho := H
 refine go ?_
 refine CP.seq (go ?_)
 refine SP.val (Val.eqlNP see 0 rfl Tryz.underlying38 rfl rfl) rfl rfl rfl (go ?_)
 refine CP.have (fun w2 hw => slR.isNil (v := v_s_0) (St.pers 0 rfl see.sub see.dj hw)) (fun hnil => ?_)
 rcases Bool.eq_false_or_eq_true (nilB v_s_0) with hc | hc
 ·replace ho := nilOr_t ho (hnil hc)
  refine CP.condT rfl hc (go ?_)
  obtain rfl := Option.some.inj ho
  exact QE.rt (fun _ h => St.selO [0] rfl rfl (St.addO (slO.nil (kInt .u8) 5) h))
 replace ho := nilOr_f ho
 refine CP.condF rfl hc (go ?_)
 refine SP.lit0 (k := (kInt .u8)) Tryz.underlying38 inf5 rfl rfl (fun v3 => go ?_)
 obtain ⟨hb, ho⟩ := must_some ho
 refine SP.append see 0 rfl 0 rfl Tryz.underlying38 inf5 rfl rfl hb rfl rfl rfl rfl rfl (fun v5 => ?_)
 clear hb
 refine go ?_
 obtain rfl := Option.some.inj ho
 exact QE.rt (fun _ h => St.selO [0] rfl rfl h)
end Go.Proofs.YtmhkokkphgchlaaGreatDoor
end
