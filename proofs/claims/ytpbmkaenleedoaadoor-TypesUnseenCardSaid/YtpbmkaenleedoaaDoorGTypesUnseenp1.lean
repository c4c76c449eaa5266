/- Functions of the program as plain functions, with the proof that the code computes them: printed by gen.py of this session. -/
import Derived.Test.YtpbmkaenleedoaaDoorProg
import Derived.Test.YtpbmkaenleedoaaDoorQ32v539090
import Derived.Ground.Names8Prog
import Derived.Ground.NamesProg
import Derived.Ground.SlgcProg
import Derived.Ground.SlgmProg
import Derived.Ground.SlgnProg
import Derived.Ground.SlsfProg
import Derived.Shelf.Bits.Mul64
import Derived.Shelf.Lay
import Derived.Shelf.SlGeneric
import Derived.Shelf.SlSortCmp.WholeK
import Derived.Shelf.SlicesE.Reverse
import Derived.Shelf.SlicesG.Cmp
import Derived.Shelf.SlicesG.CompactI
import Derived.Shelf.Small.Bits
import Derived.Shelf.SortM.Plain
import Derived.Shelf.SortM.SortNone
import Derived.Shelf.Spec.SlicesGrow
set_option linter.unusedVariables false
set_option linter.unusedSimpArgs false
set_option maxRecDepth 20000
set_option maxHeartbeats 2000000
noncomputable section
namespace Go.Proofs.YtpbmkaenleedoaaDoor
open Go.Q
structure api_Value where
  Kind : Int
  A : Int
  B : Int
def api_Value.zero : api_Value := ⟨0, 0, 0⟩
def k_api_Value : Kd api_Value := ⟨3, fun h cs x => cs = [.int .u8 x.Kind, .int .i64 x.A, .int .i64 x.B], fun _ _ _ _ _ h => h, fun _ _ _ h => by simp [h], fun _ _ _ h => by subst h; rfl⟩
theorem k_api_Value.part_Kind : Part k_api_Value 0 (kInt .u8) (fun x => x.Kind) := fun h cs x e => ⟨[.int .u8 x.Kind], rfl, by subst e; exact seg_get [.int .u8 x.Kind, .int .i64 x.A, .int .i64 x.B] 0 1⟩
theorem k_api_Value.part_A : Part k_api_Value 1 (kInt .i64) (fun x => x.A) := fun h cs x e => ⟨[.int .i64 x.A], rfl, by subst e; exact seg_get [.int .u8 x.Kind, .int .i64 x.A, .int .i64 x.B] 1 1⟩
theorem k_api_Value.part_B : Part k_api_Value 2 (kInt .i64) (fun x => x.B) := fun h cs x e => ⟨[.int .i64 x.B], rfl, by subst e; exact seg_get [.int .u8 x.Kind, .int .i64 x.A, .int .i64 x.B] 2 1⟩
theorem k_api_Value.load {P : Program} {n : Fr} {ρ : Option Nat} {σ : List (Nat × Value)} {w0 : World} {hA hV : Hp} {ps : List HP} {os : List HO} {L l : List Oper} {Q : Cont} {d : Nat} {t tr : TypeId} {x : Operand} {pos : String} {af : Array Edge} {g : Option (Nat × Bool)} {v : Value} (see : Sees w0 hA hV) (i : Nat) {x0 : api_Value} (hi : ps[i]? = some (elP k_api_Value v x0)) {dsc : TypeDesc} (hu : P.underlying t = some dsc) (hd : (match dsc with | .struct _ | .array _ _ => true | _ => false) = true) (hs : (P.info? t).map (·.size) = some 3) (hg : gd L σ g = some true) (hn : Nat.blt d n.n = true) (hx : ev σ x = some v)
    (h : SP P n ρ ((d, .agg [.int .u8 x0.Kind, .int .i64 x0.A, .int .i64 x0.B].toArray) :: σ) (St w0 hA hV (ps) os) L l Q) : SP P n ρ σ (St w0 hA hV ps os) L (⟨some d, .load t x, tr, pos, af, g⟩ :: l) Q :=
  SP.loadP see i hi hu hd hs hg hn hx fun cs a w ha hw => by
    obtain ⟨m, fr, hN, hO, n1, n2, dj, s1, s2, ap, s⟩ := hw
    obtain rfl := ap.get 0 rfl
    exact h a w ha ⟨m, fr, hN, hO, n1, n2, dj, s1, s2, (fun y hy => ap y (List.mem_cons_of_mem _ hy)), s⟩
structure api_Instr where
  Op : Int
  A : Int
  B : Int
def api_Instr.zero : api_Instr := ⟨0, 0, 0⟩
def k_api_Instr : Kd api_Instr := ⟨3, fun h cs x => cs = [.int .u8 x.Op, .int .i64 x.A, .int .i64 x.B], fun _ _ _ _ _ h => h, fun _ _ _ h => by simp [h], fun _ _ _ h => by subst h; rfl⟩
theorem k_api_Instr.part_Op : Part k_api_Instr 0 (kInt .u8) (fun x => x.Op) := fun h cs x e => ⟨[.int .u8 x.Op], rfl, by subst e; exact seg_get [.int .u8 x.Op, .int .i64 x.A, .int .i64 x.B] 0 1⟩
theorem k_api_Instr.part_A : Part k_api_Instr 1 (kInt .i64) (fun x => x.A) := fun h cs x e => ⟨[.int .i64 x.A], rfl, by subst e; exact seg_get [.int .u8 x.Op, .int .i64 x.A, .int .i64 x.B] 1 1⟩
theorem k_api_Instr.part_B : Part k_api_Instr 2 (kInt .i64) (fun x => x.B) := fun h cs x e => ⟨[.int .i64 x.B], rfl, by subst e; exact seg_get [.int .u8 x.Op, .int .i64 x.A, .int .i64 x.B] 2 1⟩
theorem k_api_Instr.load {P : Program} {n : Fr} {ρ : Option Nat} {σ : List (Nat × Value)} {w0 : World} {hA hV : Hp} {ps : List HP} {os : List HO} {L l : List Oper} {Q : Cont} {d : Nat} {t tr : TypeId} {x : Operand} {pos : String} {af : Array Edge} {g : Option (Nat × Bool)} {v : Value} (see : Sees w0 hA hV) (i : Nat) {x0 : api_Instr} (hi : ps[i]? = some (elP k_api_Instr v x0)) {dsc : TypeDesc} (hu : P.underlying t = some dsc) (hd : (match dsc with | .struct _ | .array _ _ => true | _ => false) = true) (hs : (P.info? t).map (·.size) = some 3) (hg : gd L σ g = some true) (hn : Nat.blt d n.n = true) (hx : ev σ x = some v)
    (h : SP P n ρ ((d, .agg [.int .u8 x0.Op, .int .i64 x0.A, .int .i64 x0.B].toArray) :: σ) (St w0 hA hV (ps) os) L l Q) : SP P n ρ σ (St w0 hA hV ps os) L (⟨some d, .load t x, tr, pos, af, g⟩ :: l) Q :=
  SP.loadP see i hi hu hd hs hg hn hx fun cs a w ha hw => by
    obtain ⟨m, fr, hN, hO, n1, n2, dj, s1, s2, ap, s⟩ := hw
    obtain rfl := ap.get 0 rfl
    exact h a w ha ⟨m, fr, hN, hO, n1, n2, dj, s1, s2, (fun y hy => ap y (List.mem_cons_of_mem _ hy)), s⟩
structure api_Method where
  Args : (List Int)
  Locals : (List Int)
  Result : Int
  Reads : Bool
  Fuel : Int
  Stack : Int
  Heap : Int
  Code : (List api_Instr)
def api_Method.zero : api_Method := ⟨[], [], 0, false, 0, 0, 0, []⟩
def k_api_Method : Kd api_Method := ⟨8, fun h cs x => ∃ v0 v1 v2 : Value, cs = [v0, v1, .int .u8 x.Result, .bool x.Reads, .int .i64 x.Fuel, .int .i64 x.Stack, .int .i64 x.Heap, v2] ∧ slR (kInt .u8) h v0 x.Args ∧ slR (kInt .u8) h v1 x.Locals ∧ slR k_api_Instr h v2 x.Code,
  fun _ _ _ _ s ⟨v0, v1, v2, e, p0, p1, p2⟩ => ⟨v0, v1, v2, e, slR.mono s p0, slR.mono s p1, slR.mono s p2⟩, fun _ _ _ ⟨v0, v1, v2, e, p0, p1, p2⟩ => by simp [e],
  fun _ _ _ ⟨v0, v1, v2, e, p0, p1, p2⟩ => by subst e; obtain ⟨_, _, rfl, -⟩ := p0; obtain ⟨_, _, rfl, -⟩ := p1; obtain ⟨_, _, rfl, -⟩ := p2; rfl⟩
def o_api_Method : Ko api_Method := ⟨k_api_Method, fun cs x => HO.ex fun v0 : Value => HO.ex fun v1 : Value => HO.ex fun v2 : Value => HO.pand (cs = [v0, v1, .int .u8 x.Result, .bool x.Reads, .int .i64 x.Fuel, .int .i64 x.Stack, .int .i64 x.Heap, v2]) (HO.seps [slO (kInt .u8) 5 v0 x.Args, slO (kInt .u8) 5 v1 x.Locals, slO k_api_Instr 45 v2 x.Code]), fun ⟨v0, v1, v2, e, q⟩ sa sh => ⟨v0, v1, v2, e, slO.read (Sep.get 0 rfl q) sa sh, slO.read (Sep.get 1 rfl q) sa sh, slO.read (Sep.get 2 rfl q) sa sh⟩⟩
@[reducible] def api_Method.set_Args (x : api_Method) (l : (List Int)) : api_Method := { x with Args := l }
theorem o_api_Method.leaf0 : Leaf o_api_Method 0 (kInt .u8) 5 (fun x => x.Args) api_Method.set_Args := fun a h c x ⟨v0, v1, v2, e, q⟩ => by
  subst e
  obtain ⟨h1, h2, dj, s1, s2, p, rest⟩ := Sep.take 0 _ rfl q
  exact ⟨v0, h1, h2, rfl, dj, s1, s2, p, fun a' h' l' sa dj' r => ⟨v0, v1, v2, rfl, Sep.back 0 [slO (kInt .u8) 5 v0 x.Args, slO (kInt .u8) 5 v1 x.Locals, slO k_api_Instr 45 v2 x.Code] (x := slO (kInt .u8) 5 v0 l') (Nat.le_of_ble_eq_true rfl) dj' r (Sep.mono _ sa (Sub.refl _) rest)⟩⟩
@[reducible] def api_Method.set_Locals (x : api_Method) (l : (List Int)) : api_Method := { x with Locals := l }
theorem o_api_Method.leaf1 : Leaf o_api_Method 1 (kInt .u8) 5 (fun x => x.Locals) api_Method.set_Locals := fun a h c x ⟨v0, v1, v2, e, q⟩ => by
  subst e
  obtain ⟨h1, h2, dj, s1, s2, p, rest⟩ := Sep.take 1 _ rfl q
  exact ⟨v1, h1, h2, rfl, dj, s1, s2, p, fun a' h' l' sa dj' r => ⟨v0, v1, v2, rfl, Sep.back 1 [slO (kInt .u8) 5 v0 x.Args, slO (kInt .u8) 5 v1 x.Locals, slO k_api_Instr 45 v2 x.Code] (x := slO (kInt .u8) 5 v1 l') (Nat.le_of_ble_eq_true rfl) dj' r (Sep.mono _ sa (Sub.refl _) rest)⟩⟩
@[reducible] def api_Method.set_Code (x : api_Method) (l : (List api_Instr)) : api_Method := { x with Code := l }
theorem o_api_Method.leaf7 : Leaf o_api_Method 7 k_api_Instr 45 (fun x => x.Code) api_Method.set_Code := fun a h c x ⟨v0, v1, v2, e, q⟩ => by
  subst e
  obtain ⟨h1, h2, dj, s1, s2, p, rest⟩ := Sep.take 2 _ rfl q
  exact ⟨v2, h1, h2, rfl, dj, s1, s2, p, fun a' h' l' sa dj' r => ⟨v0, v1, v2, rfl, Sep.back 2 [slO (kInt .u8) 5 v0 x.Args, slO (kInt .u8) 5 v1 x.Locals, slO k_api_Instr 45 v2 x.Code] (x := slO k_api_Instr 45 v2 l') (Nat.le_of_ble_eq_true rfl) dj' r (Sep.mono _ sa (Sub.refl _) rest)⟩⟩
theorem k_api_Method.part_Args : Part k_api_Method 0 (kSl (kInt .u8)) (fun x => x.Args) := fun h cs x ⟨v0, v1, v2, e, p0, p1, p2⟩ => ⟨[v0], ⟨v0, rfl, p0⟩, by subst e; exact seg_get [v0, v1, .int .u8 x.Result, .bool x.Reads, .int .i64 x.Fuel, .int .i64 x.Stack, .int .i64 x.Heap, v2] 0 1⟩
theorem k_api_Method.part_Locals : Part k_api_Method 1 (kSl (kInt .u8)) (fun x => x.Locals) := fun h cs x ⟨v0, v1, v2, e, p0, p1, p2⟩ => ⟨[v1], ⟨v1, rfl, p1⟩, by subst e; exact seg_get [v0, v1, .int .u8 x.Result, .bool x.Reads, .int .i64 x.Fuel, .int .i64 x.Stack, .int .i64 x.Heap, v2] 1 1⟩
theorem k_api_Method.part_Result : Part k_api_Method 2 (kInt .u8) (fun x => x.Result) := fun h cs x ⟨v0, v1, v2, e, p0, p1, p2⟩ => ⟨[.int .u8 x.Result], rfl, by subst e; exact seg_get [v0, v1, .int .u8 x.Result, .bool x.Reads, .int .i64 x.Fuel, .int .i64 x.Stack, .int .i64 x.Heap, v2] 2 1⟩
theorem k_api_Method.part_Reads : Part k_api_Method 3 kBool (fun x => x.Reads) := fun h cs x ⟨v0, v1, v2, e, p0, p1, p2⟩ => ⟨[.bool x.Reads], rfl, by subst e; exact seg_get [v0, v1, .int .u8 x.Result, .bool x.Reads, .int .i64 x.Fuel, .int .i64 x.Stack, .int .i64 x.Heap, v2] 3 1⟩
theorem k_api_Method.part_Fuel : Part k_api_Method 4 (kInt .i64) (fun x => x.Fuel) := fun h cs x ⟨v0, v1, v2, e, p0, p1, p2⟩ => ⟨[.int .i64 x.Fuel], rfl, by subst e; exact seg_get [v0, v1, .int .u8 x.Result, .bool x.Reads, .int .i64 x.Fuel, .int .i64 x.Stack, .int .i64 x.Heap, v2] 4 1⟩
theorem k_api_Method.part_Stack : Part k_api_Method 5 (kInt .i64) (fun x => x.Stack) := fun h cs x ⟨v0, v1, v2, e, p0, p1, p2⟩ => ⟨[.int .i64 x.Stack], rfl, by subst e; exact seg_get [v0, v1, .int .u8 x.Result, .bool x.Reads, .int .i64 x.Fuel, .int .i64 x.Stack, .int .i64 x.Heap, v2] 5 1⟩
theorem k_api_Method.part_Heap : Part k_api_Method 6 (kInt .i64) (fun x => x.Heap) := fun h cs x ⟨v0, v1, v2, e, p0, p1, p2⟩ => ⟨[.int .i64 x.Heap], rfl, by subst e; exact seg_get [v0, v1, .int .u8 x.Result, .bool x.Reads, .int .i64 x.Fuel, .int .i64 x.Stack, .int .i64 x.Heap, v2] 6 1⟩
theorem k_api_Method.part_Code : Part k_api_Method 7 (kSl k_api_Instr) (fun x => x.Code) := fun h cs x ⟨v0, v1, v2, e, p0, p1, p2⟩ => ⟨[v2], ⟨v2, rfl, p2⟩, by subst e; exact seg_get [v0, v1, .int .u8 x.Result, .bool x.Reads, .int .i64 x.Fuel, .int .i64 x.Stack, .int .i64 x.Heap, v2] 7 1⟩
theorem k_api_Method.load {P : Program} {n : Fr} {ρ : Option Nat} {σ : List (Nat × Value)} {w0 : World} {hA hV : Hp} {ps : List HP} {os : List HO} {L l : List Oper} {Q : Cont} {d : Nat} {t tr : TypeId} {x : Operand} {pos : String} {af : Array Edge} {g : Option (Nat × Bool)} {v : Value} (see : Sees w0 hA hV) (i : Nat) {x0 : api_Method} (hi : ps[i]? = some (elP k_api_Method v x0)) {dsc : TypeDesc} (hu : P.underlying t = some dsc) (hd : (match dsc with | .struct _ | .array _ _ => true | _ => false) = true) (hs : (P.info? t).map (·.size) = some 8) (hg : gd L σ g = some true) (hn : Nat.blt d n.n = true) (hx : ev σ x = some v)
    (h : ∀ v0 v1 v2, SP P n ρ ((d, .agg [v0, v1, .int .u8 x0.Result, .bool x0.Reads, .int .i64 x0.Fuel, .int .i64 x0.Stack, .int .i64 x0.Heap, v2].toArray) :: σ) (St w0 hA hV (slP (kInt .u8) v0 x0.Args :: slP (kInt .u8) v1 x0.Locals :: slP k_api_Instr v2 x0.Code :: ps) os) L l Q) : SP P n ρ σ (St w0 hA hV ps os) L (⟨some d, .load t x, tr, pos, af, g⟩ :: l) Q :=
  SP.loadP see i hi hu hd hs hg hn hx fun cs a w ha hw => by
    obtain ⟨m, fr, hN, hO, n1, n2, dj, s1, s2, ap, s⟩ := hw
    obtain ⟨v0, v1, v2, e, p0, p1, p2⟩ := ap.get 0 rfl
    subst e
    exact h v0 v1 v2 a w ha ⟨m, fr, hN, hO, n1, n2, dj, s1, s2, All.cons p0 (All.cons p1 (All.cons p2 ((fun y hy => ap y (List.mem_cons_of_mem _ hy))))), s⟩
structure api_Module where
  Globals : (List api_Value)
  Pool : (List api_Value)
  Methods : (List api_Method)
  Migrate : Int
def api_Module.zero : api_Module := ⟨[], [], [], 0⟩
def k_api_Module : Kd api_Module := ⟨4, fun h cs x => ∃ v0 v1 v2 : Value, cs = [v0, v1, v2, .int .i64 x.Migrate] ∧ slR k_api_Value h v0 x.Globals ∧ slR k_api_Value h v1 x.Pool ∧ slR k_api_Method h v2 x.Methods,
  fun _ _ _ _ s ⟨v0, v1, v2, e, p0, p1, p2⟩ => ⟨v0, v1, v2, e, slR.mono s p0, slR.mono s p1, slR.mono s p2⟩, fun _ _ _ ⟨v0, v1, v2, e, p0, p1, p2⟩ => by simp [e],
  fun _ _ _ ⟨v0, v1, v2, e, p0, p1, p2⟩ => by subst e; obtain ⟨_, _, rfl, -⟩ := p0; obtain ⟨_, _, rfl, -⟩ := p1; obtain ⟨_, _, rfl, -⟩ := p2; rfl⟩
def o_api_Module : Ko api_Module := ⟨k_api_Module, fun cs x => HO.ex fun v0 : Value => HO.ex fun v1 : Value => HO.ex fun v2 : Value => HO.pand (cs = [v0, v1, v2, .int .i64 x.Migrate]) (HO.seps [slO k_api_Value 52 v0 x.Globals, slO k_api_Value 52 v1 x.Pool, slO k_api_Method 36 v2 x.Methods]), fun ⟨v0, v1, v2, e, q⟩ sa sh => ⟨v0, v1, v2, e, slO.read (Sep.get 0 rfl q) sa sh, slO.read (Sep.get 1 rfl q) sa sh, slO.read (Sep.get 2 rfl q) sa sh⟩⟩
@[reducible] def api_Module.set_Globals (x : api_Module) (l : (List api_Value)) : api_Module := { x with Globals := l }
theorem o_api_Module.leaf0 : Leaf o_api_Module 0 k_api_Value 52 (fun x => x.Globals) api_Module.set_Globals := fun a h c x ⟨v0, v1, v2, e, q⟩ => by
  subst e
  obtain ⟨h1, h2, dj, s1, s2, p, rest⟩ := Sep.take 0 _ rfl q
  exact ⟨v0, h1, h2, rfl, dj, s1, s2, p, fun a' h' l' sa dj' r => ⟨v0, v1, v2, rfl, Sep.back 0 [slO k_api_Value 52 v0 x.Globals, slO k_api_Value 52 v1 x.Pool, slO k_api_Method 36 v2 x.Methods] (x := slO k_api_Value 52 v0 l') (Nat.le_of_ble_eq_true rfl) dj' r (Sep.mono _ sa (Sub.refl _) rest)⟩⟩
@[reducible] def api_Module.set_Pool (x : api_Module) (l : (List api_Value)) : api_Module := { x with Pool := l }
theorem o_api_Module.leaf1 : Leaf o_api_Module 1 k_api_Value 52 (fun x => x.Pool) api_Module.set_Pool := fun a h c x ⟨v0, v1, v2, e, q⟩ => by
  subst e
  obtain ⟨h1, h2, dj, s1, s2, p, rest⟩ := Sep.take 1 _ rfl q
  exact ⟨v1, h1, h2, rfl, dj, s1, s2, p, fun a' h' l' sa dj' r => ⟨v0, v1, v2, rfl, Sep.back 1 [slO k_api_Value 52 v0 x.Globals, slO k_api_Value 52 v1 x.Pool, slO k_api_Method 36 v2 x.Methods] (x := slO k_api_Value 52 v1 l') (Nat.le_of_ble_eq_true rfl) dj' r (Sep.mono _ sa (Sub.refl _) rest)⟩⟩
@[reducible] def api_Module.set_Methods (x : api_Module) (l : (List api_Method)) : api_Module := { x with Methods := l }
theorem o_api_Module.leaf2 : Leaf o_api_Module 2 k_api_Method 36 (fun x => x.Methods) api_Module.set_Methods := fun a h c x ⟨v0, v1, v2, e, q⟩ => by
  subst e
  obtain ⟨h1, h2, dj, s1, s2, p, rest⟩ := Sep.take 2 _ rfl q
  exact ⟨v2, h1, h2, rfl, dj, s1, s2, p, fun a' h' l' sa dj' r => ⟨v0, v1, v2, rfl, Sep.back 2 [slO k_api_Value 52 v0 x.Globals, slO k_api_Value 52 v1 x.Pool, slO k_api_Method 36 v2 x.Methods] (x := slO k_api_Method 36 v2 l') (Nat.le_of_ble_eq_true rfl) dj' r (Sep.mono _ sa (Sub.refl _) rest)⟩⟩
theorem k_api_Module.part_Globals : Part k_api_Module 0 (kSl k_api_Value) (fun x => x.Globals) := fun h cs x ⟨v0, v1, v2, e, p0, p1, p2⟩ => ⟨[v0], ⟨v0, rfl, p0⟩, by subst e; exact seg_get [v0, v1, v2, .int .i64 x.Migrate] 0 1⟩
theorem k_api_Module.part_Pool : Part k_api_Module 1 (kSl k_api_Value) (fun x => x.Pool) := fun h cs x ⟨v0, v1, v2, e, p0, p1, p2⟩ => ⟨[v1], ⟨v1, rfl, p1⟩, by subst e; exact seg_get [v0, v1, v2, .int .i64 x.Migrate] 1 1⟩
theorem k_api_Module.part_Methods : Part k_api_Module 2 (kSl k_api_Method) (fun x => x.Methods) := fun h cs x ⟨v0, v1, v2, e, p0, p1, p2⟩ => ⟨[v2], ⟨v2, rfl, p2⟩, by subst e; exact seg_get [v0, v1, v2, .int .i64 x.Migrate] 2 1⟩
theorem k_api_Module.part_Migrate : Part k_api_Module 3 (kInt .i64) (fun x => x.Migrate) := fun h cs x ⟨v0, v1, v2, e, p0, p1, p2⟩ => ⟨[.int .i64 x.Migrate], rfl, by subst e; exact seg_get [v0, v1, v2, .int .i64 x.Migrate] 3 1⟩
theorem k_api_Module.load {P : Program} {n : Fr} {ρ : Option Nat} {σ : List (Nat × Value)} {w0 : World} {hA hV : Hp} {ps : List HP} {os : List HO} {L l : List Oper} {Q : Cont} {d : Nat} {t tr : TypeId} {x : Operand} {pos : String} {af : Array Edge} {g : Option (Nat × Bool)} {v : Value} (see : Sees w0 hA hV) (i : Nat) {x0 : api_Module} (hi : ps[i]? = some (elP k_api_Module v x0)) {dsc : TypeDesc} (hu : P.underlying t = some dsc) (hd : (match dsc with | .struct _ | .array _ _ => true | _ => false) = true) (hs : (P.info? t).map (·.size) = some 4) (hg : gd L σ g = some true) (hn : Nat.blt d n.n = true) (hx : ev σ x = some v)
    (h : ∀ v0 v1 v2, SP P n ρ ((d, .agg [v0, v1, v2, .int .i64 x0.Migrate].toArray) :: σ) (St w0 hA hV (slP k_api_Value v0 x0.Globals :: slP k_api_Value v1 x0.Pool :: slP k_api_Method v2 x0.Methods :: ps) os) L l Q) : SP P n ρ σ (St w0 hA hV ps os) L (⟨some d, .load t x, tr, pos, af, g⟩ :: l) Q :=
  SP.loadP see i hi hu hd hs hg hn hx fun cs a w ha hw => by
    obtain ⟨m, fr, hN, hO, n1, n2, dj, s1, s2, ap, s⟩ := hw
    obtain ⟨v0, v1, v2, e, p0, p1, p2⟩ := ap.get 0 rfl
    subst e
    exact h v0 v1 v2 a w ha ⟨m, fr, hN, hO, n1, n2, dj, s1, s2, All.cons p0 (All.cons p1 (All.cons p2 ((fun y hy => ap y (List.mem_cons_of_mem _ hy))))), s⟩
structure types_Row where
  Reached : Bool
  Kinds : (List Int)
def types_Row.zero : types_Row := ⟨false, []⟩
def k_types_Row : Kd types_Row := ⟨2, fun h cs x => ∃ v0 : Value, cs = [.bool x.Reached, v0] ∧ slR (kInt .u8) h v0 x.Kinds,
  fun _ _ _ _ s ⟨v0, e, p0⟩ => ⟨v0, e, slR.mono s p0⟩, fun _ _ _ ⟨v0, e, p0⟩ => by simp [e],
  fun _ _ _ ⟨v0, e, p0⟩ => by subst e; obtain ⟨_, _, rfl, -⟩ := p0; rfl⟩
def o_types_Row : Ko types_Row := ⟨k_types_Row, fun cs x => HO.ex fun v0 : Value => HO.pand (cs = [.bool x.Reached, v0]) (HO.seps [slO (kInt .u8) 5 v0 x.Kinds]), fun ⟨v0, e, q⟩ sa sh => ⟨v0, e, slO.read (Sep.get 0 rfl q) sa sh⟩⟩
@[reducible] def types_Row.set_Kinds (x : types_Row) (l : (List Int)) : types_Row := { x with Kinds := l }
theorem o_types_Row.leaf1 : Leaf o_types_Row 1 (kInt .u8) 5 (fun x => x.Kinds) types_Row.set_Kinds := fun a h c x ⟨v0, e, q⟩ => by
  subst e
  obtain ⟨h1, h2, dj, s1, s2, p, rest⟩ := Sep.take 0 _ rfl q
  exact ⟨v0, h1, h2, rfl, dj, s1, s2, p, fun a' h' l' sa dj' r => ⟨v0, rfl, Sep.back 0 [slO (kInt .u8) 5 v0 x.Kinds] (x := slO (kInt .u8) 5 v0 l') (Nat.le_of_ble_eq_true rfl) dj' r (Sep.mono _ sa (Sub.refl _) rest)⟩⟩
theorem k_types_Row.part_Reached : Part k_types_Row 0 kBool (fun x => x.Reached) := fun h cs x ⟨v0, e, p0⟩ => ⟨[.bool x.Reached], rfl, by subst e; exact seg_get [.bool x.Reached, v0] 0 1⟩
theorem k_types_Row.part_Kinds : Part k_types_Row 1 (kSl (kInt .u8)) (fun x => x.Kinds) := fun h cs x ⟨v0, e, p0⟩ => ⟨[v0], ⟨v0, rfl, p0⟩, by subst e; exact seg_get [.bool x.Reached, v0] 1 1⟩
theorem k_types_Row.load {P : Program} {n : Fr} {ρ : Option Nat} {σ : List (Nat × Value)} {w0 : World} {hA hV : Hp} {ps : List HP} {os : List HO} {L l : List Oper} {Q : Cont} {d : Nat} {t tr : TypeId} {x : Operand} {pos : String} {af : Array Edge} {g : Option (Nat × Bool)} {v : Value} (see : Sees w0 hA hV) (i : Nat) {x0 : types_Row} (hi : ps[i]? = some (elP k_types_Row v x0)) {dsc : TypeDesc} (hu : P.underlying t = some dsc) (hd : (match dsc with | .struct _ | .array _ _ => true | _ => false) = true) (hs : (P.info? t).map (·.size) = some 2) (hg : gd L σ g = some true) (hn : Nat.blt d n.n = true) (hx : ev σ x = some v)
    (h : ∀ v0, SP P n ρ ((d, .agg [.bool x0.Reached, v0].toArray) :: σ) (St w0 hA hV (slP (kInt .u8) v0 x0.Kinds :: ps) os) L l Q) : SP P n ρ σ (St w0 hA hV ps os) L (⟨some d, .load t x, tr, pos, af, g⟩ :: l) Q :=
  SP.loadP see i hi hu hd hs hg hn hx fun cs a w ha hw => by
    obtain ⟨m, fr, hN, hO, n1, n2, dj, s1, s2, ap, s⟩ := hw
    obtain ⟨v0, e, p0⟩ := ap.get 0 rfl
    subst e
    exact h v0 a w ha ⟨m, fr, hN, hO, n1, n2, dj, s1, s2, All.cons p0 ((fun y hy => ap y (List.mem_cons_of_mem _ hy))), s⟩
structure flow_Loop where
  From : Int
  To : Int
  Turns : Int
def flow_Loop.zero : flow_Loop := ⟨0, 0, 0⟩
def k_flow_Loop : Kd flow_Loop := ⟨3, fun h cs x => cs = [.int .i64 x.From, .int .i64 x.To, .int .i64 x.Turns], fun _ _ _ _ _ h => h, fun _ _ _ h => by simp [h], fun _ _ _ h => by subst h; rfl⟩
theorem k_flow_Loop.part_From : Part k_flow_Loop 0 (kInt .i64) (fun x => x.From) := fun h cs x e => ⟨[.int .i64 x.From], rfl, by subst e; exact seg_get [.int .i64 x.From, .int .i64 x.To, .int .i64 x.Turns] 0 1⟩
theorem k_flow_Loop.part_To : Part k_flow_Loop 1 (kInt .i64) (fun x => x.To) := fun h cs x e => ⟨[.int .i64 x.To], rfl, by subst e; exact seg_get [.int .i64 x.From, .int .i64 x.To, .int .i64 x.Turns] 1 1⟩
theorem k_flow_Loop.part_Turns : Part k_flow_Loop 2 (kInt .i64) (fun x => x.Turns) := fun h cs x e => ⟨[.int .i64 x.Turns], rfl, by subst e; exact seg_get [.int .i64 x.From, .int .i64 x.To, .int .i64 x.Turns] 2 1⟩
theorem k_flow_Loop.load {P : Program} {n : Fr} {ρ : Option Nat} {σ : List (Nat × Value)} {w0 : World} {hA hV : Hp} {ps : List HP} {os : List HO} {L l : List Oper} {Q : Cont} {d : Nat} {t tr : TypeId} {x : Operand} {pos : String} {af : Array Edge} {g : Option (Nat × Bool)} {v : Value} (see : Sees w0 hA hV) (i : Nat) {x0 : flow_Loop} (hi : ps[i]? = some (elP k_flow_Loop v x0)) {dsc : TypeDesc} (hu : P.underlying t = some dsc) (hd : (match dsc with | .struct _ | .array _ _ => true | _ => false) = true) (hs : (P.info? t).map (·.size) = some 3) (hg : gd L σ g = some true) (hn : Nat.blt d n.n = true) (hx : ev σ x = some v)
    (h : SP P n ρ ((d, .agg [.int .i64 x0.From, .int .i64 x0.To, .int .i64 x0.Turns].toArray) :: σ) (St w0 hA hV (ps) os) L l Q) : SP P n ρ σ (St w0 hA hV ps os) L (⟨some d, .load t x, tr, pos, af, g⟩ :: l) Q :=
  SP.loadP see i hi hu hd hs hg hn hx fun cs a w ha hw => by
    obtain ⟨m, fr, hN, hO, n1, n2, dj, s1, s2, ap, s⟩ := hw
    obtain rfl := ap.get 0 rfl
    exact h a w ha ⟨m, fr, hN, hO, n1, n2, dj, s1, s2, (fun y hy => ap y (List.mem_cons_of_mem _ hy)), s⟩
structure arr136 where
  e0 : Int
  e1 : Int
def arr136.zero : arr136 := ⟨0, 0⟩
def k_arr136 : Kd arr136 := ⟨2, fun h cs x => cs = [.int .i64 x.e0, .int .i64 x.e1], fun _ _ _ _ _ h => h, fun _ _ _ h => by simp [h], fun _ _ _ h => by subst h; rfl⟩
theorem k_arr136.part_e0 : Part k_arr136 0 (kInt .i64) (fun x => x.e0) := fun h cs x e => ⟨[.int .i64 x.e0], rfl, by subst e; exact seg_get [.int .i64 x.e0, .int .i64 x.e1] 0 1⟩
theorem k_arr136.part_e1 : Part k_arr136 1 (kInt .i64) (fun x => x.e1) := fun h cs x e => ⟨[.int .i64 x.e1], rfl, by subst e; exact seg_get [.int .i64 x.e0, .int .i64 x.e1] 1 1⟩
theorem k_arr136.load {P : Program} {n : Fr} {ρ : Option Nat} {σ : List (Nat × Value)} {w0 : World} {hA hV : Hp} {ps : List HP} {os : List HO} {L l : List Oper} {Q : Cont} {d : Nat} {t tr : TypeId} {x : Operand} {pos : String} {af : Array Edge} {g : Option (Nat × Bool)} {v : Value} (see : Sees w0 hA hV) (i : Nat) {x0 : arr136} (hi : ps[i]? = some (elP k_arr136 v x0)) {dsc : TypeDesc} (hu : P.underlying t = some dsc) (hd : (match dsc with | .struct _ | .array _ _ => true | _ => false) = true) (hs : (P.info? t).map (·.size) = some 2) (hg : gd L σ g = some true) (hn : Nat.blt d n.n = true) (hx : ev σ x = some v)
    (h : SP P n ρ ((d, .agg [.int .i64 x0.e0, .int .i64 x0.e1].toArray) :: σ) (St w0 hA hV (ps) os) L l Q) : SP P n ρ σ (St w0 hA hV ps os) L (⟨some d, .load t x, tr, pos, af, g⟩ :: l) Q :=
  SP.loadP see i hi hu hd hs hg hn hx fun cs a w ha hw => by
    obtain ⟨m, fr, hN, hO, n1, n2, dj, s1, s2, ap, s⟩ := hw
    obtain rfl := ap.get 0 rfl
    exact h a w ha ⟨m, fr, hN, hO, n1, n2, dj, s1, s2, (fun y hy => ap y (List.mem_cons_of_mem _ hy)), s⟩
structure op_Shape where
  Takes : (List Int)
  Gives : (List Int)
def op_Shape.zero : op_Shape := ⟨[], []⟩
def k_op_Shape : Kd op_Shape := ⟨2, fun h cs x => ∃ v0 v1 : Value, cs = [v0, v1] ∧ slR (kInt .u8) h v0 x.Takes ∧ slR (kInt .u8) h v1 x.Gives,
  fun _ _ _ _ s ⟨v0, v1, e, p0, p1⟩ => ⟨v0, v1, e, slR.mono s p0, slR.mono s p1⟩, fun _ _ _ ⟨v0, v1, e, p0, p1⟩ => by simp [e],
  fun _ _ _ ⟨v0, v1, e, p0, p1⟩ => by subst e; obtain ⟨_, _, rfl, -⟩ := p0; obtain ⟨_, _, rfl, -⟩ := p1; rfl⟩
def o_op_Shape : Ko op_Shape := ⟨k_op_Shape, fun cs x => HO.ex fun v0 : Value => HO.ex fun v1 : Value => HO.pand (cs = [v0, v1]) (HO.seps [slO (kInt .u8) 5 v0 x.Takes, slO (kInt .u8) 5 v1 x.Gives]), fun ⟨v0, v1, e, q⟩ sa sh => ⟨v0, v1, e, slO.read (Sep.get 0 rfl q) sa sh, slO.read (Sep.get 1 rfl q) sa sh⟩⟩
@[reducible] def op_Shape.set_Takes (x : op_Shape) (l : (List Int)) : op_Shape := { x with Takes := l }
theorem o_op_Shape.leaf0 : Leaf o_op_Shape 0 (kInt .u8) 5 (fun x => x.Takes) op_Shape.set_Takes := fun a h c x ⟨v0, v1, e, q⟩ => by
  subst e
  obtain ⟨h1, h2, dj, s1, s2, p, rest⟩ := Sep.take 0 _ rfl q
  exact ⟨v0, h1, h2, rfl, dj, s1, s2, p, fun a' h' l' sa dj' r => ⟨v0, v1, rfl, Sep.back 0 [slO (kInt .u8) 5 v0 x.Takes, slO (kInt .u8) 5 v1 x.Gives] (x := slO (kInt .u8) 5 v0 l') (Nat.le_of_ble_eq_true rfl) dj' r (Sep.mono _ sa (Sub.refl _) rest)⟩⟩
@[reducible] def op_Shape.set_Gives (x : op_Shape) (l : (List Int)) : op_Shape := { x with Gives := l }
theorem o_op_Shape.leaf1 : Leaf o_op_Shape 1 (kInt .u8) 5 (fun x => x.Gives) op_Shape.set_Gives := fun a h c x ⟨v0, v1, e, q⟩ => by
  subst e
  obtain ⟨h1, h2, dj, s1, s2, p, rest⟩ := Sep.take 1 _ rfl q
  exact ⟨v1, h1, h2, rfl, dj, s1, s2, p, fun a' h' l' sa dj' r => ⟨v0, v1, rfl, Sep.back 1 [slO (kInt .u8) 5 v0 x.Takes, slO (kInt .u8) 5 v1 x.Gives] (x := slO (kInt .u8) 5 v1 l') (Nat.le_of_ble_eq_true rfl) dj' r (Sep.mono _ sa (Sub.refl _) rest)⟩⟩
theorem k_op_Shape.part_Takes : Part k_op_Shape 0 (kSl (kInt .u8)) (fun x => x.Takes) := fun h cs x ⟨v0, v1, e, p0, p1⟩ => ⟨[v0], ⟨v0, rfl, p0⟩, by subst e; exact seg_get [v0, v1] 0 1⟩
theorem k_op_Shape.part_Gives : Part k_op_Shape 1 (kSl (kInt .u8)) (fun x => x.Gives) := fun h cs x ⟨v0, v1, e, p0, p1⟩ => ⟨[v1], ⟨v1, rfl, p1⟩, by subst e; exact seg_get [v0, v1] 1 1⟩
theorem k_op_Shape.load {P : Program} {n : Fr} {ρ : Option Nat} {σ : List (Nat × Value)} {w0 : World} {hA hV : Hp} {ps : List HP} {os : List HO} {L l : List Oper} {Q : Cont} {d : Nat} {t tr : TypeId} {x : Operand} {pos : String} {af : Array Edge} {g : Option (Nat × Bool)} {v : Value} (see : Sees w0 hA hV) (i : Nat) {x0 : op_Shape} (hi : ps[i]? = some (elP k_op_Shape v x0)) {dsc : TypeDesc} (hu : P.underlying t = some dsc) (hd : (match dsc with | .struct _ | .array _ _ => true | _ => false) = true) (hs : (P.info? t).map (·.size) = some 2) (hg : gd L σ g = some true) (hn : Nat.blt d n.n = true) (hx : ev σ x = some v)
    (h : ∀ v0 v1, SP P n ρ ((d, .agg [v0, v1].toArray) :: σ) (St w0 hA hV (slP (kInt .u8) v0 x0.Takes :: slP (kInt .u8) v1 x0.Gives :: ps) os) L l Q) : SP P n ρ σ (St w0 hA hV ps os) L (⟨some d, .load t x, tr, pos, af, g⟩ :: l) Q :=
  SP.loadP see i hi hu hd hs hg hn hx fun cs a w ha hw => by
    obtain ⟨m, fr, hN, hO, n1, n2, dj, s1, s2, ap, s⟩ := hw
    obtain ⟨v0, v1, e, p0, p1⟩ := ap.get 0 rfl
    subst e
    exact h v0 v1 a w ha ⟨m, fr, hN, hO, n1, n2, dj, s1, s2, All.cons p0 (All.cons p1 ((fun y hy => ap y (List.mem_cons_of_mem _ hy)))), s⟩
theorem sz3 : (Tryd.prog.info? 3).map (·.size) = some 1 := by kernel_rfl
theorem sz4 : (Tryd.prog.info? 4).map (·.size) = some 1 := by kernel_rfl
theorem sz5 : (Tryd.prog.info? 5).map (·.size) = some 1 := by kernel_rfl
theorem sz22 : (Tryd.prog.info? 22).map (·.size) = some 1 := by kernel_rfl
theorem sz23 : (Tryd.prog.info? 23).map (·.size) = some 1 := by kernel_rfl
theorem sz25 : (Tryd.prog.info? 25).map (·.size) = some 4 := by kernel_rfl
theorem sz33 : (Tryd.prog.info? 33).map (·.size) = some 1 := by kernel_rfl
theorem sz34 : (Tryd.prog.info? 34).map (·.size) = some 1 := by kernel_rfl
theorem sz36 : (Tryd.prog.info? 36).map (·.size) = some 8 := by kernel_rfl
theorem sz39 : (Tryd.prog.info? 39).map (·.size) = some 2 := by kernel_rfl
theorem sz45 : (Tryd.prog.info? 45).map (·.size) = some 3 := by kernel_rfl
theorem sz52 : (Tryd.prog.info? 52).map (·.size) = some 3 := by kernel_rfl
theorem sz61 : (Tryd.prog.info? 61).map (·.size) = some 1 := by kernel_rfl
theorem sz63 : (Tryd.prog.info? 63).map (·.size) = some 400 := by kernel_rfl
theorem sz75 : (Tryd.prog.info? 75).map (·.size) = some 2 := by kernel_rfl
theorem sz97 : (Tryd.prog.info? 97).map (·.size) = some 4 := by kernel_rfl
theorem sz102 : (Tryd.prog.info? 102).map (·.size) = some 3 := by kernel_rfl
theorem sz136 : (Tryd.prog.info? 136).map (·.size) = some 2 := by kernel_rfl
theorem inf3 : (Tryd.prog.info? 3).map (fun i => ((i.zero.map fun z => z.cells.toList), i.size, i.bytes)) = some (some [.int .i64 0], 1, 8) := by kernel_rfl
theorem inf5 : (Tryd.prog.info? 5).map (fun i => ((i.zero.map fun z => z.cells.toList), i.size, i.bytes)) = some (some [.int .u8 0], 1, 1) := by kernel_rfl
theorem inf25 : (Tryd.prog.info? 25).map (fun i => ((i.zero.map fun z => z.cells.toList), i.size, i.bytes)) = some (some [(.slice none 0 0), (.slice none 0 0), (.slice none 0 0), .int .i64 0], 4, 80) := by kernel_rfl
theorem inf33 : (Tryd.prog.info? 33).map (fun i => ((i.zero.map fun z => z.cells.toList), i.size, i.bytes)) = some (some [(.slice none 0 0)], 1, 24) := by kernel_rfl
theorem inf36 : (Tryd.prog.info? 36).map (fun i => ((i.zero.map fun z => z.cells.toList), i.size, i.bytes)) = some (some [(.slice none 0 0), (.slice none 0 0), .int .u8 0, .bool false, .int .i64 0, .int .i64 0, .int .i64 0, (.slice none 0 0)], 8, 104) := by kernel_rfl
theorem inf39 : (Tryd.prog.info? 39).map (fun i => ((i.zero.map fun z => z.cells.toList), i.size, i.bytes)) = some (some [.bool false, (.slice none 0 0)], 2, 32) := by kernel_rfl
theorem inf45 : (Tryd.prog.info? 45).map (fun i => ((i.zero.map fun z => z.cells.toList), i.size, i.bytes)) = some (some [.int .u8 0, .int .i64 0, .int .i64 0], 3, 24) := by kernel_rfl
theorem inf52 : (Tryd.prog.info? 52).map (fun i => ((i.zero.map fun z => z.cells.toList), i.size, i.bytes)) = some (some [.int .u8 0, .int .i64 0, .int .i64 0], 3, 24) := by kernel_rfl
theorem inf61 : (Tryd.prog.info? 61).map (fun i => ((i.zero.map fun z => z.cells.toList), i.size, i.bytes)) = some (some [.pointer none], 1, 8) := by kernel_rfl
theorem inf75 : (Tryd.prog.info? 75).map (fun i => ((i.zero.map fun z => z.cells.toList), i.size, i.bytes)) = some (some [(.slice none 0 0), (.slice none 0 0)], 2, 48) := by kernel_rfl
theorem inf99 : (Tryd.prog.info? 99).map (fun i => ((i.zero.map fun z => z.cells.toList), i.size, i.bytes)) = some (some [.int .i64 0, .int .i64 0, .int .i64 0, .int .i64 0, .int .i64 0], 5, 40) := by kernel_rfl
theorem inf102 : (Tryd.prog.info? 102).map (fun i => ((i.zero.map fun z => z.cells.toList), i.size, i.bytes)) = some (some [.int .i64 0, .int .i64 0, .int .i64 0], 3, 24) := by kernel_rfl
theorem inf136 : (Tryd.prog.info? 136).map (fun i => ((i.zero.map fun z => z.cells.toList), i.size, i.bytes)) = some (some [.int .i64 0, .int .i64 0], 2, 16) := by kernel_rfl
def zz200_2384 : List Value := (List.replicate 200 [.bool false, (.slice none 0 0)]).flatten
theorem bt25 : shapeOf Tryd.prog 25 = some ([(.slice none 0 0), (.slice none 0 0), (.slice none 0 0), .int .i64 0], [(0, 1), (1, 1), (2, 1), (3, 1)]) := by kernel_rfl
theorem bt36 : shapeOf Tryd.prog 36 = some ([(.slice none 0 0), (.slice none 0 0), .int .u8 0, .bool false, .int .i64 0, .int .i64 0, .int .i64 0, (.slice none 0 0)], [(0, 1), (1, 1), (2, 1), (3, 1), (4, 1), (5, 1), (6, 1), (7, 1)]) := by kernel_rfl
theorem bt39 : shapeOf Tryd.prog 39 = some ([.bool false, (.slice none 0 0)], [(0, 1), (1, 1)]) := by kernel_rfl
theorem bt45 : shapeOf Tryd.prog 45 = some ([.int .u8 0, .int .i64 0, .int .i64 0], [(0, 1), (1, 1), (2, 1)]) := by kernel_rfl
theorem bt52 : shapeOf Tryd.prog 52 = some ([.int .u8 0, .int .i64 0, .int .i64 0], [(0, 1), (1, 1), (2, 1)]) := by kernel_rfl
theorem bt65 : shapeOf Tryd.prog 65 = some (([(.slice none 0 0), (.slice none 0 0), (.slice none 0 0), .int .i64 0, (.slice none 0 0), (.slice none 0 0), .int .u8 0, .bool false, .int .i64 0, .int .i64 0, .int .i64 0, (.slice none 0 0), (.slice none 0 0)] ++ zz200_2384), [(0, 4), (4, 8), (12, 1), (13, 400)]) := by kernel_rfl
theorem bt75 : shapeOf Tryd.prog 75 = some ([(.slice none 0 0), (.slice none 0 0)], [(0, 1), (1, 1)]) := by kernel_rfl
theorem bt102 : shapeOf Tryd.prog 102 = some ([.int .i64 0, .int .i64 0, .int .i64 0], [(0, 1), (1, 1), (2, 1)]) := by kernel_rfl
theorem fn38 : ((Tryd.prog.funcs[38]?).map fun fn => fn.body.isSome && !(fn.name == "runtime.NumGoroutine")) = some true := by rw [Tryd.func38]; rfl
theorem fn18 : ((Tryd.prog.funcs[18]?).map fun fn => fn.body.isSome && !(fn.name == "runtime.NumGoroutine")) = some true := by rw [Tryd.func18]; rfl
theorem fn46 : ((Tryd.prog.funcs[46]?).map fun fn => fn.body.isSome && !(fn.name == "runtime.NumGoroutine")) = some true := by rw [Tryd.func46]; rfl
theorem fn37 : ((Tryd.prog.funcs[37]?).map fun fn => fn.body.isSome && !(fn.name == "runtime.NumGoroutine")) = some true := by rw [Tryd.func37]; rfl
theorem fn70 : ((Tryd.prog.funcs[70]?).map fun fn => fn.body.isSome && !(fn.name == "runtime.NumGoroutine")) = some true := by rw [Tryd.func70]; rfl
theorem fn50 : ((Tryd.prog.funcs[50]?).map fun fn => fn.body.isSome && !(fn.name == "runtime.NumGoroutine")) = some true := by rw [Tryd.func50]; rfl
theorem fn49 : ((Tryd.prog.funcs[49]?).map fun fn => fn.body.isSome && !(fn.name == "runtime.NumGoroutine")) = some true := by rw [Tryd.func49]; rfl
theorem fn41 : ((Tryd.prog.funcs[41]?).map fun fn => fn.body.isSome && !(fn.name == "runtime.NumGoroutine")) = some true := by rw [Tryd.func41]; rfl
theorem fn22 : ((Tryd.prog.funcs[22]?).map fun fn => fn.body.isSome && !(fn.name == "runtime.NumGoroutine")) = some true := by rw [Tryd.func22]; rfl
theorem fn51 : ((Tryd.prog.funcs[51]?).map fun fn => fn.body.isSome && !(fn.name == "runtime.NumGoroutine")) = some true := by rw [Tryd.func51]; rfl
theorem fn52 : ((Tryd.prog.funcs[52]?).map fun fn => fn.body.isSome && !(fn.name == "runtime.NumGoroutine")) = some true := by rw [Tryd.func52]; rfl
theorem fn53 : ((Tryd.prog.funcs[53]?).map fun fn => fn.body.isSome && !(fn.name == "runtime.NumGoroutine")) = some true := by rw [Tryd.func53]; rfl
theorem fn72 : ((Tryd.prog.funcs[72]?).map fun fn => fn.body.isSome && !(fn.name == "runtime.NumGoroutine")) = some true := by rw [Tryd.func72]; rfl
theorem fn71 : ((Tryd.prog.funcs[71]?).map fun fn => fn.body.isSome && !(fn.name == "runtime.NumGoroutine")) = some true := by rw [Tryd.func71]; rfl
theorem fn84 : ((Tryd.prog.funcs[84]?).map fun fn => fn.body.isSome && !(fn.name == "runtime.NumGoroutine")) = some true := by rw [Tryd.func84]; rfl
theorem fn73 : ((Tryd.prog.funcs[73]?).map fun fn => fn.body.isSome && !(fn.name == "runtime.NumGoroutine")) = some true := by rw [Tryd.func73]; rfl
theorem fn54 : ((Tryd.prog.funcs[54]?).map fun fn => fn.body.isSome && !(fn.name == "runtime.NumGoroutine")) = some true := by rw [Tryd.func54]; rfl
theorem fn55 : ((Tryd.prog.funcs[55]?).map fun fn => fn.body.isSome && !(fn.name == "runtime.NumGoroutine")) = some true := by rw [Tryd.func55]; rfl
theorem fn39 : ((Tryd.prog.funcs[39]?).map fun fn => fn.body.isSome && !(fn.name == "runtime.NumGoroutine")) = some true := by rw [Tryd.func39]; rfl
theorem fn20 : ((Tryd.prog.funcs[20]?).map fun fn => fn.body.isSome && !(fn.name == "runtime.NumGoroutine")) = some true := by rw [Tryd.func20]; rfl
theorem fn40 : ((Tryd.prog.funcs[40]?).map fun fn => fn.body.isSome && !(fn.name == "runtime.NumGoroutine")) = some true := by rw [Tryd.func40]; rfl
theorem fn21 : ((Tryd.prog.funcs[21]?).map fun fn => fn.body.isSome && !(fn.name == "runtime.NumGoroutine")) = some true := by rw [Tryd.func21]; rfl
theorem fn24 : ((Tryd.prog.funcs[24]?).map fun fn => fn.body.isSome && !(fn.name == "runtime.NumGoroutine")) = some true := by rw [Tryd.func24]; rfl
theorem fn23 : ((Tryd.prog.funcs[23]?).map fun fn => fn.body.isSome && !(fn.name == "runtime.NumGoroutine")) = some true := by rw [Tryd.func23]; rfl
theorem fn44 : ((Tryd.prog.funcs[44]?).map fun fn => fn.body.isSome && !(fn.name == "runtime.NumGoroutine")) = some true := by rw [Tryd.func44]; rfl
theorem fn45 : ((Tryd.prog.funcs[45]?).map fun fn => fn.body.isSome && !(fn.name == "runtime.NumGoroutine")) = some true := by rw [Tryd.func45]; rfl
theorem fn31 : ((Tryd.prog.funcs[31]?).map fun fn => fn.body.isSome && !(fn.name == "runtime.NumGoroutine")) = some true := by rw [Tryd.func31]; rfl
theorem fn27 : ((Tryd.prog.funcs[27]?).map fun fn => fn.body.isSome && !(fn.name == "runtime.NumGoroutine")) = some true := by rw [Tryd.func27]; rfl
theorem fn76 : ((Tryd.prog.funcs[76]?).map fun fn => fn.body.isSome && !(fn.name == "runtime.NumGoroutine")) = some true := by rw [Tryd.func76]; rfl
theorem fn77 : ((Tryd.prog.funcs[77]?).map fun fn => fn.body.isSome && !(fn.name == "runtime.NumGoroutine")) = some true := by rw [Tryd.func77]; rfl
theorem fn93 : ((Tryd.prog.funcs[93]?).map fun fn => fn.body.isSome && !(fn.name == "runtime.NumGoroutine")) = some true := by rw [Tryd.func93]; rfl
theorem fn78 : ((Tryd.prog.funcs[78]?).map fun fn => fn.body.isSome && !(fn.name == "runtime.NumGoroutine")) = some true := by rw [Tryd.func78]; rfl
theorem fn58 : ((Tryd.prog.funcs[58]?).map fun fn => fn.body.isSome && !(fn.name == "runtime.NumGoroutine")) = some true := by rw [Tryd.func58]; rfl
theorem fn42 : ((Tryd.prog.funcs[42]?).map fun fn => fn.body.isSome && !(fn.name == "runtime.NumGoroutine")) = some true := by rw [Tryd.func42]; rfl
theorem fn32 : ((Tryd.prog.funcs[32]?).map fun fn => fn.body.isSome && !(fn.name == "runtime.NumGoroutine")) = some true := by rw [Tryd.func32]; rfl
theorem fn17 : ((Tryd.prog.funcs[17]?).map fun fn => fn.body.isSome && !(fn.name == "runtime.NumGoroutine")) = some true := by rw [Tryd.func17]; rfl
theorem fn33 : ((Tryd.prog.funcs[33]?).map fun fn => fn.body.isSome && !(fn.name == "runtime.NumGoroutine")) = some true := by rw [Tryd.func33]; rfl
theorem fn34 : ((Tryd.prog.funcs[34]?).map fun fn => fn.body.isSome && !(fn.name == "runtime.NumGoroutine")) = some true := by rw [Tryd.func34]; rfl
theorem fn14 : ((Tryd.prog.funcs[14]?).map fun fn => fn.body.isSome && !(fn.name == "runtime.NumGoroutine")) = some true := by rw [Tryd.func14]; rfl
theorem fn43 : ((Tryd.prog.funcs[43]?).map fun fn => fn.body.isSome && !(fn.name == "runtime.NumGoroutine")) = some true := by rw [Tryd.func43]; rfl
theorem fn25 : ((Tryd.prog.funcs[25]?).map fun fn => fn.body.isSome && !(fn.name == "runtime.NumGoroutine")) = some true := by rw [Tryd.func25]; rfl
theorem fn26 : ((Tryd.prog.funcs[26]?).map fun fn => fn.body.isSome && !(fn.name == "runtime.NumGoroutine")) = some true := by rw [Tryd.func26]; rfl
theorem fn9 : ((Tryd.prog.funcs[9]?).map fun fn => fn.body.isSome && !(fn.name == "runtime.NumGoroutine")) = some true := by rw [Tryd.func9]; rfl
theorem fn12 : ((Tryd.prog.funcs[12]?).map fun fn => fn.body.isSome && !(fn.name == "runtime.NumGoroutine")) = some true := by rw [Tryd.func12]; rfl
theorem fn16 : ((Tryd.prog.funcs[16]?).map fun fn => fn.body.isSome && !(fn.name == "runtime.NumGoroutine")) = some true := by rw [Tryd.func16]; rfl
theorem fn7 : ((Tryd.prog.funcs[7]?).map fun fn => fn.body.isSome && !(fn.name == "runtime.NumGoroutine")) = some true := by rw [Tryd.func7]; rfl
theorem fn19 : ((Tryd.prog.funcs[19]?).map fun fn => fn.body.isSome && !(fn.name == "runtime.NumGoroutine")) = some true := by rw [Tryd.func19]; rfl
theorem fn8 : ((Tryd.prog.funcs[8]?).map fun fn => fn.body.isSome && !(fn.name == "runtime.NumGoroutine")) = some true := by rw [Tryd.func8]; rfl
theorem fn35 : ((Tryd.prog.funcs[35]?).map fun fn => fn.body.isSome && !(fn.name == "runtime.NumGoroutine")) = some true := by rw [Tryd.func35]; rfl
theorem fn36 : ((Tryd.prog.funcs[36]?).map fun fn => fn.body.isSome && !(fn.name == "runtime.NumGoroutine")) = some true := by rw [Tryd.func36]; rfl
theorem fn15 : ((Tryd.prog.funcs[15]?).map fun fn => fn.body.isSome && !(fn.name == "runtime.NumGoroutine")) = some true := by rw [Tryd.func15]; rfl
theorem fn11 : ((Tryd.prog.funcs[11]?).map fun fn => fn.body.isSome && !(fn.name == "runtime.NumGoroutine")) = some true := by rw [Tryd.func11]; rfl
theorem fn5 : ((Tryd.prog.funcs[5]?).map fun fn => fn.body.isSome && !(fn.name == "runtime.NumGoroutine")) = some true := by rw [Tryd.func5]; rfl
def tab0 : List arr136 := [(⟨0, 0⟩ : arr136), (⟨0, 31⟩ : arr136), (⟨0, 15⟩ : arr136), (⟨0, 3⟩ : arr136), (⟨0, 1024⟩ : arr136), (⟨0, 199⟩ : arr136), (⟨0, 15⟩ : arr136), (⟨0, 255⟩ : arr136), (⟨1, 100⟩ : arr136)]
/-! ### capstan/capstanlaw10.row: function 38 -/
inductive capstanlaw10_row.S where
  | start
  | l1 (l22 : List api_Instr) (x24 : Int)

def capstanlaw10_row.F (l_0 : (List Int)) : capstanlaw10_row.S → Option (capstanlaw10_row.S ⊕ (List api_Instr))
  | .start => some (.inl (.l1 [] 0))
  | .l1 l22 x24 => if (IntKind.i64.wrap (x24 + 1)) < (l_0.length : Int) then ((elt l_0 x24).bind fun x28 => (elt l_0 (IntKind.i64.wrap (x24 + 1))).bind fun x32 => if (l22.length + [(⟨IntKind.u8.wrap x28, x32, 0⟩ : api_Instr)].length) * 24 ≤ 140737488355328 then (some (.inl (.l1 (l22 ++ [(⟨IntKind.u8.wrap x28, x32, 0⟩ : api_Instr)]) (IntKind.i64.wrap (x24 + 2))))) else none) else (some (.inr l22))

def capstanlaw10_row.f (l_0 : (List Int)) : Option (List api_Instr) := runF (capstanlaw10_row.F l_0) .start
theorem capstanlaw10_row.ok (l_0 : (List Int)) (v_l_0 : Value) (r : (List api_Instr)) (H : capstanlaw10_row.f l_0 = some r) (w : World) (hV : Hp) (sV : Sub hV (hp w)) (h0 : slR (kInt .i64) hV v_l_0 l_0) :
    Trip Tryd.prog 38 [v_l_0].toArray em hV w (fun v => HO.ex fun u0 : Value => HO.pand (v = u0) (HO.seps [slO k_api_Instr 45 u0 r])) := by
  have see : Sees w em hV := ⟨sV, Dj.em_right _⟩
  refine Trip.of (P := Tryd.prog) (n := ⟨27, []⟩) Tryd.func38 rfl ⟨rfl, rfl⟩ rfl (St.begin (All.cons (x := slP (kInt .i64) v_l_0 l_0) h0 (All.nil _))) ?_
  obtain ⟨n0, hi⟩ := runF_iff.1 H
  obtain ⟨m0, o, hm0, ho, hr⟩ := iter_some hi
  clear hi
  refine CP.seq ?_
  refine CP.region ?_
  refine SP.val (Val.assign rfl) rfl rfl rfl ?_
  refine SP.nil ?_
  refine QE.then ?_
  refine CP.seq ?_
  refine CP.region ?_
  refine SP.val (Val.assign rfl) rfl rfl rfl ?_
  refine SP.nil ?_
  refine QE.then ?_
  refine CP.seq ?_
  refine CP.seq ?_
  refine CP.region ?_
  refine SP.val (Val.assign rfl) rfl rfl rfl ?_
  refine SP.nil ?_
  refine QE.then ?_
  refine CP.block ?_
  obtain rfl := Option.some.inj ho
  refine CP.loop (fun cl1 a w2 => ∃ l22 : List api_Instr, ∃ x24 : Int, ∃ v23 : Value, cl1 ≤ m0 ∧ iter (capstanlaw10_row.F l_0) cl1 (.l1 l22 x24) = some r ∧ Env ⟨27, []⟩ [(0, v_l_0), (3, v23), (4, .int .i64 x24)] a ∧ St w em hV [slP (kInt .i64) v_l_0 l_0] [slO k_api_Instr 45 v23 l22] w2) m0 (fun a w2 ha hw => ⟨[], 0, (.slice none 0 0), Nat.le_refl _, hr, ha.sub ⟨rfl, rfl, rfl, trivial⟩, (St.addO (slO.nil k_api_Instr 45) hw)⟩) ?_
  clear hr
  rintro cl1 a w2 ⟨l22, x24, v23, hc_l1, hi, ha, hw⟩
  obtain ⟨m25, o, hm_m25, ho, hr⟩ := iter_some hi
  refine CP.app ha hw ?_
  clear ha hw a w2 hi
  refine CP.seq ?_
  refine CP.seq ?_
  refine CP.region ?_
  refine SP.val (Val.move rfl) rfl rfl rfl ?_
  refine SP.val (Val.add rfl rfl) rfl rfl rfl ?_
  refine SP.val (Val.move rfl) rfl rfl rfl ?_
  refine SP.val (Val.lenP see 0 rfl Tryd.underlying46 rfl) rfl rfl rfl ?_
  refine SP.val (Val.lss rfl rfl) rfl rfl rfl ?_
  refine SP.nil ?_
  refine QE.then ?_
  rcases if_some ho with ⟨hc, ho⟩ | ⟨hc, ho⟩
  · refine CP.condT rfl (decide_eq_true hc) ?_
    refine CP.skip ?_
    refine QE.then ?_
    refine CP.seq ?_
    refine CP.block ?_
    refine CP.drawA (by kernel_rfl) (fun w2 k h => h.drawn k) ?_
    obtain ⟨x28, hx, ho⟩ := bind_some ho
    have hx := elt_some hx
    refine DA.ghost (fun w2 h => h.elem see 0 rfl hx.1 hx.2) (fun p26 h_p26 => ?_)
    clear hx
    refine DA.ghost (fun w2 h => h.openE see 0 rfl (fun _ : Unit => [.int .i64 x28]) (fun _ => []) (fun h cs e => ⟨(), e, All.nil _⟩)) (fun _ _ => ?_)
    obtain ⟨x32, hx, ho⟩ := bind_some ho
    have hx := elt_some hx
    refine DA.ghost (fun w2 h => h.elem see 2 rfl hx.1 hx.2) (fun p30 h_p30 => ?_)
    clear hx
    refine DA.ghost (fun w2 h => h.openE see 0 rfl (fun _ : Unit => [.int .i64 x32]) (fun _ => []) (fun h cs e => ⟨(), e, All.nil _⟩)) (fun _ _ => ?_)
    refine DA.phase (fun i => Nat.ble 0 i && Nat.blt i 13) (fun w2 => St w em hV [atP p30 [.int .i64 x32], elP (kInt .i64) p30 x32, atP p26 [.int .i64 x28], elP (kInt .i64) p26 x28, slP (kInt .i64) v_l_0 l_0] [slO k_api_Instr 45 v23 l22] w2) ?_
    refine DT.take 0 rfl rfl rfl rfl (by kernel_rfl) (fun _ _ _ h => h) (Val.move rfl) (fun w2 hw => hw) ?_
    refine DT.take 1 rfl rfl rfl rfl (by kernel_rfl) (fun _ _ _ h => h) (Val.move rfl) (fun w2 hw => hw) ?_
    refine DT.take 2 rfl rfl rfl rfl (by kernel_rfl) (fun _ _ _ h => h) (Val.move rfl) (fun w2 hw => hw) ?_
    refine DT.take 3 rfl rfl rfl rfl (by kernel_rfl) (fun _ _ _ h => h) (Val.indexE h_p26 Tryd.underlying46 sz3 rfl rfl) (fun w2 hw => hw) ?_
    refine DT.take 4 rfl rfl rfl rfl (by kernel_rfl) (fun _ _ _ h => h) (Val.loadAt1 see 2 rfl Tryd.underlying3 rfl rfl) (fun w2 hw => hw) ?_
    refine DT.take 5 rfl rfl rfl rfl (by kernel_rfl) (fun _ _ _ h => h) (Val.conv (by rw [Tryd.underlying3]; rfl) Tryd.underlying5 rfl) (fun w2 hw => hw) ?_
    refine DT.take 6 rfl rfl rfl rfl (by kernel_rfl) (fun _ _ _ h => h) (Val.move rfl) (fun w2 hw => hw) ?_
    refine DT.take 7 rfl rfl rfl rfl (by kernel_rfl) (fun _ _ _ h => h) (Val.move rfl) (fun w2 hw => hw) ?_
    refine DT.take 8 rfl rfl rfl rfl (by kernel_rfl) (fun _ _ _ h => h) (Val.add rfl rfl) (fun w2 hw => hw) ?_
    refine DT.take 9 rfl rfl rfl rfl (by kernel_rfl) (fun _ _ _ h => h) (Val.indexE h_p30 Tryd.underlying46 sz3 rfl rfl) (fun w2 hw => hw) ?_
    refine DT.take 10 rfl rfl rfl rfl (by kernel_rfl) (fun _ _ _ h => h) (Val.loadAt1 see 0 rfl Tryd.underlying3 rfl rfl) (fun w2 hw => hw) ?_
    refine DT.take 11 rfl rfl rfl rfl (by kernel_rfl) (fun _ _ _ h => h) (Val.buildC (us := [(0, .int .u8 (IntKind.u8.wrap x28)), (1, .int .i64 x32)]) (ucs := [(0, [.int .u8 (IntKind.u8.wrap x28)]), (1, [.int .i64 x32])]) (cs := [.int .u8 (IntKind.u8.wrap x28), .int .i64 x32, .int .i64 0]) bt45 rfl rfl ⟨rfl, rfl, ⟨rfl, rfl, trivial⟩⟩ (by rfl)) (fun w2 hw => hw) ?_
    refine DT.one 12 rfl (by kernel_rfl) rfl ?_
    refine SP.lit (k := k_api_Instr) (xs := [(⟨IntKind.u8.wrap x28, x32, 0⟩ : api_Instr)]) (vs := [.agg #[.int .u8 (IntKind.u8.wrap x28), .int .i64 x32, .int .i64 0]]) (cells := [.int .u8 (IntKind.u8.wrap x28), .int .i64 x32, .int .i64 0]) Tryd.underlying34 inf45 rfl rfl rfl rfl rfl rfl rfl rfl (fun _ ap => ⟨[.int .u8 (IntKind.u8.wrap x28), .int .i64 x32, .int .i64 0], _, rfl, rfl, rfl⟩) rfl rfl rfl (fun v38 => ?_)
    refine SP.nil ?_
    refine QE.atT (fun w2 hw => (St.selO [1] rfl rfl hw)) ?_
    refine DT.next (by kernel_rfl) ?_
    refine DA.one 13 rfl (by kernel_rfl) ?_
    refine SP.freezeS see 0 rfl ?_
    obtain ⟨hb, ho⟩ := must_some ho
    refine SP.append see 0 rfl 0 rfl Tryd.underlying34 inf45 rfl rfl hb rfl rfl rfl rfl rfl (fun v40 => ?_)
    clear hb
    refine SP.nil ?_
    refine QE.atA ?_
    refine DA.one 14 rfl (by kernel_rfl) ?_
    refine SP.val (Val.assign rfl) rfl rfl rfl ?_
    refine SP.nil ?_
    refine QE.atA ?_
    refine DA.done (by kernel_rfl) ?_
    refine QE.blockN ?_
    refine QE.then ?_
    refine CP.region ?_
    refine SP.val (Val.move rfl) rfl rfl rfl ?_
    refine SP.val (Val.add rfl rfl) rfl rfl rfl ?_
    refine SP.val (Val.assign rfl) rfl rfl rfl ?_
    refine SP.nil ?_
    obtain rfl := Option.some.inj ho
    exact QE.lower m25 (by omega) fun a w2 ha hw => ⟨(l22 ++ [(⟨IntKind.u8.wrap x28, x32, 0⟩ : api_Instr)]), (IntKind.i64.wrap (x24 + 2)), v40, (by omega), hr, ha.sub ⟨rfl, rfl, rfl, trivial⟩, (St.selP [5] rfl hw)⟩
  · refine CP.condF rfl (decide_eq_false hc) ?_
    refine CP.exit ?_
    refine QE.thru (by intro e; cases e) ?_
    refine QE.thru (by intro e; cases e) ?_
    refine QE.blockE ?_
    refine QE.then ?_
    refine CP.seq ?_
    refine CP.region ?_
    refine SP.val (Val.move rfl) rfl rfl rfl ?_
    refine SP.val (Val.assign rfl) rfl rfl rfl ?_
    refine SP.nil ?_
    refine QE.then ?_
    refine CP.ret ?_
    obtain rfl := Option.some.inj ho
    obtain rfl := Option.some.inj hr
    exact QE.rets (rs := [.tmp 2]) (vs := [v23]) Tryd.results38 rfl ⟨RVs.tmp rfl, trivial⟩ (fun w2 h => St.done (fun a b p s => ⟨_, rfl, s⟩) (St.selO [0] rfl rfl h))
/-! ### capstan/capstanlaw10.one: function 18 -/
def capstanlaw10_one.f (l_0 : (List Int)) : Option api_Module :=
  (capstanlaw10_row.f l_0).bind fun t8 => some (⟨[], [(⟨1, 5, 0⟩ : api_Value)], [(⟨[1], [], 1, false, 0, 0, 0, t8⟩ : api_Method)], (-1)⟩ : api_Module)
theorem capstanlaw10_one.ok (l_0 : (List Int)) (v_l_0 : Value) (r : api_Module) (H : capstanlaw10_one.f l_0 = some r) (w : World) (hV : Hp) (sV : Sub hV (hp w)) (h0 : slR (kInt .i64) hV v_l_0 l_0) :
    Trip Tryd.prog 18 [v_l_0].toArray em hV w (fun v => HO.ex fun u0 : Value => HO.ex fun u1 : Value => HO.ex fun u2 : Value => HO.pand (v = .agg #[u0, u1, u2, .int .i64 r.Migrate]) (HO.seps [slO k_api_Value 52 u0 r.Globals, slO k_api_Value 52 u1 r.Pool, slD o_api_Method 36 u2 r.Methods])) := by
  have see : Sees w em hV := ⟨sV, Dj.em_right _⟩
  refine Trip.of (P := Tryd.prog) (n := ⟨11, []⟩) Tryd.func18 rfl ⟨rfl, rfl⟩ rfl (St.begin (All.cons (x := slP (kInt .i64) v_l_0 l_0) h0 (All.nil _))) ?_
  have ho := H
  refine CP.seq ?_
  refine CP.region ?_
  refine SP.alloc (cs := [(.slice none 0 0), (.slice none 0 0), (.slice none 0 0), .int .i64 0]) inf25 rfl rfl (fun b2 => ?_)
  refine SP.nil ?_
  refine QE.then ?_
  refine CP.seq ?_
  refine CP.region ?_
  refine SP.val (Val.buildC (us := [(0, .int .u8 1), (1, .int .i64 5)]) (ucs := [(0, [.int .u8 1]), (1, [.int .i64 5])]) (cs := [.int .u8 1, .int .i64 5, .int .i64 0]) bt52 rfl rfl ⟨rfl, rfl, ⟨rfl, rfl, trivial⟩⟩ (by rfl)) rfl rfl rfl ?_
  refine SP.lit (k := k_api_Value) (xs := [(⟨1, 5, 0⟩ : api_Value)]) (vs := [.agg #[.int .u8 1, .int .i64 5, .int .i64 0]]) (cells := [.int .u8 1, .int .i64 5, .int .i64 0]) Tryd.underlying22 inf52 rfl rfl rfl rfl rfl rfl rfl rfl (fun _ ap => ⟨[.int .u8 1, .int .i64 5, .int .i64 0], _, rfl, rfl, rfl⟩) rfl rfl rfl (fun v4 => ?_)
  refine SP.lit (k := (kInt .u8)) (xs := [1]) (vs := [.int .u8 1]) (cells := [.int .u8 1]) Tryd.underlying33 inf5 rfl rfl rfl rfl rfl rfl rfl rfl (fun _ ap => ⟨[.int .u8 1], _, rfl, rfl, rfl⟩) rfl rfl rfl (fun v6 => ?_)
  refine SP.val (Val.move rfl) rfl rfl rfl ?_
  obtain ⟨t8, hc, ho⟩ := bind_some (x := capstanlaw10_row.f l_0) ho
  refine SP.callK see (caps := []) _ fn38 rfl rfl rfl rfl (fun w2 hP hs sub ap => capstanlaw10_row.ok l_0 _ _ hc w2 hP sub (ap.get 0 rfl)) (fun vr => ?_)
  refine SP.ex (fun w2 h => St.open h) (fun v9 => ?_)
  refine SP.have (fun w2 h => (St.pand h).1.symm) (fun er => ?_)
  subst er
  refine SP.imp (fun w2 h => St.seps (St.pand h).2) ?_
  clear hc
  refine SP.have (fun w2 hw => slO.shape (St.own 1 rfl see.sub see.dj hw)) (fun hs_v6 => ?_)
  refine SP.have (fun w2 hw => slO.shape (St.own 0 rfl see.sub see.dj hw)) (fun hs_v9 => ?_)
  refine SP.val (Val.buildC (us := [(0, v6), (2, .int .u8 1), (7, v9)]) (ucs := [(0, [v6]), (2, [.int .u8 1]), (7, [v9])]) (cs := [v6, (.slice none 0 0), .int .u8 1, .bool false, .int .i64 0, .int .i64 0, .int .i64 0, v9]) bt36 rfl rfl ⟨rfl, one_cells hs_v6, ⟨rfl, rfl, ⟨rfl, one_cells hs_v9, trivial⟩⟩⟩ (by rfl)) rfl rfl rfl ?_
  refine SP.have (fun w2 hw => slO.shape (St.own 1 rfl see.sub see.dj hw)) (fun hs_v6 => ?_)
  refine SP.imp (fun w2 hw => St.addO (slO.nil (kInt .u8) 5) hw) ?_
  refine SP.have (fun w2 hw => slO.shape (St.own 1 rfl see.sub see.dj hw)) (fun hs_v9 => ?_)
  refine SP.lit (k := kRaw 8) (xs := [[v6, (.slice none 0 0), .int .u8 1, .bool false, .int .i64 0, .int .i64 0, .int .i64 0, v9]]) (vs := [.agg #[v6, (.slice none 0 0), .int .u8 1, .bool false, .int .i64 0, .int .i64 0, .int .i64 0, v9]]) (cells := [v6, (.slice none 0 0), .int .u8 1, .bool false, .int .i64 0, .int .i64 0, .int .i64 0, v9]) Tryd.underlying23 inf36 rfl rfl rfl rfl rfl rfl rfl rfl (fun _ ap => ⟨[v6, (.slice none 0 0), .int .u8 1, .bool false, .int .i64 0, .int .i64 0, .int .i64 0, v9], _, rfl, ⟨rfl, rfl, one_cons hs_v6 (one_cons rfl (one_cons rfl (one_cons rfl (one_cons rfl (one_cons rfl (one_cons rfl (one_cons hs_v9 (rfl))))))))⟩, rfl⟩) rfl rfl rfl (fun v12 => ?_)
  refine SP.imp (fun w2 hw => St.litD (k := o_api_Method) (c := [v6, (.slice none 0 0), .int .u8 1, .bool false, .int .i64 0, .int .i64 0, .int .i64 0, v9]) (x0 := (⟨[1], [], 1, false, 0, 0, 0, t8⟩ : api_Method)) [slO (kInt .u8) 5 v6 [1], slO (kInt .u8) 5 (.slice none 0 0) [], slO k_api_Instr 45 v9 t8] (St.selO [0, 3, 1, 2, 4, 5] rfl rfl hw) (fun a b q => ⟨_, _, _, rfl, q⟩)) ?_
  refine SP.have (fun w2 hw => slO.shape (St.own 1 rfl see.sub see.dj hw)) (fun hs_v4 => ?_)
  refine SP.have (fun w2 hw => slD.shape (St.own 0 rfl see.sub see.dj hw)) (fun hs_v12 => ?_)
  refine SP.val (Val.buildC (us := [(1, v4), (3, .int .i64 (-1)), (2, v12)]) (ucs := [(1, [v4]), (3, [.int .i64 (-1)]), (2, [v12])]) (cs := [(.slice none 0 0), v4, v12, .int .i64 (-1)]) bt25 rfl rfl ⟨rfl, one_cells hs_v4, ⟨rfl, rfl, ⟨rfl, one_cells hs_v12, trivial⟩⟩⟩ (by rfl)) rfl rfl rfl ?_
  refine SP.have (fun w2 hw => slO.shape (St.own 1 rfl see.sub see.dj hw)) (fun hs_v4 => ?_)
  refine SP.have (fun w2 hw => slD.shape (St.own 0 rfl see.sub see.dj hw)) (fun hs_v12 => ?_)
  refine SP.store (v := .agg #[(.slice none 0 0), v4, v12, .int .i64 (-1)]) (vs := [(.slice none 0 0), v4, v12, .int .i64 (-1)]) 2 (by rfl) sz25 (by rfl) (by rfl) (by rfl) (by rfl) (one_cons rfl (one_cons hs_v4 (one_cons hs_v12 (one_cons rfl (rfl))))) (by rfl) ?_
  refine SP.nil ?_
  refine QE.then ?_
  refine CP.ret ?_
  obtain rfl := Option.some.inj ho
  exact QE.rets (rs := [.cell 2 25]) (vs := [.agg #[(.slice none 0 0), v4, v12, .int .i64 (-1)]]) Tryd.results18 rfl ⟨RVs.cellA 2 rfl rfl Tryd.underlying25 rfl sz25, trivial⟩ (fun w2 h => St.done (fun a b p s => ⟨_, _, _, rfl, s⟩) (St.selO [0, 2, 1] rfl rfl (St.addO (slO.nil k_api_Value 52) h)))
/-! ### capstan/op.Known: function 46 -/
def op_Known.f (op_0 : Int) : Option Bool :=
  some (decide ((IntKind.i64.wrap op_0) < 33))
theorem op_Known.ok (op_0 : Int)  (r : Bool) (H : op_Known.f op_0 = some r) (w : World) (hV : Hp) (sV : Sub hV (hp w))  :
    Trip Tryd.prog 46 [.int .u8 op_0].toArray em hV w (fun v => HO.pure (v = .bool r)) := by
  have see : Sees w em hV := ⟨sV, Dj.em_right _⟩
  refine Trip.of (P := Tryd.prog) (n := ⟨6, []⟩) Tryd.func46 rfl ⟨rfl, rfl⟩ rfl (St.begin (All.nil _)) ?_
  have ho := H
  refine CP.seq ?_
  refine CP.region ?_
  refine SP.val (Val.assign rfl) rfl rfl rfl ?_
  refine SP.nil ?_
  refine QE.then ?_
  refine CP.seq ?_
  refine CP.region ?_
  refine SP.val (Val.move rfl) rfl rfl rfl ?_
  refine SP.val (Val.conv (by rw [Tryd.underlying5]; rfl) Tryd.underlying3 rfl) rfl rfl rfl ?_
  refine SP.val (Val.lss rfl rfl) rfl rfl rfl ?_
  refine SP.val (Val.assign rfl) rfl rfl rfl ?_
  refine SP.nil ?_
  refine QE.then ?_
  refine CP.ret ?_
  obtain rfl := Option.some.inj ho
  exact QE.rets (rs := [.tmp 2]) (vs := [.bool (decide ((IntKind.i64.wrap op_0) < 33))]) Tryd.results46 rfl ⟨RVs.tmp rfl, trivial⟩ (fun w2 h => St.done (fun a b p s => rfl) h)
/-! ### capstan/op.sign: function 37 -/
def op_sign.j3 (op_0 : Int) (b3 : Bool) : Option Int :=
  if b3 = true then (some 5) else (if op_0 = 30 then (some 6) else (if op_0 = 32 then (some 7) else (if op_0 = 28 then (some 8) else (some 0))))

def op_sign.j2 (op_0 : Int) (b2 : Bool) : Option Int :=
  if b2 = true then (some 3) else (if op_0 = 22 then (some 4) else (if op_0 = 26 then (op_sign.j3 op_0 (decide (op_0 = 26))) else (if op_0 = 27 then (op_sign.j3 op_0 (decide (op_0 = 27))) else (op_sign.j3 op_0 (decide (op_0 = 29))))))

def op_sign.j1 (op_0 : Int) (b1 : Bool) : Option Int :=
  if b1 = true then (some 2) else (if op_0 = 4 then (op_sign.j2 op_0 (decide (op_0 = 4))) else (op_sign.j2 op_0 (decide (op_0 = 5))))

def op_sign.f (op_0 : Int) : Option Int :=
  if op_0 = 1 then (some 1) else (if op_0 = 2 then (op_sign.j1 op_0 (decide (op_0 = 2))) else (op_sign.j1 op_0 (decide (op_0 = 3))))
theorem op_sign.ok (op_0 : Int)  (r : Int) (H : op_sign.f op_0 = some r) (w : World) (hV : Hp) (sV : Sub hV (hp w))  :
    Trip Tryd.prog 37 [.int .u8 op_0].toArray em hV w (fun v => HO.pure (v = .int .i64 r)) := by
  have see : Sees w em hV := ⟨sV, Dj.em_right _⟩
  refine Trip.of (P := Tryd.prog) (n := ⟨24, []⟩) Tryd.func37 rfl ⟨rfl, rfl⟩ rfl (St.begin (All.nil _)) ?_
  have ho := H
  refine CP.seq ?_
  refine CP.region ?_
  refine SP.val (Val.assign rfl) rfl rfl rfl ?_
  refine SP.nil ?_
  refine QE.then ?_
  refine CP.seq ?_
  refine CP.seq ?_
  refine CP.region ?_
  refine SP.val (Val.move rfl) rfl rfl rfl ?_
  refine SP.nil ?_
  refine QE.then ?_
  refine CP.block ?_
  refine CP.seq ?_
  refine CP.region ?_
  refine SP.val (Val.eql rfl rfl) rfl rfl rfl ?_
  refine SP.val (Val.assign rfl) rfl rfl rfl ?_
  refine SP.nil ?_
  refine QE.then ?_
  rcases if_some ho with ⟨hc, ho⟩ | ⟨hc, ho⟩
  · refine CP.condT rfl (decide_eq_true hc) ?_
    refine CP.seq ?_
    refine CP.region ?_
    refine SP.val (Val.assign rfl) rfl rfl rfl ?_
    refine SP.nil ?_
    refine QE.then ?_
    refine CP.ret ?_
    refine QE.blockR ?_
    refine QE.thru (by intro e; cases e) ?_
    obtain rfl := Option.some.inj ho
    exact QE.rets (rs := [.tmp 2]) (vs := [.int .i64 1]) Tryd.results37 rfl ⟨RVs.tmp rfl, trivial⟩ (fun w2 h => St.done (fun a b p s => rfl) h)
  · refine CP.condF rfl (decide_eq_false hc) ?_
    refine CP.join (fun a w2 => ∃ b1 : Bool, op_sign.j1 op_0 b1 = some r ∧ Env ⟨24, []⟩ [(3, .int .u8 op_0), (6, .bool b1)] a ∧ St w em hV [] [] w2) ?_ ?_
    · rintro a w2 ⟨b1, ho, ha, hw⟩
      refine CP.app ha hw ?_
      clear ha hw a w2
      rcases if_some ho with ⟨hc, ho⟩ | ⟨hc, ho⟩
      · refine CP.condT rfl hc ?_
        refine CP.seq ?_
        refine CP.region ?_
        refine SP.val (Val.assign rfl) rfl rfl rfl ?_
        refine SP.nil ?_
        refine QE.then ?_
        refine CP.ret ?_
        refine QE.blockR ?_
        refine QE.thru (by intro e; cases e) ?_
        obtain rfl := Option.some.inj ho
        exact QE.rets (rs := [.tmp 2]) (vs := [.int .i64 2]) Tryd.results37 rfl ⟨RVs.tmp rfl, trivial⟩ (fun w2 h => St.done (fun a b p s => rfl) h)
      · refine CP.condF rfl (bf hc) ?_
        refine CP.join (fun a w2 => ∃ b2 : Bool, op_sign.j2 op_0 b2 = some r ∧ Env ⟨24, []⟩ [(3, .int .u8 op_0), (9, .bool b2)] a ∧ St w em hV [] [] w2) ?_ ?_
        · rintro a w2 ⟨b2, ho, ha, hw⟩
          refine CP.app ha hw ?_
          clear ha hw a w2
          rcases if_some ho with ⟨hc, ho⟩ | ⟨hc, ho⟩
          · refine CP.condT rfl hc ?_
            refine CP.seq ?_
            refine CP.region ?_
            refine SP.val (Val.assign rfl) rfl rfl rfl ?_
            refine SP.nil ?_
            refine QE.then ?_
            refine CP.ret ?_
            refine QE.blockR ?_
            refine QE.thru (by intro e; cases e) ?_
            obtain rfl := Option.some.inj ho
            exact QE.rets (rs := [.tmp 2]) (vs := [.int .i64 3]) Tryd.results37 rfl ⟨RVs.tmp rfl, trivial⟩ (fun w2 h => St.done (fun a b p s => rfl) h)
          · refine CP.condF rfl (bf hc) ?_
            refine CP.seq ?_
            refine CP.region ?_
            refine SP.val (Val.eql rfl rfl) rfl rfl rfl ?_
            refine SP.val (Val.assign rfl) rfl rfl rfl ?_
            refine SP.nil ?_
            refine QE.then ?_
            rcases if_some ho with ⟨hc, ho⟩ | ⟨hc, ho⟩
            · refine CP.condT rfl (decide_eq_true hc) ?_
              refine CP.seq ?_
              refine CP.region ?_
              refine SP.val (Val.assign rfl) rfl rfl rfl ?_
              refine SP.nil ?_
              refine QE.then ?_
              refine CP.ret ?_
              refine QE.blockR ?_
              refine QE.thru (by intro e; cases e) ?_
              obtain rfl := Option.some.inj ho
              exact QE.rets (rs := [.tmp 2]) (vs := [.int .i64 4]) Tryd.results37 rfl ⟨RVs.tmp rfl, trivial⟩ (fun w2 h => St.done (fun a b p s => rfl) h)
            · refine CP.condF rfl (decide_eq_false hc) ?_
              refine CP.join (fun a w2 => ∃ b3 : Bool, op_sign.j3 op_0 b3 = some r ∧ Env ⟨24, []⟩ [(3, .int .u8 op_0), (14, .bool b3)] a ∧ St w em hV [] [] w2) ?_ ?_
              · rintro a w2 ⟨b3, ho, ha, hw⟩
                refine CP.app ha hw ?_
                clear ha hw a w2
                rcases if_some ho with ⟨hc, ho⟩ | ⟨hc, ho⟩
                · refine CP.condT rfl hc ?_
                  refine CP.seq ?_
                  refine CP.region ?_
                  refine SP.val (Val.assign rfl) rfl rfl rfl ?_
                  refine SP.nil ?_
                  refine QE.then ?_
                  refine CP.ret ?_
                  refine QE.blockR ?_
                  refine QE.thru (by intro e; cases e) ?_
                  obtain rfl := Option.some.inj ho
                  exact QE.rets (rs := [.tmp 2]) (vs := [.int .i64 5]) Tryd.results37 rfl ⟨RVs.tmp rfl, trivial⟩ (fun w2 h => St.done (fun a b p s => rfl) h)
                · refine CP.condF rfl (bf hc) ?_
                  refine CP.seq ?_
                  refine CP.region ?_
                  refine SP.val (Val.eql rfl rfl) rfl rfl rfl ?_
                  refine SP.val (Val.assign rfl) rfl rfl rfl ?_
                  refine SP.nil ?_
                  refine QE.then ?_
                  rcases if_some ho with ⟨hc, ho⟩ | ⟨hc, ho⟩
                  · refine CP.condT rfl (decide_eq_true hc) ?_
                    refine CP.seq ?_
                    refine CP.region ?_
                    refine SP.val (Val.assign rfl) rfl rfl rfl ?_
                    refine SP.nil ?_
                    refine QE.then ?_
                    refine CP.ret ?_
                    refine QE.blockR ?_
                    refine QE.thru (by intro e; cases e) ?_
                    obtain rfl := Option.some.inj ho
                    exact QE.rets (rs := [.tmp 2]) (vs := [.int .i64 6]) Tryd.results37 rfl ⟨RVs.tmp rfl, trivial⟩ (fun w2 h => St.done (fun a b p s => rfl) h)
                  · refine CP.condF rfl (decide_eq_false hc) ?_
                    refine CP.seq ?_
                    refine CP.region ?_
                    refine SP.val (Val.eql rfl rfl) rfl rfl rfl ?_
                    refine SP.val (Val.assign rfl) rfl rfl rfl ?_
                    refine SP.nil ?_
                    refine QE.then ?_
                    rcases if_some ho with ⟨hc, ho⟩ | ⟨hc, ho⟩
                    · refine CP.condT rfl (decide_eq_true hc) ?_
                      refine CP.seq ?_
                      refine CP.region ?_
                      refine SP.val (Val.assign rfl) rfl rfl rfl ?_
                      refine SP.nil ?_
                      refine QE.then ?_
                      refine CP.ret ?_
                      refine QE.blockR ?_
                      refine QE.thru (by intro e; cases e) ?_
                      obtain rfl := Option.some.inj ho
                      exact QE.rets (rs := [.tmp 2]) (vs := [.int .i64 7]) Tryd.results37 rfl ⟨RVs.tmp rfl, trivial⟩ (fun w2 h => St.done (fun a b p s => rfl) h)
                    · refine CP.condF rfl (decide_eq_false hc) ?_
                      refine CP.seq ?_
                      refine CP.region ?_
                      refine SP.val (Val.eql rfl rfl) rfl rfl rfl ?_
                      refine SP.val (Val.assign rfl) rfl rfl rfl ?_
                      refine SP.nil ?_
                      refine QE.then ?_
                      rcases if_some ho with ⟨hc, ho⟩ | ⟨hc, ho⟩
                      · refine CP.condT rfl (decide_eq_true hc) ?_
                        refine CP.seq ?_
                        refine CP.region ?_
                        refine SP.val (Val.assign rfl) rfl rfl rfl ?_
                        refine SP.nil ?_
                        refine QE.then ?_
                        refine CP.ret ?_
                        refine QE.blockR ?_
                        refine QE.thru (by intro e; cases e) ?_
                        obtain rfl := Option.some.inj ho
                        exact QE.rets (rs := [.tmp 2]) (vs := [.int .i64 8]) Tryd.results37 rfl ⟨RVs.tmp rfl, trivial⟩ (fun w2 h => St.done (fun a b p s => rfl) h)
                      · refine CP.condF rfl (decide_eq_false hc) ?_
                        refine CP.skip ?_
                        refine QE.blockN ?_
                        refine QE.then ?_
                        refine CP.seq ?_
                        refine CP.region ?_
                        refine SP.val (Val.assign rfl) rfl rfl rfl ?_
                        refine SP.nil ?_
                        refine QE.then ?_
                        refine CP.ret ?_
                        obtain rfl := Option.some.inj ho
                        exact QE.rets (rs := [.tmp 2]) (vs := [.int .i64 0]) Tryd.results37 rfl ⟨RVs.tmp rfl, trivial⟩ (fun w2 h => St.done (fun a b p s => rfl) h)
              · refine CP.seq ?_
                refine CP.region ?_
                refine SP.val (Val.eql rfl rfl) rfl rfl rfl ?_
                refine SP.val (Val.assign rfl) rfl rfl rfl ?_
                refine SP.nil ?_
                refine QE.then ?_
                rcases if_some ho with ⟨hc, ho⟩ | ⟨hc, ho⟩
                · refine CP.condT rfl (decide_eq_true hc) ?_
                  refine CP.skip ?_
                  exact QE.meet fun a w2 ha hw => ⟨(decide (op_0 = 26)), ho, ha.sub ⟨rfl, rfl, trivial⟩, hw⟩
                · refine CP.condF rfl (decide_eq_false hc) ?_
                  refine CP.seq ?_
                  refine CP.region ?_
                  refine SP.val (Val.eql rfl rfl) rfl rfl rfl ?_
                  refine SP.val (Val.assign rfl) rfl rfl rfl ?_
                  refine SP.nil ?_
                  refine QE.then ?_
                  rcases if_some ho with ⟨hc, ho⟩ | ⟨hc, ho⟩
                  · refine CP.condT rfl (decide_eq_true hc) ?_
                    refine CP.skip ?_
                    exact QE.meet fun a w2 ha hw => ⟨(decide (op_0 = 27)), ho, ha.sub ⟨rfl, rfl, trivial⟩, hw⟩
                  · refine CP.condF rfl (decide_eq_false hc) ?_
                    refine CP.region ?_
                    refine SP.val (Val.eql rfl rfl) rfl rfl rfl ?_
                    refine SP.val (Val.assign rfl) rfl rfl rfl ?_
                    refine SP.nil ?_
                    exact QE.meet fun a w2 ha hw => ⟨(decide (op_0 = 29)), ho, ha.sub ⟨rfl, rfl, trivial⟩, hw⟩
        · refine CP.seq ?_
          refine CP.region ?_
          refine SP.val (Val.eql rfl rfl) rfl rfl rfl ?_
          refine SP.val (Val.assign rfl) rfl rfl rfl ?_
          refine SP.nil ?_
          refine QE.then ?_
          rcases if_some ho with ⟨hc, ho⟩ | ⟨hc, ho⟩
          · refine CP.condT rfl (decide_eq_true hc) ?_
            refine CP.skip ?_
            exact QE.meet fun a w2 ha hw => ⟨(decide (op_0 = 4)), ho, ha.sub ⟨rfl, rfl, trivial⟩, hw⟩
          · refine CP.condF rfl (decide_eq_false hc) ?_
            refine CP.region ?_
            refine SP.val (Val.eql rfl rfl) rfl rfl rfl ?_
            refine SP.val (Val.assign rfl) rfl rfl rfl ?_
            refine SP.nil ?_
            exact QE.meet fun a w2 ha hw => ⟨(decide (op_0 = 5)), ho, ha.sub ⟨rfl, rfl, trivial⟩, hw⟩
    · refine CP.seq ?_
      refine CP.region ?_
      refine SP.val (Val.eql rfl rfl) rfl rfl rfl ?_
      refine SP.val (Val.assign rfl) rfl rfl rfl ?_
      refine SP.nil ?_
      refine QE.then ?_
      rcases if_some ho with ⟨hc, ho⟩ | ⟨hc, ho⟩
      · refine CP.condT rfl (decide_eq_true hc) ?_
        refine CP.skip ?_
        exact QE.meet fun a w2 ha hw => ⟨(decide (op_0 = 2)), ho, ha.sub ⟨rfl, rfl, trivial⟩, hw⟩
      · refine CP.condF rfl (decide_eq_false hc) ?_
        refine CP.region ?_
        refine SP.val (Val.eql rfl rfl) rfl rfl rfl ?_
        refine SP.val (Val.assign rfl) rfl rfl rfl ?_
        refine SP.nil ?_
        exact QE.meet fun a w2 ha hw => ⟨(decide (op_0 = 3)), ho, ha.sub ⟨rfl, rfl, trivial⟩, hw⟩
/-! ### capstan/op.Bounds: function 70 -/
def op_Bounds.f (op_0 : Int) : Option (Int × Int) :=
  (op_Known.f op_0).bind fun t1 => if (!t1) = true then (some (0, (-1))) else ((op_sign.f op_0).bind fun t2 => (elt tab0 t2).bind fun x5 => some (x5.e0, x5.e1))
theorem op_Bounds.ok (op_0 : Int)  (r : Int × Int) (H : op_Bounds.f op_0 = some r) (w : World) (hV : Hp) (sV : Sub hV (hp w)) (h0 : (arrP k_arr136 0 tab0).p hV) :
    Trip Tryd.prog 70 [.int .u8 op_0].toArray em hV w (fun v => HO.pure (v = .tuple #[.int .i64 r.1, .int .i64 r.2])) := by
  have see : Sees w em hV := ⟨sV, Dj.em_right _⟩
  refine Trip.of (P := Tryd.prog) (n := ⟨16, []⟩) Tryd.func70 rfl ⟨rfl, rfl⟩ rfl (St.begin (All.cons (x := arrP k_arr136 0 tab0) h0 (All.nil _))) ?_
  have ho := H
  refine CP.seq ?_
  refine CP.region ?_
  refine SP.val (Val.assign rfl) rfl rfl rfl ?_
  refine SP.val (Val.assign rfl) rfl rfl rfl ?_
  refine SP.nil ?_
  refine QE.then ?_
  refine CP.seq ?_
  refine CP.seq ?_
  refine CP.region ?_
  refine SP.val (Val.move rfl) rfl rfl rfl ?_
  obtain ⟨t1, hc, ho⟩ := bind_some (x := op_Known.f op_0) ho
  refine SP.callV see (caps := []) (.bool t1) fn46 rfl rfl rfl rfl (fun w2 hP hs sub ap => op_Known.ok op_0  _ hc w2 hP sub ) ?_
  clear hc
  refine SP.val (Val.notB rfl) rfl rfl rfl ?_
  refine SP.nil ?_
  refine QE.then ?_
  rcases if_some ho with ⟨hc, ho⟩ | ⟨hc, ho⟩
  · refine CP.condT rfl hc ?_
    refine CP.seq ?_
    refine CP.region ?_
    refine SP.val (Val.assign rfl) rfl rfl rfl ?_
    refine SP.val (Val.assign rfl) rfl rfl rfl ?_
    refine SP.nil ?_
    refine QE.then ?_
    refine CP.ret ?_
    refine QE.thru (by intro e; cases e) ?_
    obtain rfl := Option.some.inj ho
    exact QE.rets (rs := [.tmp 2, .tmp 3]) (vs := [.int .i64 0, .int .i64 (-1)]) Tryd.results70 rfl ⟨RVs.tmp rfl, RVs.tmp rfl, trivial⟩ (fun w2 h => St.done (fun a b p s => rfl) h)
  · refine CP.condF rfl (bf hc) ?_
    refine CP.skip ?_
    refine QE.then ?_
    refine CP.seq ?_
    refine CP.region ?_
    refine SP.val (Val.move rfl) rfl rfl rfl ?_
    obtain ⟨t2, hc, ho⟩ := bind_some (x := op_sign.f op_0) ho
    refine SP.callV see (caps := []) (.int .i64 t2) fn37 rfl rfl rfl rfl (fun w2 hP hs sub ap => op_sign.ok op_0  _ hc w2 hP sub ) ?_
    clear hc
    obtain ⟨x5, hx, ho⟩ := bind_some ho
    have hx := elt_some hx
    refine SP.indexG see 0 rfl Tryd.underlying137 rfl sz136 hx.1 hx.2 rfl rfl rfl rfl (fun p3 => ?_)
    clear hx
    refine k_arr136.load see 0 rfl Tryd.underlying136 rfl sz136 rfl rfl rfl ?_
    refine SP.alloc (cs := [.int .i64 0, .int .i64 0]) inf136 rfl rfl (fun b6 => ?_)
    refine SP.store (v := .agg #[.int .i64 x5.e0, .int .i64 x5.e1]) (vs := [.int .i64 x5.e0, .int .i64 x5.e1]) 0 (by rfl) sz136 (by rfl) (by rfl) (by rfl) (by rfl) (by rfl) (by rfl) ?_
    refine SP.nil ?_
    refine QE.then ?_
    refine CP.seq ?_
    refine CP.drawA (by kernel_rfl) (fun w2 k h => h.drawn k) ?_
    refine DA.phase (fun i => Nat.ble 0 i && Nat.blt i 5) (fun w2 => St w em hV [elP k_arr136 p3 x5, arrP k_arr136 0 tab0] [boxO b6 [.int .i64 x5.e0, .int .i64 x5.e1] 136] w2) ?_
    refine DT.take 0 rfl rfl rfl rfl (by kernel_rfl) (fun _ _ _ h => h) (Val.indexC (off2 := 0) Tryd.underlying136 sz3 (by decide) rfl rfl rfl) (fun w2 hw => hw) ?_
    refine DT.take 1 rfl rfl rfl rfl (by kernel_rfl) (fun _ _ _ h => h) (Val.load1 0 rfl Tryd.underlying3 rfl rfl rfl) (fun w2 hw => hw) ?_
    refine DT.take 2 rfl rfl rfl rfl (by kernel_rfl) (fun _ _ _ h => h) (Val.indexC (off2 := 1) Tryd.underlying136 sz3 (by decide) rfl rfl rfl) (fun w2 hw => hw) ?_
    refine DT.take 3 rfl rfl rfl rfl (by kernel_rfl) (fun _ _ _ h => h) (Val.load1 0 rfl Tryd.underlying3 rfl rfl rfl) (fun w2 hw => hw) ?_
    refine DT.take 4 rfl rfl rfl rfl (by kernel_rfl) (fun _ _ _ h => h) (Val.assign rfl) (fun w2 hw => hw) ?_
    refine DT.next (by kernel_rfl) ?_
    refine DA.one 5 rfl (by kernel_rfl) ?_
    refine SP.val (Val.assign rfl) rfl rfl rfl ?_
    refine SP.nil ?_
    refine QE.atA ?_
    refine DA.done (by kernel_rfl) ?_
    refine QE.then ?_
    refine CP.ret ?_
    obtain rfl := Option.some.inj ho
    exact QE.rets (rs := [.tmp 2, .tmp 3]) (vs := [.int .i64 x5.e0, .int .i64 x5.e1]) Tryd.results70 rfl ⟨RVs.tmp rfl, RVs.tmp rfl, trivial⟩ (fun w2 h => St.done (fun a b p s => rfl) h)
/-! ### capstan/op.May: function 50 -/
def op_May.f (i_0 : api_Instr) : Option Bool :=
  (op_Bounds.f i_0.Op).bind fun t3 => some (((decide (i_0.A ≥ t3.1)) && (decide (i_0.A ≤ t3.2))) && (decide (i_0.B = 0)))
theorem op_May.ok (i_0 : api_Instr)  (r : Bool) (H : op_May.f i_0 = some r) (w : World) (hV : Hp) (sV : Sub hV (hp w)) (h0 : (arrP k_arr136 0 tab0).p hV) :
    Trip Tryd.prog 50 [.agg #[.int .u8 i_0.Op, .int .i64 i_0.A, .int .i64 i_0.B]].toArray em hV w (fun v => HO.pure (v = .bool r)) := by
  have see : Sees w em hV := ⟨sV, Dj.em_right _⟩
  refine Trip.of (P := Tryd.prog) (n := ⟨26, []⟩) Tryd.func50 rfl ⟨rfl, rfl⟩ rfl (St.begin (All.cons (x := arrP k_arr136 0 tab0) h0 (All.nil _))) ?_
  have ho := H
  refine CP.seq ?_
  refine CP.region ?_
  refine SP.box (cs := [.int .u8 i_0.Op, .int .i64 i_0.A, .int .i64 i_0.B]) rfl rfl rfl rfl (fun b1 => ?_)
  refine SP.val (Val.assign rfl) rfl rfl rfl ?_
  refine SP.nil ?_
  refine QE.then ?_
  refine CP.seq ?_
  refine CP.region ?_
  refine SP.val (Val.fieldAddr Tryd.underlying45 rfl sz5 rfl) rfl rfl rfl ?_
  refine SP.val (Val.load1 0 rfl Tryd.underlying5 rfl rfl rfl) rfl rfl rfl ?_
  obtain ⟨t3, hc, ho⟩ := bind_some (x := op_Bounds.f i_0.Op) ho
  refine SP.callV see (caps := []) (.tuple #[.int .i64 t3.1, .int .i64 t3.2]) fn70 rfl rfl rfl rfl (fun w2 hP hs sub ap => op_Bounds.ok i_0.Op  _ hc w2 hP sub (ap.get 0 rfl)) ?_
  clear hc
  refine SP.val (Val.move rfl) rfl rfl rfl ?_
  refine SP.val (Val.extract rfl rfl) rfl rfl rfl ?_
  refine SP.val (Val.extract rfl rfl) rfl rfl rfl ?_
  refine SP.val (Val.assign rfl) rfl rfl rfl ?_
  refine SP.val (Val.assign rfl) rfl rfl rfl ?_
  refine SP.nil ?_
  refine QE.then ?_
  refine CP.seq ?_
  refine CP.region ?_
  refine SP.val (Val.fieldAddr Tryd.underlying45 rfl sz3 rfl) rfl rfl rfl ?_
  refine SP.val (Val.load1 0 rfl Tryd.underlying3 rfl rfl rfl) rfl rfl rfl ?_
  refine SP.val (Val.move rfl) rfl rfl rfl ?_
  refine SP.val (Val.geq rfl rfl) rfl rfl rfl ?_
  refine SP.val (Val.move rfl) rfl rfl rfl ?_
  refine SP.join 5 (fun a w2 => Env ⟨26, []⟩ [(1, .pointer (some ⟨b1, 0, none⟩)), (20, .bool ((decide (i_0.A ≥ t3.1)) && (decide (i_0.A ≤ t3.2))))] a ∧ St w em hV [arrP k_arr136 0 tab0] [boxO b1 [.int .u8 i_0.Op, .int .i64 i_0.A, .int .i64 i_0.B] 45] w2) ?_ ?_
  · rintro a w2 ⟨ha, hw⟩
    refine SP.app ha hw ?_
    clear ha hw a w2
    refine SP.val (Val.move rfl) rfl rfl rfl ?_
    refine SP.join 4 (fun a w2 => Env ⟨26, []⟩ [(25, .bool (((decide (i_0.A ≥ t3.1)) && (decide (i_0.A ≤ t3.2))) && (decide (i_0.B = 0))))] a ∧ St w em hV [arrP k_arr136 0 tab0] [boxO b1 [.int .u8 i_0.Op, .int .i64 i_0.A, .int .i64 i_0.B] 45] w2) ?_ ?_
    · rintro a w2 ⟨ha, hw⟩
      refine SP.app ha hw ?_
      clear ha hw a w2
      refine SP.val (Val.assign rfl) rfl rfl rfl ?_
      refine SP.nil ?_
      refine QE.then ?_
      refine CP.ret ?_
      obtain rfl := Option.some.inj ho
      exact QE.rets (rs := [.tmp 2]) (vs := [.bool (((decide (i_0.A ≥ t3.1)) && (decide (i_0.A ≤ t3.2))) && (decide (i_0.B = 0)))]) Tryd.results50 rfl ⟨RVs.tmp rfl, trivial⟩ (fun w2 h => St.done (fun a b p s => rfl) h)
    · intro J
      by_cases hc : ((decide (i_0.A ≥ t3.1)) && (decide (i_0.A ≤ t3.2))) = true
      · have hq7 := hc
        refine SP.isT (d := 21) rfl hq7 ?_
        refine SP.val (Val.fieldAddr Tryd.underlying45 rfl sz3 rfl) rfl rfl rfl ?_
        refine SP.val (Val.load1 0 rfl Tryd.underlying3 rfl rfl rfl) rfl rfl rfl ?_
        refine SP.val (Val.eql rfl rfl) rfl rfl rfl ?_
        refine SP.val (Val.pickT rfl rfl) rfl rfl rfl ?_
        exact J fun a w2 ha hw => ⟨ha.sub ⟨congrArg (fun z => some (Value.bool z)) (and_t hq7 rfl), trivial⟩, hw⟩
      · have hq7 := (bf hc)
        refine SP.isF (d := 21) rfl hq7 ?_
        refine SP.not rfl rfl rfl ?_
        refine SP.not rfl rfl rfl ?_
        refine SP.not rfl rfl rfl ?_
        refine SP.val (Val.pickF rfl rfl) rfl rfl rfl ?_
        exact J fun a w2 ha hw => ⟨ha.sub ⟨congrArg (fun z => some (Value.bool z)) (and_f hq7), trivial⟩, hw⟩
  · intro J
    by_cases hc : i_0.A ≥ t3.1
    · have hq5 := (decide_eq_true hc)
      refine SP.isT (d := 15) rfl hq5 ?_
      refine SP.val (Val.fieldAddr Tryd.underlying45 rfl sz3 rfl) rfl rfl rfl ?_
      refine SP.val (Val.load1 0 rfl Tryd.underlying3 rfl rfl rfl) rfl rfl rfl ?_
      refine SP.val (Val.move rfl) rfl rfl rfl ?_
      refine SP.val (Val.leq rfl rfl) rfl rfl rfl ?_
      refine SP.val (Val.pickT rfl rfl) rfl rfl rfl ?_
      exact J fun a w2 ha hw => ⟨ha.sub ⟨rfl, congrArg (fun z => some (Value.bool z)) (and_t hq5 rfl), trivial⟩, hw⟩
    · have hq5 := (decide_eq_false hc)
      refine SP.isF (d := 15) rfl hq5 ?_
      refine SP.not rfl rfl rfl ?_
      refine SP.not rfl rfl rfl ?_
      refine SP.not rfl rfl rfl ?_
      refine SP.not rfl rfl rfl ?_
      refine SP.val (Val.pickF rfl rfl) rfl rfl rfl ?_
      exact J fun a w2 ha hw => ⟨ha.sub ⟨rfl, congrArg (fun z => some (Value.bool z)) (and_f hq5), trivial⟩, hw⟩
/-! ### capstan/flow.Loops$1: function 49 -/
def flow_Loops_1.f (i_0 : api_Instr) : Option Bool :=
  (op_May.f i_0).bind fun t3 => some (!t3)
theorem flow_Loops_1.ok (i_0 : api_Instr)  (r : Bool) (H : flow_Loops_1.f i_0 = some r) (w : World) (hV : Hp) (sV : Sub hV (hp w)) (h0 : (arrP k_arr136 0 tab0).p hV) :
    Trip Tryd.prog 49 [.agg #[.int .u8 i_0.Op, .int .i64 i_0.A, .int .i64 i_0.B]].toArray em hV w (fun v => HO.pure (v = .bool r)) := by
  have see : Sees w em hV := ⟨sV, Dj.em_right _⟩
  refine Trip.of (P := Tryd.prog) (n := ⟨6, []⟩) Tryd.func49 rfl ⟨rfl, rfl⟩ rfl (St.begin (All.cons (x := arrP k_arr136 0 tab0) h0 (All.nil _))) ?_
  have ho := H
  refine CP.seq ?_
  refine CP.region ?_
  refine SP.box (cs := [.int .u8 i_0.Op, .int .i64 i_0.A, .int .i64 i_0.B]) rfl rfl rfl rfl (fun b1 => ?_)
  refine SP.val (Val.assign rfl) rfl rfl rfl ?_
  refine SP.nil ?_
  refine QE.then ?_
  refine CP.seq ?_
  refine CP.region ?_
  refine SP.val (Val.loadA 0 rfl Tryd.underlying45 rfl sz45 rfl rfl rfl) rfl rfl rfl ?_
  obtain ⟨t3, hc, ho⟩ := bind_some (x := op_May.f i_0) ho
  refine SP.callV see (caps := []) (.bool t3) fn50 rfl rfl rfl rfl (fun w2 hP hs sub ap => op_May.ok i_0  _ hc w2 hP sub (ap.get 0 rfl)) ?_
  clear hc
  refine SP.val (Val.notB rfl) rfl rfl rfl ?_
  refine SP.val (Val.assign rfl) rfl rfl rfl ?_
  refine SP.nil ?_
  refine QE.then ?_
  refine CP.ret ?_
  obtain rfl := Option.some.inj ho
  exact QE.rets (rs := [.tmp 2]) (vs := [.bool (!t3)]) Tryd.results49 rfl ⟨RVs.tmp rfl, trivial⟩ (fun w2 h => St.done (fun a b p s => rfl) h)
/-! ### slices.IndexFunc[[]capstan/api.Instr,capstan/api.Instr]: function 41 -/
inductive slices_IndexFunc_api_Instr_api_Instr_s1.S where
  | start
  | l1 (x7 : Int)

def slices_IndexFunc_api_Instr_api_Instr_s1.F (s_0 : (List api_Instr)) : slices_IndexFunc_api_Instr_api_Instr_s1.S → Option (slices_IndexFunc_api_Instr_api_Instr_s1.S ⊕ Int)
  | .start => some (.inl (.l1 0))
  | .l1 x7 => if x7 < (s_0.length : Int) then ((elt s_0 x7).bind fun x11 => (flow_Loops_1.f x11).bind fun t12 => if t12 = true then (some (.inr x7)) else (some (.inl (.l1 (IntKind.i64.wrap (x7 + 1)))))) else (some (.inr (-1)))

def slices_IndexFunc_api_Instr_api_Instr_s1.f (s_0 : (List api_Instr)) : Option Int := runF (slices_IndexFunc_api_Instr_api_Instr_s1.F s_0) .start
theorem slices_IndexFunc_api_Instr_api_Instr_s1.ok (s_0 : (List api_Instr)) (v_s_0 : Value)  (r : Int) (H : slices_IndexFunc_api_Instr_api_Instr_s1.f s_0 = some r) (w : World) (hV : Hp) (sV : Sub hV (hp w)) (h0 : slR k_api_Instr hV v_s_0 s_0) (h1 : (arrP k_arr136 0 tab0).p hV) :
    Trip Tryd.prog 41 [v_s_0, .func (.func 49) #[] #[]].toArray em hV w (fun v => HO.pure (v = .int .i64 r)) := by
  have see : Sees w em hV := ⟨sV, Dj.em_right _⟩
  refine Trip.of (P := Tryd.prog) (n := ⟨19, []⟩) Tryd.func41 rfl ⟨rfl, rfl⟩ rfl (St.begin (All.cons (x := slP k_api_Instr v_s_0 s_0) h0 (All.cons (x := arrP k_arr136 0 tab0) h1 (All.nil _)))) ?_
  obtain ⟨n0, hi⟩ := runF_iff.1 H
  obtain ⟨m0, o, hm0, ho, hr⟩ := iter_some hi
  clear hi
  refine CP.seq ?_
  refine CP.region ?_
  refine SP.val (Val.assign rfl) rfl rfl rfl ?_
  refine SP.nil ?_
  refine QE.then ?_
  refine CP.seq ?_
  refine CP.seq ?_
  refine CP.region ?_
  refine SP.val (Val.move rfl) rfl rfl rfl ?_
  refine SP.val (Val.lenP see 0 rfl Tryd.underlying34 rfl) rfl rfl rfl ?_
  refine SP.val (Val.move rfl) rfl rfl rfl ?_
  refine SP.nil ?_
  refine QE.then ?_
  refine CP.block ?_
  obtain rfl := Option.some.inj ho
  refine CP.loop (fun cl1 a w2 => ∃ x7 : Int, cl1 ≤ m0 ∧ iter (slices_IndexFunc_api_Instr_api_Instr_s1.F s_0) cl1 (.l1 x7) = some r ∧ Env ⟨19, []⟩ [(0, v_s_0), (1, .func (.func 49) #[] #[]), (7, .int .i64 (s_0.length : Int)), (8, .int .i64 x7)] a ∧ St w em hV [slP k_api_Instr v_s_0 s_0, arrP k_arr136 0 tab0] [] w2) m0 (fun a w2 ha hw => ⟨0, Nat.le_refl _, hr, ha.sub ⟨rfl, rfl, rfl, rfl, trivial⟩, hw⟩) ?_
  clear hr
  rintro cl1 a w2 ⟨x7, hc_l1, hi, ha, hw⟩
  obtain ⟨m8, o, hm_m8, ho, hr⟩ := iter_some hi
  refine CP.app ha hw ?_
  clear ha hw a w2 hi
  refine CP.seq ?_
  refine CP.region ?_
  refine SP.val (Val.lss rfl rfl) rfl rfl rfl ?_
  refine SP.nil ?_
  refine QE.then ?_
  refine CP.seq ?_
  rcases if_some ho with ⟨hc, ho⟩ | ⟨hc, ho⟩
  · refine CP.condT rfl (decide_eq_true hc) ?_
    refine CP.skip ?_
    refine QE.then ?_
    refine CP.seq ?_
    refine CP.block ?_
    refine CP.seq ?_
    refine CP.region ?_
    refine SP.val (Val.move rfl) rfl rfl rfl ?_
    refine SP.val (Val.assign rfl) rfl rfl rfl ?_
    refine SP.nil ?_
    refine QE.then ?_
    refine CP.seq ?_
    refine CP.region ?_
    refine SP.val (Val.move rfl) rfl rfl rfl ?_
    refine SP.val (Val.move rfl) rfl rfl rfl ?_
    refine SP.val (Val.move rfl) rfl rfl rfl ?_
    obtain ⟨x11, hx, ho⟩ := bind_some ho
    have hx := elt_some hx
    refine SP.indexP see 0 rfl Tryd.underlying34 sz45 hx.1 hx.2 rfl rfl rfl rfl (fun p9 => ?_)
    clear hx
    refine k_api_Instr.load see 0 rfl Tryd.underlying45 rfl sz45 rfl rfl rfl ?_
    obtain ⟨t12, hc, ho⟩ := bind_some (x := flow_Loops_1.f x11) ho
    refine SP.callV see (caps := []) (.bool t12) fn49 rfl rfl rfl rfl (fun w2 hP hs sub ap => flow_Loops_1.ok x11  _ hc w2 hP sub (ap.get 2 rfl)) ?_
    clear hc
    refine SP.nil ?_
    refine QE.then ?_
    rcases if_some ho with ⟨hc, ho⟩ | ⟨hc, ho⟩
    · refine CP.condT rfl hc ?_
      refine CP.seq ?_
      refine CP.region ?_
      refine SP.val (Val.move rfl) rfl rfl rfl ?_
      refine SP.val (Val.assign rfl) rfl rfl rfl ?_
      refine SP.nil ?_
      refine QE.then ?_
      refine CP.ret ?_
      refine QE.blockR ?_
      refine QE.thru (by intro e; cases e) ?_
      refine QE.thru (by intro e; cases e) ?_
      refine QE.blockR ?_
      refine QE.thru (by intro e; cases e) ?_
      obtain rfl := Option.some.inj ho
      obtain rfl := Option.some.inj hr
      exact QE.rets (rs := [.tmp 4]) (vs := [.int .i64 x7]) Tryd.results41 rfl ⟨RVs.tmp rfl, trivial⟩ (fun w2 h => St.done (fun a b p s => rfl) h)
    · refine CP.condF rfl (bf hc) ?_
      refine CP.skip ?_
      refine QE.blockN ?_
      refine QE.then ?_
      refine CP.region ?_
      refine SP.val (Val.add rfl rfl) rfl rfl rfl ?_
      refine SP.val (Val.move rfl) rfl rfl rfl ?_
      refine SP.nil ?_
      obtain rfl := Option.some.inj ho
      exact QE.lower m8 (by omega) fun a w2 ha hw => ⟨(IntKind.i64.wrap (x7 + 1)), (by omega), hr, ha.sub ⟨rfl, rfl, rfl, rfl, trivial⟩, (St.selP [1, 2] rfl hw)⟩
  · refine CP.condF rfl (decide_eq_false hc) ?_
    refine CP.exit ?_
    refine QE.thru (by intro e; cases e) ?_
    refine QE.thru (by intro e; cases e) ?_
    refine QE.blockE ?_
    refine QE.then ?_
    refine CP.seq ?_
    refine CP.region ?_
    refine SP.val (Val.assign rfl) rfl rfl rfl ?_
    refine SP.nil ?_
    refine QE.then ?_
    refine CP.ret ?_
    obtain rfl := Option.some.inj ho
    obtain rfl := Option.some.inj hr
    exact QE.rets (rs := [.tmp 4]) (vs := [.int .i64 (-1)]) Tryd.results41 rfl ⟨RVs.tmp rfl, trivial⟩ (fun w2 h => St.done (fun a b p s => rfl) h)
/-! ### slices.ContainsFunc[[]capstan/api.Instr,capstan/api.Instr]: function 22 -/
def slices_ContainsFunc_api_Instr_api_Instr_s1.f (s_0 : (List api_Instr)) : Option Bool :=
  (slices_IndexFunc_api_Instr_api_Instr_s1.f s_0).bind fun t2 => some (decide (t2 ≥ 0))
theorem slices_ContainsFunc_api_Instr_api_Instr_s1.ok (s_0 : (List api_Instr)) (v_s_0 : Value)  (r : Bool) (H : slices_ContainsFunc_api_Instr_api_Instr_s1.f s_0 = some r) (w : World) (hV : Hp) (sV : Sub hV (hp w)) (h0 : slR k_api_Instr hV v_s_0 s_0) (h1 : (arrP k_arr136 0 tab0).p hV) :
    Trip Tryd.prog 22 [v_s_0, .func (.func 49) #[] #[]].toArray em hV w (fun v => HO.pure (v = .bool r)) := by
  have see : Sees w em hV := ⟨sV, Dj.em_right _⟩
  refine Trip.of (P := Tryd.prog) (n := ⟨9, []⟩) Tryd.func22 rfl ⟨rfl, rfl⟩ rfl (St.begin (All.cons (x := slP k_api_Instr v_s_0 s_0) h0 (All.cons (x := arrP k_arr136 0 tab0) h1 (All.nil _)))) ?_
  have ho := H
  refine CP.seq ?_
  refine CP.region ?_
  refine SP.val (Val.assign rfl) rfl rfl rfl ?_
  refine SP.nil ?_
  refine QE.then ?_
  refine CP.seq ?_
  refine CP.region ?_
  refine SP.val (Val.move rfl) rfl rfl rfl ?_
  refine SP.val (Val.move rfl) rfl rfl rfl ?_
  obtain ⟨t2, hc, ho⟩ := bind_some (x := slices_IndexFunc_api_Instr_api_Instr_s1.f s_0) ho
  refine SP.callV see (caps := []) (.int .i64 t2) fn41 rfl rfl rfl rfl (fun w2 hP hs sub ap => slices_IndexFunc_api_Instr_api_Instr_s1.ok s_0 _ _ hc w2 hP sub (ap.get 0 rfl) (ap.get 1 rfl)) ?_
  clear hc
  refine SP.val (Val.geq rfl rfl) rfl rfl rfl ?_
  refine SP.val (Val.assign rfl) rfl rfl rfl ?_
  refine SP.nil ?_
  refine QE.then ?_
  refine CP.ret ?_
  obtain rfl := Option.some.inj ho
  exact QE.rets (rs := [.tmp 4]) (vs := [.bool (decide (t2 ≥ 0))]) Tryd.results22 rfl ⟨RVs.tmp rfl, trivial⟩ (fun w2 h => St.done (fun a b p s => rfl) h)
/-! ### (*capstan/flow.open).push: function 51 -/
def flow_open_push_s2.f (l2 : List Int) (a0_3 : Int) (a1 : Int) : Option (Bool × (List Int) × Int) :=
  if a0_3 = 4 then (some (false, l2, a0_3)) else ((elt l2 a0_3).bind fun x4 => some (true, l2.set a0_3.toNat a1, IntKind.i64.wrap (a0_3 + 1)))
theorem flow_open_push_s2.ok (l2 : List Int) (a0_3 : Int) (a1 : Int)  (r : Bool × (List Int) × Int) (H : flow_open_push_s2.f l2 a0_3 a1 = some r) (w : World) (hV : Hp) (sV : Sub hV (hp w))  (b1 : Nat) (hA : Hp) (sA : Sub hA (hp w)) (dA : Dj hV hA) (hI : (arrO b1 [] (fun z : Int => Value.int .i64 z) 4 l2 [.int .i64 a0_3] 99).p hV hA) :
    Trip Tryd.prog 51 [.pointer (some ⟨b1, 0, none⟩), .int .i64 a1].toArray hA hV w (fun v => HO.pand (v = .bool r.1) (HO.seps [arrO b1 [] (fun z : Int => Value.int .i64 z) 4 r.2.1 [.int .i64 r.2.2] 99])) := by
  have see : Sees w hA hV := ⟨sV, dA⟩
  refine Trip.of (P := Tryd.prog) (n := ⟨26, []⟩) Tryd.func51 rfl ⟨rfl, rfl⟩ rfl (St.beginA (os := [arrO b1 [] (fun z : Int => Value.int .i64 z) 4 l2 [.int .i64 a0_3] 99]) sA (All.nil _) ⟨hA, em, Dj.em_right _, Sub.refl _, Sub.em _, hI, trivial⟩) ?_
  have ho := H
  refine CP.seq ?_
  refine CP.region ?_
  refine SP.val (Val.assign rfl) rfl rfl rfl ?_
  refine SP.nil ?_
  refine QE.then ?_
  refine CP.seq ?_
  refine CP.seq ?_
  refine CP.region ?_
  refine SP.val (Val.move rfl) rfl rfl rfl ?_
  refine SP.val (Val.nilCheck rfl) rfl rfl rfl ?_
  refine SP.val (Val.fieldAddr Tryd.underlying99 rfl sz3 rfl) rfl rfl rfl ?_
  refine SP.val (Val.loadArrPost (k := 0) 0 rfl Tryd.underlying3 rfl rfl rfl rfl) rfl rfl rfl ?_
  refine SP.val (Val.eql rfl rfl) rfl rfl rfl ?_
  refine SP.nil ?_
  refine QE.then ?_
  rcases if_some ho with ⟨hc, ho⟩ | ⟨hc, ho⟩
  · refine CP.condT rfl (decide_eq_true hc) ?_
    refine CP.seq ?_
    refine CP.region ?_
    refine SP.val (Val.assign rfl) rfl rfl rfl ?_
    refine SP.nil ?_
    refine QE.then ?_
    refine CP.ret ?_
    refine QE.thru (by intro e; cases e) ?_
    obtain rfl := Option.some.inj ho
    exact QE.rets (rs := [.tmp 4]) (vs := [.bool false]) Tryd.results51 rfl ⟨RVs.tmp rfl, trivial⟩ (fun w2 h => St.done (fun a b p s => ⟨rfl, s⟩) (St.selO [0] rfl rfl h))
  · refine CP.condF rfl (decide_eq_false hc) ?_
    refine CP.skip ?_
    refine QE.then ?_
    refine CP.seq ?_
    refine CP.drawA (by kernel_rfl) (fun w2 k h => h.drawn k) ?_
    refine DA.phase (fun i => Nat.ble 0 i && Nat.blt i 8) (fun w2 => St w hA hV [] [arrO b1 [] (fun z : Int => Value.int .i64 z) 4 l2 [.int .i64 a0_3] 99] w2) ?_
    refine DT.take 0 rfl rfl rfl rfl (by kernel_rfl) (fun _ _ _ h => h) (Val.move rfl) (fun w2 hw => hw) ?_
    refine DT.take 1 rfl rfl rfl rfl (by kernel_rfl) (fun _ _ _ h => h) (Val.move rfl) (fun w2 hw => hw) ?_
    refine DT.take 2 rfl rfl rfl rfl (by kernel_rfl) (fun _ _ _ h => h) (Val.nilCheck rfl) (fun w2 hw => hw) ?_
    refine DT.take 3 rfl rfl rfl rfl (by kernel_rfl) (fun _ _ _ h => h) (Val.fieldAddr Tryd.underlying99 rfl sz3 rfl) (fun w2 hw => hw) ?_
    refine DT.take 4 rfl rfl rfl rfl (by kernel_rfl) (fun _ _ _ h => h) (Val.loadArrPost (k := 0) 0 rfl Tryd.underlying3 rfl rfl rfl rfl) (fun w2 hw => hw) ?_
    refine DT.take 5 rfl rfl rfl rfl (by kernel_rfl) (fun _ _ _ h => h) (Val.move rfl) (fun w2 hw => hw) ?_
    refine DT.take 6 rfl rfl rfl rfl (by kernel_rfl) (fun _ _ _ h => h) (Val.nilCheck rfl) (fun w2 hw => hw) ?_
    refine DT.take 7 rfl rfl rfl rfl (by kernel_rfl) (fun _ _ _ h => h) (Val.fieldAddr Tryd.underlying99 rfl sz97 rfl) (fun w2 hw => hw) ?_
    refine DT.next (by kernel_rfl) ?_
    refine DA.one 8 rfl (by kernel_rfl) ?_
    obtain ⟨x4, hx_x4, ho⟩ := bind_some ho
    have hx_x4 := elt_some hx_x4
    refine SP.val (Val.indexArr 0 rfl Tryd.underlying97 sz3 hx_x4.1 hx_x4.2 rfl rfl rfl) rfl rfl rfl ?_
    refine SP.nil ?_
    refine QE.atA ?_
    refine DA.one 9 rfl (by kernel_rfl) ?_
    refine SP.storeArr 0 rfl sz3 rfl hx_x4.2 rfl rfl rfl (fun _ => rfl) (fun _ => rfl) ?_
    refine SP.nil ?_
    refine QE.atA ?_
    refine DA.done (by kernel_rfl) ?_
    refine QE.then ?_
    refine CP.seq ?_
    refine CP.region ?_
    refine SP.val (Val.move rfl) rfl rfl rfl ?_
    refine SP.val (Val.nilCheck rfl) rfl rfl rfl ?_
    refine SP.val (Val.fieldAddr Tryd.underlying99 rfl sz3 rfl) rfl rfl rfl ?_
    refine SP.val (Val.loadArrPost (k := 0) 0 rfl Tryd.underlying3 rfl rfl rfl rfl) rfl rfl rfl ?_
    refine SP.val (Val.add rfl rfl) rfl rfl rfl ?_
    refine SP.val (Val.nilCheck rfl) rfl rfl rfl ?_
    refine SP.val (Val.fieldAddr Tryd.underlying99 rfl sz3 rfl) rfl rfl rfl ?_
    refine SP.storeArrPost (k := 0) 0 rfl sz3 rfl rfl rfl rfl rfl rfl rfl ?_
    refine SP.nil ?_
    refine QE.then ?_
    refine CP.seq ?_
    refine CP.region ?_
    refine SP.val (Val.assign rfl) rfl rfl rfl ?_
    refine SP.nil ?_
    refine QE.then ?_
    refine CP.ret ?_
    obtain rfl := Option.some.inj ho
    exact QE.rets (rs := [.tmp 4]) (vs := [.bool true]) Tryd.results51 rfl ⟨RVs.tmp rfl, trivial⟩ (fun w2 h => St.done (fun a b p s => ⟨rfl, s⟩) (St.selO [0] rfl rfl h))
/-! ### (*capstan/flow.open).pop: function 52 -/
def flow_open_pop_s2.j1 (l2 : List Int) (a0_3 : Int) (a1 : Int) (b10 : Bool) : Option (Bool × (List Int) × Int) :=
  if b10 = true then (some (false, l2, a0_3)) else (some (true, l2, IntKind.i64.wrap (a0_3 - 1)))

def flow_open_pop_s2.f (l2 : List Int) (a0_3 : Int) (a1 : Int) : Option (Bool × (List Int) × Int) :=
  if a0_3 = 0 then (flow_open_pop_s2.j1 l2 a0_3 a1 true) else ((elt l2 (IntKind.i64.wrap (a0_3 - 1))).bind fun x9 => flow_open_pop_s2.j1 l2 a0_3 a1 (decide (x9 ≠ a1)))
theorem flow_open_pop_s2.ok (l2 : List Int) (a0_3 : Int) (a1 : Int)  (r : Bool × (List Int) × Int) (H : flow_open_pop_s2.f l2 a0_3 a1 = some r) (w : World) (hV : Hp) (sV : Sub hV (hp w))  (b1 : Nat) (hA : Hp) (sA : Sub hA (hp w)) (dA : Dj hV hA) (hI : (arrO b1 [] (fun z : Int => Value.int .i64 z) 4 l2 [.int .i64 a0_3] 99).p hV hA) :
    Trip Tryd.prog 52 [.pointer (some ⟨b1, 0, none⟩), .int .i64 a1].toArray hA hV w (fun v => HO.pand (v = .bool r.1) (HO.seps [arrO b1 [] (fun z : Int => Value.int .i64 z) 4 r.2.1 [.int .i64 r.2.2] 99])) := by
  have see : Sees w hA hV := ⟨sV, dA⟩
  refine Trip.of (P := Tryd.prog) (n := ⟨31, []⟩) Tryd.func52 rfl ⟨rfl, rfl⟩ rfl (St.beginA (os := [arrO b1 [] (fun z : Int => Value.int .i64 z) 4 l2 [.int .i64 a0_3] 99]) sA (All.nil _) ⟨hA, em, Dj.em_right _, Sub.refl _, Sub.em _, hI, trivial⟩) ?_
  have ho := H
  refine CP.seq ?_
  refine CP.region ?_
  refine SP.val (Val.assign rfl) rfl rfl rfl ?_
  refine SP.nil ?_
  refine QE.then ?_
  refine CP.seq ?_
  refine CP.join (fun a w2 => ∃ b10 : Bool, flow_open_pop_s2.j1 l2 a0_3 a1 b10 = some r ∧ Env ⟨31, []⟩ [(0, .pointer (some ⟨b1, 0, none⟩)), (23, .bool b10)] a ∧ St w hA hV [] [arrO b1 [] (fun z : Int => Value.int .i64 z) 4 l2 [.int .i64 a0_3] 99] w2) ?_ ?_
  · rintro a w2 ⟨b10, ho, ha, hw⟩
    refine CP.app ha hw ?_
    clear ha hw a w2
    rcases if_some ho with ⟨hc, ho⟩ | ⟨hc, ho⟩
    · refine CP.condT rfl hc ?_
      refine CP.seq ?_
      refine CP.region ?_
      refine SP.val (Val.assign rfl) rfl rfl rfl ?_
      refine SP.nil ?_
      refine QE.then ?_
      refine CP.ret ?_
      refine QE.thru (by intro e; cases e) ?_
      obtain rfl := Option.some.inj ho
      exact QE.rets (rs := [.tmp 4]) (vs := [.bool false]) Tryd.results52 rfl ⟨RVs.tmp rfl, trivial⟩ (fun w2 h => St.done (fun a b p s => ⟨rfl, s⟩) (St.selO [0] rfl rfl h))
    · refine CP.condF rfl (bf hc) ?_
      refine CP.skip ?_
      refine QE.then ?_
      refine CP.seq ?_
      refine CP.region ?_
      refine SP.val (Val.move rfl) rfl rfl rfl ?_
      refine SP.val (Val.nilCheck rfl) rfl rfl rfl ?_
      refine SP.val (Val.fieldAddr Tryd.underlying99 rfl sz3 rfl) rfl rfl rfl ?_
      refine SP.val (Val.loadArrPost (k := 0) 0 rfl Tryd.underlying3 rfl rfl rfl rfl) rfl rfl rfl ?_
      refine SP.val (Val.sub rfl rfl) rfl rfl rfl ?_
      refine SP.val (Val.nilCheck rfl) rfl rfl rfl ?_
      refine SP.val (Val.fieldAddr Tryd.underlying99 rfl sz3 rfl) rfl rfl rfl ?_
      refine SP.storeArrPost (k := 0) 0 rfl sz3 rfl rfl rfl rfl rfl rfl rfl ?_
      refine SP.nil ?_
      refine QE.then ?_
      refine CP.seq ?_
      refine CP.region ?_
      refine SP.val (Val.assign rfl) rfl rfl rfl ?_
      refine SP.nil ?_
      refine QE.then ?_
      refine CP.ret ?_
      obtain rfl := Option.some.inj ho
      exact QE.rets (rs := [.tmp 4]) (vs := [.bool true]) Tryd.results52 rfl ⟨RVs.tmp rfl, trivial⟩ (fun w2 h => St.done (fun a b p s => ⟨rfl, s⟩) (St.selO [0] rfl rfl h))
  · refine CP.drawA (by kernel_rfl) (fun w2 k h => h.drawn k) ?_
    refine DA.one 0 rfl (by kernel_rfl) ?_
    refine SP.val (Val.move rfl) rfl rfl rfl ?_
    refine SP.nil ?_
    refine QE.atA ?_
    refine DA.one 1 rfl (by kernel_rfl) ?_
    refine SP.val (Val.nilCheck rfl) rfl rfl rfl ?_
    refine SP.nil ?_
    refine QE.atA ?_
    refine DA.one 2 rfl (by kernel_rfl) ?_
    refine SP.val (Val.fieldAddr Tryd.underlying99 rfl sz3 rfl) rfl rfl rfl ?_
    refine SP.nil ?_
    refine QE.atA ?_
    refine DA.one 3 rfl (by kernel_rfl) ?_
    refine SP.val (Val.loadArrPost (k := 0) 0 rfl Tryd.underlying3 rfl rfl rfl rfl) rfl rfl rfl ?_
    refine SP.nil ?_
    refine QE.atA ?_
    refine DA.one 4 rfl (by kernel_rfl) ?_
    refine SP.val (Val.eql rfl rfl) rfl rfl rfl ?_
    refine SP.nil ?_
    refine QE.atA ?_
    refine DA.one 5 rfl (by kernel_rfl) ?_
    refine SP.val (Val.move rfl) rfl rfl rfl ?_
    refine SP.nil ?_
    refine QE.atA ?_
    rcases if_some ho with ⟨hc, ho⟩ | ⟨hc, ho⟩
    · have hg4 := (decide_eq_true hc)
      clear hc
      refine DA.phase (fun i => Nat.ble 6 i && Nat.blt i 17) (fun w2 => St w hA hV [] [arrO b1 [] (fun z : Int => Value.int .i64 z) 4 l2 [.int .i64 a0_3] 99] w2) ?_
      refine DT.is (d := 10) (b := true) rfl hg4 ?_
      refine DT.not 6 rfl rfl rfl rfl (by kernel_rfl) (fun _ _ _ h => h) (fun w2 hw => hw) ?_
      refine DT.not 7 rfl rfl rfl rfl (by kernel_rfl) (fun _ _ _ h => h) (fun w2 hw => hw) ?_
      refine DT.not 8 rfl rfl rfl rfl (by kernel_rfl) (fun _ _ _ h => h) (fun w2 hw => hw) ?_
      refine DT.not 9 rfl rfl rfl rfl (by kernel_rfl) (fun _ _ _ h => h) (fun w2 hw => hw) ?_
      refine DT.not 10 rfl rfl rfl rfl (by kernel_rfl) (fun _ _ _ h => h) (fun w2 hw => hw) ?_
      refine DT.not 11 rfl rfl rfl rfl (by kernel_rfl) (fun _ _ _ h => h) (fun w2 hw => hw) ?_
      refine DT.not 12 rfl rfl rfl rfl (by kernel_rfl) (fun _ _ _ h => h) (fun w2 hw => hw) ?_
      refine DT.not 13 rfl rfl rfl rfl (by kernel_rfl) (fun _ _ _ h => h) (fun w2 hw => hw) ?_
      refine DT.not 14 rfl rfl rfl rfl (by kernel_rfl) (fun _ _ _ h => h) (fun w2 hw => hw) ?_
      refine DT.not 15 rfl rfl rfl rfl (by kernel_rfl) (fun _ _ _ h => h) (fun w2 hw => hw) ?_
      refine DT.not 16 rfl rfl rfl rfl (by kernel_rfl) (fun _ _ _ h => h) (fun w2 hw => hw) ?_
      refine DT.next (by kernel_rfl) ?_
      refine DA.phase (fun i => Nat.ble 17 i && Nat.blt i 18) (fun w2 => St w hA hV [] [arrO b1 [] (fun z : Int => Value.int .i64 z) 4 l2 [.int .i64 a0_3] 99] w2) ?_
      refine DT.not 17 rfl rfl rfl rfl (by kernel_rfl) (fun _ _ _ h => h) (fun w2 hw => hw) ?_
      refine DT.next (by kernel_rfl) ?_
      refine DA.one 18 rfl (by kernel_rfl) ?_
      refine SP.val (Val.pickT rfl rfl) rfl rfl rfl ?_
      refine SP.nil ?_
      refine QE.atA ?_
      refine DA.done (by kernel_rfl) ?_
      exact QE.meet fun a w2 ha hw => ⟨true, ho, ha.sub ⟨rfl, rfl, trivial⟩, hw⟩
    · have hg5 := (decide_eq_false hc)
      clear hc
      refine DA.phase (fun i => Nat.ble 6 i && Nat.blt i 17) (fun w2 => St w hA hV [] [arrO b1 [] (fun z : Int => Value.int .i64 z) 4 l2 [.int .i64 a0_3] 99] w2) ?_
      refine DT.is (d := 10) (b := false) rfl hg5 ?_
      refine DT.take 6 rfl rfl rfl rfl (by kernel_rfl) (fun _ _ _ h => h) (Val.move rfl) (fun w2 hw => hw) ?_
      refine DT.take 7 rfl rfl rfl rfl (by kernel_rfl) (fun _ _ _ h => h) (Val.move rfl) (fun w2 hw => hw) ?_
      refine DT.take 8 rfl rfl rfl rfl (by kernel_rfl) (fun _ _ _ h => h) (Val.nilCheck rfl) (fun w2 hw => hw) ?_
      refine DT.take 9 rfl rfl rfl rfl (by kernel_rfl) (fun _ _ _ h => h) (Val.fieldAddr Tryd.underlying99 rfl sz3 rfl) (fun w2 hw => hw) ?_
      refine DT.take 10 rfl rfl rfl rfl (by kernel_rfl) (fun _ _ _ h => h) (Val.loadArrPost (k := 0) 0 rfl Tryd.underlying3 rfl rfl rfl rfl) (fun w2 hw => hw) ?_
      refine DT.take 11 rfl rfl rfl rfl (by kernel_rfl) (fun _ _ _ h => h) (Val.sub rfl rfl) (fun w2 hw => hw) ?_
      refine DT.take 12 rfl rfl rfl rfl (by kernel_rfl) (fun _ _ _ h => h) (Val.nilCheck rfl) (fun w2 hw => hw) ?_
      refine DT.take 13 rfl rfl rfl rfl (by kernel_rfl) (fun _ _ _ h => h) (Val.fieldAddr Tryd.underlying99 rfl sz97 rfl) (fun w2 hw => hw) ?_
      refine DT.take 16 rfl rfl rfl rfl (by kernel_rfl) (fun _ _ _ h => h) (Val.move rfl) (fun w2 hw => hw) ?_
      refine DT.one 14 rfl (by kernel_rfl) rfl ?_
      obtain ⟨x9, hx_x9, ho⟩ := bind_some ho
      have hx_x9 := elt_some hx_x9
      refine SP.val (Val.indexArr 0 rfl Tryd.underlying97 sz3 hx_x9.1 hx_x9.2 rfl rfl rfl) rfl rfl rfl ?_
      refine SP.nil ?_
      refine QE.atT (fun w2 hw => hw) ?_
      refine DT.take 15 rfl rfl rfl rfl (by kernel_rfl) (fun _ _ _ h => h) (Val.loadArr 0 rfl Tryd.underlying3 rfl hx_x9.2 rfl rfl) (fun w2 hw => hw) ?_
      refine DT.next (by kernel_rfl) ?_
      refine DA.one 17 rfl (by kernel_rfl) ?_
      refine SP.val (Val.neq rfl rfl) rfl rfl rfl ?_
      refine SP.nil ?_
      refine QE.atA ?_
      refine DA.one 18 rfl (by kernel_rfl) ?_
      refine SP.val (Val.pickF rfl rfl) rfl rfl rfl ?_
      refine SP.nil ?_
      refine QE.atA ?_
      refine DA.done (by kernel_rfl) ?_
      exact QE.meet fun a w2 ha hw => ⟨(decide (x9 ≠ a1)), ho, ha.sub ⟨rfl, rfl, trivial⟩, hw⟩
/-! ### capstan/flow.last: function 53 -/
def flow_last.f (i_0 : api_Instr) : Option Bool :=
  some ((decide (i_0.Op = 31)) || (decide (i_0.Op = 32)))
theorem flow_last.ok (i_0 : api_Instr)  (r : Bool) (H : flow_last.f i_0 = some r) (w : World) (hV : Hp) (sV : Sub hV (hp w))  :
    Trip Tryd.prog 53 [.agg #[.int .u8 i_0.Op, .int .i64 i_0.A, .int .i64 i_0.B]].toArray em hV w (fun v => HO.pure (v = .bool r)) := by
  have see : Sees w em hV := ⟨sV, Dj.em_right _⟩
  refine Trip.of (P := Tryd.prog) (n := ⟨11, []⟩) Tryd.func53 rfl ⟨rfl, rfl⟩ rfl (St.begin (All.nil _)) ?_
  have ho := H
  refine CP.seq ?_
  refine CP.region ?_
  refine SP.box (cs := [.int .u8 i_0.Op, .int .i64 i_0.A, .int .i64 i_0.B]) rfl rfl rfl rfl (fun b1 => ?_)
  refine SP.val (Val.assign rfl) rfl rfl rfl ?_
  refine SP.nil ?_
  refine QE.then ?_
  refine CP.seq ?_
  refine CP.region ?_
  refine SP.val (Val.fieldAddr Tryd.underlying45 rfl sz5 rfl) rfl rfl rfl ?_
  refine SP.val (Val.load1 0 rfl Tryd.underlying5 rfl rfl rfl) rfl rfl rfl ?_
  refine SP.val (Val.eql rfl rfl) rfl rfl rfl ?_
  refine SP.val (Val.move rfl) rfl rfl rfl ?_
  refine SP.join 4 (fun a w2 => Env ⟨11, []⟩ [(10, .bool ((decide (i_0.Op = 31)) || (decide (i_0.Op = 32))))] a ∧ St w em hV [] [boxO b1 [.int .u8 i_0.Op, .int .i64 i_0.A, .int .i64 i_0.B] 45] w2) ?_ ?_
  · rintro a w2 ⟨ha, hw⟩
    refine SP.app ha hw ?_
    clear ha hw a w2
    refine SP.val (Val.assign rfl) rfl rfl rfl ?_
    refine SP.nil ?_
    refine QE.then ?_
    refine CP.ret ?_
    obtain rfl := Option.some.inj ho
    exact QE.rets (rs := [.tmp 2]) (vs := [.bool ((decide (i_0.Op = 31)) || (decide (i_0.Op = 32)))]) Tryd.results53 rfl ⟨RVs.tmp rfl, trivial⟩ (fun w2 h => St.done (fun a b p s => rfl) h)
  · intro J
    by_cases hc : i_0.Op = 31
    · have hq4 := (decide_eq_true hc)
      refine SP.isT (d := 6) rfl hq4 ?_
      refine SP.not rfl rfl rfl ?_
      refine SP.not rfl rfl rfl ?_
      refine SP.not rfl rfl rfl ?_
      refine SP.val (Val.pickT rfl rfl) rfl rfl rfl ?_
      exact J fun a w2 ha hw => ⟨ha.sub ⟨congrArg (fun z => some (Value.bool z)) (or_t hq4), trivial⟩, hw⟩
    · have hq4 := (decide_eq_false hc)
      refine SP.isF (d := 6) rfl hq4 ?_
      refine SP.val (Val.fieldAddr Tryd.underlying45 rfl sz5 rfl) rfl rfl rfl ?_
      refine SP.val (Val.load1 0 rfl Tryd.underlying5 rfl rfl rfl) rfl rfl rfl ?_
      refine SP.val (Val.eql rfl rfl) rfl rfl rfl ?_
      refine SP.val (Val.pickF rfl rfl) rfl rfl rfl ?_
      exact J fun a w2 ha hw => ⟨ha.sub ⟨congrArg (fun z => some (Value.bool z)) (or_f hq4 rfl), trivial⟩, hw⟩
/-! ### (capstan/flow.Loop).has: function 72 -/
def flow_Loop_has.f (x_0 : flow_Loop) (a1 : Int) : Option Bool :=
  some ((decide (a1 > x_0.From)) && (decide (a1 ≤ x_0.To)))
theorem flow_Loop_has.ok (x_0 : flow_Loop) (a1 : Int)  (r : Bool) (H : flow_Loop_has.f x_0 a1 = some r) (w : World) (hV : Hp) (sV : Sub hV (hp w))  :
    Trip Tryd.prog 72 [.agg #[.int .i64 x_0.From, .int .i64 x_0.To, .int .i64 x_0.Turns], .int .i64 a1].toArray em hV w (fun v => HO.pure (v = .bool r)) := by
  have see : Sees w em hV := ⟨sV, Dj.em_right _⟩
  refine Trip.of (P := Tryd.prog) (n := ⟨15, []⟩) Tryd.func72 rfl ⟨rfl, rfl⟩ rfl (St.begin (All.nil _)) ?_
  have ho := H
  refine CP.seq ?_
  refine CP.region ?_
  refine SP.box (cs := [.int .i64 x_0.From, .int .i64 x_0.To, .int .i64 x_0.Turns]) rfl rfl rfl rfl (fun b1 => ?_)
  refine SP.val (Val.assign rfl) rfl rfl rfl ?_
  refine SP.nil ?_
  refine QE.then ?_
  refine CP.seq ?_
  refine CP.region ?_
  refine SP.val (Val.move rfl) rfl rfl rfl ?_
  refine SP.val (Val.fieldAddr Tryd.underlying102 rfl sz3 rfl) rfl rfl rfl ?_
  refine SP.val (Val.load1 0 rfl Tryd.underlying3 rfl rfl rfl) rfl rfl rfl ?_
  refine SP.val (Val.gtr rfl rfl) rfl rfl rfl ?_
  refine SP.val (Val.move rfl) rfl rfl rfl ?_
  refine SP.join 5 (fun a w2 => Env ⟨15, []⟩ [(14, .bool ((decide (a1 > x_0.From)) && (decide (a1 ≤ x_0.To))))] a ∧ St w em hV [] [boxO b1 [.int .i64 x_0.From, .int .i64 x_0.To, .int .i64 x_0.Turns] 102] w2) ?_ ?_
  · rintro a w2 ⟨ha, hw⟩
    refine SP.app ha hw ?_
    clear ha hw a w2
    refine SP.val (Val.assign rfl) rfl rfl rfl ?_
    refine SP.nil ?_
    refine QE.then ?_
    refine CP.ret ?_
    obtain rfl := Option.some.inj ho
    exact QE.rets (rs := [.tmp 4]) (vs := [.bool ((decide (a1 > x_0.From)) && (decide (a1 ≤ x_0.To)))]) Tryd.results72 rfl ⟨RVs.tmp rfl, trivial⟩ (fun w2 h => St.done (fun a b p s => rfl) h)
  · intro J
    by_cases hc : a1 > x_0.From
    · have hq4 := (decide_eq_true hc)
      refine SP.isT (d := 9) rfl hq4 ?_
      refine SP.val (Val.move rfl) rfl rfl rfl ?_
      refine SP.val (Val.fieldAddr Tryd.underlying102 rfl sz3 rfl) rfl rfl rfl ?_
      refine SP.val (Val.load1 0 rfl Tryd.underlying3 rfl rfl rfl) rfl rfl rfl ?_
      refine SP.val (Val.leq rfl rfl) rfl rfl rfl ?_
      refine SP.val (Val.pickT rfl rfl) rfl rfl rfl ?_
      exact J fun a w2 ha hw => ⟨ha.sub ⟨congrArg (fun z => some (Value.bool z)) (and_t hq4 rfl), trivial⟩, hw⟩
    · have hq4 := (decide_eq_false hc)
      refine SP.isF (d := 9) rfl hq4 ?_
      refine SP.not rfl rfl rfl ?_
      refine SP.not rfl rfl rfl ?_
      refine SP.not rfl rfl rfl ?_
      refine SP.not rfl rfl rfl ?_
      refine SP.val (Val.pickF rfl rfl) rfl rfl rfl ?_
      exact J fun a w2 ha hw => ⟨ha.sub ⟨congrArg (fun z => some (Value.bool z)) (and_f hq4), trivial⟩, hw⟩
/-! ### capstan/flow.jumps$1: function 71 -/
def flow_jumps_1_s1.f (x_0 : flow_Loop) (c0_1 : Int) (c0_2 : Int) (c0_3 : Int) (c1_6 : Int) : Option Bool :=
  (flow_Loop_has.f x_0 c0_2).bind fun t11 => (if t11 = true then ((flow_Loop_has.f x_0 c1_6).bind fun t14 => some (!t14)) else (some false)).bind fun t15 => some t15
theorem flow_jumps_1_s1.ok (x_0 : flow_Loop) (c0_1 : Int) (c0_2 : Int) (c0_3 : Int) (c1_6 : Int) (b4 : Nat) (b7 : Nat) (r : Bool) (H : flow_jumps_1_s1.f x_0 c0_1 c0_2 c0_3 c1_6 = some r) (w : World) (hV : Hp) (sV : Sub hV (hp w)) (h0 : (boxP b4 [.int .u8 c0_1, .int .i64 c0_2, .int .i64 c0_3] 45).p hV) (h1 : (boxP b7 [.int .i64 c1_6] 3).p hV) :
    Trip Tryd.prog 71 [.agg #[.int .i64 x_0.From, .int .i64 x_0.To, .int .i64 x_0.Turns], .pointer (some ⟨b4, 0, none⟩), .pointer (some ⟨b7, 0, none⟩)].toArray em hV w (fun v => HO.pure (v = .bool r)) := by
  have see : Sees w em hV := ⟨sV, Dj.em_right _⟩
  refine Trip.of (P := Tryd.prog) (n := ⟨15, []⟩) Tryd.func71 rfl ⟨rfl, rfl⟩ rfl (St.begin (All.cons (x := boxP b4 [.int .u8 c0_1, .int .i64 c0_2, .int .i64 c0_3] 45) h0 (All.cons (x := boxP b7 [.int .i64 c1_6] 3) h1 (All.nil _)))) ?_
  have ho := H
  refine CP.seq ?_
  refine CP.region ?_
  refine SP.box (cs := [.int .i64 x_0.From, .int .i64 x_0.To, .int .i64 x_0.Turns]) rfl rfl rfl rfl (fun b9 => ?_)
  refine SP.val (Val.assign rfl) rfl rfl rfl ?_
  refine SP.nil ?_
  refine QE.then ?_
  refine CP.seq ?_
  refine CP.region ?_
  refine SP.val (Val.loadA 0 rfl Tryd.underlying102 rfl sz102 rfl rfl rfl) rfl rfl rfl ?_
  refine SP.val (Val.fieldAddr Tryd.underlying45 rfl sz3 rfl) rfl rfl rfl ?_
  refine SP.val (Val.loadB1 see 0 rfl Tryd.underlying3 rfl rfl rfl) rfl rfl rfl ?_
  obtain ⟨t11, hc, ho⟩ := bind_some (x := flow_Loop_has.f x_0 c0_2) ho
  refine SP.callV see (caps := []) (.bool t11) fn72 rfl rfl rfl rfl (fun w2 hP hs sub ap => flow_Loop_has.ok x_0 c0_2  _ hc w2 hP sub ) ?_
  clear hc
  refine SP.val (Val.move rfl) rfl rfl rfl ?_
  obtain ⟨t15, hg_t15, ho⟩ := bind_some ho
  refine SP.join 5 (fun a w2 => Env ⟨15, []⟩ [(14, .bool t15)] a ∧ St w em hV [boxP b4 [.int .u8 c0_1, .int .i64 c0_2, .int .i64 c0_3] 45, boxP b7 [.int .i64 c1_6] 3] [boxO b9 [.int .i64 x_0.From, .int .i64 x_0.To, .int .i64 x_0.Turns] 102] w2) ?_ ?_
  · rintro a w2 ⟨ha, hw⟩
    refine SP.app ha hw ?_
    clear ha hw a w2 hg_t15
    refine SP.val (Val.assign rfl) rfl rfl rfl ?_
    refine SP.nil ?_
    refine QE.then ?_
    refine CP.ret ?_
    obtain rfl := Option.some.inj ho
    exact QE.rets (rs := [.tmp 4]) (vs := [.bool t15]) Tryd.results71 rfl ⟨RVs.tmp rfl, trivial⟩ (fun w2 h => St.done (fun a b p s => rfl) h)
  · intro J
    clear ho
    have ho := hg_t15
    clear hg_t15
    rcases if_some ho with ⟨hc, ho⟩ | ⟨hc, ho⟩
    · have hq13 := hc
      refine SP.isT (d := 9) rfl hq13 ?_
      refine SP.val (Val.loadA 0 rfl Tryd.underlying102 rfl sz102 rfl rfl rfl) rfl rfl rfl ?_
      refine SP.val (Val.loadB1 see 1 rfl Tryd.underlying3 rfl rfl rfl) rfl rfl rfl ?_
      obtain ⟨t14, hc, ho⟩ := bind_some (x := flow_Loop_has.f x_0 c1_6) ho
      refine SP.callV see (caps := []) (.bool t14) fn72 rfl rfl rfl rfl (fun w2 hP hs sub ap => flow_Loop_has.ok x_0 c1_6  _ hc w2 hP sub ) ?_
      clear hc
      refine SP.val (Val.notB rfl) rfl rfl rfl ?_
      refine SP.val (Val.pickT rfl rfl) rfl rfl rfl ?_
      obtain rfl := Option.some.inj ho
      exact J fun a w2 ha hw => ⟨ha.sub ⟨rfl, trivial⟩, hw⟩
    · have hq13 := (bf hc)
      refine SP.isF (d := 9) rfl hq13 ?_
      refine SP.not rfl rfl rfl ?_
      refine SP.not rfl rfl rfl ?_
      refine SP.not rfl rfl rfl ?_
      refine SP.not rfl rfl rfl ?_
      refine SP.val (Val.pickF rfl rfl) rfl rfl rfl ?_
      obtain rfl := Option.some.inj ho
      exact J fun a w2 ha hw => ⟨ha.sub ⟨rfl, trivial⟩, hw⟩
/-! ### slices.IndexFunc[[]capstan/flow.Loop,capstan/flow.Loop]: function 84 -/
inductive slices_IndexFunc_flow_Loop_flow_Loop_s1.S where
  | start
  | l1 (x15 : Int)

def slices_IndexFunc_flow_Loop_flow_Loop_s1.F (s_0 : (List flow_Loop)) (f_1_2 : Int) (f_1_3 : Int) (f_1_4 : Int) (f_1_7 : Int) : slices_IndexFunc_flow_Loop_flow_Loop_s1.S → Option (slices_IndexFunc_flow_Loop_flow_Loop_s1.S ⊕ Int)
  | .start => some (.inl (.l1 0))
  | .l1 x15 => if x15 < (s_0.length : Int) then ((elt s_0 x15).bind fun x19 => (flow_jumps_1_s1.f x19 f_1_2 f_1_3 f_1_4 f_1_7).bind fun t20 => if t20 = true then (some (.inr x15)) else (some (.inl (.l1 (IntKind.i64.wrap (x15 + 1)))))) else (some (.inr (-1)))

def slices_IndexFunc_flow_Loop_flow_Loop_s1.f (s_0 : (List flow_Loop)) (f_1_2 : Int) (f_1_3 : Int) (f_1_4 : Int) (f_1_7 : Int) : Option Int := runF (slices_IndexFunc_flow_Loop_flow_Loop_s1.F s_0 f_1_2 f_1_3 f_1_4 f_1_7) .start
theorem slices_IndexFunc_flow_Loop_flow_Loop_s1.ok (s_0 : (List flow_Loop)) (f_1_2 : Int) (f_1_3 : Int) (f_1_4 : Int) (f_1_7 : Int) (v_s_0 : Value) (b5 : Nat) (b8 : Nat) (r : Int) (H : slices_IndexFunc_flow_Loop_flow_Loop_s1.f s_0 f_1_2 f_1_3 f_1_4 f_1_7 = some r) (w : World) (hV : Hp) (sV : Sub hV (hp w)) (h0 : slR k_flow_Loop hV v_s_0 s_0) (h1 : (boxP b5 [.int .u8 f_1_2, .int .i64 f_1_3, .int .i64 f_1_4] 45).p hV) (h2 : (boxP b8 [.int .i64 f_1_7] 3).p hV) :
    Trip Tryd.prog 84 [v_s_0, .func (.func 71) #[] #[.pointer (some ⟨b5, 0, none⟩), .pointer (some ⟨b8, 0, none⟩)]].toArray em hV w (fun v => HO.pure (v = .int .i64 r)) := by
  have see : Sees w em hV := ⟨sV, Dj.em_right _⟩
  refine Trip.of (P := Tryd.prog) (n := ⟨19, []⟩) Tryd.func84 rfl ⟨rfl, rfl⟩ rfl (St.begin (All.cons (x := slP k_flow_Loop v_s_0 s_0) h0 (All.cons (x := boxP b5 [.int .u8 f_1_2, .int .i64 f_1_3, .int .i64 f_1_4] 45) h1 (All.cons (x := boxP b8 [.int .i64 f_1_7] 3) h2 (All.nil _))))) ?_
  obtain ⟨n0, hi⟩ := runF_iff.1 H
  obtain ⟨m0, o, hm0, ho, hr⟩ := iter_some hi
  clear hi
  refine CP.seq ?_
  refine CP.region ?_
  refine SP.val (Val.assign rfl) rfl rfl rfl ?_
  refine SP.nil ?_
  refine QE.then ?_
  refine CP.seq ?_
  refine CP.seq ?_
  refine CP.region ?_
  refine SP.val (Val.move rfl) rfl rfl rfl ?_
  refine SP.val (Val.lenP see 0 rfl Tryd.underlying84 rfl) rfl rfl rfl ?_
  refine SP.val (Val.move rfl) rfl rfl rfl ?_
  refine SP.nil ?_
  refine QE.then ?_
  refine CP.block ?_
  obtain rfl := Option.some.inj ho
  refine CP.loop (fun cl1 a w2 => ∃ x15 : Int, cl1 ≤ m0 ∧ iter (slices_IndexFunc_flow_Loop_flow_Loop_s1.F s_0 f_1_2 f_1_3 f_1_4 f_1_7) cl1 (.l1 x15) = some r ∧ Env ⟨19, []⟩ [(0, v_s_0), (1, .func (.func 71) #[] #[.pointer (some ⟨b5, 0, none⟩), .pointer (some ⟨b8, 0, none⟩)]), (7, .int .i64 (s_0.length : Int)), (8, .int .i64 x15)] a ∧ St w em hV [slP k_flow_Loop v_s_0 s_0, boxP b5 [.int .u8 f_1_2, .int .i64 f_1_3, .int .i64 f_1_4] 45, boxP b8 [.int .i64 f_1_7] 3] [] w2) m0 (fun a w2 ha hw => ⟨0, Nat.le_refl _, hr, ha.sub ⟨rfl, rfl, rfl, rfl, trivial⟩, hw⟩) ?_
  clear hr
  rintro cl1 a w2 ⟨x15, hc_l1, hi, ha, hw⟩
  obtain ⟨m16, o, hm_m16, ho, hr⟩ := iter_some hi
  refine CP.app ha hw ?_
  clear ha hw a w2 hi
  refine CP.seq ?_
  refine CP.region ?_
  refine SP.val (Val.lss rfl rfl) rfl rfl rfl ?_
  refine SP.nil ?_
  refine QE.then ?_
  refine CP.seq ?_
  rcases if_some ho with ⟨hc, ho⟩ | ⟨hc, ho⟩
  · refine CP.condT rfl (decide_eq_true hc) ?_
    refine CP.skip ?_
    refine QE.then ?_
    refine CP.seq ?_
    refine CP.block ?_
    refine CP.seq ?_
    refine CP.region ?_
    refine SP.val (Val.move rfl) rfl rfl rfl ?_
    refine SP.val (Val.assign rfl) rfl rfl rfl ?_
    refine SP.nil ?_
    refine QE.then ?_
    refine CP.seq ?_
    refine CP.region ?_
    refine SP.val (Val.move rfl) rfl rfl rfl ?_
    refine SP.val (Val.move rfl) rfl rfl rfl ?_
    refine SP.val (Val.move rfl) rfl rfl rfl ?_
    obtain ⟨x19, hx, ho⟩ := bind_some ho
    have hx := elt_some hx
    refine SP.indexP see 0 rfl Tryd.underlying84 sz102 hx.1 hx.2 rfl rfl rfl rfl (fun p17 => ?_)
    clear hx
    refine k_flow_Loop.load see 0 rfl Tryd.underlying102 rfl sz102 rfl rfl rfl ?_
    obtain ⟨t20, hc, ho⟩ := bind_some (x := flow_jumps_1_s1.f x19 f_1_2 f_1_3 f_1_4 f_1_7) ho
    refine SP.callV see (caps := [.pointer (some ⟨b5, 0, none⟩), .pointer (some ⟨b8, 0, none⟩)]) (.bool t20) fn71 rfl rfl rfl rfl (fun w2 hP hs sub ap => flow_jumps_1_s1.ok x19 f_1_2 f_1_3 f_1_4 f_1_7 _ _ _ hc w2 hP sub (ap.get 2 rfl) (ap.get 3 rfl)) ?_
    clear hc
    refine SP.nil ?_
    refine QE.then ?_
    rcases if_some ho with ⟨hc, ho⟩ | ⟨hc, ho⟩
    · refine CP.condT rfl hc ?_
      refine CP.seq ?_
      refine CP.region ?_
      refine SP.val (Val.move rfl) rfl rfl rfl ?_
      refine SP.val (Val.assign rfl) rfl rfl rfl ?_
      refine SP.nil ?_
      refine QE.then ?_
      refine CP.ret ?_
      refine QE.blockR ?_
      refine QE.thru (by intro e; cases e) ?_
      refine QE.thru (by intro e; cases e) ?_
      refine QE.blockR ?_
      refine QE.thru (by intro e; cases e) ?_
      obtain rfl := Option.some.inj ho
      obtain rfl := Option.some.inj hr
      exact QE.rets (rs := [.tmp 4]) (vs := [.int .i64 x15]) Tryd.results84 rfl ⟨RVs.tmp rfl, trivial⟩ (fun w2 h => St.done (fun a b p s => rfl) h)
    · refine CP.condF rfl (bf hc) ?_
      refine CP.skip ?_
      refine QE.blockN ?_
      refine QE.then ?_
      refine CP.region ?_
      refine SP.val (Val.add rfl rfl) rfl rfl rfl ?_
      refine SP.val (Val.move rfl) rfl rfl rfl ?_
      refine SP.nil ?_
      obtain rfl := Option.some.inj ho
      exact QE.lower m16 (by omega) fun a w2 ha hw => ⟨(IntKind.i64.wrap (x15 + 1)), (by omega), hr, ha.sub ⟨rfl, rfl, rfl, rfl, trivial⟩, (St.selP [1, 2, 3] rfl hw)⟩
  · refine CP.condF rfl (decide_eq_false hc) ?_
    refine CP.exit ?_
    refine QE.thru (by intro e; cases e) ?_
    refine QE.thru (by intro e; cases e) ?_
    refine QE.blockE ?_
    refine QE.then ?_
    refine CP.seq ?_
    refine CP.region ?_
    refine SP.val (Val.assign rfl) rfl rfl rfl ?_
    refine SP.nil ?_
    refine QE.then ?_
    refine CP.ret ?_
    obtain rfl := Option.some.inj ho
    obtain rfl := Option.some.inj hr
    exact QE.rets (rs := [.tmp 4]) (vs := [.int .i64 (-1)]) Tryd.results84 rfl ⟨RVs.tmp rfl, trivial⟩ (fun w2 h => St.done (fun a b p s => rfl) h)
/-! ### slices.ContainsFunc[[]capstan/flow.Loop,capstan/flow.Loop]: function 73 -/
def slices_ContainsFunc_flow_Loop_flow_Loop_s1.f (s_0 : (List flow_Loop)) (f_1_2 : Int) (f_1_3 : Int) (f_1_4 : Int) (f_1_7 : Int) : Option Bool :=
  (slices_IndexFunc_flow_Loop_flow_Loop_s1.f s_0 f_1_2 f_1_3 f_1_4 f_1_7).bind fun t10 => some (decide (t10 ≥ 0))
theorem slices_ContainsFunc_flow_Loop_flow_Loop_s1.ok (s_0 : (List flow_Loop)) (f_1_2 : Int) (f_1_3 : Int) (f_1_4 : Int) (f_1_7 : Int) (v_s_0 : Value) (b5 : Nat) (b8 : Nat) (r : Bool) (H : slices_ContainsFunc_flow_Loop_flow_Loop_s1.f s_0 f_1_2 f_1_3 f_1_4 f_1_7 = some r) (w : World) (hV : Hp) (sV : Sub hV (hp w)) (h0 : slR k_flow_Loop hV v_s_0 s_0) (h1 : (boxP b5 [.int .u8 f_1_2, .int .i64 f_1_3, .int .i64 f_1_4] 45).p hV) (h2 : (boxP b8 [.int .i64 f_1_7] 3).p hV) :
    Trip Tryd.prog 73 [v_s_0, .func (.func 71) #[] #[.pointer (some ⟨b5, 0, none⟩), .pointer (some ⟨b8, 0, none⟩)]].toArray em hV w (fun v => HO.pure (v = .bool r)) := by
  have see : Sees w em hV := ⟨sV, Dj.em_right _⟩
  refine Trip.of (P := Tryd.prog) (n := ⟨9, []⟩) Tryd.func73 rfl ⟨rfl, rfl⟩ rfl (St.begin (All.cons (x := slP k_flow_Loop v_s_0 s_0) h0 (All.cons (x := boxP b5 [.int .u8 f_1_2, .int .i64 f_1_3, .int .i64 f_1_4] 45) h1 (All.cons (x := boxP b8 [.int .i64 f_1_7] 3) h2 (All.nil _))))) ?_
  have ho := H
  refine CP.seq ?_
  refine CP.region ?_
  refine SP.val (Val.assign rfl) rfl rfl rfl ?_
  refine SP.nil ?_
  refine QE.then ?_
  refine CP.seq ?_
  refine CP.region ?_
  refine SP.val (Val.move rfl) rfl rfl rfl ?_
  refine SP.val (Val.move rfl) rfl rfl rfl ?_
  obtain ⟨t10, hc, ho⟩ := bind_some (x := slices_IndexFunc_flow_Loop_flow_Loop_s1.f s_0 f_1_2 f_1_3 f_1_4 f_1_7) ho
  refine SP.callV see (caps := []) (.int .i64 t10) fn84 rfl rfl rfl rfl (fun w2 hP hs sub ap => slices_IndexFunc_flow_Loop_flow_Loop_s1.ok s_0 f_1_2 f_1_3 f_1_4 f_1_7 _ _ _ _ hc w2 hP sub (ap.get 0 rfl) (ap.get 1 rfl) (ap.get 2 rfl)) ?_
  clear hc
  refine SP.val (Val.geq rfl rfl) rfl rfl rfl ?_
  refine SP.val (Val.assign rfl) rfl rfl rfl ?_
  refine SP.nil ?_
  refine QE.then ?_
  refine CP.ret ?_
  obtain rfl := Option.some.inj ho
  exact QE.rets (rs := [.tmp 4]) (vs := [.bool (decide (t10 ≥ 0))]) Tryd.results73 rfl ⟨RVs.tmp rfl, trivial⟩ (fun w2 h => St.done (fun a b p s => rfl) h)
/-! ### capstan/flow.jumps: function 54 -/
inductive flow_jumps.S where
  | start
  | l1 (x27 : Int)

def flow_jumps.j1 (l_0 : (List api_Instr)) (loops_1 : (List flow_Loop)) (x27 : Int) : Option (flow_jumps.S ⊕ Bool) :=
  some (.inl (.l1 (IntKind.i64.wrap (x27 + 1))))

def flow_jumps.F (l_0 : (List api_Instr)) (loops_1 : (List flow_Loop)) : flow_jumps.S → Option (flow_jumps.S ⊕ Bool)
  | .start => some (.inl (.l1 0))
  | .l1 x27 => if x27 < (l_0.length : Int) then ((elt l_0 x27).bind fun x31 => if ((decide (x31.Op ≠ 26)) && (decide (x31.Op ≠ 27))) = true then (flow_jumps.j1 l_0 loops_1 x27) else ((if ((decide (x31.A ≤ x27)) || (decide (x31.A ≥ (l_0.length : Int)))) = true then (some true) else ((slices_ContainsFunc_flow_Loop_flow_Loop_s1.f loops_1 x31.Op x31.A x31.B x27).bind fun t49 => some t49)).bind fun t50 => if t50 = true then (some (.inr false)) else (flow_jumps.j1 l_0 loops_1 x27))) else (some (.inr true))

def flow_jumps.f (l_0 : (List api_Instr)) (loops_1 : (List flow_Loop)) : Option Bool := runF (flow_jumps.F l_0 loops_1) .start
theorem flow_jumps.ok (l_0 : (List api_Instr)) (loops_1 : (List flow_Loop)) (v_l_0 : Value) (v_loops_1 : Value) (r : Bool) (H : flow_jumps.f l_0 loops_1 = some r) (w : World) (hV : Hp) (sV : Sub hV (hp w)) (h0 : slR k_api_Instr hV v_l_0 l_0) (h1 : slR k_flow_Loop hV v_loops_1 loops_1) :
    Trip Tryd.prog 54 [v_l_0, v_loops_1].toArray em hV w (fun v => HO.pure (v = .bool r)) := by
  have see : Sees w em hV := ⟨sV, Dj.em_right _⟩
  refine Trip.of (P := Tryd.prog) (n := ⟨41, []⟩) Tryd.func54 rfl ⟨rfl, rfl⟩ rfl (St.begin (All.cons (x := slP k_api_Instr v_l_0 l_0) h0 (All.cons (x := slP k_flow_Loop v_loops_1 loops_1) h1 (All.nil _)))) ?_
  obtain ⟨n0, hi⟩ := runF_iff.1 H
  obtain ⟨m0, o, hm0, ho, hr⟩ := iter_some hi
  clear hi
  refine CP.seq ?_
  refine CP.region ?_
  refine SP.val (Val.assign rfl) rfl rfl rfl ?_
  refine SP.nil ?_
  refine QE.then ?_
  refine CP.seq ?_
  refine CP.seq ?_
  refine CP.region ?_
  refine SP.val (Val.move rfl) rfl rfl rfl ?_
  refine SP.val (Val.lenP see 0 rfl Tryd.underlying34 rfl) rfl rfl rfl ?_
  refine SP.val (Val.move rfl) rfl rfl rfl ?_
  refine SP.nil ?_
  refine QE.then ?_
  refine CP.block ?_
  obtain rfl := Option.some.inj ho
  refine CP.loop (fun cl1 a w2 => ∃ x27 : Int, cl1 ≤ m0 ∧ iter (flow_jumps.F l_0 loops_1) cl1 (.l1 x27) = some r ∧ Env ⟨41, []⟩ [(0, v_l_0), (1, v_loops_1), (8, v_l_0), (9, .int .i64 (l_0.length : Int)), (10, .int .i64 x27)] a ∧ St w em hV [slP k_api_Instr v_l_0 l_0, slP k_flow_Loop v_loops_1 loops_1] [] w2) m0 (fun a w2 ha hw => ⟨0, Nat.le_refl _, hr, ha.sub ⟨rfl, rfl, rfl, rfl, rfl, trivial⟩, hw⟩) ?_
  clear hr
  rintro cl1 a w2 ⟨x27, hc_l1, hi, ha, hw⟩
  obtain ⟨m28, o, hm_m28, ho, hr⟩ := iter_some hi
  refine CP.app ha hw ?_
  clear ha hw a w2 hi
  refine CP.seq ?_
  refine CP.region ?_
  refine SP.val (Val.lss rfl rfl) rfl rfl rfl ?_
  refine SP.nil ?_
  refine QE.then ?_
  refine CP.seq ?_
  rcases if_some ho with ⟨hc, ho⟩ | ⟨hc, ho⟩
  · refine CP.condT rfl (decide_eq_true hc) ?_
    refine CP.skip ?_
    refine QE.then ?_
    refine CP.join (fun a w2 => ∃ (m51 : Nat) (o : (flow_jumps.S ⊕ Bool)), m51 ≤ m28 ∧ flow_jumps.j1 l_0 loops_1 x27 = some o ∧ next (flow_jumps.F l_0 loops_1) m51 o = some r ∧ Env ⟨41, []⟩ [(0, v_l_0), (1, v_loops_1), (8, v_l_0), (9, .int .i64 (l_0.length : Int)), (10, .int .i64 x27)] a ∧ St w em hV [slP k_api_Instr v_l_0 l_0, slP k_flow_Loop v_loops_1 loops_1] [] w2) ?_ ?_
    · rintro a w2 ⟨m51, o, hm_m51, ho, hr, ha, hw⟩
      refine CP.app ha hw ?_
      clear ha hw a w2
      refine CP.region ?_
      refine SP.val (Val.add rfl rfl) rfl rfl rfl ?_
      refine SP.val (Val.move rfl) rfl rfl rfl ?_
      refine SP.nil ?_
      obtain rfl := Option.some.inj ho
      exact QE.lower m51 (by omega) fun a w2 ha hw => ⟨(IntKind.i64.wrap (x27 + 1)), (by omega), hr, ha.sub ⟨rfl, rfl, rfl, rfl, rfl, trivial⟩, hw⟩
    · refine CP.block ?_
      refine CP.seq ?_
      refine CP.region ?_
      refine SP.val (Val.move rfl) rfl rfl rfl ?_
      obtain ⟨x31, hx, ho⟩ := bind_some ho
      have hx := elt_some hx
      refine SP.indexP see 0 rfl Tryd.underlying34 sz45 hx.1 hx.2 rfl rfl rfl rfl (fun p29 => ?_)
      clear hx
      refine k_api_Instr.load see 0 rfl Tryd.underlying45 rfl sz45 rfl rfl rfl ?_
      refine SP.alloc (cs := [.int .i64 0]) inf3 rfl rfl (fun b32 => ?_)
      refine SP.alloc (cs := [.int .u8 0, .int .i64 0, .int .i64 0]) inf45 rfl rfl (fun b34 => ?_)
      refine SP.store (v := .int .i64 x27) (vs := [.int .i64 x27]) 1 (by rfl) sz3 (by rfl) (by rfl) (by rfl) (by rfl) (by rfl) (by rfl) ?_
      refine SP.store (v := .agg #[.int .u8 x31.Op, .int .i64 x31.A, .int .i64 x31.B]) (vs := [.int .u8 x31.Op, .int .i64 x31.A, .int .i64 x31.B]) 0 (by rfl) sz45 (by rfl) (by rfl) (by rfl) (by rfl) (by rfl) (by rfl) ?_
      refine SP.nil ?_
      refine QE.then ?_
      refine CP.seq ?_
      refine CP.seq ?_
      refine CP.region ?_
      refine SP.val (Val.fieldAddr Tryd.underlying45 rfl sz5 rfl) rfl rfl rfl ?_
      refine SP.val (Val.load1 0 rfl Tryd.underlying5 rfl rfl rfl) rfl rfl rfl ?_
      refine SP.val (Val.neq rfl rfl) rfl rfl rfl ?_
      refine SP.val (Val.move rfl) rfl rfl rfl ?_
      refine SP.join 4 (fun a w2 => Env ⟨41, []⟩ [(0, v_l_0), (1, v_loops_1), (8, v_l_0), (9, .int .i64 (l_0.length : Int)), (10, .int .i64 x27), (5, .pointer (some ⟨b32, 0, none⟩)), (6, .pointer (some ⟨b34, 0, none⟩)), (22, .bool ((decide (x31.Op ≠ 26)) && (decide (x31.Op ≠ 27))))] a ∧ St w em hV [elP k_api_Instr p29 x31, slP k_api_Instr v_l_0 l_0, slP k_flow_Loop v_loops_1 loops_1] [boxO b34 [.int .u8 x31.Op, .int .i64 x31.A, .int .i64 x31.B] 45, boxO b32 [.int .i64 x27] 3] w2) ?_ ?_
      · rintro a w2 ⟨ha, hw⟩
        refine SP.app ha hw ?_
        clear ha hw a w2
        refine SP.nil ?_
        refine QE.then ?_
        rcases if_some ho with ⟨hc, ho⟩ | ⟨hc, ho⟩
        · refine CP.condT rfl hc ?_
          refine CP.exit ?_
          refine QE.thru (by intro e; cases e) ?_
          refine QE.blockE ?_
          exact QE.meet fun a w2 ha hw => ⟨m28, _, (by omega), ho, hr, ha.sub ⟨rfl, rfl, rfl, rfl, rfl, trivial⟩, (St.selP [1, 2] rfl (St.selO [] rfl rfl hw))⟩
        · refine CP.condF rfl (bf hc) ?_
          refine CP.skip ?_
          refine QE.then ?_
          refine CP.seq ?_
          refine CP.region ?_
          refine SP.val (Val.makeFunc (us := []) (vs := [.pointer (some ⟨b34, 0, none⟩), .pointer (some ⟨b32, 0, none⟩)]) rfl rfl) rfl rfl rfl ?_
          refine SP.val (Val.assign rfl) rfl rfl rfl ?_
          refine SP.nil ?_
          refine QE.then ?_
          refine CP.seq ?_
          refine CP.region ?_
          refine SP.val (Val.fieldAddr Tryd.underlying45 rfl sz3 rfl) rfl rfl rfl ?_
          refine SP.val (Val.load1 0 rfl Tryd.underlying3 rfl rfl rfl) rfl rfl rfl ?_
          refine SP.val (Val.load1 1 rfl Tryd.underlying3 rfl rfl rfl) rfl rfl rfl ?_
          refine SP.val (Val.leq rfl rfl) rfl rfl rfl ?_
          refine SP.val (Val.move rfl) rfl rfl rfl ?_
          refine SP.join 6 (fun a w2 => Env ⟨41, []⟩ [(0, v_l_0), (1, v_loops_1), (8, v_l_0), (9, .int .i64 (l_0.length : Int)), (10, .int .i64 x27), (7, .func (.func 71) #[] #[.pointer (some ⟨b34, 0, none⟩), .pointer (some ⟨b32, 0, none⟩)]), (34, .bool ((decide (x31.A ≤ x27)) || (decide (x31.A ≥ (l_0.length : Int)))))] a ∧ St w em hV [elP k_api_Instr p29 x31, slP k_api_Instr v_l_0 l_0, slP k_flow_Loop v_loops_1 loops_1] [boxO b34 [.int .u8 x31.Op, .int .i64 x31.A, .int .i64 x31.B] 45, boxO b32 [.int .i64 x27] 3] w2) ?_ ?_
          · rintro a w2 ⟨ha, hw⟩
            refine SP.app ha hw ?_
            clear ha hw a w2
            refine SP.val (Val.move rfl) rfl rfl rfl ?_
            refine SP.freezeB see 0 rfl ?_
            refine SP.freezeB see 0 rfl ?_
            obtain ⟨t50, hg_t50, ho⟩ := bind_some ho
            refine SP.join 4 (fun a w2 => Env ⟨41, []⟩ [(0, v_l_0), (1, v_loops_1), (8, v_l_0), (9, .int .i64 (l_0.length : Int)), (10, .int .i64 x27), (39, .bool t50)] a ∧ St w em hV [boxP b32 [.int .i64 x27] 3, boxP b34 [.int .u8 x31.Op, .int .i64 x31.A, .int .i64 x31.B] 45, elP k_api_Instr p29 x31, slP k_api_Instr v_l_0 l_0, slP k_flow_Loop v_loops_1 loops_1] [] w2) ?_ ?_
            · rintro a w2 ⟨ha, hw⟩
              refine SP.app ha hw ?_
              clear ha hw a w2 hg_t50
              refine SP.nil ?_
              refine QE.then ?_
              rcases if_some ho with ⟨hc, ho⟩ | ⟨hc, ho⟩
              · refine CP.condT rfl hc ?_
                refine CP.seq ?_
                refine CP.region ?_
                refine SP.val (Val.assign rfl) rfl rfl rfl ?_
                refine SP.nil ?_
                refine QE.then ?_
                refine CP.ret ?_
                refine QE.blockR ?_
                refine QE.thru (by intro e; cases e) ?_
                refine QE.thru (by intro e; cases e) ?_
                refine QE.blockR ?_
                refine QE.thru (by intro e; cases e) ?_
                obtain rfl := Option.some.inj ho
                obtain rfl := Option.some.inj hr
                exact QE.rets (rs := [.tmp 4]) (vs := [.bool false]) Tryd.results54 rfl ⟨RVs.tmp rfl, trivial⟩ (fun w2 h => St.done (fun a b p s => rfl) h)
              · refine CP.condF rfl (bf hc) ?_
                refine CP.skip ?_
                refine QE.blockN ?_
                exact QE.meet fun a w2 ha hw => ⟨m28, _, (by omega), ho, hr, ha.sub ⟨rfl, rfl, rfl, rfl, rfl, trivial⟩, (St.selP [3, 4] rfl hw)⟩
            · intro J
              clear ho
              have ho := hg_t50
              clear hg_t50
              rcases if_some ho with ⟨hc, ho⟩ | ⟨hc, ho⟩
              · have hq48 := hc
                refine SP.isT (d := 35) rfl hq48 ?_
                refine SP.not rfl rfl rfl ?_
                refine SP.not rfl rfl rfl ?_
                refine SP.not rfl rfl rfl ?_
                refine SP.val (Val.pickT rfl rfl) rfl rfl rfl ?_
                obtain rfl := Option.some.inj ho
                exact J fun a w2 ha hw => ⟨ha.sub ⟨rfl, rfl, rfl, rfl, rfl, rfl, trivial⟩, hw⟩
              · have hq48 := (bf hc)
                refine SP.isF (d := 35) rfl hq48 ?_
                refine SP.val (Val.move rfl) rfl rfl rfl ?_
                refine SP.val (Val.move rfl) rfl rfl rfl ?_
                obtain ⟨t49, hc, ho⟩ := bind_some (x := slices_ContainsFunc_flow_Loop_flow_Loop_s1.f loops_1 x31.Op x31.A x31.B x27) ho
                refine SP.callV see (caps := []) (.bool t49) fn73 rfl rfl rfl rfl (fun w2 hP hs sub ap => slices_ContainsFunc_flow_Loop_flow_Loop_s1.ok loops_1 x31.Op x31.A x31.B x27 _ _ _ _ hc w2 hP sub (ap.get 4 rfl) (ap.get 1 rfl) (ap.get 0 rfl)) ?_
                clear hc
                refine SP.val (Val.pickF rfl rfl) rfl rfl rfl ?_
                obtain rfl := Option.some.inj ho
                exact J fun a w2 ha hw => ⟨ha.sub ⟨rfl, rfl, rfl, rfl, rfl, rfl, trivial⟩, hw⟩
          · intro J
            by_cases hc : x31.A ≤ x27
            · have hq39 := (decide_eq_true hc)
              refine SP.isT (d := 28) rfl hq39 ?_
              refine SP.not rfl rfl rfl ?_
              refine SP.not rfl rfl rfl ?_
              refine SP.not rfl rfl rfl ?_
              refine SP.not rfl rfl rfl ?_
              refine SP.not rfl rfl rfl ?_
              refine SP.val (Val.pickT rfl rfl) rfl rfl rfl ?_
              exact J fun a w2 ha hw => ⟨ha.sub ⟨rfl, rfl, rfl, rfl, rfl, rfl, congrArg (fun z => some (Value.bool z)) (or_t hq39), trivial⟩, hw⟩
            · have hq39 := (decide_eq_false hc)
              refine SP.isF (d := 28) rfl hq39 ?_
              refine SP.val (Val.fieldAddr Tryd.underlying45 rfl sz3 rfl) rfl rfl rfl ?_
              refine SP.val (Val.load1 0 rfl Tryd.underlying3 rfl rfl rfl) rfl rfl rfl ?_
              refine SP.val (Val.move rfl) rfl rfl rfl ?_
              refine SP.val (Val.lenP see 1 rfl Tryd.underlying34 rfl) rfl rfl rfl ?_
              refine SP.val (Val.geq rfl rfl) rfl rfl rfl ?_
              refine SP.val (Val.pickF rfl rfl) rfl rfl rfl ?_
              exact J fun a w2 ha hw => ⟨ha.sub ⟨rfl, rfl, rfl, rfl, rfl, rfl, congrArg (fun z => some (Value.bool z)) (or_f hq39 rfl), trivial⟩, hw⟩
      · intro J
        by_cases hc : x31.Op ≠ 26
        · have hq37 := (decide_eq_true hc)
          refine SP.isT (d := 18) rfl hq37 ?_
          refine SP.val (Val.fieldAddr Tryd.underlying45 rfl sz5 rfl) rfl rfl rfl ?_
          refine SP.val (Val.load1 0 rfl Tryd.underlying5 rfl rfl rfl) rfl rfl rfl ?_
          refine SP.val (Val.neq rfl rfl) rfl rfl rfl ?_
          refine SP.val (Val.pickT rfl rfl) rfl rfl rfl ?_
          exact J fun a w2 ha hw => ⟨ha.sub ⟨rfl, rfl, rfl, rfl, rfl, rfl, rfl, congrArg (fun z => some (Value.bool z)) (and_t hq37 rfl), trivial⟩, hw⟩
        · have hq37 := (decide_eq_false hc)
          refine SP.isF (d := 18) rfl hq37 ?_
          refine SP.not rfl rfl rfl ?_
          refine SP.not rfl rfl rfl ?_
          refine SP.not rfl rfl rfl ?_
          refine SP.val (Val.pickF rfl rfl) rfl rfl rfl ?_
          exact J fun a w2 ha hw => ⟨ha.sub ⟨rfl, rfl, rfl, rfl, rfl, rfl, rfl, congrArg (fun z => some (Value.bool z)) (and_f hq37), trivial⟩, hw⟩
  · refine CP.condF rfl (decide_eq_false hc) ?_
    refine CP.exit ?_
    refine QE.thru (by intro e; cases e) ?_
    refine QE.thru (by intro e; cases e) ?_
    refine QE.blockE ?_
    refine QE.then ?_
    refine CP.seq ?_
    refine CP.region ?_
    refine SP.val (Val.assign rfl) rfl rfl rfl ?_
    refine SP.nil ?_
    refine QE.then ?_
    refine CP.ret ?_
    obtain rfl := Option.some.inj ho
    obtain rfl := Option.some.inj hr
    exact QE.rets (rs := [.tmp 4]) (vs := [.bool true]) Tryd.results54 rfl ⟨RVs.tmp rfl, trivial⟩ (fun w2 h => St.done (fun a b p s => rfl) h)
/-! ### slices.SortFunc[[]capstan/flow.Loop,capstan/flow.Loop]: function 55 -/
shelf_lay_g SlLaysF0.n6 Slsf 6 at Tryd 55 as Tryd.sort55
shelf_lay_g SlLaysC2.n5 Slgc 5 at Tryd 57 as Tryd.cmp57
shelf_lay Lays.n125 Nm 125 at Tryd as Tryd.bitsLen48
instance : Inhabited flow_Loop := ⟨flow_Loop.zero⟩
def enc55 (x : flow_Loop) : List Value := [.int .i64 x.From, .int .i64 x.To, .int .i64 x.Turns]
def cf55 (x y : flow_Loop) : Int := Lib.compareInt x.From y.From
theorem lt55 (x y : flow_Loop) : Go.Proofs.ltOf cf55 x y = decide (x.From < y.From) := by
  unfold Go.Proofs.ltOf cf55 Lib.compareInt
  by_cases h1 : x.From < y.From
  · simp [h1]
  · by_cases h2 : y.From < x.From <;> simp [h1, h2]
theorem swo55 : Go.Sort.SWO (Go.Proofs.ltOf cf55) where
  irrefl x := by rw [lt55]; simp
  trans x y z h1 h2 := by rw [lt55] at *; simp at *; omega
  ntrans x y z h1 h2 := by rw [lt55] at *; simp at *; omega
set_option maxHeartbeats 1000000 in
theorem clos55 (x y : flow_Loop) (W : World) : Calls Tryd.prog 56 #[.agg (enc55 x).toArray, .agg (enc55 y).toArray] W fun e w' => e = .returned (.int .i64 (cf55 x y)) ∧ ∃ q os', w' = Go.Sort.grow (W.drewN q) os' := by
  have hcon := fun W' => Go.Proofs.AnyG.cmp_Compare_int Tryd.cmp57 x.From y.From W'
  change ∀ W', Calls Tryd.prog 57 _ _ _ at hcon
  unfold cf55 enc55
  generalize Lib.compareInt x.From y.From = r at hcon ⊢
  go_enter Tryd.func56, Tryd.ntmps56
  go_wp2_with (go_at_call 57; refine (hcon _).mono ?_; rintro e w' ⟨rfl, rfl⟩)
  go_ret
  exact ⟨rfl, 0, _, by rw [Go.Sort.alloc_eq_grow, Go.Sort.alloc_eq_grow, Go.Sort.grow_grow]; rfl⟩
/-- The library's sort, of a plain row. -/
def srt55 (d : Array flow_Loop) : Array flow_Loop := Go.Sort.pdq (Go.Proofs.ltOf cf55) d 0 d.size (Lib.bitLen d.size) true true
theorem srt55_sorts (d : Array flow_Loop) : Go.Sort.PermIn 0 d.size d (srt55 d) ∧ Go.Sort.SortedIn (Go.Proofs.ltOf cf55) 0 d.size (srt55 d) :=
  Go.Sort.pdq_sorts (Go.Proofs.ltOf cf55) swo55 d 0 d.size (Lib.bitLen d.size) true true (Nat.zero_le _) (Nat.le_refl _) (Or.inl rfl)
theorem ins55_nil (F : Value) (w : World) : Calls Tryd.prog 85 #[.slice none 0 0, .int .i64 0, .int .i64 0, F] w fun e w' => e = .returned (.tuple #[]) ∧ w' = w := by
  go_enter Tryd.func85, Tryd.ntmps85
  go_wp2
  refine wp_loop_rounds 1 ?_
  rw [rounds_succ]
  go_wp2
  go_end0
  exact ⟨rfl, rfl⟩
theorem pdq55_nil (F : Value) (w : World) : Calls Tryd.prog 74 #[.slice none 0 0, .int .i64 0, .int .i64 0, .int .i64 0, F] w fun e w' => e = .returned (.tuple #[]) ∧ w' = w := by
  have hi := ins55_nil F w
  go_enter Tryd.func74, Tryd.ntmps74
  go_wp2
  refine wp_loop_rounds 1 ?_
  rw [rounds_succ]
  go_wp2_with (go_at_call 85; refine hi.mono ?_; rintro e w' ⟨rfl, rfl⟩)
  (try simp only [Exit.inBlock, Exit.then]); refine bodyPost_ret (results_none rfl _ _ _) rfl ?_
  exact ⟨rfl, rfl⟩
theorem srt55_nil (F : Value) (w : World) : Calls Tryd.prog 55 #[.slice none 0 0, F] w fun e w' => e = .returned (.tuple #[]) ∧ w' = w := by
  have hi := pdq55_nil F w
  have hl : Calls Tryd.prog 48 #[.int .u64 0] w fun e w' => e = .returned (.int .i64 0) ∧ w' = w := by
    have h := Any.bits_Len Tryd.bitsLen48 0 w (by omega) (by omega)
    exact h
  go_enter Tryd.func55, Tryd.ntmps55
  go_wp2_with (first | (go_at_call 48; refine hl.mono ?_; rintro e w' ⟨rfl, rfl⟩) | (go_at_call 74; refine hi.mono ?_; rintro e w' ⟨rfl, rfl⟩))
  go_end0
  exact ⟨rfl, rfl⟩
theorem srt55_nilT (F : Value) (w : World) (hV : Hp) : Trip Tryd.prog 55 #[.slice none 0 0, F] em hV w (fun v => HO.pure (v = .tuple #[])) :=
  (srt55_nil F w).mono fun e w' ⟨he, hw⟩ => by
    subst hw
    exact ⟨_, he, Met.refl _, fun _ _ e _ => e, em, em, fun _ _ _ => rfl, fun _ _ _ => rfl, Dj.em_left _, Sub.em _, Sub.em _, rfl⟩
/-- A row of one's own, sorted where it lies. -/
theorem srt55_trip {v : Value} {l : List flow_Loop} (hll : l.length < 4611686018427387904) {w : World} {hP h1 : Hp} (sub : Sub hP (hp w)) (s1 : Sub h1 (hp w)) (dj : Dj hP h1) (hI : (slO k_flow_Loop 102 v l).p hP h1) :
    Trip Tryd.prog 55 #[v, .func (.func 56) #[] #[]] h1 hP w (fun r => HO.pand (r = .tuple #[]) (HO.seps [slO k_flow_Loop 102 v (srt55 l.toArray).toList])) := by
  refine slO.rowTrip (fun v => #[v, .func (.func 56) #[] #[]]) (fun _ => .tuple #[]) enc55 (fun h cs x => Iff.rfl) srt55 (fun d => (srt55_sorts d).1.1) (fun blk cap d w hH hb hsz _ _ => ?_) (fun _ w hV sV => ?_) hll sub s1 dj hI
  · exact AnyQ.slices_SortFunc_eq Tryd.sort55 3 Tryd.isAgg102 Tryd.sizeOf102 enc55 (fun _ => rfl) (fun x v hv => by simp [enc55] at hv; rcases hv with rfl | rfl | rfl <;> rfl) cf55 swo55 56 #[] blk 0 cap d w (enters_of Tryd.func56 (by kernel_rfl) rfl) (fun _ _ _ _ x y => clos55 x y _) hH hb hsz
  · exact srt55_nilT _ w hV


/-! ### capstan/flow.Loops: function 39 -/
inductive flow_Loops.S where
  | start
  | l1 (l52 : List Int) (x53 : Int) (l55 : List flow_Loop) (x57 : Int)

def flow_Loops.j1 (l_0 : (List api_Instr))  : Option (flow_Loops.S ⊕ ((List flow_Loop) × Int)) :=
  some (.inr ([], 90))

def flow_Loops.j2 (l_0 : (List api_Instr)) (x57 : Int) (l80 : List Int) (x81 : Int) (l83 : List flow_Loop) : Option (flow_Loops.S ⊕ ((List flow_Loop) × Int)) :=
  some (.inl (.l1 l80 x81 l83 (IntKind.i64.wrap (x57 + 1))))

def flow_Loops.F (l_0 : (List api_Instr)) : flow_Loops.S → Option (flow_Loops.S ⊕ ((List flow_Loop) × Int))
  | .start => (if ((decide ((l_0.length : Int) = 0)) || (decide ((l_0.length : Int) > 200))) = true then (some true) else ((slices_ContainsFunc_api_Instr_api_Instr_s1.f l_0).bind fun t6 => some t6)).bind fun t7 => if t7 = true then (some (.inr ([], 40))) else (some (.inl (.l1 (List.replicate 4 0 : List Int) 0 [] 0)))
  | .l1 l52 x53 l55 x57 => if x57 < (l_0.length : Int) then ((elt l_0 x57).bind fun x61 => if x61.Op = 28 then ((flow_open_push_s2.f l52 x53 x57).bind fun t64 => if (!t64.1) = true then (flow_Loops.j1 l_0) else (flow_Loops.j2 l_0 x57 t64.2.1 t64.2.2 l55)) else (if x61.Op = 29 then ((flow_open_pop_s2.f l52 x53 x61.A).bind fun t65 => if (!t65.1) = true then (flow_Loops.j1 l_0) else ((elt l_0 x61.A).bind fun x68 => if (l55.length + [(⟨x61.A, x57, x68.A⟩ : flow_Loop)].length) * 24 ≤ 140737488355328 then (flow_Loops.j2 l_0 x57 t65.2.1 t65.2.2 (l55 ++ [(⟨x61.A, x57, x68.A⟩ : flow_Loop)])) else none)) else (flow_Loops.j2 l_0 x57 l52 x53 l55))) else ((if x53 > 0 then (some true) else ((elt l_0 (IntKind.i64.wrap ((l_0.length : Int) - 1))).bind fun x90 => (flow_last.f x90).bind fun t91 => some (!t91))).bind fun t92 => (if t92 = true then (some true) else ((flow_jumps.f l_0 l55).bind fun t95 => some (!t95))).bind fun t96 => if t96 = true then (flow_Loops.j1 l_0) else (if l55.length < 4611686018427387904 then (some (.inr ((srt55 l55.toArray).toList, 0))) else none))

def flow_Loops.f (l_0 : (List api_Instr)) : Option ((List flow_Loop) × Int) := runF (flow_Loops.F l_0) .start
theorem flow_Loops.ok (l_0 : (List api_Instr)) (v_l_0 : Value)  (r : (List flow_Loop) × Int) (H : flow_Loops.f l_0 = some r) (w : World) (hV : Hp) (sV : Sub hV (hp w)) (h0 : slR k_api_Instr hV v_l_0 l_0) (h1 : (arrP k_arr136 0 tab0).p hV) :
    Trip Tryd.prog 39 [v_l_0].toArray em hV w (fun v => HO.ex fun u0 : Value => HO.pand (v = .tuple #[u0, .int .i64 r.2]) (HO.seps [slO k_flow_Loop 102 u0 r.1])) := by
  have see : Sees w em hV := ⟨sV, Dj.em_right _⟩
  refine Trip.of (P := Tryd.prog) (n := ⟨76, []⟩) Tryd.func39 rfl ⟨rfl, rfl⟩ rfl (St.begin (All.cons (x := slP k_api_Instr v_l_0 l_0) h0 (All.cons (x := arrP k_arr136 0 tab0) h1 (All.nil _)))) ?_
  obtain ⟨n0, hi⟩ := runF_iff.1 H
  obtain ⟨m0, o, hm0, ho, hr⟩ := iter_some hi
  clear hi
  refine CP.seq ?_
  refine CP.region ?_
  refine SP.val (Val.assign rfl) rfl rfl rfl ?_
  refine SP.val (Val.assign rfl) rfl rfl rfl ?_
  refine SP.nil ?_
  refine QE.then ?_
  refine CP.scope 0 (fun a w2 => ∃ (m107 : Nat) (o : (flow_Loops.S ⊕ ((List flow_Loop) × Int))), m107 ≤ m0 ∧ flow_Loops.j1 l_0 = some o ∧ next (flow_Loops.F l_0) m107 o = some r ∧ Env ⟨76, []⟩ [] a ∧ St w em hV [arrP k_arr136 0 tab0] [] w2) rfl (fun _ _ _ h => h) ?_ ?_
  · rintro a w2 ⟨m107, o, hm_m107, ho, hr, ha, hw⟩
    refine CP.app ha hw ?_
    clear ha hw a w2
    refine CP.seq ?_
    refine CP.skip ?_
    refine QE.then ?_
    refine CP.seq ?_
    refine CP.region ?_
    refine SP.val (Val.assign rfl) rfl rfl rfl ?_
    refine SP.val (Val.assign rfl) rfl rfl rfl ?_
    refine SP.nil ?_
    refine QE.then ?_
    refine CP.ret ?_
    obtain rfl := Option.some.inj ho
    obtain rfl := Option.some.inj hr
    exact QE.rets (rs := [.tmp 2, .tmp 3]) (vs := [(.slice none 0 0), .int .i64 90]) Tryd.results39 rfl ⟨RVs.tmp rfl, RVs.tmp rfl, trivial⟩ (fun w2 h => St.done (fun a b p s => ⟨_, rfl, s⟩) (St.selO [0] rfl rfl (St.addO (slO.nil k_flow_Loop 102) h)))
  · refine CP.seq ?_
    refine CP.seq ?_
    refine CP.region ?_
    refine SP.val (Val.move rfl) rfl rfl rfl ?_
    refine SP.val (Val.lenP see 0 rfl Tryd.underlying34 rfl) rfl rfl rfl ?_
    refine SP.val (Val.eql rfl rfl) rfl rfl rfl ?_
    refine SP.val (Val.move rfl) rfl rfl rfl ?_
    refine SP.join 4 (fun a w2 => Env ⟨76, []⟩ [(0, v_l_0), (15, .bool ((decide ((l_0.length : Int) = 0)) || (decide ((l_0.length : Int) > 200))))] a ∧ St w em hV [slP k_api_Instr v_l_0 l_0, arrP k_arr136 0 tab0] [] w2) ?_ ?_
    · rintro a w2 ⟨ha, hw⟩
      refine SP.app ha hw ?_
      clear ha hw a w2
      refine SP.val (Val.move rfl) rfl rfl rfl ?_
      obtain ⟨t7, hg_t7, ho⟩ := bind_some ho
      refine SP.join 3 (fun a w2 => Env ⟨76, []⟩ [(0, v_l_0), (19, .bool t7)] a ∧ St w em hV [slP k_api_Instr v_l_0 l_0, arrP k_arr136 0 tab0] [] w2) ?_ ?_
      · rintro a w2 ⟨ha, hw⟩
        refine SP.app ha hw ?_
        clear ha hw a w2 hg_t7
        refine SP.nil ?_
        refine QE.then ?_
        rcases if_some ho with ⟨hc, ho⟩ | ⟨hc, ho⟩
        · refine CP.condT rfl hc ?_
          refine CP.seq ?_
          refine CP.region ?_
          refine SP.val (Val.assign rfl) rfl rfl rfl ?_
          refine SP.val (Val.assign rfl) rfl rfl rfl ?_
          refine SP.nil ?_
          refine QE.then ?_
          refine CP.ret ?_
          refine QE.thru (by intro e; cases e) ?_
          refine QE.scopeX rfl ?_
          obtain rfl := Option.some.inj ho
          obtain rfl := Option.some.inj hr
          exact QE.rets (rs := [.tmp 2, .tmp 3]) (vs := [(.slice none 0 0), .int .i64 40]) Tryd.results39 rfl ⟨RVs.tmp rfl, RVs.tmp rfl, trivial⟩ (fun w2 h => St.done (fun a b p s => ⟨_, rfl, s⟩) (St.selO [0] rfl rfl (St.addO (slO.nil k_flow_Loop 102) h)))
        · refine CP.condF rfl (bf hc) ?_
          refine CP.skip ?_
          refine QE.then ?_
          refine CP.seq ?_
          refine CP.region ?_
          refine SP.val (Val.assign rfl) rfl rfl rfl ?_
          refine SP.nil ?_
          refine QE.then ?_
          refine CP.seq ?_
          refine CP.region ?_
          refine SP.alloc (cs := [.int .i64 0, .int .i64 0, .int .i64 0, .int .i64 0, .int .i64 0]) inf99 rfl rfl (fun b9 => ?_)
          refine SP.nil ?_
          refine QE.then ?_
          refine CP.seq ?_
          refine CP.seq ?_
          refine CP.region ?_
          refine SP.val (Val.move rfl) rfl rfl rfl ?_
          refine SP.val (Val.lenP see 0 rfl Tryd.underlying34 rfl) rfl rfl rfl ?_
          refine SP.val (Val.move rfl) rfl rfl rfl ?_
          refine SP.nil ?_
          refine QE.then ?_
          refine CP.block ?_
          obtain rfl := Option.some.inj ho
          refine CP.loop (fun cl1 a w2 => ∃ l52 : List Int, ∃ x53 : Int, ∃ l55 : List flow_Loop, ∃ x57 : Int, ∃ v56 : Value, cl1 ≤ m0 ∧ iter (flow_Loops.F l_0) cl1 (.l1 l52 x53 l55 x57) = some r ∧ Env ⟨76, []⟩ [(0, v_l_0), (4, v56), (5, .pointer (some ⟨b9, 0, none⟩)), (20, v_l_0), (21, .int .i64 (l_0.length : Int)), (22, .int .i64 x57)] a ∧ St w em hV [slP k_api_Instr v_l_0 l_0, arrP k_arr136 0 tab0] [slO k_flow_Loop 102 v56 l55, arrO b9 [] (fun z : Int => Value.int .i64 z) 4 l52 [.int .i64 x53] 99] w2) m0 (fun a w2 ha hw => ⟨(List.replicate 4 0 : List Int), 0, [], 0, (.slice none 0 0), Nat.le_refl _, hr, ha.sub ⟨rfl, rfl, rfl, rfl, rfl, rfl, trivial⟩, (St.addO (slO.nil k_flow_Loop 102) (St.arr (f := (fun z : Int => Value.int .i64 z)) 0 rfl (List.replicate 4 0 : List Int) [] [.int .i64 0] rfl rfl hw))⟩) ?_
          clear hr
          rintro cl1 a w2 ⟨l52, x53, l55, x57, v56, hc_l1, hi, ha, hw⟩
          obtain ⟨m58, o, hm_m58, ho, hr⟩ := iter_some hi
          refine CP.app ha hw ?_
          clear ha hw a w2 hi
          refine CP.seq ?_
          refine CP.region ?_
          refine SP.val (Val.lss rfl rfl) rfl rfl rfl ?_
          refine SP.nil ?_
          refine QE.then ?_
          refine CP.seq ?_
          rcases if_some ho with ⟨hc, ho⟩ | ⟨hc, ho⟩
          · refine CP.condT rfl (decide_eq_true hc) ?_
            refine CP.skip ?_
            refine QE.then ?_
            refine CP.join (fun a w2 => ∃ l80 : List Int, ∃ x81 : Int, ∃ l83 : List flow_Loop, ∃ v84 : Value, ∃ (m85 : Nat) (o : (flow_Loops.S ⊕ ((List flow_Loop) × Int))), m85 ≤ m58 ∧ flow_Loops.j2 l_0 x57 l80 x81 l83 = some o ∧ next (flow_Loops.F l_0) m85 o = some r ∧ Env ⟨76, []⟩ [(0, v_l_0), (4, v84), (5, .pointer (some ⟨b9, 0, none⟩)), (20, v_l_0), (21, .int .i64 (l_0.length : Int)), (22, .int .i64 x57)] a ∧ St w em hV [slP k_api_Instr v_l_0 l_0, arrP k_arr136 0 tab0] [slO k_flow_Loop 102 v84 l83, arrO b9 [] (fun z : Int => Value.int .i64 z) 4 l80 [.int .i64 x81] 99] w2) ?_ ?_
            · rintro a w2 ⟨l80, x81, l83, v84, m85, o, hm_m85, ho, hr, ha, hw⟩
              refine CP.app ha hw ?_
              clear ha hw a w2
              refine CP.region ?_
              refine SP.val (Val.add rfl rfl) rfl rfl rfl ?_
              refine SP.val (Val.move rfl) rfl rfl rfl ?_
              refine SP.nil ?_
              obtain rfl := Option.some.inj ho
              exact QE.lower m85 (by omega) fun a w2 ha hw => ⟨l80, x81, l83, (IntKind.i64.wrap (x57 + 1)), v84, (by omega), hr, ha.sub ⟨rfl, rfl, rfl, rfl, rfl, rfl, trivial⟩, hw⟩
            · refine CP.block ?_
              refine CP.seq ?_
              refine CP.region ?_
              refine SP.val (Val.move rfl) rfl rfl rfl ?_
              obtain ⟨x61, hx, ho⟩ := bind_some ho
              have hx := elt_some hx
              refine SP.indexP see 0 rfl Tryd.underlying34 sz45 hx.1 hx.2 rfl rfl rfl rfl (fun p59 => ?_)
              clear hx
              refine k_api_Instr.load see 0 rfl Tryd.underlying45 rfl sz45 rfl rfl rfl ?_
              refine SP.alloc (cs := [.int .u8 0, .int .i64 0, .int .i64 0]) inf45 rfl rfl (fun b62 => ?_)
              refine SP.val (Val.assign rfl) rfl rfl rfl ?_
              refine SP.store (v := .agg #[.int .u8 x61.Op, .int .i64 x61.A, .int .i64 x61.B]) (vs := [.int .u8 x61.Op, .int .i64 x61.A, .int .i64 x61.B]) 0 (by rfl) sz45 (by rfl) (by rfl) (by rfl) (by rfl) (by rfl) (by rfl) ?_
              refine SP.nil ?_
              refine QE.then ?_
              refine CP.seq ?_
              refine CP.region ?_
              refine SP.val (Val.fieldAddr Tryd.underlying45 rfl sz5 rfl) rfl rfl rfl ?_
              refine SP.val (Val.load1 0 rfl Tryd.underlying5 rfl rfl rfl) rfl rfl rfl ?_
              refine SP.nil ?_
              refine QE.then ?_
              refine CP.block ?_
              refine CP.seq ?_
              refine CP.region ?_
              refine SP.val (Val.eql rfl rfl) rfl rfl rfl ?_
              refine SP.val (Val.assign rfl) rfl rfl rfl ?_
              refine SP.nil ?_
              refine QE.then ?_
              rcases if_some ho with ⟨hc, ho⟩ | ⟨hc, ho⟩
              · refine CP.condT rfl (decide_eq_true hc) ?_
                refine CP.seq ?_
                refine CP.region ?_
                refine SP.val (Val.move rfl) rfl rfl rfl ?_
                refine SP.imp (fun w2 hw => St.selO [2, 0, 1] rfl rfl hw) ?_
                obtain ⟨t64, hc, ho⟩ := bind_some (x := flow_open_push_s2.f l52 x53 x57) ho
                refine SP.callA see (caps := []) (X := arrO b9 [] (fun z : Int => Value.int .i64 z) 4 l52 [.int .i64 x53] 99) _ fn51 rfl rfl rfl rfl (fun w2 hP h1 sub s1 d1 ap hI => flow_open_push_s2.ok l52 x53 x57  _ hc w2 hP sub  _ h1 s1 d1 hI) (fun vr => ?_)
                refine SP.have (fun w2 h => (St.pand h).1.symm) (fun er => ?_)
                subst er
                refine SP.imp (fun w2 h => St.seps (St.pand h).2) ?_
                clear hc
                refine SP.val (Val.notB rfl) rfl rfl rfl ?_
                refine SP.nil ?_
                refine QE.then ?_
                rcases if_some ho with ⟨hc, ho⟩ | ⟨hc, ho⟩
                · refine CP.condT rfl hc ?_
                  refine CP.goto ?_
                  refine QE.blockG ?_
                  refine QE.blockG ?_
                  refine QE.thru (by intro e; cases e) ?_
                  refine QE.thru (by intro e; cases e) ?_
                  refine QE.blockG ?_
                  refine QE.thru (by intro e; cases e) ?_
                  exact QE.jump fun a w2 ha hw => ⟨m58, _, (by omega), ho, hr, ha.sub trivial, (St.selP [2] rfl (St.selO [] rfl rfl hw))⟩
                · refine CP.condF rfl (bf hc) ?_
                  refine CP.skip ?_
                  refine QE.blockN ?_
                  refine QE.blockN ?_
                  exact QE.meet fun a w2 ha hw => ⟨t64.2.1, t64.2.2, l55, v56, m58, _, (by omega), ho, hr, ha.sub ⟨rfl, rfl, rfl, rfl, rfl, rfl, trivial⟩, (St.selP [1, 2] rfl (St.selO [2, 0] rfl rfl hw))⟩
              · refine CP.condF rfl (decide_eq_false hc) ?_
                refine CP.seq ?_
                refine CP.region ?_
                refine SP.val (Val.eql rfl rfl) rfl rfl rfl ?_
                refine SP.val (Val.assign rfl) rfl rfl rfl ?_
                refine SP.nil ?_
                refine QE.then ?_
                rcases if_some ho with ⟨hc, ho⟩ | ⟨hc, ho⟩
                · refine CP.condT rfl (decide_eq_true hc) ?_
                  refine CP.seq ?_
                  refine CP.seq ?_
                  refine CP.region ?_
                  refine SP.val (Val.fieldAddr Tryd.underlying45 rfl sz3 rfl) rfl rfl rfl ?_
                  refine SP.val (Val.load1 0 rfl Tryd.underlying3 rfl rfl rfl) rfl rfl rfl ?_
                  refine SP.imp (fun w2 hw => St.selO [2, 0, 1] rfl rfl hw) ?_
                  obtain ⟨t65, hc, ho⟩ := bind_some (x := flow_open_pop_s2.f l52 x53 x61.A) ho
                  refine SP.callA see (caps := []) (X := arrO b9 [] (fun z : Int => Value.int .i64 z) 4 l52 [.int .i64 x53] 99) _ fn52 rfl rfl rfl rfl (fun w2 hP h1 sub s1 d1 ap hI => flow_open_pop_s2.ok l52 x53 x61.A  _ hc w2 hP sub  _ h1 s1 d1 hI) (fun vr => ?_)
                  refine SP.have (fun w2 h => (St.pand h).1.symm) (fun er => ?_)
                  subst er
                  refine SP.imp (fun w2 h => St.seps (St.pand h).2) ?_
                  clear hc
                  refine SP.val (Val.notB rfl) rfl rfl rfl ?_
                  refine SP.nil ?_
                  refine QE.then ?_
                  rcases if_some ho with ⟨hc, ho⟩ | ⟨hc, ho⟩
                  · refine CP.condT rfl hc ?_
                    refine CP.goto ?_
                    refine QE.thru (by intro e; cases e) ?_
                    refine QE.blockG ?_
                    refine QE.blockG ?_
                    refine QE.thru (by intro e; cases e) ?_
                    refine QE.thru (by intro e; cases e) ?_
                    refine QE.blockG ?_
                    refine QE.thru (by intro e; cases e) ?_
                    exact QE.jump fun a w2 ha hw => ⟨m58, _, (by omega), ho, hr, ha.sub trivial, (St.selP [2] rfl (St.selO [] rfl rfl hw))⟩
                  · refine CP.condF rfl (bf hc) ?_
                    refine CP.skip ?_
                    refine QE.then ?_
                    refine CP.drawA (by kernel_rfl) (fun w2 k h => h.drawn k) ?_
                    obtain ⟨x68, hx, ho⟩ := bind_some ho
                    have hx := elt_some hx
                    refine DA.ghost (fun w2 h => h.elem see 1 rfl hx.1 hx.2) (fun p66 h_p66 => ?_)
                    clear hx
                    refine DA.ghost (fun w2 h => h.fieldE see 0 rfl k_api_Instr.part_A) (fun p69 h_p69 => ?_)
                    refine DA.ghost (fun w2 h => h.openE see 0 rfl (fun _ : Unit => [.int .i64 x68.A]) (fun _ => []) (fun h cs e => ⟨(), e, All.nil _⟩)) (fun _ _ => ?_)
                    refine DA.phase (fun i => Nat.ble 0 i && Nat.blt i 12) (fun w2 => St w em hV [atP p69 [.int .i64 x68.A], elP (kInt .i64) p69 x68.A, elP k_api_Instr p66 x68, elP k_api_Instr p59 x61, slP k_api_Instr v_l_0 l_0, arrP k_arr136 0 tab0] [arrO b9 [] (fun z : Int => Value.int .i64 z) 4 t65.2.1 [.int .i64 t65.2.2] 99, boxO b62 [.int .u8 x61.Op, .int .i64 x61.A, .int .i64 x61.B] 45, slO k_flow_Loop 102 v56 l55] w2) ?_
                    refine DT.take 0 rfl rfl rfl rfl (by kernel_rfl) (fun _ _ _ h => h) (Val.move rfl) (fun w2 hw => hw) ?_
                    refine DT.take 1 rfl rfl rfl rfl (by kernel_rfl) (fun _ _ _ h => h) (Val.fieldAddr Tryd.underlying45 rfl sz3 rfl) (fun w2 hw => hw) ?_
                    refine DT.take 2 rfl rfl rfl rfl (by kernel_rfl) (fun _ _ _ h => h) (Val.load1 1 rfl Tryd.underlying3 rfl rfl rfl) (fun w2 hw => hw) ?_
                    refine DT.take 3 rfl rfl rfl rfl (by kernel_rfl) (fun _ _ _ h => h) (Val.move rfl) (fun w2 hw => hw) ?_
                    refine DT.take 4 rfl rfl rfl rfl (by kernel_rfl) (fun _ _ _ h => h) (Val.move rfl) (fun w2 hw => hw) ?_
                    refine DT.take 5 rfl rfl rfl rfl (by kernel_rfl) (fun _ _ _ h => h) (Val.fieldAddr Tryd.underlying45 rfl sz3 rfl) (fun w2 hw => hw) ?_
                    refine DT.take 6 rfl rfl rfl rfl (by kernel_rfl) (fun _ _ _ h => h) (Val.load1 1 rfl Tryd.underlying3 rfl rfl rfl) (fun w2 hw => hw) ?_
                    refine DT.take 7 rfl rfl rfl rfl (by kernel_rfl) (fun _ _ _ h => h) (Val.indexE h_p66 Tryd.underlying34 sz45 rfl rfl) (fun w2 hw => hw) ?_
                    refine DT.take 8 rfl rfl rfl rfl (by kernel_rfl) (fun _ _ _ h => h) (Val.fieldE h_p69 Tryd.underlying45 rfl rfl sz3 rfl) (fun w2 hw => hw) ?_
                    refine DT.take 9 rfl rfl rfl rfl (by kernel_rfl) (fun _ _ _ h => h) (Val.loadAt1 see 0 rfl Tryd.underlying3 rfl rfl) (fun w2 hw => hw) ?_
                    refine DT.take 10 rfl rfl rfl rfl (by kernel_rfl) (fun _ _ _ h => h) (Val.buildC (us := [(0, .int .i64 x61.A), (1, .int .i64 x57), (2, .int .i64 x68.A)]) (ucs := [(0, [.int .i64 x61.A]), (1, [.int .i64 x57]), (2, [.int .i64 x68.A])]) (cs := [.int .i64 x61.A, .int .i64 x57, .int .i64 x68.A]) bt102 rfl rfl ⟨rfl, rfl, ⟨rfl, rfl, ⟨rfl, rfl, trivial⟩⟩⟩ (by rfl)) (fun w2 hw => hw) ?_
                    refine DT.one 11 rfl (by kernel_rfl) rfl ?_
                    refine SP.lit (k := k_flow_Loop) (xs := [(⟨x61.A, x57, x68.A⟩ : flow_Loop)]) (vs := [.agg #[.int .i64 x61.A, .int .i64 x57, .int .i64 x68.A]]) (cells := [.int .i64 x61.A, .int .i64 x57, .int .i64 x68.A]) Tryd.underlying84 inf102 rfl rfl rfl rfl rfl rfl rfl rfl (fun _ ap => ⟨[.int .i64 x61.A, .int .i64 x57, .int .i64 x68.A], _, rfl, rfl, rfl⟩) rfl rfl rfl (fun v76 => ?_)
                    refine SP.nil ?_
                    refine QE.atT (fun w2 hw => (St.selO [1, 2, 3] rfl rfl hw)) ?_
                    refine DT.next (by kernel_rfl) ?_
                    refine DA.one 12 rfl (by kernel_rfl) ?_
                    refine SP.freezeS see 0 rfl ?_
                    obtain ⟨hb, ho⟩ := must_some ho
                    refine SP.append see 2 rfl 0 rfl Tryd.underlying84 inf102 rfl rfl hb rfl rfl rfl rfl rfl (fun v78 => ?_)
                    clear hb
                    refine SP.nil ?_
                    refine QE.atA ?_
                    refine DA.one 13 rfl (by kernel_rfl) ?_
                    refine SP.val (Val.assign rfl) rfl rfl rfl ?_
                    refine SP.nil ?_
                    refine QE.atA ?_
                    refine DA.done (by kernel_rfl) ?_
                    refine QE.blockN ?_
                    refine QE.blockN ?_
                    exact QE.meet fun a w2 ha hw => ⟨t65.2.1, t65.2.2, (l55 ++ [(⟨x61.A, x57, x68.A⟩ : flow_Loop)]), v78, m58, _, (by omega), ho, hr, ha.sub ⟨rfl, rfl, rfl, rfl, rfl, rfl, trivial⟩, (St.selP [5, 6] rfl (St.selO [2, 0] rfl rfl hw))⟩
                · refine CP.condF rfl (decide_eq_false hc) ?_
                  refine CP.skip ?_
                  refine QE.blockN ?_
                  refine QE.blockN ?_
                  exact QE.meet fun a w2 ha hw => ⟨l52, x53, l55, v56, m58, _, (by omega), ho, hr, ha.sub ⟨rfl, rfl, rfl, rfl, rfl, rfl, trivial⟩, (St.selP [1, 2] rfl (St.selO [1, 2] rfl rfl hw))⟩
          · refine CP.condF rfl (decide_eq_false hc) ?_
            refine CP.exit ?_
            refine QE.thru (by intro e; cases e) ?_
            refine QE.thru (by intro e; cases e) ?_
            refine QE.blockE ?_
            refine QE.then ?_
            refine CP.seq ?_
            refine CP.seq ?_
            refine CP.region ?_
            refine SP.val (Val.fieldAddr Tryd.underlying99 rfl sz3 rfl) rfl rfl rfl ?_
            refine SP.val (Val.loadArrPost (k := 0) 1 rfl Tryd.underlying3 rfl rfl rfl rfl) rfl rfl rfl ?_
            refine SP.val (Val.gtr rfl rfl) rfl rfl rfl ?_
            refine SP.val (Val.move rfl) rfl rfl rfl ?_
            obtain ⟨t92, hg_t92, ho⟩ := bind_some ho
            refine SP.join 9 (fun a w2 => Env ⟨76, []⟩ [(0, v_l_0), (4, v56), (66, .bool t92)] a ∧ St w em hV [slP k_api_Instr v_l_0 l_0, arrP k_arr136 0 tab0] [slO k_flow_Loop 102 v56 l55, arrO b9 [] (fun z : Int => Value.int .i64 z) 4 l52 [.int .i64 x53] 99] w2) ?_ ?_
            · rintro a w2 ⟨ha, hw⟩
              refine SP.app ha hw ?_
              clear ha hw a w2 hg_t92
              refine SP.val (Val.move rfl) rfl rfl rfl ?_
              obtain ⟨t96, hg_t96, ho⟩ := bind_some ho
              refine SP.join 5 (fun a w2 => Env ⟨76, []⟩ [(4, v56), (72, .bool t96)] a ∧ St w em hV [slP k_api_Instr v_l_0 l_0, arrP k_arr136 0 tab0] [slO k_flow_Loop 102 v56 l55, arrO b9 [] (fun z : Int => Value.int .i64 z) 4 l52 [.int .i64 x53] 99] w2) ?_ ?_
              · rintro a w2 ⟨ha, hw⟩
                refine SP.app ha hw ?_
                clear ha hw a w2 hg_t96
                refine SP.nil ?_
                refine QE.then ?_
                rcases if_some ho with ⟨hc, ho⟩ | ⟨hc, ho⟩
                · refine CP.condT rfl hc ?_
                  refine CP.goto ?_
                  refine QE.thru (by intro e; cases e) ?_
                  exact QE.jump fun a w2 ha hw => ⟨m58, _, (by omega), ho, hr, ha.sub trivial, (St.selP [1] rfl (St.selO [] rfl rfl hw))⟩
                · refine CP.condF rfl (bf hc) ?_
                  refine CP.skip ?_
                  refine QE.then ?_
                  refine CP.seq ?_
                  refine CP.region ?_
                  refine SP.val (Val.move rfl) rfl rfl rfl ?_
                  obtain ⟨hb, ho⟩ := must_some ho
                  refine SP.callA see (caps := []) (X := slO k_flow_Loop 102 v56 l55) (fun r => HO.pand (r = .tuple #[]) (HO.seps [slO k_flow_Loop 102 v56 ((srt55 l55.toArray).toList)])) fn55 rfl rfl rfl rfl (fun w2 hP h1 sub s1 d1 ap hI => srt55_trip hb sub s1 d1 hI) (fun vr => ?_)
                  refine SP.have (fun w2 h => (St.pand h).1.symm) (fun er => ?_)
                  subst er
                  refine SP.imp (fun w2 h => St.seps (St.pand h).2) ?_
                  clear hb
                  refine SP.nil ?_
                  refine QE.then ?_
                  refine CP.seq ?_
                  refine CP.seq ?_
                  refine CP.region ?_
                  refine SP.val (Val.move rfl) rfl rfl rfl ?_
                  refine SP.val (Val.assign rfl) rfl rfl rfl ?_
                  refine SP.val (Val.assign rfl) rfl rfl rfl ?_
                  refine SP.nil ?_
                  refine QE.then ?_
                  refine CP.ret ?_
                  refine QE.thru (by intro e; cases e) ?_
                  refine QE.scopeX rfl ?_
                  obtain rfl := Option.some.inj ho
                  obtain rfl := Option.some.inj hr
                  exact QE.rets (rs := [.tmp 2, .tmp 3]) (vs := [v56, .int .i64 0]) Tryd.results39 rfl ⟨RVs.tmp rfl, RVs.tmp rfl, trivial⟩ (fun w2 h => St.done (fun a b p s => ⟨_, rfl, s⟩) (St.selO [0] rfl rfl h))
              · intro J
                clear ho
                have ho := hg_t96
                clear hg_t96
                rcases if_some ho with ⟨hc, ho⟩ | ⟨hc, ho⟩
                · have hq94 := hc
                  refine SP.isT (d := 67) rfl hq94 ?_
                  refine SP.not rfl rfl rfl ?_
                  refine SP.not rfl rfl rfl ?_
                  refine SP.not rfl rfl rfl ?_
                  refine SP.not rfl rfl rfl ?_
                  refine SP.val (Val.pickT rfl rfl) rfl rfl rfl ?_
                  obtain rfl := Option.some.inj ho
                  exact J fun a w2 ha hw => ⟨ha.sub ⟨rfl, rfl, trivial⟩, hw⟩
                · have hq94 := (bf hc)
                  refine SP.isF (d := 67) rfl hq94 ?_
                  refine SP.val (Val.move rfl) rfl rfl rfl ?_
                  refine SP.val (Val.move rfl) rfl rfl rfl ?_
                  obtain ⟨t95, hc, ho⟩ := bind_some (x := flow_jumps.f l_0 l55) ho
                  refine SP.callVO see (caps := []) (.bool t95) fn54 rfl rfl rfl rfl (fun w2 hs => flow_jumps.ok l_0 l55 _ _ _ hc w2 (hp w2) (Sub.refl _) ((St.pers 0 rfl see.sub see.dj hs)) (slO.read (St.own 0 rfl see.sub see.dj hs) (Sub.refl _) (Sub.refl _))) ?_
                  clear hc
                  refine SP.val (Val.notB rfl) rfl rfl rfl ?_
                  refine SP.val (Val.pickF rfl rfl) rfl rfl rfl ?_
                  obtain rfl := Option.some.inj ho
                  exact J fun a w2 ha hw => ⟨ha.sub ⟨rfl, rfl, trivial⟩, hw⟩
            · intro J
              clear ho
              have ho := hg_t92
              clear hg_t92
              rcases if_some ho with ⟨hc, ho⟩ | ⟨hc, ho⟩
              · have hq87 := (decide_eq_true hc)
                refine SP.isT (d := 57) rfl hq87 ?_
                refine SP.not rfl rfl rfl ?_
                refine SP.not rfl rfl rfl ?_
                refine SP.not rfl rfl rfl ?_
                refine SP.not rfl rfl rfl ?_
                refine SP.not rfl rfl rfl ?_
                refine SP.not rfl rfl rfl ?_
                refine SP.not rfl rfl rfl ?_
                refine SP.not rfl rfl rfl ?_
                refine SP.val (Val.pickT rfl rfl) rfl rfl rfl ?_
                obtain rfl := Option.some.inj ho
                exact J fun a w2 ha hw => ⟨ha.sub ⟨rfl, rfl, rfl, trivial⟩, hw⟩
              · have hq87 := (decide_eq_false hc)
                refine SP.isF (d := 57) rfl hq87 ?_
                refine SP.val (Val.move rfl) rfl rfl rfl ?_
                refine SP.val (Val.move rfl) rfl rfl rfl ?_
                refine SP.val (Val.lenP see 0 rfl Tryd.underlying34 rfl) rfl rfl rfl ?_
                refine SP.val (Val.sub rfl rfl) rfl rfl rfl ?_
                obtain ⟨x90, hx, ho⟩ := bind_some ho
                have hx := elt_some hx
                refine SP.indexP see 0 rfl Tryd.underlying34 sz45 hx.1 hx.2 rfl rfl rfl rfl (fun p88 => ?_)
                clear hx
                refine k_api_Instr.load see 0 rfl Tryd.underlying45 rfl sz45 rfl rfl rfl ?_
                obtain ⟨t91, hc, ho⟩ := bind_some (x := flow_last.f x90) ho
                refine SP.callV see (caps := []) (.bool t91) fn53 rfl rfl rfl rfl (fun w2 hP hs sub ap => flow_last.ok x90  _ hc w2 hP sub ) ?_
                clear hc
                refine SP.val (Val.notB rfl) rfl rfl rfl ?_
                refine SP.val (Val.pickF rfl rfl) rfl rfl rfl ?_
                obtain rfl := Option.some.inj ho
                exact J fun a w2 ha hw => ⟨ha.sub ⟨rfl, rfl, rfl, trivial⟩, (St.selP [1, 2] rfl hw)⟩
      · intro J
        clear ho
        have ho := hg_t7
        clear hg_t7
        rcases if_some ho with ⟨hc, ho⟩ | ⟨hc, ho⟩
        · have hq5 := hc
          refine SP.isT (d := 16) rfl hq5 ?_
          refine SP.not rfl rfl rfl ?_
          refine SP.not rfl rfl rfl ?_
          refine SP.val (Val.pickT rfl rfl) rfl rfl rfl ?_
          obtain rfl := Option.some.inj ho
          exact J fun a w2 ha hw => ⟨ha.sub ⟨rfl, rfl, trivial⟩, hw⟩
        · have hq5 := (bf hc)
          refine SP.isF (d := 16) rfl hq5 ?_
          refine SP.val (Val.move rfl) rfl rfl rfl ?_
          obtain ⟨t6, hc, ho⟩ := bind_some (x := slices_ContainsFunc_api_Instr_api_Instr_s1.f l_0) ho
          refine SP.callV see (caps := []) (.bool t6) fn22 rfl rfl rfl rfl (fun w2 hP hs sub ap => slices_ContainsFunc_api_Instr_api_Instr_s1.ok l_0 _ _ hc w2 hP sub (ap.get 0 rfl) (ap.get 1 rfl)) ?_
          clear hc
          refine SP.val (Val.pickF rfl rfl) rfl rfl rfl ?_
          obtain rfl := Option.some.inj ho
          exact J fun a w2 ha hw => ⟨ha.sub ⟨rfl, rfl, trivial⟩, hw⟩
    · intro J
      by_cases hc : (l_0.length : Int) = 0
      · have hq3 := (decide_eq_true hc)
        refine SP.isT (d := 11) rfl hq3 ?_
        refine SP.not rfl rfl rfl ?_
        refine SP.not rfl rfl rfl ?_
        refine SP.not rfl rfl rfl ?_
        refine SP.val (Val.pickT rfl rfl) rfl rfl rfl ?_
        exact J fun a w2 ha hw => ⟨ha.sub ⟨rfl, congrArg (fun z => some (Value.bool z)) (or_t hq3), trivial⟩, hw⟩
      · have hq3 := (decide_eq_false hc)
        refine SP.isF (d := 11) rfl hq3 ?_
        refine SP.val (Val.move rfl) rfl rfl rfl ?_
        refine SP.val (Val.lenP see 0 rfl Tryd.underlying34 rfl) rfl rfl rfl ?_
        refine SP.val (Val.gtr rfl rfl) rfl rfl rfl ?_
        refine SP.val (Val.pickF rfl rfl) rfl rfl rfl ?_
        exact J fun a w2 ha hw => ⟨ha.sub ⟨rfl, congrArg (fun z => some (Value.bool z)) (or_f hq3 rfl), trivial⟩, hw⟩
/-! ### capstan/flow.Check: function 20 -/
def flow_Check.f (l_0 : (List api_Instr)) : Option Int :=
  (flow_Loops.f l_0).bind fun t2 => some t2.2
theorem flow_Check.ok (l_0 : (List api_Instr)) (v_l_0 : Value)  (r : Int) (H : flow_Check.f l_0 = some r) (w : World) (hV : Hp) (sV : Sub hV (hp w)) (h0 : slR k_api_Instr hV v_l_0 l_0) (h1 : (arrP k_arr136 0 tab0).p hV) :
    Trip Tryd.prog 20 [v_l_0].toArray em hV w (fun v => HO.pure (v = .int .i64 r)) := by
  have see : Sees w em hV := ⟨sV, Dj.em_right _⟩
  refine Trip.of (P := Tryd.prog) (n := ⟨11, []⟩) Tryd.func20 rfl ⟨rfl, rfl⟩ rfl (St.begin (All.cons (x := slP k_api_Instr v_l_0 l_0) h0 (All.cons (x := arrP k_arr136 0 tab0) h1 (All.nil _)))) ?_
  have ho := H
  refine CP.seq ?_
  refine CP.region ?_
  refine SP.val (Val.assign rfl) rfl rfl rfl ?_
  refine SP.nil ?_
  refine QE.then ?_
  refine CP.seq ?_
  refine CP.region ?_
  refine SP.val (Val.move rfl) rfl rfl rfl ?_
  obtain ⟨t2, hc, ho⟩ := bind_some (x := flow_Loops.f l_0) ho
  refine SP.callK see (caps := []) _ fn39 rfl rfl rfl rfl (fun w2 hP hs sub ap => flow_Loops.ok l_0 _ _ hc w2 hP sub (ap.get 0 rfl) (ap.get 1 rfl)) (fun vr => ?_)
  refine SP.ex (fun w2 h => St.open h) (fun v3 => ?_)
  refine SP.have (fun w2 h => (St.pand h).1.symm) (fun er => ?_)
  subst er
  refine SP.imp (fun w2 h => St.seps (St.pand h).2) ?_
  clear hc
  refine SP.val (Val.move rfl) rfl rfl rfl ?_
  refine SP.val (Val.extract rfl rfl) rfl rfl rfl ?_
  refine SP.val (Val.extract rfl rfl) rfl rfl rfl ?_
  refine SP.val (Val.assign rfl) rfl rfl rfl ?_
  refine SP.val (Val.assign rfl) rfl rfl rfl ?_
  refine SP.nil ?_
  refine QE.then ?_
  refine CP.seq ?_
  refine CP.region ?_
  refine SP.val (Val.move rfl) rfl rfl rfl ?_
  refine SP.val (Val.assign rfl) rfl rfl rfl ?_
  refine SP.nil ?_
  refine QE.then ?_
  refine CP.ret ?_
  obtain rfl := Option.some.inj ho
  exact QE.rets (rs := [.tmp 2]) (vs := [.int .i64 t2.2]) Tryd.results20 rfl ⟨RVs.tmp rfl, trivial⟩ (fun w2 h => St.done (fun a b p s => rfl) h)
/-! ### slices.Grow[[]uint8,uint8]: function 40 -/
shelf_lay_g Lays8.n4 Nm8 4 at Tryd 40 as Tryd.grow40
/-- Room for a row of numbers where there was none. -/
theorem grow40_trip {n : Int} (h0 : 0 ≤ n) (hb : n * 1 ≤ 140737488355328) (w : World) (hV : Hp) :
    Trip Tryd.prog 40 #[.slice none 0 0, .int .i64 n] em hV w (fun r => HO.ex fun u : Value => HO.pand (r = u) (HO.seps [slO (kInt .u8) 5 u []])) := by
  obtain ⟨m, rfl⟩ := Int.eq_ofNat_of_zero_le h0
  obtain ⟨i0, z, hi0, hz0, hsz, hbt, hzl⟩ := growInfo (P := Tryd.prog) inf5
  by_cases hm : m = 0
  · subst hm
    exact (Any8.slices_Grow_room Tryd.grow40 none 0 0 0 w (by omega) (by omega) (by omega) (by omega)).mono fun e w' ⟨he, hw⟩ => by
      subst hw
      exact ⟨_, he, Met.refl _, fun _ _ e _ => e, em, em, fun _ _ _ => rfl, fun _ _ _ => rfl, Dj.em_left _, Sub.em _, Sub.em _, _, rfl, em, em, Dj.em_left _, Sub.em _, Sub.em _, slO.nil _ _ _, trivial⟩
  · have h := Any8.slices_Grow_grow Tryd.grow40 i0 z hi0 hz0 (by omega) none 0 0 m [] w (by omega) (by omega) (by rw [hbt]; omega) (by omega) (by simp) (fun _ => rfl) (fun a ha => by cases ha)
    exact h.mono fun e w' ⟨he, hw⟩ => grown_trip he hw (grownCap_le_maxLen _ _ _ _ (by simp only [maxLen]; omega)) (zeros_size (by have := grownCap_ge w (0 + m) 0 5; rw [Nat.zero_add] at this ⊢; exact this) hzl)


/-! ### slices.Concat[[]uint8,uint8]: function 21 -/
inductive slices_Concat_uint8_uint8.S where
  | start
  | l1 (x36 : Int) (x37 : Int)
  | l2 (l57 : List Int) (x59 : Int)

def slices_Concat_uint8_uint8.j1 (slices_0 : (List (List Int))) (x36 : Int) (x37 : Int) (x41 : (List Int)) : Option (slices_Concat_uint8_uint8.S ⊕ (List Int)) :=
  some (.inl (.l1 (IntKind.i64.wrap (x36 + (x41.length : Int))) (IntKind.i64.wrap (x37 + 1))))

def slices_Concat_uint8_uint8.F (slices_0 : (List (List Int))) : slices_Concat_uint8_uint8.S → Option (slices_Concat_uint8_uint8.S ⊕ (List Int))
  | .start => some (.inl (.l1 0 0))
  | .l1 x36 x37 => if x37 < (slices_0.length : Int) then ((elt slices_0 x37).bind fun x41 => if (IntKind.i64.wrap (x36 + (x41.length : Int))) < 0 then (none) else (slices_Concat_uint8_uint8.j1 slices_0 x36 x37 x41)) else (if 0 ≤ x36 ∧ x36 * 1 ≤ 140737488355328 then (some (.inl (.l2 ([] : List Int) 0))) else none)
  | .l2 l57 x59 => if x59 < (slices_0.length : Int) then ((elt slices_0 x59).bind fun x63 => if (l57.length + x63.length) * 1 ≤ 140737488355328 then (some (.inl (.l2 (l57 ++ x63) (IntKind.i64.wrap (x59 + 1))))) else none) else (some (.inr l57))

def slices_Concat_uint8_uint8.f (slices_0 : (List (List Int))) : Option (List Int) := runF (slices_Concat_uint8_uint8.F slices_0) .start
theorem slices_Concat_uint8_uint8.ok (slices_0 : (List (List Int))) (v_slices_0 : Value) (r : (List Int)) (H : slices_Concat_uint8_uint8.f slices_0 = some r) (w : World) (hV : Hp) (sV : Sub hV (hp w)) (h0 : slR (kSl (kInt .u8)) hV v_slices_0 slices_0) :
    Trip Tryd.prog 21 [v_slices_0].toArray em hV w (fun v => HO.ex fun u0 : Value => HO.pand (v = u0) (HO.seps [slO (kInt .u8) 5 u0 r])) := by
  have see : Sees w em hV := ⟨sV, Dj.em_right _⟩
  refine Trip.of (P := Tryd.prog) (n := ⟨36, []⟩) Tryd.func21 rfl ⟨rfl, rfl⟩ rfl (St.begin (All.cons (x := slP (kSl (kInt .u8)) v_slices_0 slices_0) h0 (All.nil _))) ?_
  obtain ⟨n0, hi⟩ := runF_iff.1 H
  obtain ⟨m0, o, hm0, ho, hr⟩ := iter_some hi
  clear hi
  refine CP.seq ?_
  refine CP.region ?_
  refine SP.val (Val.assign rfl) rfl rfl rfl ?_
  refine SP.nil ?_
  refine QE.then ?_
  refine CP.seq ?_
  refine CP.region ?_
  refine SP.val (Val.assign rfl) rfl rfl rfl ?_
  refine SP.nil ?_
  refine QE.then ?_
  refine CP.seq ?_
  refine CP.seq ?_
  refine CP.region ?_
  refine SP.val (Val.move rfl) rfl rfl rfl ?_
  refine SP.val (Val.lenP see 0 rfl Tryd.underlying87 rfl) rfl rfl rfl ?_
  refine SP.val (Val.move rfl) rfl rfl rfl ?_
  refine SP.nil ?_
  refine QE.then ?_
  refine CP.block ?_
  obtain rfl := Option.some.inj ho
  refine CP.loop (fun cl1 a w2 => ∃ x36 : Int, ∃ x37 : Int, cl1 ≤ m0 ∧ iter (slices_Concat_uint8_uint8.F slices_0) cl1 (.l1 x36 x37) = some r ∧ Env ⟨36, []⟩ [(0, v_slices_0), (3, .int .i64 x36), (9, v_slices_0), (10, .int .i64 (slices_0.length : Int)), (11, .int .i64 x37)] a ∧ St w em hV [slP (kSl (kInt .u8)) v_slices_0 slices_0] [] w2) m0 (fun a w2 ha hw => ⟨0, 0, Nat.le_refl _, hr, ha.sub ⟨rfl, rfl, rfl, rfl, rfl, trivial⟩, hw⟩) ?_
  clear hr
  rintro cl1 a w2 ⟨x36, x37, hc_l1, hi, ha, hw⟩
  obtain ⟨m38, o, hm_m38, ho, hr⟩ := iter_some hi
  refine CP.app ha hw ?_
  clear ha hw a w2 hi
  refine CP.seq ?_
  refine CP.region ?_
  refine SP.val (Val.lss rfl rfl) rfl rfl rfl ?_
  refine SP.nil ?_
  refine QE.then ?_
  refine CP.seq ?_
  rcases if_some ho with ⟨hc, ho⟩ | ⟨hc, ho⟩
  · refine CP.condT rfl (decide_eq_true hc) ?_
    refine CP.skip ?_
    refine QE.then ?_
    refine CP.join (fun a w2 => ∃ x41 : (List Int), ∃ (m44 : Nat) (o : (slices_Concat_uint8_uint8.S ⊕ (List Int))), m44 ≤ m38 ∧ slices_Concat_uint8_uint8.j1 slices_0 x36 x37 x41 = some o ∧ next (slices_Concat_uint8_uint8.F slices_0) m44 o = some r ∧ Env ⟨36, []⟩ [(0, v_slices_0), (3, .int .i64 (IntKind.i64.wrap (x36 + (x41.length : Int)))), (9, v_slices_0), (10, .int .i64 (slices_0.length : Int)), (11, .int .i64 x37)] a ∧ St w em hV [slP (kSl (kInt .u8)) v_slices_0 slices_0] [] w2) ?_ ?_
    · rintro a w2 ⟨x41, m44, o, hm_m44, ho, hr, ha, hw⟩
      refine CP.app ha hw ?_
      clear ha hw a w2
      refine CP.region ?_
      refine SP.val (Val.add rfl rfl) rfl rfl rfl ?_
      refine SP.val (Val.move rfl) rfl rfl rfl ?_
      refine SP.nil ?_
      obtain rfl := Option.some.inj ho
      exact QE.lower m44 (by omega) fun a w2 ha hw => ⟨(IntKind.i64.wrap (x36 + (x41.length : Int))), (IntKind.i64.wrap (x37 + 1)), (by omega), hr, ha.sub ⟨rfl, rfl, rfl, rfl, rfl, trivial⟩, hw⟩
    · refine CP.block ?_
      refine CP.seq ?_
      refine CP.region ?_
      obtain ⟨x41, hx, ho⟩ := bind_some ho
      have hx := elt_some hx
      refine SP.indexP see 0 rfl Tryd.underlying87 sz33 hx.1 hx.2 rfl rfl rfl rfl (fun p39 => ?_)
      clear hx
      refine SP.loadPS see 0 rfl Tryd.underlying33 rfl rfl rfl (fun v42 => ?_)
      refine SP.val (Val.assign rfl) rfl rfl rfl ?_
      refine SP.nil ?_
      refine QE.then ?_
      refine CP.seq ?_
      refine CP.region ?_
      refine SP.val (Val.move rfl) rfl rfl rfl ?_
      refine SP.val (Val.move rfl) rfl rfl rfl ?_
      refine SP.val (Val.lenP see 0 rfl Tryd.underlying33 rfl) rfl rfl rfl ?_
      refine SP.val (Val.add rfl rfl) rfl rfl rfl ?_
      refine SP.val (Val.assign rfl) rfl rfl rfl ?_
      refine SP.nil ?_
      refine QE.then ?_
      refine CP.seq ?_
      refine CP.region ?_
      refine SP.val (Val.move rfl) rfl rfl rfl ?_
      refine SP.val (Val.lss rfl rfl) rfl rfl rfl ?_
      refine SP.nil ?_
      refine QE.then ?_
      rcases if_some ho with ⟨hc, ho⟩ | ⟨hc, ho⟩
      · refine CP.condT rfl (decide_eq_true hc) ?_
        cases ho
      · refine CP.condF rfl (decide_eq_false hc) ?_
        refine CP.skip ?_
        refine QE.blockN ?_
        exact QE.meet fun a w2 ha hw => ⟨x41, m38, _, (by omega), ho, hr, ha.sub ⟨rfl, rfl, rfl, rfl, rfl, trivial⟩, (St.selP [2] rfl hw)⟩
  · refine CP.condF rfl (decide_eq_false hc) ?_
    refine CP.exit ?_
    refine QE.thru (by intro e; cases e) ?_
    refine QE.thru (by intro e; cases e) ?_
    refine QE.blockE ?_
    refine QE.then ?_
    refine CP.seq ?_
    refine CP.region ?_
    refine SP.val (Val.move rfl) rfl rfl rfl ?_
    obtain ⟨hb, ho⟩ := must_some ho
    refine SP.callK see (caps := []) _ fn40 rfl rfl rfl rfl (fun w2 hP hs sub ap => grow40_trip hb.1 hb.2 w2 hP) (fun vr => ?_)
    refine SP.ex (fun w2 h => St.open h) (fun v46 => ?_)
    refine SP.have (fun w2 h => (St.pand h).1.symm) (fun er => ?_)
    subst er
    refine SP.imp (fun w2 h => St.seps (St.pand h).2) ?_
    clear hb
    refine SP.val (Val.assign rfl) rfl rfl rfl ?_
    refine SP.nil ?_
    refine QE.then ?_
    refine CP.seq ?_
    refine CP.seq ?_
    refine CP.region ?_
    refine SP.val (Val.move rfl) rfl rfl rfl ?_
    refine SP.val (Val.lenP see 0 rfl Tryd.underlying87 rfl) rfl rfl rfl ?_
    refine SP.val (Val.move rfl) rfl rfl rfl ?_
    refine SP.nil ?_
    refine QE.then ?_
    refine CP.block ?_
    obtain rfl := Option.some.inj ho
    refine CP.loop (fun cl2 a w2 => ∃ l57 : List Int, ∃ x59 : Int, ∃ v58 : Value, cl2 ≤ m38 ∧ iter (slices_Concat_uint8_uint8.F slices_0) cl2 (.l2 l57 x59) = some r ∧ Env ⟨36, []⟩ [(6, v58), (25, v_slices_0), (26, .int .i64 (slices_0.length : Int)), (27, .int .i64 x59)] a ∧ St w em hV [slP (kSl (kInt .u8)) v_slices_0 slices_0] [slO (kInt .u8) 5 v58 l57] w2) m38 (fun a w2 ha hw => ⟨([] : List Int), 0, v46, Nat.le_refl _, hr, ha.sub ⟨rfl, rfl, rfl, rfl, trivial⟩, hw⟩) ?_
    clear hr
    rintro cl2 a w2 ⟨l57, x59, v58, hc_l2, hi, ha, hw⟩
    obtain ⟨m60, o, hm_m60, ho, hr⟩ := iter_some hi
    refine CP.app ha hw ?_
    clear ha hw a w2 hi
    refine CP.seq ?_
    refine CP.region ?_
    refine SP.val (Val.lss rfl rfl) rfl rfl rfl ?_
    refine SP.nil ?_
    refine QE.then ?_
    refine CP.seq ?_
    rcases if_some ho with ⟨hc, ho⟩ | ⟨hc, ho⟩
    · refine CP.condT rfl (decide_eq_true hc) ?_
      refine CP.skip ?_
      refine QE.then ?_
      refine CP.seq ?_
      refine CP.block ?_
      refine CP.seq ?_
      refine CP.region ?_
      obtain ⟨x63, hx, ho⟩ := bind_some ho
      have hx := elt_some hx
      refine SP.indexP see 0 rfl Tryd.underlying87 sz33 hx.1 hx.2 rfl rfl rfl rfl (fun p61 => ?_)
      clear hx
      refine SP.loadPS see 0 rfl Tryd.underlying33 rfl rfl rfl (fun v64 => ?_)
      refine SP.val (Val.assign rfl) rfl rfl rfl ?_
      refine SP.nil ?_
      refine QE.then ?_
      refine CP.region ?_
      refine SP.val (Val.move rfl) rfl rfl rfl ?_
      refine SP.val (Val.move rfl) rfl rfl rfl ?_
      obtain ⟨hb, ho⟩ := must_some ho
      refine SP.append see 0 rfl 0 rfl Tryd.underlying33 inf5 rfl rfl hb rfl rfl rfl rfl rfl (fun v66 => ?_)
      clear hb
      refine SP.val (Val.assign rfl) rfl rfl rfl ?_
      refine SP.nil ?_
      refine QE.blockN ?_
      refine QE.then ?_
      refine CP.region ?_
      refine SP.val (Val.add rfl rfl) rfl rfl rfl ?_
      refine SP.val (Val.move rfl) rfl rfl rfl ?_
      refine SP.nil ?_
      obtain rfl := Option.some.inj ho
      exact QE.lower m60 (by omega) fun a w2 ha hw => ⟨(l57 ++ x63), (IntKind.i64.wrap (x59 + 1)), v66, (by omega), hr, ha.sub ⟨rfl, rfl, rfl, rfl, trivial⟩, (St.selP [2] rfl hw)⟩
    · refine CP.condF rfl (decide_eq_false hc) ?_
      refine CP.exit ?_
      refine QE.thru (by intro e; cases e) ?_
      refine QE.thru (by intro e; cases e) ?_
      refine QE.blockE ?_
      refine QE.then ?_
      refine CP.seq ?_
      refine CP.region ?_
      refine SP.val (Val.move rfl) rfl rfl rfl ?_
      refine SP.val (Val.assign rfl) rfl rfl rfl ?_
      refine SP.nil ?_
      refine QE.then ?_
      refine CP.ret ?_
      obtain rfl := Option.some.inj ho
      obtain rfl := Option.some.inj hr
      exact QE.rets (rs := [.tmp 2]) (vs := [v58]) Tryd.results21 rfl ⟨RVs.tmp rfl, trivial⟩ (fun w2 h => St.done (fun a b p s => ⟨_, rfl, s⟩) (St.selO [0] rfl rfl h))
/-! ### (*capstan/types.look).there: function 24 -/
def types_look_there_s1.j1 (k_0_1 : List api_Value) (k_0_3 : List api_Value) (k_0_5 : List api_Method) (k_0_7 : Int) (k_0_8 : List Int) (k_0_10 : List Int) (k_0_12 : Int) (k_0_13 : Bool) (k_0_14 : Int) (k_0_15 : Int) (k_0_16 : Int) (k_0_17 : List api_Instr) (k_0_19 : List Int) (i_1 : api_Instr) (x27 : Int) : Option Bool :=
  some (decide (i_1.A < x27))

def types_look_there_s1.j3 (k_0_1 : List api_Value) (k_0_3 : List api_Value) (k_0_5 : List api_Method) (k_0_7 : Int) (k_0_8 : List Int) (k_0_10 : List Int) (k_0_12 : Int) (k_0_13 : Bool) (k_0_14 : Int) (k_0_15 : Int) (k_0_16 : Int) (k_0_17 : List api_Instr) (k_0_19 : List Int) (i_1 : api_Instr) (b26 : Bool) : Option Bool :=
  if b26 = true then (types_look_there_s1.j1 k_0_1 k_0_3 k_0_5 k_0_7 k_0_8 k_0_10 k_0_12 k_0_13 k_0_14 k_0_15 k_0_16 k_0_17 k_0_19 i_1 (k_0_1.length : Int)) else (if i_1.Op = 30 then (types_look_there_s1.j1 k_0_1 k_0_3 k_0_5 k_0_7 k_0_8 k_0_10 k_0_12 k_0_13 k_0_14 k_0_15 k_0_16 k_0_17 k_0_19 i_1 (k_0_5.length : Int)) else (some true))

def types_look_there_s1.j2 (k_0_1 : List api_Value) (k_0_3 : List api_Value) (k_0_5 : List api_Method) (k_0_7 : Int) (k_0_8 : List Int) (k_0_10 : List Int) (k_0_12 : Int) (k_0_13 : Bool) (k_0_14 : Int) (k_0_15 : Int) (k_0_16 : Int) (k_0_17 : List api_Instr) (k_0_19 : List Int) (i_1 : api_Instr) (b25 : Bool) : Option Bool :=
  if b25 = true then (types_look_there_s1.j1 k_0_1 k_0_3 k_0_5 k_0_7 k_0_8 k_0_10 k_0_12 k_0_13 k_0_14 k_0_15 k_0_16 k_0_17 k_0_19 i_1 (k_0_19.length : Int)) else (if i_1.Op = 4 then (types_look_there_s1.j3 k_0_1 k_0_3 k_0_5 k_0_7 k_0_8 k_0_10 k_0_12 k_0_13 k_0_14 k_0_15 k_0_16 k_0_17 k_0_19 i_1 (decide (i_1.Op = 4))) else (types_look_there_s1.j3 k_0_1 k_0_3 k_0_5 k_0_7 k_0_8 k_0_10 k_0_12 k_0_13 k_0_14 k_0_15 k_0_16 k_0_17 k_0_19 i_1 (decide (i_1.Op = 5))))

def types_look_there_s1.f (k_0_1 : List api_Value) (k_0_3 : List api_Value) (k_0_5 : List api_Method) (k_0_7 : Int) (k_0_8 : List Int) (k_0_10 : List Int) (k_0_12 : Int) (k_0_13 : Bool) (k_0_14 : Int) (k_0_15 : Int) (k_0_16 : Int) (k_0_17 : List api_Instr) (k_0_19 : List Int) (i_1 : api_Instr) : Option Bool :=
  if i_1.Op = 1 then (types_look_there_s1.j1 k_0_1 k_0_3 k_0_5 k_0_7 k_0_8 k_0_10 k_0_12 k_0_13 k_0_14 k_0_15 k_0_16 k_0_17 k_0_19 i_1 (k_0_3.length : Int)) else (if i_1.Op = 2 then (types_look_there_s1.j2 k_0_1 k_0_3 k_0_5 k_0_7 k_0_8 k_0_10 k_0_12 k_0_13 k_0_14 k_0_15 k_0_16 k_0_17 k_0_19 i_1 (decide (i_1.Op = 2))) else (types_look_there_s1.j2 k_0_1 k_0_3 k_0_5 k_0_7 k_0_8 k_0_10 k_0_12 k_0_13 k_0_14 k_0_15 k_0_16 k_0_17 k_0_19 i_1 (decide (i_1.Op = 3))))
theorem types_look_there_s1.ok (k_0_1 : List api_Value) (k_0_3 : List api_Value) (k_0_5 : List api_Method) (k_0_7 : Int) (k_0_8 : List Int) (k_0_10 : List Int) (k_0_12 : Int) (k_0_13 : Bool) (k_0_14 : Int) (k_0_15 : Int) (k_0_16 : Int) (k_0_17 : List api_Instr) (k_0_19 : List Int) (i_1 : api_Instr) (v_k_0_1 : Value) (v_k_0_3 : Value) (v_k_0_5 : Value) (v_k_0_8 : Value) (v_k_0_10 : Value) (v_k_0_17 : Value) (v_k_0_19 : Value) (b21 : Nat) (r : Bool) (H : types_look_there_s1.f k_0_1 k_0_3 k_0_5 k_0_7 k_0_8 k_0_10 k_0_12 k_0_13 k_0_14 k_0_15 k_0_16 k_0_17 k_0_19 i_1 = some r) (w : World) (hV : Hp) (sV : Sub hV (hp w)) (h0 : slR k_api_Value hV v_k_0_1 k_0_1) (h1 : slR k_api_Value hV v_k_0_3 k_0_3) (h2 : slR k_api_Method hV v_k_0_5 k_0_5) (h3 : slR (kInt .u8) hV v_k_0_8 k_0_8) (h4 : slR (kInt .u8) hV v_k_0_10 k_0_10) (h5 : slR k_api_Instr hV v_k_0_17 k_0_17) (h6 : slR (kInt .u8) hV v_k_0_19 k_0_19) (h7 : (preP b21 [v_k_0_1, v_k_0_3, v_k_0_5, .int .i64 k_0_7, v_k_0_8, v_k_0_10, .int .u8 k_0_12, .bool k_0_13, .int .i64 k_0_14, .int .i64 k_0_15, .int .i64 k_0_16, v_k_0_17, v_k_0_19] 65).p hV) :
    Trip Tryd.prog 24 [.pointer (some ⟨b21, 0, none⟩), .agg #[.int .u8 i_1.Op, .int .i64 i_1.A, .int .i64 i_1.B]].toArray em hV w (fun v => HO.pure (v = .bool r)) := by
  have see : Sees w em hV := ⟨sV, Dj.em_right _⟩
  refine Trip.of (P := Tryd.prog) (n := ⟨45, []⟩) Tryd.func24 rfl ⟨rfl, rfl⟩ rfl (St.begin (All.cons (x := slP k_api_Value v_k_0_1 k_0_1) h0 (All.cons (x := slP k_api_Value v_k_0_3 k_0_3) h1 (All.cons (x := slP k_api_Method v_k_0_5 k_0_5) h2 (All.cons (x := slP (kInt .u8) v_k_0_8 k_0_8) h3 (All.cons (x := slP (kInt .u8) v_k_0_10 k_0_10) h4 (All.cons (x := slP k_api_Instr v_k_0_17 k_0_17) h5 (All.cons (x := slP (kInt .u8) v_k_0_19 k_0_19) h6 (All.cons (x := preP b21 [v_k_0_1, v_k_0_3, v_k_0_5, .int .i64 k_0_7, v_k_0_8, v_k_0_10, .int .u8 k_0_12, .bool k_0_13, .int .i64 k_0_14, .int .i64 k_0_15, .int .i64 k_0_16, v_k_0_17, v_k_0_19] 65) h7 (All.nil _)))))))))) ?_
  have ho := H
  refine CP.seq ?_
  refine CP.region ?_
  refine SP.box (cs := [.int .u8 i_1.Op, .int .i64 i_1.A, .int .i64 i_1.B]) rfl rfl rfl rfl (fun b23 => ?_)
  refine SP.val (Val.assign rfl) rfl rfl rfl ?_
  refine SP.nil ?_
  refine QE.then ?_
  refine CP.seq ?_
  refine CP.region ?_
  refine SP.val (Val.assign rfl) rfl rfl rfl ?_
  refine SP.nil ?_
  refine QE.then ?_
  refine CP.join (fun a w2 => ∃ x27 : Int, types_look_there_s1.j1 k_0_1 k_0_3 k_0_5 k_0_7 k_0_8 k_0_10 k_0_12 k_0_13 k_0_14 k_0_15 k_0_16 k_0_17 k_0_19 i_1 x27 = some r ∧ Env ⟨45, []⟩ [(3, .pointer (some ⟨b23, 0, none⟩)), (5, .int .i64 x27)] a ∧ St w em hV [] [boxO b23 [.int .u8 i_1.Op, .int .i64 i_1.A, .int .i64 i_1.B] 45] w2) ?_ ?_
  · rintro a w2 ⟨x27, ho, ha, hw⟩
    refine CP.app ha hw ?_
    clear ha hw a w2
    refine CP.seq ?_
    refine CP.region ?_
    refine SP.val (Val.fieldAddr Tryd.underlying45 rfl sz3 rfl) rfl rfl rfl ?_
    refine SP.val (Val.load1 0 rfl Tryd.underlying3 rfl rfl rfl) rfl rfl rfl ?_
    refine SP.val (Val.move rfl) rfl rfl rfl ?_
    refine SP.val (Val.lss rfl rfl) rfl rfl rfl ?_
    refine SP.val (Val.assign rfl) rfl rfl rfl ?_
    refine SP.nil ?_
    refine QE.then ?_
    refine CP.ret ?_
    obtain rfl := Option.some.inj ho
    exact QE.rets (rs := [.tmp 4]) (vs := [.bool (decide (i_1.A < x27))]) Tryd.results24 rfl ⟨RVs.tmp rfl, trivial⟩ (fun w2 h => St.done (fun a b p s => rfl) h)
  · refine CP.seq ?_
    refine CP.region ?_
    refine SP.val (Val.fieldAddr Tryd.underlying45 rfl sz5 rfl) rfl rfl rfl ?_
    refine SP.val (Val.load1 0 rfl Tryd.underlying5 rfl rfl rfl) rfl rfl rfl ?_
    refine SP.nil ?_
    refine QE.then ?_
    refine CP.block ?_
    refine CP.seq ?_
    refine CP.region ?_
    refine SP.val (Val.eql rfl rfl) rfl rfl rfl ?_
    refine SP.val (Val.assign rfl) rfl rfl rfl ?_
    refine SP.nil ?_
    refine QE.then ?_
    rcases if_some ho with ⟨hc, ho⟩ | ⟨hc, ho⟩
    · refine CP.condT rfl (decide_eq_true hc) ?_
      refine CP.region ?_
      refine SP.val (Val.move rfl) rfl rfl rfl ?_
      refine SP.val (Val.nilCheck rfl) rfl rfl rfl ?_
      refine SP.val (Val.fieldAddr Tryd.underlying65 rfl sz25 rfl) rfl rfl rfl ?_
      refine SP.val (Val.fieldAddr Tryd.underlying25 rfl sz22 rfl) rfl rfl rfl ?_
      refine SP.val (Val.loadPre1 see 7 rfl Tryd.underlying22 rfl rfl rfl) rfl rfl rfl ?_
      refine SP.val (Val.lenP see 1 rfl Tryd.underlying22 rfl) rfl rfl rfl ?_
      refine SP.val (Val.assign rfl) rfl rfl rfl ?_
      refine SP.nil ?_
      refine QE.blockN ?_
      exact QE.meet fun a w2 ha hw => ⟨(k_0_3.length : Int), ho, ha.sub ⟨rfl, rfl, trivial⟩, (St.selP [] rfl hw)⟩
    · refine CP.condF rfl (decide_eq_false hc) ?_
      refine CP.join (fun a w2 => ∃ b25 : Bool, types_look_there_s1.j2 k_0_1 k_0_3 k_0_5 k_0_7 k_0_8 k_0_10 k_0_12 k_0_13 k_0_14 k_0_15 k_0_16 k_0_17 k_0_19 i_1 b25 = some r ∧ Env ⟨45, []⟩ [(0, .pointer (some ⟨b21, 0, none⟩)), (3, .pointer (some ⟨b23, 0, none⟩)), (7, .int .u8 i_1.Op), (16, .bool b25)] a ∧ St w em hV [slP k_api_Value v_k_0_1 k_0_1, slP k_api_Value v_k_0_3 k_0_3, slP k_api_Method v_k_0_5 k_0_5, slP (kInt .u8) v_k_0_8 k_0_8, slP (kInt .u8) v_k_0_10 k_0_10, slP k_api_Instr v_k_0_17 k_0_17, slP (kInt .u8) v_k_0_19 k_0_19, preP b21 [v_k_0_1, v_k_0_3, v_k_0_5, .int .i64 k_0_7, v_k_0_8, v_k_0_10, .int .u8 k_0_12, .bool k_0_13, .int .i64 k_0_14, .int .i64 k_0_15, .int .i64 k_0_16, v_k_0_17, v_k_0_19] 65] [boxO b23 [.int .u8 i_1.Op, .int .i64 i_1.A, .int .i64 i_1.B] 45] w2) ?_ ?_
      · rintro a w2 ⟨b25, ho, ha, hw⟩
        refine CP.app ha hw ?_
        clear ha hw a w2
        rcases if_some ho with ⟨hc, ho⟩ | ⟨hc, ho⟩
        · refine CP.condT rfl hc ?_
          refine CP.region ?_
          refine SP.val (Val.move rfl) rfl rfl rfl ?_
          refine SP.val (Val.nilCheck rfl) rfl rfl rfl ?_
          refine SP.val (Val.fieldAddr Tryd.underlying65 rfl sz33 rfl) rfl rfl rfl ?_
          refine SP.val (Val.loadPre1 see 7 rfl Tryd.underlying33 rfl rfl rfl) rfl rfl rfl ?_
          refine SP.val (Val.lenP see 6 rfl Tryd.underlying33 rfl) rfl rfl rfl ?_
          refine SP.val (Val.assign rfl) rfl rfl rfl ?_
          refine SP.nil ?_
          refine QE.blockN ?_
          exact QE.meet fun a w2 ha hw => ⟨(k_0_19.length : Int), ho, ha.sub ⟨rfl, rfl, trivial⟩, (St.selP [] rfl hw)⟩
        · refine CP.condF rfl (bf hc) ?_
          refine CP.join (fun a w2 => ∃ b26 : Bool, types_look_there_s1.j3 k_0_1 k_0_3 k_0_5 k_0_7 k_0_8 k_0_10 k_0_12 k_0_13 k_0_14 k_0_15 k_0_16 k_0_17 k_0_19 i_1 b26 = some r ∧ Env ⟨45, []⟩ [(0, .pointer (some ⟨b21, 0, none⟩)), (3, .pointer (some ⟨b23, 0, none⟩)), (7, .int .u8 i_1.Op), (24, .bool b26)] a ∧ St w em hV [slP k_api_Value v_k_0_1 k_0_1, slP k_api_Value v_k_0_3 k_0_3, slP k_api_Method v_k_0_5 k_0_5, slP (kInt .u8) v_k_0_8 k_0_8, slP (kInt .u8) v_k_0_10 k_0_10, slP k_api_Instr v_k_0_17 k_0_17, slP (kInt .u8) v_k_0_19 k_0_19, preP b21 [v_k_0_1, v_k_0_3, v_k_0_5, .int .i64 k_0_7, v_k_0_8, v_k_0_10, .int .u8 k_0_12, .bool k_0_13, .int .i64 k_0_14, .int .i64 k_0_15, .int .i64 k_0_16, v_k_0_17, v_k_0_19] 65] [boxO b23 [.int .u8 i_1.Op, .int .i64 i_1.A, .int .i64 i_1.B] 45] w2) ?_ ?_
          · rintro a w2 ⟨b26, ho, ha, hw⟩
            refine CP.app ha hw ?_
            clear ha hw a w2
            rcases if_some ho with ⟨hc, ho⟩ | ⟨hc, ho⟩
            · refine CP.condT rfl hc ?_
              refine CP.region ?_
              refine SP.val (Val.move rfl) rfl rfl rfl ?_
              refine SP.val (Val.nilCheck rfl) rfl rfl rfl ?_
              refine SP.val (Val.fieldAddr Tryd.underlying65 rfl sz25 rfl) rfl rfl rfl ?_
              refine SP.val (Val.fieldAddr Tryd.underlying25 rfl sz22 rfl) rfl rfl rfl ?_
              refine SP.val (Val.loadPre1 see 7 rfl Tryd.underlying22 rfl rfl rfl) rfl rfl rfl ?_
              refine SP.val (Val.lenP see 0 rfl Tryd.underlying22 rfl) rfl rfl rfl ?_
              refine SP.val (Val.assign rfl) rfl rfl rfl ?_
              refine SP.nil ?_
              refine QE.blockN ?_
              exact QE.meet fun a w2 ha hw => ⟨(k_0_1.length : Int), ho, ha.sub ⟨rfl, rfl, trivial⟩, (St.selP [] rfl hw)⟩
            · refine CP.condF rfl (bf hc) ?_
              refine CP.seq ?_
              refine CP.region ?_
              refine SP.val (Val.eql rfl rfl) rfl rfl rfl ?_
              refine SP.val (Val.assign rfl) rfl rfl rfl ?_
              refine SP.nil ?_
              refine QE.then ?_
              rcases if_some ho with ⟨hc, ho⟩ | ⟨hc, ho⟩
              · refine CP.condT rfl (decide_eq_true hc) ?_
                refine CP.region ?_
                refine SP.val (Val.move rfl) rfl rfl rfl ?_
                refine SP.val (Val.nilCheck rfl) rfl rfl rfl ?_
                refine SP.val (Val.fieldAddr Tryd.underlying65 rfl sz25 rfl) rfl rfl rfl ?_
                refine SP.val (Val.fieldAddr Tryd.underlying25 rfl sz23 rfl) rfl rfl rfl ?_
                refine SP.val (Val.loadPre1 see 7 rfl Tryd.underlying23 rfl rfl rfl) rfl rfl rfl ?_
                refine SP.val (Val.lenP see 2 rfl Tryd.underlying23 rfl) rfl rfl rfl ?_
                refine SP.val (Val.assign rfl) rfl rfl rfl ?_
                refine SP.nil ?_
                refine QE.blockN ?_
                exact QE.meet fun a w2 ha hw => ⟨(k_0_5.length : Int), ho, ha.sub ⟨rfl, rfl, trivial⟩, (St.selP [] rfl hw)⟩
              · refine CP.condF rfl (decide_eq_false hc) ?_
                refine CP.seq ?_
                refine CP.region ?_
                refine SP.val (Val.assign rfl) rfl rfl rfl ?_
                refine SP.nil ?_
                refine QE.then ?_
                refine CP.ret ?_
                refine QE.blockR ?_
                refine QE.thru (by intro e; cases e) ?_
                obtain rfl := Option.some.inj ho
                exact QE.rets (rs := [.tmp 4]) (vs := [.bool true]) Tryd.results24 rfl ⟨RVs.tmp rfl, trivial⟩ (fun w2 h => St.done (fun a b p s => rfl) h)
          · refine CP.seq ?_
            refine CP.region ?_
            refine SP.val (Val.eql rfl rfl) rfl rfl rfl ?_
            refine SP.val (Val.assign rfl) rfl rfl rfl ?_
            refine SP.nil ?_
            refine QE.then ?_
            rcases if_some ho with ⟨hc, ho⟩ | ⟨hc, ho⟩
            · refine CP.condT rfl (decide_eq_true hc) ?_
              refine CP.skip ?_
              exact QE.meet fun a w2 ha hw => ⟨(decide (i_1.Op = 4)), ho, ha.sub ⟨rfl, rfl, rfl, rfl, trivial⟩, hw⟩
            · refine CP.condF rfl (decide_eq_false hc) ?_
              refine CP.region ?_
              refine SP.val (Val.eql rfl rfl) rfl rfl rfl ?_
              refine SP.val (Val.assign rfl) rfl rfl rfl ?_
              refine SP.nil ?_
              exact QE.meet fun a w2 ha hw => ⟨(decide (i_1.Op = 5)), ho, ha.sub ⟨rfl, rfl, rfl, rfl, trivial⟩, hw⟩
      · refine CP.seq ?_
        refine CP.region ?_
        refine SP.val (Val.eql rfl rfl) rfl rfl rfl ?_
        refine SP.val (Val.assign rfl) rfl rfl rfl ?_
        refine SP.nil ?_
        refine QE.then ?_
        rcases if_some ho with ⟨hc, ho⟩ | ⟨hc, ho⟩
        · refine CP.condT rfl (decide_eq_true hc) ?_
          refine CP.skip ?_
          exact QE.meet fun a w2 ha hw => ⟨(decide (i_1.Op = 2)), ho, ha.sub ⟨rfl, rfl, rfl, rfl, trivial⟩, hw⟩
        · refine CP.condF rfl (decide_eq_false hc) ?_
          refine CP.region ?_
          refine SP.val (Val.eql rfl rfl) rfl rfl rfl ?_
          refine SP.val (Val.assign rfl) rfl rfl rfl ?_
          refine SP.nil ?_
          exact QE.meet fun a w2 ha hw => ⟨(decide (i_1.Op = 3)), ho, ha.sub ⟨rfl, rfl, rfl, rfl, trivial⟩, hw⟩
/-! ### capstan/types.Rows$1: function 23 -/
def types_Rows_1_s1.f (i_0 : api_Instr) (c0_1 : List api_Value) (c0_3 : List api_Value) (c0_5 : List api_Method) (c0_7 : Int) (c0_8 : List Int) (c0_10 : List Int) (c0_12 : Int) (c0_13 : Bool) (c0_14 : Int) (c0_15 : Int) (c0_16 : Int) (c0_17 : List api_Instr) (c0_19 : List Int) : Option Bool :=
  (types_look_there_s1.f c0_1 c0_3 c0_5 c0_7 c0_8 c0_10 c0_12 c0_13 c0_14 c0_15 c0_16 c0_17 c0_19 i_0).bind fun t27 => some (!t27)
theorem types_Rows_1_s1.ok (i_0 : api_Instr) (c0_1 : List api_Value) (c0_3 : List api_Value) (c0_5 : List api_Method) (c0_7 : Int) (c0_8 : List Int) (c0_10 : List Int) (c0_12 : Int) (c0_13 : Bool) (c0_14 : Int) (c0_15 : Int) (c0_16 : Int) (c0_17 : List api_Instr) (c0_19 : List Int) (v_c0_1 : Value) (v_c0_3 : Value) (v_c0_5 : Value) (v_c0_8 : Value) (v_c0_10 : Value) (v_c0_17 : Value) (v_c0_19 : Value) (b21 : Nat) (b23 : Nat) (r : Bool) (H : types_Rows_1_s1.f i_0 c0_1 c0_3 c0_5 c0_7 c0_8 c0_10 c0_12 c0_13 c0_14 c0_15 c0_16 c0_17 c0_19 = some r) (w : World) (hV : Hp) (sV : Sub hV (hp w)) (h0 : slR k_api_Value hV v_c0_1 c0_1) (h1 : slR k_api_Value hV v_c0_3 c0_3) (h2 : slR k_api_Method hV v_c0_5 c0_5) (h3 : slR (kInt .u8) hV v_c0_8 c0_8) (h4 : slR (kInt .u8) hV v_c0_10 c0_10) (h5 : slR k_api_Instr hV v_c0_17 c0_17) (h6 : slR (kInt .u8) hV v_c0_19 c0_19) (h7 : (preP b21 [v_c0_1, v_c0_3, v_c0_5, .int .i64 c0_7, v_c0_8, v_c0_10, .int .u8 c0_12, .bool c0_13, .int .i64 c0_14, .int .i64 c0_15, .int .i64 c0_16, v_c0_17, v_c0_19] 65).p hV) (h8 : (boxP b23 [.pointer (some ⟨b21, 0, none⟩)] 61).p hV) :
    Trip Tryd.prog 23 [.agg #[.int .u8 i_0.Op, .int .i64 i_0.A, .int .i64 i_0.B], .pointer (some ⟨b23, 0, none⟩)].toArray em hV w (fun v => HO.pure (v = .bool r)) := by
  have see : Sees w em hV := ⟨sV, Dj.em_right _⟩
  refine Trip.of (P := Tryd.prog) (n := ⟨8, []⟩) Tryd.func23 rfl ⟨rfl, rfl⟩ rfl (St.begin (All.cons (x := slP k_api_Value v_c0_1 c0_1) h0 (All.cons (x := slP k_api_Value v_c0_3 c0_3) h1 (All.cons (x := slP k_api_Method v_c0_5 c0_5) h2 (All.cons (x := slP (kInt .u8) v_c0_8 c0_8) h3 (All.cons (x := slP (kInt .u8) v_c0_10 c0_10) h4 (All.cons (x := slP k_api_Instr v_c0_17 c0_17) h5 (All.cons (x := slP (kInt .u8) v_c0_19 c0_19) h6 (All.cons (x := preP b21 [v_c0_1, v_c0_3, v_c0_5, .int .i64 c0_7, v_c0_8, v_c0_10, .int .u8 c0_12, .bool c0_13, .int .i64 c0_14, .int .i64 c0_15, .int .i64 c0_16, v_c0_17, v_c0_19] 65) h7 (All.cons (x := boxP b23 [.pointer (some ⟨b21, 0, none⟩)] 61) h8 (All.nil _))))))))))) ?_
  have ho := H
  refine CP.seq ?_
  refine CP.region ?_
  refine SP.box (cs := [.int .u8 i_0.Op, .int .i64 i_0.A, .int .i64 i_0.B]) rfl rfl rfl rfl (fun b25 => ?_)
  refine SP.val (Val.assign rfl) rfl rfl rfl ?_
  refine SP.nil ?_
  refine QE.then ?_
  refine CP.seq ?_
  refine CP.region ?_
  refine SP.val (Val.loadB1 see 8 rfl Tryd.underlying61 rfl rfl rfl) rfl rfl rfl ?_
  refine SP.val (Val.loadA 0 rfl Tryd.underlying45 rfl sz45 rfl rfl rfl) rfl rfl rfl ?_
  obtain ⟨t27, hc, ho⟩ := bind_some (x := types_look_there_s1.f c0_1 c0_3 c0_5 c0_7 c0_8 c0_10 c0_12 c0_13 c0_14 c0_15 c0_16 c0_17 c0_19 i_0) ho
  refine SP.callV see (caps := []) (.bool t27) fn24 rfl rfl rfl rfl (fun w2 hP hs sub ap => types_look_there_s1.ok c0_1 c0_3 c0_5 c0_7 c0_8 c0_10 c0_12 c0_13 c0_14 c0_15 c0_16 c0_17 c0_19 i_0 _ _ _ _ _ _ _ _ _ hc w2 hP sub (ap.get 0 rfl) (ap.get 1 rfl) (ap.get 2 rfl) (ap.get 3 rfl) (ap.get 4 rfl) (ap.get 5 rfl) (ap.get 6 rfl) (ap.get 7 rfl)) ?_
  clear hc
  refine SP.val (Val.notB rfl) rfl rfl rfl ?_
  refine SP.val (Val.assign rfl) rfl rfl rfl ?_
  refine SP.nil ?_
  refine QE.then ?_
  refine CP.ret ?_
  obtain rfl := Option.some.inj ho
  exact QE.rets (rs := [.tmp 3]) (vs := [.bool (!t27)]) Tryd.results23 rfl ⟨RVs.tmp rfl, trivial⟩ (fun w2 h => St.done (fun a b p s => rfl) h)
/-! ### slices.IndexFunc[[]capstan/api.Instr,capstan/api.Instr]: function 41 -/
inductive slices_IndexFunc_api_Instr_api_Instr_s2.S where
  | start
  | l1 (x31 : Int)

def slices_IndexFunc_api_Instr_api_Instr_s2.F (s_0 : (List api_Instr)) (f_1_2 : List api_Value) (f_1_4 : List api_Value) (f_1_6 : List api_Method) (f_1_8 : Int) (f_1_9 : List Int) (f_1_11 : List Int) (f_1_13 : Int) (f_1_14 : Bool) (f_1_15 : Int) (f_1_16 : Int) (f_1_17 : Int) (f_1_18 : List api_Instr) (f_1_20 : List Int) : slices_IndexFunc_api_Instr_api_Instr_s2.S → Option (slices_IndexFunc_api_Instr_api_Instr_s2.S ⊕ Int)
  | .start => some (.inl (.l1 0))
  | .l1 x31 => if x31 < (s_0.length : Int) then ((elt s_0 x31).bind fun x35 => (types_Rows_1_s1.f x35 f_1_2 f_1_4 f_1_6 f_1_8 f_1_9 f_1_11 f_1_13 f_1_14 f_1_15 f_1_16 f_1_17 f_1_18 f_1_20).bind fun t36 => if t36 = true then (some (.inr x31)) else (some (.inl (.l1 (IntKind.i64.wrap (x31 + 1)))))) else (some (.inr (-1)))

def slices_IndexFunc_api_Instr_api_Instr_s2.f (s_0 : (List api_Instr)) (f_1_2 : List api_Value) (f_1_4 : List api_Value) (f_1_6 : List api_Method) (f_1_8 : Int) (f_1_9 : List Int) (f_1_11 : List Int) (f_1_13 : Int) (f_1_14 : Bool) (f_1_15 : Int) (f_1_16 : Int) (f_1_17 : Int) (f_1_18 : List api_Instr) (f_1_20 : List Int) : Option Int := runF (slices_IndexFunc_api_Instr_api_Instr_s2.F s_0 f_1_2 f_1_4 f_1_6 f_1_8 f_1_9 f_1_11 f_1_13 f_1_14 f_1_15 f_1_16 f_1_17 f_1_18 f_1_20) .start
theorem slices_IndexFunc_api_Instr_api_Instr_s2.ok (s_0 : (List api_Instr)) (f_1_2 : List api_Value) (f_1_4 : List api_Value) (f_1_6 : List api_Method) (f_1_8 : Int) (f_1_9 : List Int) (f_1_11 : List Int) (f_1_13 : Int) (f_1_14 : Bool) (f_1_15 : Int) (f_1_16 : Int) (f_1_17 : Int) (f_1_18 : List api_Instr) (f_1_20 : List Int) (v_s_0 : Value) (v_f_1_2 : Value) (v_f_1_4 : Value) (v_f_1_6 : Value) (v_f_1_9 : Value) (v_f_1_11 : Value) (v_f_1_18 : Value) (v_f_1_20 : Value) (b22 : Nat) (b24 : Nat) (r : Int) (H : slices_IndexFunc_api_Instr_api_Instr_s2.f s_0 f_1_2 f_1_4 f_1_6 f_1_8 f_1_9 f_1_11 f_1_13 f_1_14 f_1_15 f_1_16 f_1_17 f_1_18 f_1_20 = some r) (w : World) (hV : Hp) (sV : Sub hV (hp w)) (h0 : slR k_api_Instr hV v_s_0 s_0) (h1 : slR k_api_Value hV v_f_1_2 f_1_2) (h2 : slR k_api_Value hV v_f_1_4 f_1_4) (h3 : slR k_api_Method hV v_f_1_6 f_1_6) (h4 : slR (kInt .u8) hV v_f_1_9 f_1_9) (h5 : slR (kInt .u8) hV v_f_1_11 f_1_11) (h6 : slR k_api_Instr hV v_f_1_18 f_1_18) (h7 : slR (kInt .u8) hV v_f_1_20 f_1_20) (h8 : (preP b22 [v_f_1_2, v_f_1_4, v_f_1_6, .int .i64 f_1_8, v_f_1_9, v_f_1_11, .int .u8 f_1_13, .bool f_1_14, .int .i64 f_1_15, .int .i64 f_1_16, .int .i64 f_1_17, v_f_1_18, v_f_1_20] 65).p hV) (h9 : (boxP b24 [.pointer (some ⟨b22, 0, none⟩)] 61).p hV) :
    Trip Tryd.prog 41 [v_s_0, .func (.func 23) #[] #[.pointer (some ⟨b24, 0, none⟩)]].toArray em hV w (fun v => HO.pure (v = .int .i64 r)) := by
  have see : Sees w em hV := ⟨sV, Dj.em_right _⟩
  refine Trip.of (P := Tryd.prog) (n := ⟨19, []⟩) Tryd.func41 rfl ⟨rfl, rfl⟩ rfl (St.begin (All.cons (x := slP k_api_Instr v_s_0 s_0) h0 (All.cons (x := slP k_api_Value v_f_1_2 f_1_2) h1 (All.cons (x := slP k_api_Value v_f_1_4 f_1_4) h2 (All.cons (x := slP k_api_Method v_f_1_6 f_1_6) h3 (All.cons (x := slP (kInt .u8) v_f_1_9 f_1_9) h4 (All.cons (x := slP (kInt .u8) v_f_1_11 f_1_11) h5 (All.cons (x := slP k_api_Instr v_f_1_18 f_1_18) h6 (All.cons (x := slP (kInt .u8) v_f_1_20 f_1_20) h7 (All.cons (x := preP b22 [v_f_1_2, v_f_1_4, v_f_1_6, .int .i64 f_1_8, v_f_1_9, v_f_1_11, .int .u8 f_1_13, .bool f_1_14, .int .i64 f_1_15, .int .i64 f_1_16, .int .i64 f_1_17, v_f_1_18, v_f_1_20] 65) h8 (All.cons (x := boxP b24 [.pointer (some ⟨b22, 0, none⟩)] 61) h9 (All.nil _)))))))))))) ?_
  obtain ⟨n0, hi⟩ := runF_iff.1 H
  obtain ⟨m0, o, hm0, ho, hr⟩ := iter_some hi
  clear hi
  refine CP.seq ?_
  refine CP.region ?_
  refine SP.val (Val.assign rfl) rfl rfl rfl ?_
  refine SP.nil ?_
  refine QE.then ?_
  refine CP.seq ?_
  refine CP.seq ?_
  refine CP.region ?_
  refine SP.val (Val.move rfl) rfl rfl rfl ?_
  refine SP.val (Val.lenP see 0 rfl Tryd.underlying34 rfl) rfl rfl rfl ?_
  refine SP.val (Val.move rfl) rfl rfl rfl ?_
  refine SP.nil ?_
  refine QE.then ?_
  refine CP.block ?_
  obtain rfl := Option.some.inj ho
  refine CP.loop (fun cl1 a w2 => ∃ x31 : Int, cl1 ≤ m0 ∧ iter (slices_IndexFunc_api_Instr_api_Instr_s2.F s_0 f_1_2 f_1_4 f_1_6 f_1_8 f_1_9 f_1_11 f_1_13 f_1_14 f_1_15 f_1_16 f_1_17 f_1_18 f_1_20) cl1 (.l1 x31) = some r ∧ Env ⟨19, []⟩ [(0, v_s_0), (1, .func (.func 23) #[] #[.pointer (some ⟨b24, 0, none⟩)]), (7, .int .i64 (s_0.length : Int)), (8, .int .i64 x31)] a ∧ St w em hV [slP k_api_Instr v_s_0 s_0, slP k_api_Value v_f_1_2 f_1_2, slP k_api_Value v_f_1_4 f_1_4, slP k_api_Method v_f_1_6 f_1_6, slP (kInt .u8) v_f_1_9 f_1_9, slP (kInt .u8) v_f_1_11 f_1_11, slP k_api_Instr v_f_1_18 f_1_18, slP (kInt .u8) v_f_1_20 f_1_20, preP b22 [v_f_1_2, v_f_1_4, v_f_1_6, .int .i64 f_1_8, v_f_1_9, v_f_1_11, .int .u8 f_1_13, .bool f_1_14, .int .i64 f_1_15, .int .i64 f_1_16, .int .i64 f_1_17, v_f_1_18, v_f_1_20] 65, boxP b24 [.pointer (some ⟨b22, 0, none⟩)] 61] [] w2) m0 (fun a w2 ha hw => ⟨0, Nat.le_refl _, hr, ha.sub ⟨rfl, rfl, rfl, rfl, trivial⟩, hw⟩) ?_
  clear hr
  rintro cl1 a w2 ⟨x31, hc_l1, hi, ha, hw⟩
  obtain ⟨m32, o, hm_m32, ho, hr⟩ := iter_some hi
  refine CP.app ha hw ?_
  clear ha hw a w2 hi
  refine CP.seq ?_
  refine CP.region ?_
  refine SP.val (Val.lss rfl rfl) rfl rfl rfl ?_
  refine SP.nil ?_
  refine QE.then ?_
  refine CP.seq ?_
  rcases if_some ho with ⟨hc, ho⟩ | ⟨hc, ho⟩
  · refine CP.condT rfl (decide_eq_true hc) ?_
    refine CP.skip ?_
    refine QE.then ?_
    refine CP.seq ?_
    refine CP.block ?_
    refine CP.seq ?_
    refine CP.region ?_
    refine SP.val (Val.move rfl) rfl rfl rfl ?_
    refine SP.val (Val.assign rfl) rfl rfl rfl ?_
    refine SP.nil ?_
    refine QE.then ?_
    refine CP.seq ?_
    refine CP.region ?_
    refine SP.val (Val.move rfl) rfl rfl rfl ?_
    refine SP.val (Val.move rfl) rfl rfl rfl ?_
    refine SP.val (Val.move rfl) rfl rfl rfl ?_
    obtain ⟨x35, hx, ho⟩ := bind_some ho
    have hx := elt_some hx
    refine SP.indexP see 0 rfl Tryd.underlying34 sz45 hx.1 hx.2 rfl rfl rfl rfl (fun p33 => ?_)
    clear hx
    refine k_api_Instr.load see 0 rfl Tryd.underlying45 rfl sz45 rfl rfl rfl ?_
    obtain ⟨t36, hc, ho⟩ := bind_some (x := types_Rows_1_s1.f x35 f_1_2 f_1_4 f_1_6 f_1_8 f_1_9 f_1_11 f_1_13 f_1_14 f_1_15 f_1_16 f_1_17 f_1_18 f_1_20) ho
    refine SP.callV see (caps := [.pointer (some ⟨b24, 0, none⟩)]) (.bool t36) fn23 rfl rfl rfl rfl (fun w2 hP hs sub ap => types_Rows_1_s1.ok x35 f_1_2 f_1_4 f_1_6 f_1_8 f_1_9 f_1_11 f_1_13 f_1_14 f_1_15 f_1_16 f_1_17 f_1_18 f_1_20 _ _ _ _ _ _ _ _ _ _ hc w2 hP sub (ap.get 2 rfl) (ap.get 3 rfl) (ap.get 4 rfl) (ap.get 5 rfl) (ap.get 6 rfl) (ap.get 7 rfl) (ap.get 8 rfl) (ap.get 9 rfl) (ap.get 10 rfl)) ?_
    clear hc
    refine SP.nil ?_
    refine QE.then ?_
    rcases if_some ho with ⟨hc, ho⟩ | ⟨hc, ho⟩
    · refine CP.condT rfl hc ?_
      refine CP.seq ?_
      refine CP.region ?_
      refine SP.val (Val.move rfl) rfl rfl rfl ?_
      refine SP.val (Val.assign rfl) rfl rfl rfl ?_
      refine SP.nil ?_
      refine QE.then ?_
      refine CP.ret ?_
      refine QE.blockR ?_
      refine QE.thru (by intro e; cases e) ?_
      refine QE.thru (by intro e; cases e) ?_
      refine QE.blockR ?_
      refine QE.thru (by intro e; cases e) ?_
      obtain rfl := Option.some.inj ho
      obtain rfl := Option.some.inj hr
      exact QE.rets (rs := [.tmp 4]) (vs := [.int .i64 x31]) Tryd.results41 rfl ⟨RVs.tmp rfl, trivial⟩ (fun w2 h => St.done (fun a b p s => rfl) h)
    · refine CP.condF rfl (bf hc) ?_
      refine CP.skip ?_
      refine QE.blockN ?_
      refine QE.then ?_
      refine CP.region ?_
      refine SP.val (Val.add rfl rfl) rfl rfl rfl ?_
      refine SP.val (Val.move rfl) rfl rfl rfl ?_
      refine SP.nil ?_
      obtain rfl := Option.some.inj ho
      exact QE.lower m32 (by omega) fun a w2 ha hw => ⟨(IntKind.i64.wrap (x31 + 1)), (by omega), hr, ha.sub ⟨rfl, rfl, rfl, rfl, trivial⟩, (St.selP [1, 2, 3, 4, 5, 6, 7, 8, 9, 10] rfl hw)⟩
  · refine CP.condF rfl (decide_eq_false hc) ?_
    refine CP.exit ?_
    refine QE.thru (by intro e; cases e) ?_
    refine QE.thru (by intro e; cases e) ?_
    refine QE.blockE ?_
    refine QE.then ?_
    refine CP.seq ?_
    refine CP.region ?_
    refine SP.val (Val.assign rfl) rfl rfl rfl ?_
    refine SP.nil ?_
    refine QE.then ?_
    refine CP.ret ?_
    obtain rfl := Option.some.inj ho
    obtain rfl := Option.some.inj hr
    exact QE.rets (rs := [.tmp 4]) (vs := [.int .i64 (-1)]) Tryd.results41 rfl ⟨RVs.tmp rfl, trivial⟩ (fun w2 h => St.done (fun a b p s => rfl) h)
/-! ### slices.ContainsFunc[[]capstan/api.Instr,capstan/api.Instr]: function 22 -/
def slices_ContainsFunc_api_Instr_api_Instr_s2.f (s_0 : (List api_Instr)) (f_1_2 : List api_Value) (f_1_4 : List api_Value) (f_1_6 : List api_Method) (f_1_8 : Int) (f_1_9 : List Int) (f_1_11 : List Int) (f_1_13 : Int) (f_1_14 : Bool) (f_1_15 : Int) (f_1_16 : Int) (f_1_17 : Int) (f_1_18 : List api_Instr) (f_1_20 : List Int) : Option Bool :=
  (slices_IndexFunc_api_Instr_api_Instr_s2.f s_0 f_1_2 f_1_4 f_1_6 f_1_8 f_1_9 f_1_11 f_1_13 f_1_14 f_1_15 f_1_16 f_1_17 f_1_18 f_1_20).bind fun t26 => some (decide (t26 ≥ 0))
theorem slices_ContainsFunc_api_Instr_api_Instr_s2.ok (s_0 : (List api_Instr)) (f_1_2 : List api_Value) (f_1_4 : List api_Value) (f_1_6 : List api_Method) (f_1_8 : Int) (f_1_9 : List Int) (f_1_11 : List Int) (f_1_13 : Int) (f_1_14 : Bool) (f_1_15 : Int) (f_1_16 : Int) (f_1_17 : Int) (f_1_18 : List api_Instr) (f_1_20 : List Int) (v_s_0 : Value) (v_f_1_2 : Value) (v_f_1_4 : Value) (v_f_1_6 : Value) (v_f_1_9 : Value) (v_f_1_11 : Value) (v_f_1_18 : Value) (v_f_1_20 : Value) (b22 : Nat) (b24 : Nat) (r : Bool) (H : slices_ContainsFunc_api_Instr_api_Instr_s2.f s_0 f_1_2 f_1_4 f_1_6 f_1_8 f_1_9 f_1_11 f_1_13 f_1_14 f_1_15 f_1_16 f_1_17 f_1_18 f_1_20 = some r) (w : World) (hV : Hp) (sV : Sub hV (hp w)) (h0 : slR k_api_Instr hV v_s_0 s_0) (h1 : slR k_api_Value hV v_f_1_2 f_1_2) (h2 : slR k_api_Value hV v_f_1_4 f_1_4) (h3 : slR k_api_Method hV v_f_1_6 f_1_6) (h4 : slR (kInt .u8) hV v_f_1_9 f_1_9) (h5 : slR (kInt .u8) hV v_f_1_11 f_1_11) (h6 : slR k_api_Instr hV v_f_1_18 f_1_18) (h7 : slR (kInt .u8) hV v_f_1_20 f_1_20) (h8 : (preP b22 [v_f_1_2, v_f_1_4, v_f_1_6, .int .i64 f_1_8, v_f_1_9, v_f_1_11, .int .u8 f_1_13, .bool f_1_14, .int .i64 f_1_15, .int .i64 f_1_16, .int .i64 f_1_17, v_f_1_18, v_f_1_20] 65).p hV) (h9 : (boxP b24 [.pointer (some ⟨b22, 0, none⟩)] 61).p hV) :
    Trip Tryd.prog 22 [v_s_0, .func (.func 23) #[] #[.pointer (some ⟨b24, 0, none⟩)]].toArray em hV w (fun v => HO.pure (v = .bool r)) := by
  have see : Sees w em hV := ⟨sV, Dj.em_right _⟩
  refine Trip.of (P := Tryd.prog) (n := ⟨9, []⟩) Tryd.func22 rfl ⟨rfl, rfl⟩ rfl (St.begin (All.cons (x := slP k_api_Instr v_s_0 s_0) h0 (All.cons (x := slP k_api_Value v_f_1_2 f_1_2) h1 (All.cons (x := slP k_api_Value v_f_1_4 f_1_4) h2 (All.cons (x := slP k_api_Method v_f_1_6 f_1_6) h3 (All.cons (x := slP (kInt .u8) v_f_1_9 f_1_9) h4 (All.cons (x := slP (kInt .u8) v_f_1_11 f_1_11) h5 (All.cons (x := slP k_api_Instr v_f_1_18 f_1_18) h6 (All.cons (x := slP (kInt .u8) v_f_1_20 f_1_20) h7 (All.cons (x := preP b22 [v_f_1_2, v_f_1_4, v_f_1_6, .int .i64 f_1_8, v_f_1_9, v_f_1_11, .int .u8 f_1_13, .bool f_1_14, .int .i64 f_1_15, .int .i64 f_1_16, .int .i64 f_1_17, v_f_1_18, v_f_1_20] 65) h8 (All.cons (x := boxP b24 [.pointer (some ⟨b22, 0, none⟩)] 61) h9 (All.nil _)))))))))))) ?_
  have ho := H
  refine CP.seq ?_
  refine CP.region ?_
  refine SP.val (Val.assign rfl) rfl rfl rfl ?_
  refine SP.nil ?_
  refine QE.then ?_
  refine CP.seq ?_
  refine CP.region ?_
  refine SP.val (Val.move rfl) rfl rfl rfl ?_
  refine SP.val (Val.move rfl) rfl rfl rfl ?_
  obtain ⟨t26, hc, ho⟩ := bind_some (x := slices_IndexFunc_api_Instr_api_Instr_s2.f s_0 f_1_2 f_1_4 f_1_6 f_1_8 f_1_9 f_1_11 f_1_13 f_1_14 f_1_15 f_1_16 f_1_17 f_1_18 f_1_20) ho
  refine SP.callV see (caps := []) (.int .i64 t26) fn41 rfl rfl rfl rfl (fun w2 hP hs sub ap => slices_IndexFunc_api_Instr_api_Instr_s2.ok s_0 f_1_2 f_1_4 f_1_6 f_1_8 f_1_9 f_1_11 f_1_13 f_1_14 f_1_15 f_1_16 f_1_17 f_1_18 f_1_20 _ _ _ _ _ _ _ _ _ _ _ hc w2 hP sub (ap.get 0 rfl) (ap.get 1 rfl) (ap.get 2 rfl) (ap.get 3 rfl) (ap.get 4 rfl) (ap.get 5 rfl) (ap.get 6 rfl) (ap.get 7 rfl) (ap.get 8 rfl) (ap.get 9 rfl)) ?_
  clear hc
  refine SP.val (Val.geq rfl rfl) rfl rfl rfl ?_
  refine SP.val (Val.assign rfl) rfl rfl rfl ?_
  refine SP.nil ?_
  refine QE.then ?_
  refine CP.ret ?_
  obtain rfl := Option.some.inj ho
  exact QE.rets (rs := [.tmp 4]) (vs := [.bool (decide (t26 ≥ 0))]) Tryd.results22 rfl ⟨RVs.tmp rfl, trivial⟩ (fun w2 h => St.done (fun a b p s => rfl) h)
/-! ### (*capstan/op.Shape).take: function 44 -/
def op_Shape_take_s2.f (s_0_2 : List Int) (s_0_5 : List Int) (kind_1 : Int) : Option ((List Int) × (List Int)) :=
  if (s_0_2.length + [kind_1].length) * 1 ≤ 140737488355328 then (some (s_0_2 ++ [kind_1], s_0_5)) else none
theorem op_Shape_take_s2.ok (s_0_2 : List Int) (s_0_5 : List Int) (kind_1 : Int) (v_s_0_2 : Value) (v_s_0_5 : Value) (r : (List Int) × (List Int)) (H : op_Shape_take_s2.f s_0_2 s_0_5 kind_1 = some r) (w : World) (hV : Hp) (sV : Sub hV (hp w)) (h0 : anyP.p hV) (h1 : anyP.p hV) (b1 : Nat) (hA : Hp) (sA : Sub hA (hp w)) (dA : Dj hV hA) (hI : (HO.seps [boxO b1 [v_s_0_2, v_s_0_5] 75, slO (kInt .u8) 5 v_s_0_2 s_0_2, slO (kInt .u8) 5 v_s_0_5 s_0_5]).p hV hA) :
    Trip Tryd.prog 44 [.pointer (some ⟨b1, 0, none⟩), .int .u8 kind_1].toArray hA hV w (fun v => HO.pand (v = .tuple #[]) (HO.seps [HO.ex fun v12 : Value => HO.ex fun v13 : Value => HO.seps [boxO b1 [v12, v13] 75, slO (kInt .u8) 5 v12 r.1, slO (kInt .u8) 5 v13 r.2]])) := by
  have see : Sees w hA hV := ⟨sV, dA⟩
  refine Trip.of (P := Tryd.prog) (n := ⟨14, []⟩) Tryd.func44 rfl ⟨rfl, rfl⟩ rfl (St.beginA (os := [boxO b1 [v_s_0_2, v_s_0_5] 75, slO (kInt .u8) 5 v_s_0_2 s_0_2, slO (kInt .u8) 5 v_s_0_5 s_0_5]) sA (All.cons (x := anyP) h0 (All.cons (x := anyP) h1 (All.nil _))) hI) ?_
  have ho := H
  refine CP.region ?_
  refine SP.val (Val.move rfl) rfl rfl rfl ?_
  refine SP.val (Val.move rfl) rfl rfl rfl ?_
  refine SP.val (Val.nilCheck rfl) rfl rfl rfl ?_
  refine SP.val (Val.fieldAddr Tryd.underlying75 rfl sz33 rfl) rfl rfl rfl ?_
  refine SP.val (Val.load1 0 rfl Tryd.underlying33 rfl rfl rfl) rfl rfl rfl ?_
  refine SP.val (Val.move rfl) rfl rfl rfl ?_
  refine SP.lit (k := (kInt .u8)) (xs := [kind_1]) (vs := [.int .u8 kind_1]) (cells := [.int .u8 kind_1]) Tryd.underlying33 inf5 rfl rfl rfl rfl rfl rfl rfl rfl (fun _ ap => ⟨[.int .u8 kind_1], _, rfl, rfl, rfl⟩) rfl rfl rfl (fun v8 => ?_)
  refine SP.freezeS see 0 rfl ?_
  obtain ⟨hb, ho⟩ := must_some ho
  refine SP.append see 1 rfl 0 rfl Tryd.underlying33 inf5 rfl rfl hb rfl rfl rfl rfl rfl (fun v10 => ?_)
  clear hb
  refine SP.val (Val.nilCheck rfl) rfl rfl rfl ?_
  refine SP.val (Val.fieldAddr Tryd.underlying75 rfl sz33 rfl) rfl rfl rfl ?_
  refine SP.have (fun w2 hw => slO.shape (St.own 1 rfl see.sub see.dj hw)) (fun hs_v10 => ?_)
  refine SP.store (v := v10) (vs := [v10]) 0 (by rfl) sz33 (by rfl) (by rfl) (by rfl) (one_cells hs_v10) (one_cons hs_v10 (rfl)) (by rfl) ?_
  refine SP.nil ?_
  obtain rfl := Option.some.inj ho
  exact QE.over (rs := []) (vs := []) Tryd.results44 rfl trivial (fun w2 h => St.done (fun a b p s => ⟨rfl, s⟩) (St.shut v10 (St.shut v_s_0_5 (St.group [boxO b1 [v10, v_s_0_5] 75, slO (kInt .u8) 5 v10 (s_0_2 ++ [kind_1]), slO (kInt .u8) 5 v_s_0_5 s_0_5] (St.selO [0, 1, 2] rfl rfl h)))))
/-! ### (*capstan/op.Shape).give: function 45 -/
def op_Shape_give_s2.f (s_0_2 : List Int) (s_0_5 : List Int) (kind_1 : Int) : Option ((List Int) × (List Int)) :=
  if (s_0_5.length + [kind_1].length) * 1 ≤ 140737488355328 then (some (s_0_2, s_0_5 ++ [kind_1])) else none
theorem op_Shape_give_s2.ok (s_0_2 : List Int) (s_0_5 : List Int) (kind_1 : Int) (v_s_0_2 : Value) (v_s_0_5 : Value) (r : (List Int) × (List Int)) (H : op_Shape_give_s2.f s_0_2 s_0_5 kind_1 = some r) (w : World) (hV : Hp) (sV : Sub hV (hp w)) (h0 : anyP.p hV) (h1 : anyP.p hV) (b1 : Nat) (hA : Hp) (sA : Sub hA (hp w)) (dA : Dj hV hA) (hI : (HO.seps [boxO b1 [v_s_0_2, v_s_0_5] 75, slO (kInt .u8) 5 v_s_0_2 s_0_2, slO (kInt .u8) 5 v_s_0_5 s_0_5]).p hV hA) :
    Trip Tryd.prog 45 [.pointer (some ⟨b1, 0, none⟩), .int .u8 kind_1].toArray hA hV w (fun v => HO.pand (v = .tuple #[]) (HO.seps [HO.ex fun v12 : Value => HO.ex fun v13 : Value => HO.seps [boxO b1 [v12, v13] 75, slO (kInt .u8) 5 v12 r.1, slO (kInt .u8) 5 v13 r.2]])) := by
  have see : Sees w hA hV := ⟨sV, dA⟩
  refine Trip.of (P := Tryd.prog) (n := ⟨14, []⟩) Tryd.func45 rfl ⟨rfl, rfl⟩ rfl (St.beginA (os := [boxO b1 [v_s_0_2, v_s_0_5] 75, slO (kInt .u8) 5 v_s_0_2 s_0_2, slO (kInt .u8) 5 v_s_0_5 s_0_5]) sA (All.cons (x := anyP) h0 (All.cons (x := anyP) h1 (All.nil _))) hI) ?_
  have ho := H
  refine CP.region ?_
  refine SP.val (Val.move rfl) rfl rfl rfl ?_
  refine SP.val (Val.move rfl) rfl rfl rfl ?_
  refine SP.val (Val.nilCheck rfl) rfl rfl rfl ?_
  refine SP.val (Val.fieldAddr Tryd.underlying75 rfl sz33 rfl) rfl rfl rfl ?_
  refine SP.val (Val.load1 0 rfl Tryd.underlying33 rfl rfl rfl) rfl rfl rfl ?_
  refine SP.val (Val.move rfl) rfl rfl rfl ?_
  refine SP.lit (k := (kInt .u8)) (xs := [kind_1]) (vs := [.int .u8 kind_1]) (cells := [.int .u8 kind_1]) Tryd.underlying33 inf5 rfl rfl rfl rfl rfl rfl rfl rfl (fun _ ap => ⟨[.int .u8 kind_1], _, rfl, rfl, rfl⟩) rfl rfl rfl (fun v8 => ?_)
  refine SP.freezeS see 0 rfl ?_
  obtain ⟨hb, ho⟩ := must_some ho
  refine SP.append see 2 rfl 0 rfl Tryd.underlying33 inf5 rfl rfl hb rfl rfl rfl rfl rfl (fun v10 => ?_)
  clear hb
  refine SP.val (Val.nilCheck rfl) rfl rfl rfl ?_
  refine SP.val (Val.fieldAddr Tryd.underlying75 rfl sz33 rfl) rfl rfl rfl ?_
  refine SP.have (fun w2 hw => slO.shape (St.own 2 rfl see.sub see.dj hw)) (fun hs_v10 => ?_)
  refine SP.store (v := v10) (vs := [v10]) 0 (by rfl) sz33 (by rfl) (by rfl) (by rfl) (one_cells hs_v10) (one_cons hs_v10 (rfl)) (by rfl) ?_
  refine SP.nil ?_
  obtain rfl := Option.some.inj ho
  exact QE.over (rs := []) (vs := []) Tryd.results45 rfl trivial (fun w2 h => St.done (fun a b p s => ⟨rfl, s⟩) (St.shut v_s_0_2 (St.shut v10 (St.group [boxO b1 [v_s_0_2, v10] 75, slO (kInt .u8) 5 v_s_0_2 s_0_2, slO (kInt .u8) 5 v10 (s_0_5 ++ [kind_1])] (St.selO [0, 1, 2] rfl rfl h)))))
end Go.Proofs.YtpbmkaenleedoaaDoor
end
