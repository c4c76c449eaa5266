/- Functions of the program as plain functions, with the proof that the code computes them: printed by gen.py of this session. -/
import Derived.Test.YtbejlahmhloloaaProg
import Derived.Test.YtbejlahmhloloaaQ19v4c60a3
set_option linter.unusedVariables false
set_option linter.unusedSimpArgs false
set_option maxRecDepth 20000
set_option maxHeartbeats 2000000
noncomputable section
namespace Go.Proofs.Ytbejlahmhloloaa
open Go.Q
structure api_Value where
  Kind : Int
  A : Int
  B : Int
def api_Value.zero : api_Value := ⟨0, 0, 0⟩
def k_api_Value : Kd api_Value := ⟨3, fun h cs x => cs = [.int .u8 x.Kind, .int .i64 x.A, .int .i64 x.B], fun _ _ _ _ _ h => h, fun _ _ _ h => by simp [h], fun _ _ _ h => by subst h; rfl⟩
theorem k_api_Value.part_Kind : Part k_api_Value 0 (kInt .u8) (fun x => x.Kind) := fun h cs x e => ⟨[.int .u8 x.Kind], rfl, by subst e; exact seg_get [.int .u8 x.Kind, .int .i64 x.A, .int .i64 x.B] 0 1⟩
theorem k_api_Value.part_A : Part k_api_Value 1 (kInt .i64) (fun x => x.A) := fun h cs x e => ⟨[.int .i64 x.A], rfl, by subst e; exact seg_get [.int .u8 x.Kind, .int .i64 x.A, .int .i64 x.B] 1 1⟩
theorem k_api_Value.part_B : Part k_api_Value 2 (kInt .i64) (fun x => x.B) := fun h cs x e => ⟨[.int .i64 x.B], rfl, by subst e; exact seg_get [.int .u8 x.Kind, .int .i64 x.A, .int .i64 x.B] 2 1⟩
theorem k_api_Value.load {P : Program} {n : Fr} {ρ : Option Nat} {σ : List (Nat × Value)} {w0 : World} {hA hV : Hp} {ps : List HP} {os : List HO} {L l : List Oper} {Q : Cont} {d : Nat} {t tr : TypeId} {x : Operand} {pos : String} {af : Array Edge} {g : Option (Nat × Bool)} {v : Value} (see : Sees w0 hA hV) (i : Nat) {x0 : api_Value} (hi : ps[i]? = some (elP k_api_Value v x0)) {dsc : TypeDesc} (hu : P.underlying t = some dsc) (hd : (match dsc with | .struct _ | .array _ _ => true | _ => false) = true) (hs : (P.info? t).map (·.size) = some 3) (hg : gd L σ g = some true) (hn : Nat.blt d n.n = true) (hx : ev σ x = some v)
    (h : SP P n ρ ((d, .agg [.int .u8 x0.Kind, .int .i64 x0.A, .int .i64 x0.B].toArray) :: σ) (St w0 hA hV (ps) os) L l Q) : SP P n ρ σ (St w0 hA hV ps os) L (⟨some d, .load t x, tr, pos, af, g⟩ :: l) Q :=
  SP.loadP see i hi hu hd hs hg hn hx fun cs a w ha hw => by
    obtain ⟨m, fr, hN, hO, n1, n2, dj, s1, s2, ap, s⟩ := hw
    obtain rfl := ap.get 0 rfl
    exact h a w ha ⟨m, fr, hN, hO, n1, n2, dj, s1, s2, (fun y hy => ap y (List.mem_cons_of_mem _ hy)), s⟩
structure api_Instr where
  Op : Int
  A : Int
  B : Int
def api_Instr.zero : api_Instr := ⟨0, 0, 0⟩
def k_api_Instr : Kd api_Instr := ⟨3, fun h cs x => cs = [.int .u8 x.Op, .int .i64 x.A, .int .i64 x.B], fun _ _ _ _ _ h => h, fun _ _ _ h => by simp [h], fun _ _ _ h => by subst h; rfl⟩
theorem k_api_Instr.part_Op : Part k_api_Instr 0 (kInt .u8) (fun x => x.Op) := fun h cs x e => ⟨[.int .u8 x.Op], rfl, by subst e; exact seg_get [.int .u8 x.Op, .int .i64 x.A, .int .i64 x.B] 0 1⟩
theorem k_api_Instr.part_A : Part k_api_Instr 1 (kInt .i64) (fun x => x.A) := fun h cs x e => ⟨[.int .i64 x.A], rfl, by subst e; exact seg_get [.int .u8 x.Op, .int .i64 x.A, .int .i64 x.B] 1 1⟩
theorem k_api_Instr.part_B : Part k_api_Instr 2 (kInt .i64) (fun x => x.B) := fun h cs x e => ⟨[.int .i64 x.B], rfl, by subst e; exact seg_get [.int .u8 x.Op, .int .i64 x.A, .int .i64 x.B] 2 1⟩
theorem k_api_Instr.load {P : Program} {n : Fr} {ρ : Option Nat} {σ : List (Nat × Value)} {w0 : World} {hA hV : Hp} {ps : List HP} {os : List HO} {L l : List Oper} {Q : Cont} {d : Nat} {t tr : TypeId} {x : Operand} {pos : String} {af : Array Edge} {g : Option (Nat × Bool)} {v : Value} (see : Sees w0 hA hV) (i : Nat) {x0 : api_Instr} (hi : ps[i]? = some (elP k_api_Instr v x0)) {dsc : TypeDesc} (hu : P.underlying t = some dsc) (hd : (match dsc with | .struct _ | .array _ _ => true | _ => false) = true) (hs : (P.info? t).map (·.size) = some 3) (hg : gd L σ g = some true) (hn : Nat.blt d n.n = true) (hx : ev σ x = some v)
    (h : SP P n ρ ((d, .agg [.int .u8 x0.Op, .int .i64 x0.A, .int .i64 x0.B].toArray) :: σ) (St w0 hA hV (ps) os) L l Q) : SP P n ρ σ (St w0 hA hV ps os) L (⟨some d, .load t x, tr, pos, af, g⟩ :: l) Q :=
  SP.loadP see i hi hu hd hs hg hn hx fun cs a w ha hw => by
    obtain ⟨m, fr, hN, hO, n1, n2, dj, s1, s2, ap, s⟩ := hw
    obtain rfl := ap.get 0 rfl
    exact h a w ha ⟨m, fr, hN, hO, n1, n2, dj, s1, s2, (fun y hy => ap y (List.mem_cons_of_mem _ hy)), s⟩
structure api_Method where
  Args : (List Int)
  Locals : (List Int)
  Result : Int
  Reads : Bool
  Fuel : Int
  Stack : Int
  Heap : Int
  Code : (List api_Instr)
def api_Method.zero : api_Method := ⟨[], [], 0, false, 0, 0, 0, []⟩
def k_api_Method : Kd api_Method := ⟨8, fun h cs x => ∃ v0 v1 v2 : Value, cs = [v0, v1, .int .u8 x.Result, .bool x.Reads, .int .i64 x.Fuel, .int .i64 x.Stack, .int .i64 x.Heap, v2] ∧ slR (kInt .u8) h v0 x.Args ∧ slR (kInt .u8) h v1 x.Locals ∧ slR k_api_Instr h v2 x.Code,
  fun _ _ _ _ s ⟨v0, v1, v2, e, p0, p1, p2⟩ => ⟨v0, v1, v2, e, slR.mono s p0, slR.mono s p1, slR.mono s p2⟩, fun _ _ _ ⟨v0, v1, v2, e, p0, p1, p2⟩ => by simp [e],
  fun _ _ _ ⟨v0, v1, v2, e, p0, p1, p2⟩ => by subst e; obtain ⟨_, _, rfl, -⟩ := p0; obtain ⟨_, _, rfl, -⟩ := p1; obtain ⟨_, _, rfl, -⟩ := p2; rfl⟩
def o_api_Method : Ko api_Method := ⟨k_api_Method, fun cs x => HO.ex fun v0 : Value => HO.ex fun v1 : Value => HO.ex fun v2 : Value => HO.pand (cs = [v0, v1, .int .u8 x.Result, .bool x.Reads, .int .i64 x.Fuel, .int .i64 x.Stack, .int .i64 x.Heap, v2]) (HO.seps [slO (kInt .u8) 5 v0 x.Args, slO (kInt .u8) 5 v1 x.Locals, slO k_api_Instr 133 v2 x.Code]), fun ⟨v0, v1, v2, e, q⟩ sa sh => ⟨v0, v1, v2, e, slO.read (Sep.get 0 rfl q) sa sh, slO.read (Sep.get 1 rfl q) sa sh, slO.read (Sep.get 2 rfl q) sa sh⟩⟩
@[reducible] def api_Method.set_Args (x : api_Method) (l : (List Int)) : api_Method := { x with Args := l }
theorem o_api_Method.leaf0 : Leaf o_api_Method 0 (kInt .u8) 5 (fun x => x.Args) api_Method.set_Args := fun a h c x ⟨v0, v1, v2, e, q⟩ => by
  subst e
  obtain ⟨h1, h2, dj, s1, s2, p, rest⟩ := Sep.take 0 _ rfl q
  exact ⟨v0, h1, h2, rfl, dj, s1, s2, p, fun a' h' l' sa dj' r => ⟨v0, v1, v2, rfl, Sep.back 0 [slO (kInt .u8) 5 v0 x.Args, slO (kInt .u8) 5 v1 x.Locals, slO k_api_Instr 133 v2 x.Code] (x := slO (kInt .u8) 5 v0 l') (Nat.le_of_ble_eq_true rfl) dj' r (Sep.mono _ sa (Sub.refl _) rest)⟩⟩
@[reducible] def api_Method.set_Locals (x : api_Method) (l : (List Int)) : api_Method := { x with Locals := l }
theorem o_api_Method.leaf1 : Leaf o_api_Method 1 (kInt .u8) 5 (fun x => x.Locals) api_Method.set_Locals := fun a h c x ⟨v0, v1, v2, e, q⟩ => by
  subst e
  obtain ⟨h1, h2, dj, s1, s2, p, rest⟩ := Sep.take 1 _ rfl q
  exact ⟨v1, h1, h2, rfl, dj, s1, s2, p, fun a' h' l' sa dj' r => ⟨v0, v1, v2, rfl, Sep.back 1 [slO (kInt .u8) 5 v0 x.Args, slO (kInt .u8) 5 v1 x.Locals, slO k_api_Instr 133 v2 x.Code] (x := slO (kInt .u8) 5 v1 l') (Nat.le_of_ble_eq_true rfl) dj' r (Sep.mono _ sa (Sub.refl _) rest)⟩⟩
@[reducible] def api_Method.set_Code (x : api_Method) (l : (List api_Instr)) : api_Method := { x with Code := l }
theorem o_api_Method.leaf7 : Leaf o_api_Method 7 k_api_Instr 133 (fun x => x.Code) api_Method.set_Code := fun a h c x ⟨v0, v1, v2, e, q⟩ => by
  subst e
  obtain ⟨h1, h2, dj, s1, s2, p, rest⟩ := Sep.take 2 _ rfl q
  exact ⟨v2, h1, h2, rfl, dj, s1, s2, p, fun a' h' l' sa dj' r => ⟨v0, v1, v2, rfl, Sep.back 2 [slO (kInt .u8) 5 v0 x.Args, slO (kInt .u8) 5 v1 x.Locals, slO k_api_Instr 133 v2 x.Code] (x := slO k_api_Instr 133 v2 l') (Nat.le_of_ble_eq_true rfl) dj' r (Sep.mono _ sa (Sub.refl _) rest)⟩⟩
theorem k_api_Method.part_Args : Part k_api_Method 0 (kSl (kInt .u8)) (fun x => x.Args) := fun h cs x ⟨v0, v1, v2, e, p0, p1, p2⟩ => ⟨[v0], ⟨v0, rfl, p0⟩, by subst e; exact seg_get [v0, v1, .int .u8 x.Result, .bool x.Reads, .int .i64 x.Fuel, .int .i64 x.Stack, .int .i64 x.Heap, v2] 0 1⟩
theorem k_api_Method.part_Locals : Part k_api_Method 1 (kSl (kInt .u8)) (fun x => x.Locals) := fun h cs x ⟨v0, v1, v2, e, p0, p1, p2⟩ => ⟨[v1], ⟨v1, rfl, p1⟩, by subst e; exact seg_get [v0, v1, .int .u8 x.Result, .bool x.Reads, .int .i64 x.Fuel, .int .i64 x.Stack, .int .i64 x.Heap, v2] 1 1⟩
theorem k_api_Method.part_Result : Part k_api_Method 2 (kInt .u8) (fun x => x.Result) := fun h cs x ⟨v0, v1, v2, e, p0, p1, p2⟩ => ⟨[.int .u8 x.Result], rfl, by subst e; exact seg_get [v0, v1, .int .u8 x.Result, .bool x.Reads, .int .i64 x.Fuel, .int .i64 x.Stack, .int .i64 x.Heap, v2] 2 1⟩
theorem k_api_Method.part_Reads : Part k_api_Method 3 kBool (fun x => x.Reads) := fun h cs x ⟨v0, v1, v2, e, p0, p1, p2⟩ => ⟨[.bool x.Reads], rfl, by subst e; exact seg_get [v0, v1, .int .u8 x.Result, .bool x.Reads, .int .i64 x.Fuel, .int .i64 x.Stack, .int .i64 x.Heap, v2] 3 1⟩
theorem k_api_Method.part_Fuel : Part k_api_Method 4 (kInt .i64) (fun x => x.Fuel) := fun h cs x ⟨v0, v1, v2, e, p0, p1, p2⟩ => ⟨[.int .i64 x.Fuel], rfl, by subst e; exact seg_get [v0, v1, .int .u8 x.Result, .bool x.Reads, .int .i64 x.Fuel, .int .i64 x.Stack, .int .i64 x.Heap, v2] 4 1⟩
theorem k_api_Method.part_Stack : Part k_api_Method 5 (kInt .i64) (fun x => x.Stack) := fun h cs x ⟨v0, v1, v2, e, p0, p1, p2⟩ => ⟨[.int .i64 x.Stack], rfl, by subst e; exact seg_get [v0, v1, .int .u8 x.Result, .bool x.Reads, .int .i64 x.Fuel, .int .i64 x.Stack, .int .i64 x.Heap, v2] 5 1⟩
theorem k_api_Method.part_Heap : Part k_api_Method 6 (kInt .i64) (fun x => x.Heap) := fun h cs x ⟨v0, v1, v2, e, p0, p1, p2⟩ => ⟨[.int .i64 x.Heap], rfl, by subst e; exact seg_get [v0, v1, .int .u8 x.Result, .bool x.Reads, .int .i64 x.Fuel, .int .i64 x.Stack, .int .i64 x.Heap, v2] 6 1⟩
theorem k_api_Method.part_Code : Part k_api_Method 7 (kSl k_api_Instr) (fun x => x.Code) := fun h cs x ⟨v0, v1, v2, e, p0, p1, p2⟩ => ⟨[v2], ⟨v2, rfl, p2⟩, by subst e; exact seg_get [v0, v1, .int .u8 x.Result, .bool x.Reads, .int .i64 x.Fuel, .int .i64 x.Stack, .int .i64 x.Heap, v2] 7 1⟩
theorem k_api_Method.load {P : Program} {n : Fr} {ρ : Option Nat} {σ : List (Nat × Value)} {w0 : World} {hA hV : Hp} {ps : List HP} {os : List HO} {L l : List Oper} {Q : Cont} {d : Nat} {t tr : TypeId} {x : Operand} {pos : String} {af : Array Edge} {g : Option (Nat × Bool)} {v : Value} (see : Sees w0 hA hV) (i : Nat) {x0 : api_Method} (hi : ps[i]? = some (elP k_api_Method v x0)) {dsc : TypeDesc} (hu : P.underlying t = some dsc) (hd : (match dsc with | .struct _ | .array _ _ => true | _ => false) = true) (hs : (P.info? t).map (·.size) = some 8) (hg : gd L σ g = some true) (hn : Nat.blt d n.n = true) (hx : ev σ x = some v)
    (h : ∀ v0 v1 v2, SP P n ρ ((d, .agg [v0, v1, .int .u8 x0.Result, .bool x0.Reads, .int .i64 x0.Fuel, .int .i64 x0.Stack, .int .i64 x0.Heap, v2].toArray) :: σ) (St w0 hA hV (slP (kInt .u8) v0 x0.Args :: slP (kInt .u8) v1 x0.Locals :: slP k_api_Instr v2 x0.Code :: ps) os) L l Q) : SP P n ρ σ (St w0 hA hV ps os) L (⟨some d, .load t x, tr, pos, af, g⟩ :: l) Q :=
  SP.loadP see i hi hu hd hs hg hn hx fun cs a w ha hw => by
    obtain ⟨m, fr, hN, hO, n1, n2, dj, s1, s2, ap, s⟩ := hw
    obtain ⟨v0, v1, v2, e, p0, p1, p2⟩ := ap.get 0 rfl
    subst e
    exact h v0 v1 v2 a w ha ⟨m, fr, hN, hO, n1, n2, dj, s1, s2, All.cons p0 (All.cons p1 (All.cons p2 ((fun y hy => ap y (List.mem_cons_of_mem _ hy))))), s⟩
structure api_Module where
  Globals : (List api_Value)
  Pool : (List api_Value)
  Methods : (List api_Method)
  Migrate : Int
def api_Module.zero : api_Module := ⟨[], [], [], 0⟩
def k_api_Module : Kd api_Module := ⟨4, fun h cs x => ∃ v0 v1 v2 : Value, cs = [v0, v1, v2, .int .i64 x.Migrate] ∧ slR k_api_Value h v0 x.Globals ∧ slR k_api_Value h v1 x.Pool ∧ slR k_api_Method h v2 x.Methods,
  fun _ _ _ _ s ⟨v0, v1, v2, e, p0, p1, p2⟩ => ⟨v0, v1, v2, e, slR.mono s p0, slR.mono s p1, slR.mono s p2⟩, fun _ _ _ ⟨v0, v1, v2, e, p0, p1, p2⟩ => by simp [e],
  fun _ _ _ ⟨v0, v1, v2, e, p0, p1, p2⟩ => by subst e; obtain ⟨_, _, rfl, -⟩ := p0; obtain ⟨_, _, rfl, -⟩ := p1; obtain ⟨_, _, rfl, -⟩ := p2; rfl⟩
def o_api_Module : Ko api_Module := ⟨k_api_Module, fun cs x => HO.ex fun v0 : Value => HO.ex fun v1 : Value => HO.ex fun v2 : Value => HO.pand (cs = [v0, v1, v2, .int .i64 x.Migrate]) (HO.seps [slO k_api_Value 37 v0 x.Globals, slO k_api_Value 37 v1 x.Pool, slO k_api_Method 27 v2 x.Methods]), fun ⟨v0, v1, v2, e, q⟩ sa sh => ⟨v0, v1, v2, e, slO.read (Sep.get 0 rfl q) sa sh, slO.read (Sep.get 1 rfl q) sa sh, slO.read (Sep.get 2 rfl q) sa sh⟩⟩
@[reducible] def api_Module.set_Globals (x : api_Module) (l : (List api_Value)) : api_Module := { x with Globals := l }
theorem o_api_Module.leaf0 : Leaf o_api_Module 0 k_api_Value 37 (fun x => x.Globals) api_Module.set_Globals := fun a h c x ⟨v0, v1, v2, e, q⟩ => by
  subst e
  obtain ⟨h1, h2, dj, s1, s2, p, rest⟩ := Sep.take 0 _ rfl q
  exact ⟨v0, h1, h2, rfl, dj, s1, s2, p, fun a' h' l' sa dj' r => ⟨v0, v1, v2, rfl, Sep.back 0 [slO k_api_Value 37 v0 x.Globals, slO k_api_Value 37 v1 x.Pool, slO k_api_Method 27 v2 x.Methods] (x := slO k_api_Value 37 v0 l') (Nat.le_of_ble_eq_true rfl) dj' r (Sep.mono _ sa (Sub.refl _) rest)⟩⟩
@[reducible] def api_Module.set_Pool (x : api_Module) (l : (List api_Value)) : api_Module := { x with Pool := l }
theorem o_api_Module.leaf1 : Leaf o_api_Module 1 k_api_Value 37 (fun x => x.Pool) api_Module.set_Pool := fun a h c x ⟨v0, v1, v2, e, q⟩ => by
  subst e
  obtain ⟨h1, h2, dj, s1, s2, p, rest⟩ := Sep.take 1 _ rfl q
  exact ⟨v1, h1, h2, rfl, dj, s1, s2, p, fun a' h' l' sa dj' r => ⟨v0, v1, v2, rfl, Sep.back 1 [slO k_api_Value 37 v0 x.Globals, slO k_api_Value 37 v1 x.Pool, slO k_api_Method 27 v2 x.Methods] (x := slO k_api_Value 37 v1 l') (Nat.le_of_ble_eq_true rfl) dj' r (Sep.mono _ sa (Sub.refl _) rest)⟩⟩
@[reducible] def api_Module.set_Methods (x : api_Module) (l : (List api_Method)) : api_Module := { x with Methods := l }
theorem o_api_Module.leaf2 : Leaf o_api_Module 2 k_api_Method 27 (fun x => x.Methods) api_Module.set_Methods := fun a h c x ⟨v0, v1, v2, e, q⟩ => by
  subst e
  obtain ⟨h1, h2, dj, s1, s2, p, rest⟩ := Sep.take 2 _ rfl q
  exact ⟨v2, h1, h2, rfl, dj, s1, s2, p, fun a' h' l' sa dj' r => ⟨v0, v1, v2, rfl, Sep.back 2 [slO k_api_Value 37 v0 x.Globals, slO k_api_Value 37 v1 x.Pool, slO k_api_Method 27 v2 x.Methods] (x := slO k_api_Method 27 v2 l') (Nat.le_of_ble_eq_true rfl) dj' r (Sep.mono _ sa (Sub.refl _) rest)⟩⟩
theorem k_api_Module.part_Globals : Part k_api_Module 0 (kSl k_api_Value) (fun x => x.Globals) := fun h cs x ⟨v0, v1, v2, e, p0, p1, p2⟩ => ⟨[v0], ⟨v0, rfl, p0⟩, by subst e; exact seg_get [v0, v1, v2, .int .i64 x.Migrate] 0 1⟩
theorem k_api_Module.part_Pool : Part k_api_Module 1 (kSl k_api_Value) (fun x => x.Pool) := fun h cs x ⟨v0, v1, v2, e, p0, p1, p2⟩ => ⟨[v1], ⟨v1, rfl, p1⟩, by subst e; exact seg_get [v0, v1, v2, .int .i64 x.Migrate] 1 1⟩
theorem k_api_Module.part_Methods : Part k_api_Module 2 (kSl k_api_Method) (fun x => x.Methods) := fun h cs x ⟨v0, v1, v2, e, p0, p1, p2⟩ => ⟨[v2], ⟨v2, rfl, p2⟩, by subst e; exact seg_get [v0, v1, v2, .int .i64 x.Migrate] 2 1⟩
theorem k_api_Module.part_Migrate : Part k_api_Module 3 (kInt .i64) (fun x => x.Migrate) := fun h cs x ⟨v0, v1, v2, e, p0, p1, p2⟩ => ⟨[.int .i64 x.Migrate], rfl, by subst e; exact seg_get [v0, v1, v2, .int .i64 x.Migrate] 3 1⟩
theorem k_api_Module.load {P : Program} {n : Fr} {ρ : Option Nat} {σ : List (Nat × Value)} {w0 : World} {hA hV : Hp} {ps : List HP} {os : List HO} {L l : List Oper} {Q : Cont} {d : Nat} {t tr : TypeId} {x : Operand} {pos : String} {af : Array Edge} {g : Option (Nat × Bool)} {v : Value} (see : Sees w0 hA hV) (i : Nat) {x0 : api_Module} (hi : ps[i]? = some (elP k_api_Module v x0)) {dsc : TypeDesc} (hu : P.underlying t = some dsc) (hd : (match dsc with | .struct _ | .array _ _ => true | _ => false) = true) (hs : (P.info? t).map (·.size) = some 4) (hg : gd L σ g = some true) (hn : Nat.blt d n.n = true) (hx : ev σ x = some v)
    (h : ∀ v0 v1 v2, SP P n ρ ((d, .agg [v0, v1, v2, .int .i64 x0.Migrate].toArray) :: σ) (St w0 hA hV (slP k_api_Value v0 x0.Globals :: slP k_api_Value v1 x0.Pool :: slP k_api_Method v2 x0.Methods :: ps) os) L l Q) : SP P n ρ σ (St w0 hA hV ps os) L (⟨some d, .load t x, tr, pos, af, g⟩ :: l) Q :=
  SP.loadP see i hi hu hd hs hg hn hx fun cs a w ha hw => by
    obtain ⟨m, fr, hN, hO, n1, n2, dj, s1, s2, ap, s⟩ := hw
    obtain ⟨v0, v1, v2, e, p0, p1, p2⟩ := ap.get 0 rfl
    subst e
    exact h v0 v1 v2 a w ha ⟨m, fr, hN, hO, n1, n2, dj, s1, s2, All.cons p0 (All.cons p1 (All.cons p2 ((fun y hy => ap y (List.mem_cons_of_mem _ hy))))), s⟩
structure mem_Image where
  Module : api_Module
  Globals : (List api_Value)
  Seqs : (List Int)
def mem_Image.zero : mem_Image := ⟨api_Module.zero, [], []⟩
def k_mem_Image : Kd mem_Image := ⟨6, fun h cs x => ∃ v0 v1 v2 v3 v4 : Value, cs = [v0, v1, v2, .int .i64 x.Module.Migrate, v3, v4] ∧ slR k_api_Value h v0 x.Module.Globals ∧ slR k_api_Value h v1 x.Module.Pool ∧ slR k_api_Method h v2 x.Module.Methods ∧ slR k_api_Value h v3 x.Globals ∧ slR (kInt .i64) h v4 x.Seqs,
  fun _ _ _ _ s ⟨v0, v1, v2, v3, v4, e, p0, p1, p2, p3, p4⟩ => ⟨v0, v1, v2, v3, v4, e, slR.mono s p0, slR.mono s p1, slR.mono s p2, slR.mono s p3, slR.mono s p4⟩, fun _ _ _ ⟨v0, v1, v2, v3, v4, e, p0, p1, p2, p3, p4⟩ => by simp [e],
  fun _ _ _ ⟨v0, v1, v2, v3, v4, e, p0, p1, p2, p3, p4⟩ => by subst e; obtain ⟨_, _, rfl, -⟩ := p0; obtain ⟨_, _, rfl, -⟩ := p1; obtain ⟨_, _, rfl, -⟩ := p2; obtain ⟨_, _, rfl, -⟩ := p3; obtain ⟨_, _, rfl, -⟩ := p4; rfl⟩
def o_mem_Image : Ko mem_Image := ⟨k_mem_Image, fun cs x => HO.ex fun v0 : Value => HO.ex fun v1 : Value => HO.ex fun v2 : Value => HO.ex fun v3 : Value => HO.ex fun v4 : Value => HO.pand (cs = [v0, v1, v2, .int .i64 x.Module.Migrate, v3, v4]) (HO.seps [slO k_api_Value 37 v0 x.Module.Globals, slO k_api_Value 37 v1 x.Module.Pool, slO k_api_Method 27 v2 x.Module.Methods, slO k_api_Value 37 v3 x.Globals, slO (kInt .i64) 3 v4 x.Seqs]), fun ⟨v0, v1, v2, v3, v4, e, q⟩ sa sh => ⟨v0, v1, v2, v3, v4, e, slO.read (Sep.get 0 rfl q) sa sh, slO.read (Sep.get 1 rfl q) sa sh, slO.read (Sep.get 2 rfl q) sa sh, slO.read (Sep.get 3 rfl q) sa sh, slO.read (Sep.get 4 rfl q) sa sh⟩⟩
@[reducible] def mem_Image.set_Module_Globals (x : mem_Image) (l : (List api_Value)) : mem_Image := { x with Module := { x.Module with Globals := l } }
theorem o_mem_Image.leaf0 : Leaf o_mem_Image 0 k_api_Value 37 (fun x => x.Module.Globals) mem_Image.set_Module_Globals := fun a h c x ⟨v0, v1, v2, v3, v4, e, q⟩ => by
  subst e
  obtain ⟨h1, h2, dj, s1, s2, p, rest⟩ := Sep.take 0 _ rfl q
  exact ⟨v0, h1, h2, rfl, dj, s1, s2, p, fun a' h' l' sa dj' r => ⟨v0, v1, v2, v3, v4, rfl, Sep.back 0 [slO k_api_Value 37 v0 x.Module.Globals, slO k_api_Value 37 v1 x.Module.Pool, slO k_api_Method 27 v2 x.Module.Methods, slO k_api_Value 37 v3 x.Globals, slO (kInt .i64) 3 v4 x.Seqs] (x := slO k_api_Value 37 v0 l') (Nat.le_of_ble_eq_true rfl) dj' r (Sep.mono _ sa (Sub.refl _) rest)⟩⟩
@[reducible] def mem_Image.set_Module_Pool (x : mem_Image) (l : (List api_Value)) : mem_Image := { x with Module := { x.Module with Pool := l } }
theorem o_mem_Image.leaf1 : Leaf o_mem_Image 1 k_api_Value 37 (fun x => x.Module.Pool) mem_Image.set_Module_Pool := fun a h c x ⟨v0, v1, v2, v3, v4, e, q⟩ => by
  subst e
  obtain ⟨h1, h2, dj, s1, s2, p, rest⟩ := Sep.take 1 _ rfl q
  exact ⟨v1, h1, h2, rfl, dj, s1, s2, p, fun a' h' l' sa dj' r => ⟨v0, v1, v2, v3, v4, rfl, Sep.back 1 [slO k_api_Value 37 v0 x.Module.Globals, slO k_api_Value 37 v1 x.Module.Pool, slO k_api_Method 27 v2 x.Module.Methods, slO k_api_Value 37 v3 x.Globals, slO (kInt .i64) 3 v4 x.Seqs] (x := slO k_api_Value 37 v1 l') (Nat.le_of_ble_eq_true rfl) dj' r (Sep.mono _ sa (Sub.refl _) rest)⟩⟩
@[reducible] def mem_Image.set_Module_Methods (x : mem_Image) (l : (List api_Method)) : mem_Image := { x with Module := { x.Module with Methods := l } }
theorem o_mem_Image.leaf2 : Leaf o_mem_Image 2 k_api_Method 27 (fun x => x.Module.Methods) mem_Image.set_Module_Methods := fun a h c x ⟨v0, v1, v2, v3, v4, e, q⟩ => by
  subst e
  obtain ⟨h1, h2, dj, s1, s2, p, rest⟩ := Sep.take 2 _ rfl q
  exact ⟨v2, h1, h2, rfl, dj, s1, s2, p, fun a' h' l' sa dj' r => ⟨v0, v1, v2, v3, v4, rfl, Sep.back 2 [slO k_api_Value 37 v0 x.Module.Globals, slO k_api_Value 37 v1 x.Module.Pool, slO k_api_Method 27 v2 x.Module.Methods, slO k_api_Value 37 v3 x.Globals, slO (kInt .i64) 3 v4 x.Seqs] (x := slO k_api_Method 27 v2 l') (Nat.le_of_ble_eq_true rfl) dj' r (Sep.mono _ sa (Sub.refl _) rest)⟩⟩
@[reducible] def mem_Image.set_Globals (x : mem_Image) (l : (List api_Value)) : mem_Image := { x with Globals := l }
theorem o_mem_Image.leaf4 : Leaf o_mem_Image 4 k_api_Value 37 (fun x => x.Globals) mem_Image.set_Globals := fun a h c x ⟨v0, v1, v2, v3, v4, e, q⟩ => by
  subst e
  obtain ⟨h1, h2, dj, s1, s2, p, rest⟩ := Sep.take 3 _ rfl q
  exact ⟨v3, h1, h2, rfl, dj, s1, s2, p, fun a' h' l' sa dj' r => ⟨v0, v1, v2, v3, v4, rfl, Sep.back 3 [slO k_api_Value 37 v0 x.Module.Globals, slO k_api_Value 37 v1 x.Module.Pool, slO k_api_Method 27 v2 x.Module.Methods, slO k_api_Value 37 v3 x.Globals, slO (kInt .i64) 3 v4 x.Seqs] (x := slO k_api_Value 37 v3 l') (Nat.le_of_ble_eq_true rfl) dj' r (Sep.mono _ sa (Sub.refl _) rest)⟩⟩
@[reducible] def mem_Image.set_Seqs (x : mem_Image) (l : (List Int)) : mem_Image := { x with Seqs := l }
theorem o_mem_Image.leaf5 : Leaf o_mem_Image 5 (kInt .i64) 3 (fun x => x.Seqs) mem_Image.set_Seqs := fun a h c x ⟨v0, v1, v2, v3, v4, e, q⟩ => by
  subst e
  obtain ⟨h1, h2, dj, s1, s2, p, rest⟩ := Sep.take 4 _ rfl q
  exact ⟨v4, h1, h2, rfl, dj, s1, s2, p, fun a' h' l' sa dj' r => ⟨v0, v1, v2, v3, v4, rfl, Sep.back 4 [slO k_api_Value 37 v0 x.Module.Globals, slO k_api_Value 37 v1 x.Module.Pool, slO k_api_Method 27 v2 x.Module.Methods, slO k_api_Value 37 v3 x.Globals, slO (kInt .i64) 3 v4 x.Seqs] (x := slO (kInt .i64) 3 v4 l') (Nat.le_of_ble_eq_true rfl) dj' r (Sep.mono _ sa (Sub.refl _) rest)⟩⟩
theorem k_mem_Image.part_Module : Part k_mem_Image 0 k_api_Module (fun x => x.Module) := fun h cs x ⟨v0, v1, v2, v3, v4, e, p0, p1, p2, p3, p4⟩ => ⟨[v0, v1, v2, .int .i64 x.Module.Migrate], ⟨v0, v1, v2, rfl, p0, p1, p2⟩, by subst e; exact seg_get [v0, v1, v2, .int .i64 x.Module.Migrate, v3, v4] 0 4⟩
theorem k_mem_Image.part_Globals : Part k_mem_Image 4 (kSl k_api_Value) (fun x => x.Globals) := fun h cs x ⟨v0, v1, v2, v3, v4, e, p0, p1, p2, p3, p4⟩ => ⟨[v3], ⟨v3, rfl, p3⟩, by subst e; exact seg_get [v0, v1, v2, .int .i64 x.Module.Migrate, v3, v4] 4 1⟩
theorem k_mem_Image.part_Seqs : Part k_mem_Image 5 (kSl (kInt .i64)) (fun x => x.Seqs) := fun h cs x ⟨v0, v1, v2, v3, v4, e, p0, p1, p2, p3, p4⟩ => ⟨[v4], ⟨v4, rfl, p4⟩, by subst e; exact seg_get [v0, v1, v2, .int .i64 x.Module.Migrate, v3, v4] 5 1⟩
theorem k_mem_Image.load {P : Program} {n : Fr} {ρ : Option Nat} {σ : List (Nat × Value)} {w0 : World} {hA hV : Hp} {ps : List HP} {os : List HO} {L l : List Oper} {Q : Cont} {d : Nat} {t tr : TypeId} {x : Operand} {pos : String} {af : Array Edge} {g : Option (Nat × Bool)} {v : Value} (see : Sees w0 hA hV) (i : Nat) {x0 : mem_Image} (hi : ps[i]? = some (elP k_mem_Image v x0)) {dsc : TypeDesc} (hu : P.underlying t = some dsc) (hd : (match dsc with | .struct _ | .array _ _ => true | _ => false) = true) (hs : (P.info? t).map (·.size) = some 6) (hg : gd L σ g = some true) (hn : Nat.blt d n.n = true) (hx : ev σ x = some v)
    (h : ∀ v0 v1 v2 v3 v4, SP P n ρ ((d, .agg [v0, v1, v2, .int .i64 x0.Module.Migrate, v3, v4].toArray) :: σ) (St w0 hA hV (slP k_api_Value v0 x0.Module.Globals :: slP k_api_Value v1 x0.Module.Pool :: slP k_api_Method v2 x0.Module.Methods :: slP k_api_Value v3 x0.Globals :: slP (kInt .i64) v4 x0.Seqs :: ps) os) L l Q) : SP P n ρ σ (St w0 hA hV ps os) L (⟨some d, .load t x, tr, pos, af, g⟩ :: l) Q :=
  SP.loadP see i hi hu hd hs hg hn hx fun cs a w ha hw => by
    obtain ⟨m, fr, hN, hO, n1, n2, dj, s1, s2, ap, s⟩ := hw
    obtain ⟨v0, v1, v2, v3, v4, e, p0, p1, p2, p3, p4⟩ := ap.get 0 rfl
    subst e
    exact h v0 v1 v2 v3 v4 a w ha ⟨m, fr, hN, hO, n1, n2, dj, s1, s2, All.cons p0 (All.cons p1 (All.cons p2 (All.cons p3 (All.cons p4 ((fun y hy => ap y (List.mem_cons_of_mem _ hy))))))), s⟩
theorem sz3 : (Try.prog.info? 3).map (·.size) = some 1 := by kernel_rfl
theorem sz50 : (Try.prog.info? 50).map (·.size) = some 1 := by kernel_rfl
theorem sz51 : (Try.prog.info? 51).map (·.size) = some 1 := by kernel_rfl
theorem sz60 : (Try.prog.info? 60).map (·.size) = some 6 := by kernel_rfl
theorem sz62 : (Try.prog.info? 62).map (·.size) = some 1 := by kernel_rfl
theorem sz64 : (Try.prog.info? 64).map (·.size) = some 4 := by kernel_rfl
theorem inf50 : (Try.prog.info? 50).map (fun i => ((i.zero.map fun z => z.cells.toList), i.size, i.bytes)) = some (some [.pointer none], 1, 8) := by kernel_rfl
theorem inf51 : (Try.prog.info? 51).map (fun i => ((i.zero.map fun z => z.cells.toList), i.size, i.bytes)) = some (some [.pointer none], 1, 8) := by kernel_rfl
theorem inf142 : (Try.prog.info? 142).map (fun i => ((i.zero.map fun z => z.cells.toList), i.size, i.bytes)) = some (some [.int .i64 0, .int .u8 0, .int .i64 0, (.slice none 0 0), (.slice none 0 0), .int .i64 0, .int .i64 0], 7, 88) := by kernel_rfl
theorem inf146 : (Try.prog.info? 146).map (fun i => ((i.zero.map fun z => z.cells.toList), i.size, i.bytes)) = some (some [.int .i64 0, .int .i64 0, .int .i64 0, .int .u8 0, .int .i64 0, (.slice none 0 0), (.slice none 0 0)], 7, 88) := by kernel_rfl
theorem bt60 : shapeOf Try.prog 60 = some ([(.slice none 0 0), (.slice none 0 0), (.slice none 0 0), .int .i64 0, (.slice none 0 0), (.slice none 0 0)], [(0, 4), (4, 1), (5, 1)]) := by kernel_rfl
theorem bt66 : shapeOf Try.prog 66 = some ([.int .i64 0, .pointer none, .int .i64 0, .nilFunc], [(0, 4)]) := by kernel_rfl
theorem bt69 : shapeOf Try.prog 69 = some ([.int .i64 0, .pointer none, .int .i64 0, .nilFunc, .int .i64 0], [(0, 4), (4, 1)]) := by kernel_rfl
theorem bt90 : shapeOf Try.prog 90 = some ([.int .i64 0, (.slice none 0 0), (.slice none 0 0), (.slice none 0 0), .int .i64 0, (.slice none 0 0), (.slice none 0 0)], [(0, 1), (1, 6)]) := by kernel_rfl
theorem bt92 : shapeOf Try.prog 92 = some ([(.slice none 0 0), (.slice none 0 0), .int .i64 0, (.slice none 0 0), (.slice none 0 0), (.slice none 0 0), .int .i64 0, (.slice none 0 0), (.slice none 0 0)], [(0, 1), (1, 1), (2, 7)]) := by kernel_rfl
theorem fn44 : ((Try.prog.funcs[44]?).map fun fn => fn.body.isSome && !(fn.name == "runtime.NumGoroutine")) = some true := by rw [Try.func44]; rfl
theorem fn15 : ((Try.prog.funcs[15]?).map fun fn => fn.body.isSome && !(fn.name == "runtime.NumGoroutine")) = some true := by rw [Try.func15]; rfl
theorem fn16 : ((Try.prog.funcs[16]?).map fun fn => fn.body.isSome && !(fn.name == "runtime.NumGoroutine")) = some true := by rw [Try.func16]; rfl
theorem fn17 : ((Try.prog.funcs[17]?).map fun fn => fn.body.isSome && !(fn.name == "runtime.NumGoroutine")) = some true := by rw [Try.func17]; rfl
theorem fn18 : ((Try.prog.funcs[18]?).map fun fn => fn.body.isSome && !(fn.name == "runtime.NumGoroutine")) = some true := by rw [Try.func18]; rfl
theorem fn19 : ((Try.prog.funcs[19]?).map fun fn => fn.body.isSome && !(fn.name == "runtime.NumGoroutine")) = some true := by rw [Try.func19]; rfl
theorem fn20 : ((Try.prog.funcs[20]?).map fun fn => fn.body.isSome && !(fn.name == "runtime.NumGoroutine")) = some true := by rw [Try.func20]; rfl
theorem fn21 : ((Try.prog.funcs[21]?).map fun fn => fn.body.isSome && !(fn.name == "runtime.NumGoroutine")) = some true := by rw [Try.func21]; rfl
theorem fn45 : ((Try.prog.funcs[45]?).map fun fn => fn.body.isSome && !(fn.name == "runtime.NumGoroutine")) = some true := by rw [Try.func45]; rfl
theorem fn46 : ((Try.prog.funcs[46]?).map fun fn => fn.body.isSome && !(fn.name == "runtime.NumGoroutine")) = some true := by rw [Try.func46]; rfl
theorem fn22 : ((Try.prog.funcs[22]?).map fun fn => fn.body.isSome && !(fn.name == "runtime.NumGoroutine")) = some true := by rw [Try.func22]; rfl
theorem fn23 : ((Try.prog.funcs[23]?).map fun fn => fn.body.isSome && !(fn.name == "runtime.NumGoroutine")) = some true := by rw [Try.func23]; rfl
theorem fn5 : ((Try.prog.funcs[5]?).map fun fn => fn.body.isSome && !(fn.name == "runtime.NumGoroutine")) = some true := by rw [Try.func5]; rfl
/-! ### capstan/mem.Arena: function 44 -/
def mem_Arena.f (procs_0 : Int) (every_1 : Int) : Option Int :=
  if ((((decide (procs_0 < 1)) || (decide (procs_0 > 64))) || (decide (every_1 < 1))) || (decide (every_1 > 64))) = true then (some 0) else (some (IntKind.i64.wrap ((IntKind.i64.wrap (2 * every_1)) + (IntKind.i64.wrap (2 * procs_0)))))
theorem mem_Arena.ok (procs_0 : Int) (every_1 : Int)  (r : Int) (H : mem_Arena.f procs_0 every_1 = some r) (w : World) (hV : Hp) (sV : Sub hV (hp w))  :
    Trip Try.prog 44 [.int .i64 procs_0, .int .i64 every_1].toArray em hV w (fun v => HO.pure (v = .int .i64 r)) := by
  have see : Sees w em hV := ⟨sV, Dj.em_right _⟩
  refine Trip.of (P := Try.prog) (n := ⟨24, []⟩) Try.func44 rfl ⟨rfl, rfl⟩ rfl (St.begin (All.nil _)) ?_
  have ho := H
  refine CP.seq ?_
  refine CP.region ?_
  refine SP.val (Val.assign rfl) rfl rfl rfl ?_
  refine SP.nil ?_
  refine QE.then ?_
  refine CP.seq ?_
  refine CP.seq ?_
  refine CP.region ?_
  refine SP.val (Val.move rfl) rfl rfl rfl ?_
  refine SP.val (Val.lss rfl rfl) rfl rfl rfl ?_
  refine SP.val (Val.move rfl) rfl rfl rfl ?_
  refine SP.join 3 (fun a w2 => Env ⟨24, []⟩ [(0, .int .i64 procs_0), (1, .int .i64 every_1), (10, .bool ((decide (procs_0 < 1)) || (decide (procs_0 > 64))))] a ∧ St w em hV [] [] w2) ?_ ?_
  · rintro a w2 ⟨ha, hw⟩
    refine SP.app ha hw ?_
    clear ha hw a w2
    refine SP.val (Val.move rfl) rfl rfl rfl ?_
    refine SP.join 3 (fun a w2 => Env ⟨24, []⟩ [(0, .int .i64 procs_0), (1, .int .i64 every_1), (14, .bool (((decide (procs_0 < 1)) || (decide (procs_0 > 64))) || (decide (every_1 < 1))))] a ∧ St w em hV [] [] w2) ?_ ?_
    · rintro a w2 ⟨ha, hw⟩
      refine SP.app ha hw ?_
      clear ha hw a w2
      refine SP.val (Val.move rfl) rfl rfl rfl ?_
      refine SP.join 3 (fun a w2 => Env ⟨24, []⟩ [(0, .int .i64 procs_0), (1, .int .i64 every_1), (18, .bool ((((decide (procs_0 < 1)) || (decide (procs_0 > 64))) || (decide (every_1 < 1))) || (decide (every_1 > 64))))] a ∧ St w em hV [] [] w2) ?_ ?_
      · rintro a w2 ⟨ha, hw⟩
        refine SP.app ha hw ?_
        clear ha hw a w2
        refine SP.nil ?_
        refine QE.then ?_
        rcases if_some ho with ⟨hc, ho⟩ | ⟨hc, ho⟩
        · refine CP.condT rfl hc ?_
          refine CP.seq ?_
          refine CP.region ?_
          refine SP.val (Val.assign rfl) rfl rfl rfl ?_
          refine SP.nil ?_
          refine QE.then ?_
          refine CP.ret ?_
          refine QE.thru (by intro e; cases e) ?_
          obtain rfl := Option.some.inj ho
          exact QE.rets (rs := [.tmp 4]) (vs := [.int .i64 0]) Try.results44 rfl ⟨RVs.tmp rfl, trivial⟩ (fun w2 h => St.done (fun a b p s => rfl) h)
        · refine CP.condF rfl (bf hc) ?_
          refine CP.skip ?_
          refine QE.then ?_
          refine CP.seq ?_
          refine CP.region ?_
          refine SP.val (Val.move rfl) rfl rfl rfl ?_
          refine SP.val (Val.mul rfl rfl) rfl rfl rfl ?_
          refine SP.val (Val.move rfl) rfl rfl rfl ?_
          refine SP.val (Val.mul rfl rfl) rfl rfl rfl ?_
          refine SP.val (Val.add rfl rfl) rfl rfl rfl ?_
          refine SP.val (Val.assign rfl) rfl rfl rfl ?_
          refine SP.nil ?_
          refine QE.then ?_
          refine CP.ret ?_
          obtain rfl := Option.some.inj ho
          exact QE.rets (rs := [.tmp 4]) (vs := [.int .i64 (IntKind.i64.wrap ((IntKind.i64.wrap (2 * every_1)) + (IntKind.i64.wrap (2 * procs_0))))]) Try.results44 rfl ⟨RVs.tmp rfl, trivial⟩ (fun w2 h => St.done (fun a b p s => rfl) h)
      · intro J
        by_cases hc : (((decide (procs_0 < 1)) || (decide (procs_0 > 64))) || (decide (every_1 < 1))) = true
        · have hq6 := hc
          refine SP.isT (d := 15) rfl hq6 ?_
          refine SP.not rfl rfl rfl ?_
          refine SP.not rfl rfl rfl ?_
          refine SP.val (Val.pickT rfl rfl) rfl rfl rfl ?_
          exact J fun a w2 ha hw => ⟨ha.sub ⟨rfl, rfl, congrArg (fun z => some (Value.bool z)) (or_t hq6), trivial⟩, hw⟩
        · have hq6 := (bf hc)
          refine SP.isF (d := 15) rfl hq6 ?_
          refine SP.val (Val.move rfl) rfl rfl rfl ?_
          refine SP.val (Val.gtr rfl rfl) rfl rfl rfl ?_
          refine SP.val (Val.pickF rfl rfl) rfl rfl rfl ?_
          exact J fun a w2 ha hw => ⟨ha.sub ⟨rfl, rfl, congrArg (fun z => some (Value.bool z)) (or_f hq6 rfl), trivial⟩, hw⟩
    · intro J
      by_cases hc : ((decide (procs_0 < 1)) || (decide (procs_0 > 64))) = true
      · have hq4 := hc
        refine SP.isT (d := 11) rfl hq4 ?_
        refine SP.not rfl rfl rfl ?_
        refine SP.not rfl rfl rfl ?_
        refine SP.val (Val.pickT rfl rfl) rfl rfl rfl ?_
        exact J fun a w2 ha hw => ⟨ha.sub ⟨rfl, rfl, congrArg (fun z => some (Value.bool z)) (or_t hq4), trivial⟩, hw⟩
      · have hq4 := (bf hc)
        refine SP.isF (d := 11) rfl hq4 ?_
        refine SP.val (Val.move rfl) rfl rfl rfl ?_
        refine SP.val (Val.lss rfl rfl) rfl rfl rfl ?_
        refine SP.val (Val.pickF rfl rfl) rfl rfl rfl ?_
        exact J fun a w2 ha hw => ⟨ha.sub ⟨rfl, rfl, congrArg (fun z => some (Value.bool z)) (or_f hq4 rfl), trivial⟩, hw⟩
  · intro J
    by_cases hc : procs_0 < 1
    · have hq2 := (decide_eq_true hc)
      refine SP.isT (d := 7) rfl hq2 ?_
      refine SP.not rfl rfl rfl ?_
      refine SP.not rfl rfl rfl ?_
      refine SP.val (Val.pickT rfl rfl) rfl rfl rfl ?_
      exact J fun a w2 ha hw => ⟨ha.sub ⟨rfl, rfl, congrArg (fun z => some (Value.bool z)) (or_t hq2), trivial⟩, hw⟩
    · have hq2 := (decide_eq_false hc)
      refine SP.isF (d := 7) rfl hq2 ?_
      refine SP.val (Val.move rfl) rfl rfl rfl ?_
      refine SP.val (Val.gtr rfl rfl) rfl rfl rfl ?_
      refine SP.val (Val.pickF rfl rfl) rfl rfl rfl ?_
      exact J fun a w2 ha hw => ⟨ha.sub ⟨rfl, rfl, congrArg (fun z => some (Value.bool z)) (or_f hq2 rfl), trivial⟩, hw⟩
/-! ### capstan/mem.New: function 15 -/
def mem_New.f (procs_0 : Int) (every_1 : Int) (first_2 : mem_Image) : Option (Unit × Int) :=
  (mem_Arena.f procs_0 every_1).bind fun t8 => if t8 = 0 then (some ((), 2)) else (if 0 ≤ procs_0 ∧ (88 : Int) * procs_0 ≤ 281474976710656 ∧ procs_0 ≤ 9223372036854775807 then (if 0 ≤ t8 ∧ (88 : Int) * t8 ≤ 281474976710656 ∧ t8 ≤ 9223372036854775807 then (some ((), 0)) else none) else none)
theorem mem_New.ok (procs_0 : Int) (every_1 : Int) (first_2 : mem_Image) (v_first_2_Module_Globals : Value) (v_first_2_Module_Pool : Value) (v_first_2_Module_Methods : Value) (v_first_2_Globals : Value) (v_first_2_Seqs : Value) (r : Unit × Int) (H : mem_New.f procs_0 every_1 first_2 = some r) (w : World) (hV : Hp) (sV : Sub hV (hp w)) (h0 : slR k_api_Value hV v_first_2_Module_Globals first_2.Module.Globals) (h1 : slR k_api_Value hV v_first_2_Module_Pool first_2.Module.Pool) (h2 : slR k_api_Method hV v_first_2_Module_Methods first_2.Module.Methods) (h3 : slR k_api_Value hV v_first_2_Globals first_2.Globals) (h4 : slR (kInt .i64) hV v_first_2_Seqs first_2.Seqs) :
    Trip Try.prog 15 [.int .i64 procs_0, .int .i64 every_1, .agg #[v_first_2_Module_Globals, v_first_2_Module_Pool, v_first_2_Module_Methods, .int .i64 first_2.Module.Migrate, v_first_2_Globals, v_first_2_Seqs]].toArray em hV w (fun v => HO.ex fun u0 : Value => HO.pand (v = .tuple #[u0, .int .i64 r.2]) (HO.seps [HO.em])) := by
  have see : Sees w em hV := ⟨sV, Dj.em_right _⟩
  refine Trip.of (P := Try.prog) (n := ⟨22, []⟩) Try.func15 rfl ⟨rfl, rfl⟩ rfl (St.begin (All.cons (x := slP k_api_Value v_first_2_Module_Globals first_2.Module.Globals) h0 (All.cons (x := slP k_api_Value v_first_2_Module_Pool first_2.Module.Pool) h1 (All.cons (x := slP k_api_Method v_first_2_Module_Methods first_2.Module.Methods) h2 (All.cons (x := slP k_api_Value v_first_2_Globals first_2.Globals) h3 (All.cons (x := slP (kInt .i64) v_first_2_Seqs first_2.Seqs) h4 (All.nil _))))))) ?_
  have ho := H
  refine CP.seq ?_
  refine CP.region ?_
  refine SP.box (cs := [v_first_2_Module_Globals, v_first_2_Module_Pool, v_first_2_Module_Methods, .int .i64 first_2.Module.Migrate, v_first_2_Globals, v_first_2_Seqs]) rfl rfl rfl rfl (fun b6 => ?_)
  refine SP.val (Val.assign rfl) rfl rfl rfl ?_
  refine SP.val (Val.assign rfl) rfl rfl rfl ?_
  refine SP.nil ?_
  refine QE.then ?_
  refine CP.seq ?_
  refine CP.region ?_
  refine SP.val (Val.move rfl) rfl rfl rfl ?_
  refine SP.val (Val.move rfl) rfl rfl rfl ?_
  obtain ⟨t8, hc, ho⟩ := bind_some (x := mem_Arena.f procs_0 every_1) ho
  refine SP.callV see (caps := []) (.int .i64 t8) fn44 rfl rfl rfl rfl (fun w2 hP hs sub ap => mem_Arena.ok procs_0 every_1  _ hc w2 hP sub ) ?_
  clear hc
  refine SP.val (Val.assign rfl) rfl rfl rfl ?_
  refine SP.nil ?_
  refine QE.then ?_
  refine CP.seq ?_
  refine CP.seq ?_
  refine CP.region ?_
  refine SP.val (Val.move rfl) rfl rfl rfl ?_
  refine SP.val (Val.eql rfl rfl) rfl rfl rfl ?_
  refine SP.nil ?_
  refine QE.then ?_
  rcases if_some ho with ⟨hc, ho⟩ | ⟨hc, ho⟩
  · refine CP.condT rfl (decide_eq_true hc) ?_
    refine CP.seq ?_
    refine CP.region ?_
    refine SP.val (Val.assign rfl) rfl rfl rfl ?_
    refine SP.val (Val.assign rfl) rfl rfl rfl ?_
    refine SP.nil ?_
    refine QE.then ?_
    refine CP.ret ?_
    refine QE.thru (by intro e; cases e) ?_
    obtain rfl := Option.some.inj ho
    exact QE.rets (rs := [.tmp 6, .tmp 7]) (vs := [.pointer none, .int .i64 2]) Try.results15 rfl ⟨RVs.tmp rfl, RVs.tmp rfl, trivial⟩ (fun w2 h => St.done (fun a b p s => ⟨_, rfl, s⟩) (St.selO [0] rfl rfl (St.addO (x := HO.em) (fun _ => trivial) h)))
  · refine CP.condF rfl (decide_eq_false hc) ?_
    refine CP.skip ?_
    refine QE.then ?_
    refine CP.seq ?_
    refine CP.drawA (by kernel_rfl) (fun w2 k h => h.drawn k) ?_
    obtain ⟨hm10, ho⟩ := must_some ho
    obtain ⟨hm11, ho⟩ := must_some ho
    refine DA.phase (fun i => Nat.ble 0 i && Nat.blt i 8) (fun w2 => St w em hV [slP k_api_Value v_first_2_Module_Globals first_2.Module.Globals, slP k_api_Value v_first_2_Module_Pool first_2.Module.Pool, slP k_api_Method v_first_2_Module_Methods first_2.Module.Methods, slP k_api_Value v_first_2_Globals first_2.Globals, slP (kInt .i64) v_first_2_Seqs first_2.Seqs] [boxO b6 [v_first_2_Module_Globals, v_first_2_Module_Pool, v_first_2_Module_Methods, .int .i64 first_2.Module.Migrate, v_first_2_Globals, v_first_2_Seqs] 60] w2) ?_
    refine DT.take 0 rfl rfl rfl rfl (by kernel_rfl) (fun _ _ _ h => h) (Val.move rfl) (fun w2 hw => hw) ?_
    refine DT.take 2 rfl rfl rfl rfl (by kernel_rfl) (fun _ _ _ h => h) (Val.move rfl) (fun w2 hw => hw) ?_
    refine DT.take 4 rfl rfl rfl rfl (by kernel_rfl) (fun _ _ _ h => h) (Val.loadA 0 rfl Try.underlying60 rfl sz60 rfl rfl rfl) (fun w2 hw => hw) ?_
    refine DT.take 5 rfl rfl rfl rfl (by kernel_rfl) (fun _ _ _ h => h) (Val.buildC (us := [(1, .agg #[v_first_2_Module_Globals, v_first_2_Module_Pool, v_first_2_Module_Methods, .int .i64 first_2.Module.Migrate, v_first_2_Globals, v_first_2_Seqs])]) (ucs := [(1, [v_first_2_Module_Globals, v_first_2_Module_Pool, v_first_2_Module_Methods, .int .i64 first_2.Module.Migrate, v_first_2_Globals, v_first_2_Seqs])]) (cs := [.int .i64 0, v_first_2_Module_Globals, v_first_2_Module_Pool, v_first_2_Module_Methods, .int .i64 first_2.Module.Migrate, v_first_2_Globals, v_first_2_Seqs]) bt90 rfl rfl ⟨rfl, rfl, trivial⟩ (by rfl)) (fun w2 hw => hw) ?_
    refine DT.list (l2 := #[true, false, true, false, true, true, false, false, false, false]) (by kernel_rfl) ?_
    refine DT.cut (ι := Nat × Nat) (fun z => [(6, .pointer none), (7, .int .i64 0), (15, (.slice (some ⟨z.1, 0, none⟩) (procs_0).toNat (procs_0).toNat)), (17, (.slice (some ⟨z.2, 0, none⟩) (t8).toNat (t8).toNat)), (19, .agg #[.int .i64 0, v_first_2_Module_Globals, v_first_2_Module_Pool, v_first_2_Module_Methods, .int .i64 first_2.Module.Migrate, v_first_2_Globals, v_first_2_Seqs])]) (fun z w2 => St w em hV [slP k_api_Value v_first_2_Module_Globals first_2.Module.Globals, slP k_api_Value v_first_2_Module_Pool first_2.Module.Pool, slP k_api_Method v_first_2_Module_Methods first_2.Module.Methods, slP k_api_Value v_first_2_Globals first_2.Globals, slP (kInt .i64) v_first_2_Seqs first_2.Seqs] [HO.em, HO.em, boxO b6 [v_first_2_Module_Globals, v_first_2_Module_Pool, v_first_2_Module_Methods, .int .i64 first_2.Module.Migrate, v_first_2_Globals, v_first_2_Seqs] 60] w2) 4 #[true, true, true, true, true, true, false, false, false, false] (fun z => ?_) (fun J30 => ?_)
    · obtain ⟨b26, b28⟩ := z
      refine DT.take 6 rfl rfl rfl rfl (by kernel_rfl) (fun _ _ _ h => h) (Val.buildC (us := [(0, (.slice (some ⟨b26, 0, none⟩) (procs_0).toNat (procs_0).toNat)), (1, (.slice (some ⟨b28, 0, none⟩) (t8).toNat (t8).toNat)), (2, .agg #[.int .i64 0, v_first_2_Module_Globals, v_first_2_Module_Pool, v_first_2_Module_Methods, .int .i64 first_2.Module.Migrate, v_first_2_Globals, v_first_2_Seqs])]) (ucs := [(0, [(.slice (some ⟨b26, 0, none⟩) (procs_0).toNat (procs_0).toNat)]), (1, [(.slice (some ⟨b28, 0, none⟩) (t8).toNat (t8).toNat)]), (2, [.int .i64 0, v_first_2_Module_Globals, v_first_2_Module_Pool, v_first_2_Module_Methods, .int .i64 first_2.Module.Migrate, v_first_2_Globals, v_first_2_Seqs])]) (cs := [(.slice (some ⟨b26, 0, none⟩) (procs_0).toNat (procs_0).toNat), (.slice (some ⟨b28, 0, none⟩) (t8).toNat (t8).toNat), .int .i64 0, v_first_2_Module_Globals, v_first_2_Module_Pool, v_first_2_Module_Methods, .int .i64 first_2.Module.Migrate, v_first_2_Globals, v_first_2_Seqs]) bt92 rfl rfl ⟨rfl, rfl, ⟨rfl, rfl, ⟨rfl, rfl, trivial⟩⟩⟩ (by rfl)) (fun w2 hw => (St.selO [2] rfl rfl hw)) ?_
      refine DT.one 7 rfl (by kernel_rfl) rfl ?_
      refine SP.box (cs := [(.slice (some ⟨b26, 0, none⟩) (procs_0).toNat (procs_0).toNat), (.slice (some ⟨b28, 0, none⟩) (t8).toNat (t8).toNat), .int .i64 0, v_first_2_Module_Globals, v_first_2_Module_Pool, v_first_2_Module_Methods, .int .i64 first_2.Module.Migrate, v_first_2_Globals, v_first_2_Seqs]) rfl rfl rfl rfl (fun b33 => ?_)
      refine SP.nil ?_
      refine QE.atT (fun w2 hw => (St.selO [3] rfl rfl hw)) ?_
      refine DT.next (by kernel_rfl) ?_
      refine DA.one 8 rfl (by kernel_rfl) ?_
      refine SP.val (Val.assign rfl) rfl rfl rfl ?_
      refine SP.nil ?_
      refine QE.atA ?_
      refine DA.one 9 rfl (by kernel_rfl) ?_
      refine SP.val (Val.assign rfl) rfl rfl rfl ?_
      refine SP.nil ?_
      refine QE.atA ?_
      refine DA.done (by kernel_rfl) ?_
      refine QE.then ?_
      refine CP.ret ?_
      obtain rfl := Option.some.inj ho
      exact QE.rets (rs := [.tmp 6, .tmp 7]) (vs := [.pointer (some ⟨b33, 0, none⟩), .int .i64 0]) Try.results15 rfl ⟨RVs.tmp rfl, RVs.tmp rfl, trivial⟩ (fun w2 h => St.done (fun a b p s => ⟨_, rfl, s⟩) (St.selO [0] rfl rfl (St.addO (x := HO.em) (fun _ => trivial) h)))
    refine DT.cut (ι := Nat) (fun z => [(6, .pointer none), (7, .int .i64 0), (15, (.slice (some ⟨z, 0, none⟩) (procs_0).toNat (procs_0).toNat)), (16, .int .i64 t8), (19, .agg #[.int .i64 0, v_first_2_Module_Globals, v_first_2_Module_Pool, v_first_2_Module_Methods, .int .i64 first_2.Module.Migrate, v_first_2_Globals, v_first_2_Seqs])]) (fun z w2 => St w em hV [slP k_api_Value v_first_2_Module_Globals first_2.Module.Globals, slP k_api_Value v_first_2_Module_Pool first_2.Module.Pool, slP k_api_Method v_first_2_Module_Methods first_2.Module.Methods, slP k_api_Value v_first_2_Globals first_2.Globals, slP (kInt .i64) v_first_2_Seqs first_2.Seqs] [HO.em, boxO b6 [v_first_2_Module_Globals, v_first_2_Module_Pool, v_first_2_Module_Methods, .int .i64 first_2.Module.Migrate, v_first_2_Globals, v_first_2_Seqs] 60] w2) 5 #[true, true, true, false, true, true, false, false, false, false] (fun z => ?_) (fun J38 => ?_)
    · rename Nat => b36
      refine DT.any 3 [] (by kernel_rfl) ⟨⟨_, rfl, rfl, ?_⟩, trivial⟩
      · refine SP.makeAny Try.underlying88 inf146 rfl rfl rfl rfl hm11 (fun b39 => ?_)
        refine SP.nil ?_
        refine QE.atT (fun w2 hw => (St.selO [2] rfl rfl hw)) ?_
        refine DT.list (l2 := #[true, true, true, true, true, true, false, false, false, false]) (by kernel_rfl) ?_
        exact DT.weak (by exact ⟨rfl, rfl, rfl, rfl, rfl, trivial⟩) (by exact fun w2 hw => hw) (J30 (b36, b39))
    refine DT.cut (ι := Nat) (fun z => [(6, .pointer none), (7, .int .i64 0), (14, .int .i64 procs_0), (17, (.slice (some ⟨z, 0, none⟩) (t8).toNat (t8).toNat)), (19, .agg #[.int .i64 0, v_first_2_Module_Globals, v_first_2_Module_Pool, v_first_2_Module_Methods, .int .i64 first_2.Module.Migrate, v_first_2_Globals, v_first_2_Seqs])]) (fun z w2 => St w em hV [slP k_api_Value v_first_2_Module_Globals first_2.Module.Globals, slP k_api_Value v_first_2_Module_Pool first_2.Module.Pool, slP k_api_Method v_first_2_Module_Methods first_2.Module.Methods, slP k_api_Value v_first_2_Globals first_2.Globals, slP (kInt .i64) v_first_2_Seqs first_2.Seqs] [HO.em, boxO b6 [v_first_2_Module_Globals, v_first_2_Module_Pool, v_first_2_Module_Methods, .int .i64 first_2.Module.Migrate, v_first_2_Globals, v_first_2_Seqs] 60] w2) 5 #[true, false, true, true, true, true, false, false, false, false] (fun z => ?_) (fun J43 => ?_)
    · rename Nat => b41
      refine DT.any 1 [] (by kernel_rfl) ⟨⟨_, rfl, rfl, ?_⟩, trivial⟩
      · refine SP.makeAny Try.underlying87 inf142 rfl rfl rfl rfl hm10 (fun b44 => ?_)
        refine SP.nil ?_
        refine QE.atT (fun w2 hw => (St.selO [2] rfl rfl hw)) ?_
        refine DT.list (l2 := #[true, true, true, true, true, true, false, false, false, false]) (by kernel_rfl) ?_
        exact DT.weak (by exact ⟨rfl, rfl, rfl, rfl, rfl, trivial⟩) (by exact fun w2 hw => (St.selO [1, 0, 2] rfl rfl hw)) (J30 (b44, b41))
    refine DT.any 1 [3] (by kernel_rfl) ⟨⟨_, rfl, rfl, ?_⟩, ⟨_, rfl, rfl, ?_⟩, trivial⟩
    · refine SP.makeAny Try.underlying87 inf142 rfl rfl rfl rfl hm10 (fun b46 => ?_)
      refine SP.nil ?_
      refine QE.atT (fun w2 hw => (St.selO [1] rfl rfl hw)) ?_
      refine DT.list (l2 := #[true, true, true, false, true, true, false, false, false, false]) (by kernel_rfl) ?_
      exact DT.weak (by exact ⟨rfl, rfl, rfl, rfl, rfl, trivial⟩) (by exact fun w2 hw => hw) (J38 b46)
    · refine SP.makeAny Try.underlying88 inf146 rfl rfl rfl rfl hm11 (fun b48 => ?_)
      refine SP.nil ?_
      refine QE.atT (fun w2 hw => (St.selO [1] rfl rfl hw)) ?_
      refine DT.list (l2 := #[true, false, true, true, true, true, false, false, false, false]) (by kernel_rfl) ?_
      exact DT.weak (by exact ⟨rfl, rfl, rfl, rfl, rfl, trivial⟩) (by exact fun w2 hw => hw) (J43 b48)
/-! ### (*capstan/snap.Catch).Step: function 16 -/
def snap_Catch_Step_s1.f  : Option Bool :=
  some false
theorem snap_Catch_Step_s1.ok  (q_1 : Value) (r : Bool) (H : snap_Catch_Step_s1.f  = some r) (w : World) (hV : Hp) (sV : Sub hV (hp w)) (h0 : anyP.p hV) :
    Trip Try.prog 16 [.pointer none, q_1].toArray em hV w (fun v => HO.pure (v = .bool r)) := by
  have see : Sees w em hV := ⟨sV, Dj.em_right _⟩
  refine Trip.of (P := Try.prog) (n := ⟨14, []⟩) Try.func16 rfl ⟨rfl, rfl⟩ rfl (St.begin (All.cons (x := anyP) h0 (All.nil _))) ?_
  have ho := H
  refine CP.seq ?_
  refine CP.region ?_
  refine SP.val (Val.assign rfl) rfl rfl rfl ?_
  refine SP.nil ?_
  refine QE.then ?_
  refine CP.seq ?_
  refine CP.region ?_
  refine SP.val (Val.move rfl) rfl rfl rfl ?_
  refine SP.val (Val.cast (v := .bool false) (Val.neqPN Try.underlying50 rfl rfl) rfl) rfl rfl rfl ?_
  refine SP.val (Val.move rfl) rfl rfl rfl ?_
  refine SP.not rfl rfl rfl ?_
  refine SP.not rfl rfl rfl ?_
  refine SP.not rfl rfl rfl ?_
  refine SP.not rfl rfl rfl ?_
  refine SP.not rfl rfl rfl ?_
  refine SP.val (Val.pickF rfl rfl) rfl rfl rfl ?_
  refine SP.val (Val.assign rfl) rfl rfl rfl ?_
  refine SP.nil ?_
  refine QE.then ?_
  refine CP.ret ?_
  obtain rfl := Option.some.inj ho
  exact QE.rets (rs := [.tmp 4]) (vs := [.bool false]) Try.results16 rfl ⟨RVs.tmp rfl, trivial⟩ (fun w2 h => St.done (fun a b p s => rfl) h)
/-! ### (*capstan/snap.Keep).Step: function 17 -/
def snap_Keep_Step_s1.f  : Option Bool :=
  some false
theorem snap_Keep_Step_s1.ok  (q_1 : Value) (r : Bool) (H : snap_Keep_Step_s1.f  = some r) (w : World) (hV : Hp) (sV : Sub hV (hp w)) (h0 : anyP.p hV) :
    Trip Try.prog 17 [.pointer none, q_1].toArray em hV w (fun v => HO.pure (v = .bool r)) := by
  have see : Sees w em hV := ⟨sV, Dj.em_right _⟩
  refine Trip.of (P := Try.prog) (n := ⟨14, []⟩) Try.func17 rfl ⟨rfl, rfl⟩ rfl (St.begin (All.cons (x := anyP) h0 (All.nil _))) ?_
  have ho := H
  refine CP.seq ?_
  refine CP.region ?_
  refine SP.val (Val.assign rfl) rfl rfl rfl ?_
  refine SP.nil ?_
  refine QE.then ?_
  refine CP.seq ?_
  refine CP.region ?_
  refine SP.val (Val.move rfl) rfl rfl rfl ?_
  refine SP.val (Val.cast (v := .bool false) (Val.neqPN Try.underlying51 rfl rfl) rfl) rfl rfl rfl ?_
  refine SP.val (Val.move rfl) rfl rfl rfl ?_
  refine SP.not rfl rfl rfl ?_
  refine SP.not rfl rfl rfl ?_
  refine SP.not rfl rfl rfl ?_
  refine SP.not rfl rfl rfl ?_
  refine SP.not rfl rfl rfl ?_
  refine SP.val (Val.pickF rfl rfl) rfl rfl rfl ?_
  refine SP.val (Val.assign rfl) rfl rfl rfl ?_
  refine SP.nil ?_
  refine QE.then ?_
  refine CP.ret ?_
  obtain rfl := Option.some.inj ho
  exact QE.rets (rs := [.tmp 4]) (vs := [.bool false]) Try.results17 rfl ⟨RVs.tmp rfl, trivial⟩ (fun w2 h => St.done (fun a b p s => rfl) h)
/-! ### (*capstan/snap.Catch).Over: function 18 -/
def snap_Catch_Over_s1.f  : Option Bool :=
  some true
theorem snap_Catch_Over_s1.ok   (r : Bool) (H : snap_Catch_Over_s1.f  = some r) (w : World) (hV : Hp) (sV : Sub hV (hp w))  :
    Trip Try.prog 18 [.pointer none].toArray em hV w (fun v => HO.pure (v = .bool r)) := by
  have see : Sees w em hV := ⟨sV, Dj.em_right _⟩
  refine Trip.of (P := Try.prog) (n := ⟨11, []⟩) Try.func18 rfl ⟨rfl, rfl⟩ rfl (St.begin (All.nil _)) ?_
  have ho := H
  refine CP.seq ?_
  refine CP.region ?_
  refine SP.val (Val.assign rfl) rfl rfl rfl ?_
  refine SP.nil ?_
  refine QE.then ?_
  refine CP.seq ?_
  refine CP.region ?_
  refine SP.val (Val.move rfl) rfl rfl rfl ?_
  refine SP.val (Val.cast (v := .bool true) (Val.eqlPN Try.underlying50 rfl rfl) rfl) rfl rfl rfl ?_
  refine SP.val (Val.move rfl) rfl rfl rfl ?_
  refine SP.not rfl rfl rfl ?_
  refine SP.not rfl rfl rfl ?_
  refine SP.not rfl rfl rfl ?_
  refine SP.not rfl rfl rfl ?_
  refine SP.val (Val.pickT rfl rfl) rfl rfl rfl ?_
  refine SP.val (Val.assign rfl) rfl rfl rfl ?_
  refine SP.nil ?_
  refine QE.then ?_
  refine CP.ret ?_
  obtain rfl := Option.some.inj ho
  exact QE.rets (rs := [.tmp 2]) (vs := [.bool true]) Try.results18 rfl ⟨RVs.tmp rfl, trivial⟩ (fun w2 h => St.done (fun a b p s => rfl) h)
/-! ### (*capstan/snap.Keep).Over: function 19 -/
def snap_Keep_Over_s1.f  : Option Bool :=
  some true
theorem snap_Keep_Over_s1.ok   (r : Bool) (H : snap_Keep_Over_s1.f  = some r) (w : World) (hV : Hp) (sV : Sub hV (hp w))  :
    Trip Try.prog 19 [.pointer none].toArray em hV w (fun v => HO.pure (v = .bool r)) := by
  have see : Sees w em hV := ⟨sV, Dj.em_right _⟩
  refine Trip.of (P := Try.prog) (n := ⟨11, []⟩) Try.func19 rfl ⟨rfl, rfl⟩ rfl (St.begin (All.nil _)) ?_
  have ho := H
  refine CP.seq ?_
  refine CP.region ?_
  refine SP.val (Val.assign rfl) rfl rfl rfl ?_
  refine SP.nil ?_
  refine QE.then ?_
  refine CP.seq ?_
  refine CP.region ?_
  refine SP.val (Val.move rfl) rfl rfl rfl ?_
  refine SP.val (Val.cast (v := .bool true) (Val.eqlPN Try.underlying51 rfl rfl) rfl) rfl rfl rfl ?_
  refine SP.val (Val.move rfl) rfl rfl rfl ?_
  refine SP.not rfl rfl rfl ?_
  refine SP.not rfl rfl rfl ?_
  refine SP.not rfl rfl rfl ?_
  refine SP.not rfl rfl rfl ?_
  refine SP.val (Val.pickT rfl rfl) rfl rfl rfl ?_
  refine SP.val (Val.assign rfl) rfl rfl rfl ?_
  refine SP.nil ?_
  refine QE.then ?_
  refine CP.ret ?_
  obtain rfl := Option.some.inj ho
  exact QE.rets (rs := [.tmp 2]) (vs := [.bool true]) Try.results19 rfl ⟨RVs.tmp rfl, trivial⟩ (fun w2 h => St.done (fun a b p s => rfl) h)
/-! ### (*capstan/snap.Catch).Known: function 20 -/
def snap_Catch_Known_s1.f  : Option Int :=
  some 0
theorem snap_Catch_Known_s1.ok   (r : Int) (H : snap_Catch_Known_s1.f  = some r) (w : World) (hV : Hp) (sV : Sub hV (hp w))  :
    Trip Try.prog 20 [.pointer none].toArray em hV w (fun v => HO.pure (v = .int .i64 r)) := by
  have see : Sees w em hV := ⟨sV, Dj.em_right _⟩
  refine Trip.of (P := Try.prog) (n := ⟨10, []⟩) Try.func20 rfl ⟨rfl, rfl⟩ rfl (St.begin (All.nil _)) ?_
  have ho := H
  refine CP.seq ?_
  refine CP.region ?_
  refine SP.val (Val.assign rfl) rfl rfl rfl ?_
  refine SP.nil ?_
  refine QE.then ?_
  refine CP.seq ?_
  refine CP.seq ?_
  refine CP.region ?_
  refine SP.val (Val.move rfl) rfl rfl rfl ?_
  refine SP.val (Val.cast (v := .bool true) (Val.eqlPN Try.underlying50 rfl rfl) rfl) rfl rfl rfl ?_
  refine SP.nil ?_
  refine QE.then ?_
  refine CP.condT rfl rfl ?_
  refine CP.seq ?_
  refine CP.region ?_
  refine SP.val (Val.assign rfl) rfl rfl rfl ?_
  refine SP.nil ?_
  refine QE.then ?_
  refine CP.ret ?_
  refine QE.thru (by intro e; cases e) ?_
  obtain rfl := Option.some.inj ho
  exact QE.rets (rs := [.tmp 2]) (vs := [.int .i64 0]) Try.results20 rfl ⟨RVs.tmp rfl, trivial⟩ (fun w2 h => St.done (fun a b p s => rfl) h)
/-! ### (*capstan/snap.Keep).Known: function 21 -/
def snap_Keep_Known_s1.f  : Option Int :=
  some 0
theorem snap_Keep_Known_s1.ok   (r : Int) (H : snap_Keep_Known_s1.f  = some r) (w : World) (hV : Hp) (sV : Sub hV (hp w))  :
    Trip Try.prog 21 [.pointer none].toArray em hV w (fun v => HO.pure (v = .int .i64 r)) := by
  have see : Sees w em hV := ⟨sV, Dj.em_right _⟩
  refine Trip.of (P := Try.prog) (n := ⟨10, []⟩) Try.func21 rfl ⟨rfl, rfl⟩ rfl (St.begin (All.nil _)) ?_
  have ho := H
  refine CP.seq ?_
  refine CP.region ?_
  refine SP.val (Val.assign rfl) rfl rfl rfl ?_
  refine SP.nil ?_
  refine QE.then ?_
  refine CP.seq ?_
  refine CP.seq ?_
  refine CP.region ?_
  refine SP.val (Val.move rfl) rfl rfl rfl ?_
  refine SP.val (Val.cast (v := .bool true) (Val.eqlPN Try.underlying51 rfl rfl) rfl) rfl rfl rfl ?_
  refine SP.nil ?_
  refine QE.then ?_
  refine CP.condT rfl rfl ?_
  refine CP.seq ?_
  refine CP.region ?_
  refine SP.val (Val.assign rfl) rfl rfl rfl ?_
  refine SP.nil ?_
  refine QE.then ?_
  refine CP.ret ?_
  refine QE.thru (by intro e; cases e) ?_
  obtain rfl := Option.some.inj ho
  exact QE.rets (rs := [.tmp 2]) (vs := [.int .i64 0]) Try.results21 rfl ⟨RVs.tmp rfl, trivial⟩ (fun w2 h => St.done (fun a b p s => rfl) h)
/-! ### (*capstan/snap.doing).step: function 45 -/
def snap_doing_step_s1.j1 (d_0_1 : Int) (d_0_2 : Int)  : Option Bool :=
  some false

def snap_doing_step_s1.f (d_0_1 : Int) (d_0_2 : Int) : Option Bool :=
  snap_doing_step_s1.j1 d_0_1 d_0_2
theorem snap_doing_step_s1.ok (d_0_1 : Int) (d_0_2 : Int) (b3 : Nat) (q_5 : Value) (r : Bool) (H : snap_doing_step_s1.f d_0_1 d_0_2 = some r) (w : World) (hV : Hp) (sV : Sub hV (hp w)) (h0 : (boxP b3 [.int .i64 d_0_1, .pointer none, .int .i64 d_0_2, .nilFunc] 66).p hV) (h1 : anyP.p hV) :
    Trip Try.prog 45 [.pointer (some ⟨b3, 0, none⟩), q_5].toArray em hV w (fun v => HO.pure (v = .bool r)) := by
  have see : Sees w em hV := ⟨sV, Dj.em_right _⟩
  refine Trip.of (P := Try.prog) (n := ⟨40, []⟩) Try.func45 rfl ⟨rfl, rfl⟩ rfl (St.begin (All.cons (x := boxP b3 [.int .i64 d_0_1, .pointer none, .int .i64 d_0_2, .nilFunc] 66) h0 (All.cons (x := anyP) h1 (All.nil _)))) ?_
  have ho := H
  refine CP.seq ?_
  refine CP.region ?_
  refine SP.val (Val.assign rfl) rfl rfl rfl ?_
  refine SP.nil ?_
  refine QE.then ?_
  refine CP.seq ?_
  refine CP.join (fun a w2 => snap_doing_step_s1.j1 d_0_1 d_0_2 = some r ∧ Env ⟨40, []⟩ [(0, .pointer (some ⟨b3, 0, none⟩)), (1, q_5), (29, .bool true)] a ∧ St w em hV [boxP b3 [.int .i64 d_0_1, .pointer none, .int .i64 d_0_2, .nilFunc] 66] [] w2) ?_ ?_
  · rintro a w2 ⟨ho, ha, hw⟩
    refine CP.app ha hw ?_
    clear ha hw a w2
    refine CP.condT rfl rfl ?_
    refine CP.seq ?_
    refine CP.region ?_
    refine SP.val (Val.assign rfl) rfl rfl rfl ?_
    refine SP.nil ?_
    refine QE.then ?_
    refine CP.ret ?_
    refine QE.thru (by intro e; cases e) ?_
    obtain rfl := Option.some.inj ho
    exact QE.rets (rs := [.tmp 4]) (vs := [.bool false]) Try.results45 rfl ⟨RVs.tmp rfl, trivial⟩ (fun w2 h => St.done (fun a b p s => rfl) h)
  · refine CP.drawA (by kernel_rfl) (fun w2 k h => h.drawn k) ?_
    refine DA.phase (fun i => Nat.ble 0 i && Nat.blt i 25) (fun w2 => St w em hV [boxP b3 [.int .i64 d_0_1, .pointer none, .int .i64 d_0_2, .nilFunc] 66, anyP] [] w2) ?_
    refine DT.take 0 rfl rfl rfl rfl (by kernel_rfl) (fun _ _ _ h => h) (Val.move rfl) (fun w2 hw => hw) ?_
    refine DT.take 1 rfl rfl rfl rfl (by kernel_rfl) (fun _ _ _ h => h) (Val.cast (v := .bool false) (Val.eqlPN Try.underlying102 rfl rfl) rfl) (fun w2 hw => hw) ?_
    refine DT.take 2 rfl rfl rfl rfl (by kernel_rfl) (fun _ _ _ h => h) (Val.move rfl) (fun w2 hw => hw) ?_
    refine DT.take 3 rfl rfl rfl rfl (by kernel_rfl) (fun _ _ _ h => h) (Val.move rfl) (fun w2 hw => hw) ?_
    refine DT.take 4 rfl rfl rfl rfl (by kernel_rfl) (fun _ _ _ h => h) (Val.nilCheck rfl) (fun w2 hw => hw) ?_
    refine DT.take 5 rfl rfl rfl rfl (by kernel_rfl) (fun _ _ _ h => h) (Val.fieldAddr Try.underlying64 rfl sz62 rfl) (fun w2 hw => hw) ?_
    refine DT.take 6 rfl rfl rfl rfl (by kernel_rfl) (fun _ _ _ h => h) (Val.loadB1 see 0 rfl Try.underlying62 rfl rfl rfl) (fun w2 hw => hw) ?_
    refine DT.take 7 rfl rfl rfl rfl (by kernel_rfl) (fun _ _ _ h => h) (Val.eqlFN Try.underlying62 rfl rfl rfl) (fun w2 hw => hw) ?_
    refine DT.take 8 rfl rfl rfl rfl (by kernel_rfl) (fun _ _ _ h => h) (Val.pickF rfl rfl) (fun w2 hw => hw) ?_
    refine DT.take 9 rfl rfl rfl rfl (by kernel_rfl) (fun _ _ _ h => h) (Val.move rfl) (fun w2 hw => hw) ?_
    refine DT.not 10 rfl rfl rfl rfl (by kernel_rfl) (fun _ _ _ h => h) (fun w2 hw => hw) ?_
    refine DT.not 11 rfl rfl rfl rfl (by kernel_rfl) (fun _ _ _ h => h) (fun w2 hw => hw) ?_
    refine DT.not 12 rfl rfl rfl rfl (by kernel_rfl) (fun _ _ _ h => h) (fun w2 hw => hw) ?_
    refine DT.not 13 rfl rfl rfl rfl (by kernel_rfl) (fun _ _ _ h => h) (fun w2 hw => hw) ?_
    refine DT.not 14 rfl rfl rfl rfl (by kernel_rfl) (fun _ _ _ h => h) (fun w2 hw => hw) ?_
    refine DT.take 15 rfl rfl rfl rfl (by kernel_rfl) (fun _ _ _ h => h) (Val.pickT rfl rfl) (fun w2 hw => hw) ?_
    refine DT.take 16 rfl rfl rfl rfl (by kernel_rfl) (fun _ _ _ h => h) (Val.move rfl) (fun w2 hw => hw) ?_
    refine DT.not 17 rfl rfl rfl rfl (by kernel_rfl) (fun _ _ _ h => h) (fun w2 hw => hw) ?_
    refine DT.not 18 rfl rfl rfl rfl (by kernel_rfl) (fun _ _ _ h => h) (fun w2 hw => hw) ?_
    refine DT.not 19 rfl rfl rfl rfl (by kernel_rfl) (fun _ _ _ h => h) (fun w2 hw => hw) ?_
    refine DT.not 20 rfl rfl rfl rfl (by kernel_rfl) (fun _ _ _ h => h) (fun w2 hw => hw) ?_
    refine DT.not 21 rfl rfl rfl rfl (by kernel_rfl) (fun _ _ _ h => h) (fun w2 hw => hw) ?_
    refine DT.not 22 rfl rfl rfl rfl (by kernel_rfl) (fun _ _ _ h => h) (fun w2 hw => hw) ?_
    refine DT.not 23 rfl rfl rfl rfl (by kernel_rfl) (fun _ _ _ h => h) (fun w2 hw => hw) ?_
    refine DT.take 24 rfl rfl rfl rfl (by kernel_rfl) (fun _ _ _ h => h) (Val.pickT rfl rfl) (fun w2 hw => hw) ?_
    refine DT.next (by kernel_rfl) ?_
    refine DA.done (by kernel_rfl) ?_
    exact QE.meet fun a w2 ha hw => ⟨ho, ha.sub ⟨rfl, rfl, rfl, trivial⟩, (St.selP [0] rfl hw)⟩
/-! ### (*capstan/snap.Catch).Step: function 16 -/
def snap_Catch_Step_s2.f (c_0_1 : Int) (c_0_2 : Int) : Option Bool :=
  (snap_doing_step_s1.f c_0_1 c_0_2).bind fun t7 => some t7
theorem snap_Catch_Step_s2.ok (c_0_1 : Int) (c_0_2 : Int) (b3 : Nat) (q_5 : Value) (r : Bool) (H : snap_Catch_Step_s2.f c_0_1 c_0_2 = some r) (w : World) (hV : Hp) (sV : Sub hV (hp w)) (h0 : (boxP b3 [.int .i64 c_0_1, .pointer none, .int .i64 c_0_2, .nilFunc] 66).p hV) (h1 : anyP.p hV) :
    Trip Try.prog 16 [.pointer (some ⟨b3, 0, none⟩), q_5].toArray em hV w (fun v => HO.pure (v = .bool r)) := by
  have see : Sees w em hV := ⟨sV, Dj.em_right _⟩
  refine Trip.of (P := Try.prog) (n := ⟨14, []⟩) Try.func16 rfl ⟨rfl, rfl⟩ rfl (St.begin (All.cons (x := boxP b3 [.int .i64 c_0_1, .pointer none, .int .i64 c_0_2, .nilFunc] 66) h0 (All.cons (x := anyP) h1 (All.nil _)))) ?_
  have ho := H
  refine CP.seq ?_
  refine CP.region ?_
  refine SP.val (Val.assign rfl) rfl rfl rfl ?_
  refine SP.nil ?_
  refine QE.then ?_
  refine CP.seq ?_
  refine CP.region ?_
  refine SP.val (Val.move rfl) rfl rfl rfl ?_
  refine SP.val (Val.cast (v := .bool true) (Val.neqPN Try.underlying50 rfl rfl) rfl) rfl rfl rfl ?_
  refine SP.val (Val.move rfl) rfl rfl rfl ?_
  refine SP.val (Val.move rfl) rfl rfl rfl ?_
  refine SP.val (Val.nilCheck rfl) rfl rfl rfl ?_
  refine SP.val (Val.fieldAddr Try.underlying66 rfl sz64 rfl) rfl rfl rfl ?_
  refine SP.val (Val.move rfl) rfl rfl rfl ?_
  obtain ⟨t7, hc, ho⟩ := bind_some (x := snap_doing_step_s1.f c_0_1 c_0_2) ho
  refine SP.callV see (caps := []) (.bool t7) fn45 rfl rfl rfl rfl (fun w2 hP hs sub ap => snap_doing_step_s1.ok c_0_1 c_0_2 _ q_5 _ hc w2 hP sub (ap.get 0 rfl) trivial) ?_
  clear hc
  refine SP.val (Val.pickT rfl rfl) rfl rfl rfl ?_
  refine SP.val (Val.assign rfl) rfl rfl rfl ?_
  refine SP.nil ?_
  refine QE.then ?_
  refine CP.ret ?_
  obtain rfl := Option.some.inj ho
  exact QE.rets (rs := [.tmp 4]) (vs := [.bool t7]) Try.results16 rfl ⟨RVs.tmp rfl, trivial⟩ (fun w2 h => St.done (fun a b p s => rfl) h)
/-! ### (*capstan/snap.doing).step: function 45 -/
def snap_doing_step_s2.j1 (d_0_1 : Int) (d_0_2 : Int) (d_0_3 : Int)  : Option Bool :=
  some false

def snap_doing_step_s2.f (d_0_1 : Int) (d_0_2 : Int) (d_0_3 : Int) : Option Bool :=
  snap_doing_step_s2.j1 d_0_1 d_0_2 d_0_3
theorem snap_doing_step_s2.ok (d_0_1 : Int) (d_0_2 : Int) (d_0_3 : Int) (b4 : Nat) (q_6 : Value) (r : Bool) (H : snap_doing_step_s2.f d_0_1 d_0_2 d_0_3 = some r) (w : World) (hV : Hp) (sV : Sub hV (hp w)) (h0 : (boxP b4 [.int .i64 d_0_1, .pointer none, .int .i64 d_0_2, .nilFunc, .int .i64 d_0_3] 69).p hV) (h1 : anyP.p hV) :
    Trip Try.prog 45 [.pointer (some ⟨b4, 0, none⟩), q_6].toArray em hV w (fun v => HO.pure (v = .bool r)) := by
  have see : Sees w em hV := ⟨sV, Dj.em_right _⟩
  refine Trip.of (P := Try.prog) (n := ⟨40, []⟩) Try.func45 rfl ⟨rfl, rfl⟩ rfl (St.begin (All.cons (x := boxP b4 [.int .i64 d_0_1, .pointer none, .int .i64 d_0_2, .nilFunc, .int .i64 d_0_3] 69) h0 (All.cons (x := anyP) h1 (All.nil _)))) ?_
  have ho := H
  refine CP.seq ?_
  refine CP.region ?_
  refine SP.val (Val.assign rfl) rfl rfl rfl ?_
  refine SP.nil ?_
  refine QE.then ?_
  refine CP.seq ?_
  refine CP.join (fun a w2 => snap_doing_step_s2.j1 d_0_1 d_0_2 d_0_3 = some r ∧ Env ⟨40, []⟩ [(0, .pointer (some ⟨b4, 0, none⟩)), (1, q_6), (29, .bool true)] a ∧ St w em hV [boxP b4 [.int .i64 d_0_1, .pointer none, .int .i64 d_0_2, .nilFunc, .int .i64 d_0_3] 69] [] w2) ?_ ?_
  · rintro a w2 ⟨ho, ha, hw⟩
    refine CP.app ha hw ?_
    clear ha hw a w2
    refine CP.condT rfl rfl ?_
    refine CP.seq ?_
    refine CP.region ?_
    refine SP.val (Val.assign rfl) rfl rfl rfl ?_
    refine SP.nil ?_
    refine QE.then ?_
    refine CP.ret ?_
    refine QE.thru (by intro e; cases e) ?_
    obtain rfl := Option.some.inj ho
    exact QE.rets (rs := [.tmp 4]) (vs := [.bool false]) Try.results45 rfl ⟨RVs.tmp rfl, trivial⟩ (fun w2 h => St.done (fun a b p s => rfl) h)
  · refine CP.drawA (by kernel_rfl) (fun w2 k h => h.drawn k) ?_
    refine DA.phase (fun i => Nat.ble 0 i && Nat.blt i 25) (fun w2 => St w em hV [boxP b4 [.int .i64 d_0_1, .pointer none, .int .i64 d_0_2, .nilFunc, .int .i64 d_0_3] 69, anyP] [] w2) ?_
    refine DT.take 0 rfl rfl rfl rfl (by kernel_rfl) (fun _ _ _ h => h) (Val.move rfl) (fun w2 hw => hw) ?_
    refine DT.take 1 rfl rfl rfl rfl (by kernel_rfl) (fun _ _ _ h => h) (Val.cast (v := .bool false) (Val.eqlPN Try.underlying102 rfl rfl) rfl) (fun w2 hw => hw) ?_
    refine DT.take 2 rfl rfl rfl rfl (by kernel_rfl) (fun _ _ _ h => h) (Val.move rfl) (fun w2 hw => hw) ?_
    refine DT.take 3 rfl rfl rfl rfl (by kernel_rfl) (fun _ _ _ h => h) (Val.move rfl) (fun w2 hw => hw) ?_
    refine DT.take 4 rfl rfl rfl rfl (by kernel_rfl) (fun _ _ _ h => h) (Val.nilCheck rfl) (fun w2 hw => hw) ?_
    refine DT.take 5 rfl rfl rfl rfl (by kernel_rfl) (fun _ _ _ h => h) (Val.fieldAddr Try.underlying64 rfl sz62 rfl) (fun w2 hw => hw) ?_
    refine DT.take 6 rfl rfl rfl rfl (by kernel_rfl) (fun _ _ _ h => h) (Val.loadB1 see 0 rfl Try.underlying62 rfl rfl rfl) (fun w2 hw => hw) ?_
    refine DT.take 7 rfl rfl rfl rfl (by kernel_rfl) (fun _ _ _ h => h) (Val.eqlFN Try.underlying62 rfl rfl rfl) (fun w2 hw => hw) ?_
    refine DT.take 8 rfl rfl rfl rfl (by kernel_rfl) (fun _ _ _ h => h) (Val.pickF rfl rfl) (fun w2 hw => hw) ?_
    refine DT.take 9 rfl rfl rfl rfl (by kernel_rfl) (fun _ _ _ h => h) (Val.move rfl) (fun w2 hw => hw) ?_
    refine DT.not 10 rfl rfl rfl rfl (by kernel_rfl) (fun _ _ _ h => h) (fun w2 hw => hw) ?_
    refine DT.not 11 rfl rfl rfl rfl (by kernel_rfl) (fun _ _ _ h => h) (fun w2 hw => hw) ?_
    refine DT.not 12 rfl rfl rfl rfl (by kernel_rfl) (fun _ _ _ h => h) (fun w2 hw => hw) ?_
    refine DT.not 13 rfl rfl rfl rfl (by kernel_rfl) (fun _ _ _ h => h) (fun w2 hw => hw) ?_
    refine DT.not 14 rfl rfl rfl rfl (by kernel_rfl) (fun _ _ _ h => h) (fun w2 hw => hw) ?_
    refine DT.take 15 rfl rfl rfl rfl (by kernel_rfl) (fun _ _ _ h => h) (Val.pickT rfl rfl) (fun w2 hw => hw) ?_
    refine DT.take 16 rfl rfl rfl rfl (by kernel_rfl) (fun _ _ _ h => h) (Val.move rfl) (fun w2 hw => hw) ?_
    refine DT.not 17 rfl rfl rfl rfl (by kernel_rfl) (fun _ _ _ h => h) (fun w2 hw => hw) ?_
    refine DT.not 18 rfl rfl rfl rfl (by kernel_rfl) (fun _ _ _ h => h) (fun w2 hw => hw) ?_
    refine DT.not 19 rfl rfl rfl rfl (by kernel_rfl) (fun _ _ _ h => h) (fun w2 hw => hw) ?_
    refine DT.not 20 rfl rfl rfl rfl (by kernel_rfl) (fun _ _ _ h => h) (fun w2 hw => hw) ?_
    refine DT.not 21 rfl rfl rfl rfl (by kernel_rfl) (fun _ _ _ h => h) (fun w2 hw => hw) ?_
    refine DT.not 22 rfl rfl rfl rfl (by kernel_rfl) (fun _ _ _ h => h) (fun w2 hw => hw) ?_
    refine DT.not 23 rfl rfl rfl rfl (by kernel_rfl) (fun _ _ _ h => h) (fun w2 hw => hw) ?_
    refine DT.take 24 rfl rfl rfl rfl (by kernel_rfl) (fun _ _ _ h => h) (Val.pickT rfl rfl) (fun w2 hw => hw) ?_
    refine DT.next (by kernel_rfl) ?_
    refine DA.done (by kernel_rfl) ?_
    exact QE.meet fun a w2 ha hw => ⟨ho, ha.sub ⟨rfl, rfl, rfl, trivial⟩, (St.selP [0] rfl hw)⟩
/-! ### (*capstan/snap.Keep).Step: function 17 -/
def snap_Keep_Step_s2.f (k_0_1 : Int) (k_0_2 : Int) (k_0_3 : Int) : Option Bool :=
  (snap_doing_step_s2.f k_0_1 k_0_2 k_0_3).bind fun t8 => some t8
theorem snap_Keep_Step_s2.ok (k_0_1 : Int) (k_0_2 : Int) (k_0_3 : Int) (b4 : Nat) (q_6 : Value) (r : Bool) (H : snap_Keep_Step_s2.f k_0_1 k_0_2 k_0_3 = some r) (w : World) (hV : Hp) (sV : Sub hV (hp w)) (h0 : (boxP b4 [.int .i64 k_0_1, .pointer none, .int .i64 k_0_2, .nilFunc, .int .i64 k_0_3] 69).p hV) (h1 : anyP.p hV) :
    Trip Try.prog 17 [.pointer (some ⟨b4, 0, none⟩), q_6].toArray em hV w (fun v => HO.pure (v = .bool r)) := by
  have see : Sees w em hV := ⟨sV, Dj.em_right _⟩
  refine Trip.of (P := Try.prog) (n := ⟨14, []⟩) Try.func17 rfl ⟨rfl, rfl⟩ rfl (St.begin (All.cons (x := boxP b4 [.int .i64 k_0_1, .pointer none, .int .i64 k_0_2, .nilFunc, .int .i64 k_0_3] 69) h0 (All.cons (x := anyP) h1 (All.nil _)))) ?_
  have ho := H
  refine CP.seq ?_
  refine CP.region ?_
  refine SP.val (Val.assign rfl) rfl rfl rfl ?_
  refine SP.nil ?_
  refine QE.then ?_
  refine CP.seq ?_
  refine CP.region ?_
  refine SP.val (Val.move rfl) rfl rfl rfl ?_
  refine SP.val (Val.cast (v := .bool true) (Val.neqPN Try.underlying51 rfl rfl) rfl) rfl rfl rfl ?_
  refine SP.val (Val.move rfl) rfl rfl rfl ?_
  refine SP.val (Val.move rfl) rfl rfl rfl ?_
  refine SP.val (Val.nilCheck rfl) rfl rfl rfl ?_
  refine SP.val (Val.fieldAddr Try.underlying69 rfl sz64 rfl) rfl rfl rfl ?_
  refine SP.val (Val.move rfl) rfl rfl rfl ?_
  obtain ⟨t8, hc, ho⟩ := bind_some (x := snap_doing_step_s2.f k_0_1 k_0_2 k_0_3) ho
  refine SP.callV see (caps := []) (.bool t8) fn45 rfl rfl rfl rfl (fun w2 hP hs sub ap => snap_doing_step_s2.ok k_0_1 k_0_2 k_0_3 _ q_6 _ hc w2 hP sub (ap.get 0 rfl) trivial) ?_
  clear hc
  refine SP.val (Val.pickT rfl rfl) rfl rfl rfl ?_
  refine SP.val (Val.assign rfl) rfl rfl rfl ?_
  refine SP.nil ?_
  refine QE.then ?_
  refine CP.ret ?_
  obtain rfl := Option.some.inj ho
  exact QE.rets (rs := [.tmp 4]) (vs := [.bool t8]) Try.results17 rfl ⟨RVs.tmp rfl, trivial⟩ (fun w2 h => St.done (fun a b p s => rfl) h)
/-! ### (*capstan/snap.doing).over: function 46 -/
def snap_doing_over_s1.f (d_0_1 : Int) (d_0_2 : Int) : Option Bool :=
  some true
theorem snap_doing_over_s1.ok (d_0_1 : Int) (d_0_2 : Int) (b3 : Nat) (r : Bool) (H : snap_doing_over_s1.f d_0_1 d_0_2 = some r) (w : World) (hV : Hp) (sV : Sub hV (hp w)) (h0 : (boxP b3 [.int .i64 d_0_1, .pointer none, .int .i64 d_0_2, .nilFunc] 66).p hV) :
    Trip Try.prog 46 [.pointer (some ⟨b3, 0, none⟩)].toArray em hV w (fun v => HO.pure (v = .bool r)) := by
  have see : Sees w em hV := ⟨sV, Dj.em_right _⟩
  refine Trip.of (P := Try.prog) (n := ⟨12, []⟩) Try.func46 rfl ⟨rfl, rfl⟩ rfl (St.begin (All.cons (x := boxP b3 [.int .i64 d_0_1, .pointer none, .int .i64 d_0_2, .nilFunc] 66) h0 (All.nil _))) ?_
  have ho := H
  refine CP.seq ?_
  refine CP.region ?_
  refine SP.val (Val.assign rfl) rfl rfl rfl ?_
  refine SP.nil ?_
  refine QE.then ?_
  refine CP.seq ?_
  refine CP.region ?_
  refine SP.val (Val.move rfl) rfl rfl rfl ?_
  refine SP.val (Val.cast (v := .bool false) (Val.eqlPN Try.underlying102 rfl rfl) rfl) rfl rfl rfl ?_
  refine SP.val (Val.move rfl) rfl rfl rfl ?_
  refine SP.val (Val.move rfl) rfl rfl rfl ?_
  refine SP.val (Val.nilCheck rfl) rfl rfl rfl ?_
  refine SP.val (Val.fieldAddr Try.underlying64 rfl sz62 rfl) rfl rfl rfl ?_
  refine SP.val (Val.loadB1 see 0 rfl Try.underlying62 rfl rfl rfl) rfl rfl rfl ?_
  refine SP.val (Val.eqlFN Try.underlying62 rfl rfl rfl) rfl rfl rfl ?_
  refine SP.val (Val.pickF rfl rfl) rfl rfl rfl ?_
  refine SP.val (Val.assign rfl) rfl rfl rfl ?_
  refine SP.nil ?_
  refine QE.then ?_
  refine CP.ret ?_
  obtain rfl := Option.some.inj ho
  exact QE.rets (rs := [.tmp 2]) (vs := [.bool true]) Try.results46 rfl ⟨RVs.tmp rfl, trivial⟩ (fun w2 h => St.done (fun a b p s => rfl) h)
/-! ### (*capstan/snap.Catch).Over: function 18 -/
def snap_Catch_Over_s2.f (c_0_1 : Int) (c_0_2 : Int) : Option Bool :=
  (snap_doing_over_s1.f c_0_1 c_0_2).bind fun t5 => some t5
theorem snap_Catch_Over_s2.ok (c_0_1 : Int) (c_0_2 : Int) (b3 : Nat) (r : Bool) (H : snap_Catch_Over_s2.f c_0_1 c_0_2 = some r) (w : World) (hV : Hp) (sV : Sub hV (hp w)) (h0 : (boxP b3 [.int .i64 c_0_1, .pointer none, .int .i64 c_0_2, .nilFunc] 66).p hV) :
    Trip Try.prog 18 [.pointer (some ⟨b3, 0, none⟩)].toArray em hV w (fun v => HO.pure (v = .bool r)) := by
  have see : Sees w em hV := ⟨sV, Dj.em_right _⟩
  refine Trip.of (P := Try.prog) (n := ⟨11, []⟩) Try.func18 rfl ⟨rfl, rfl⟩ rfl (St.begin (All.cons (x := boxP b3 [.int .i64 c_0_1, .pointer none, .int .i64 c_0_2, .nilFunc] 66) h0 (All.nil _))) ?_
  have ho := H
  refine CP.seq ?_
  refine CP.region ?_
  refine SP.val (Val.assign rfl) rfl rfl rfl ?_
  refine SP.nil ?_
  refine QE.then ?_
  refine CP.seq ?_
  refine CP.region ?_
  refine SP.val (Val.move rfl) rfl rfl rfl ?_
  refine SP.val (Val.cast (v := .bool false) (Val.eqlPN Try.underlying50 rfl rfl) rfl) rfl rfl rfl ?_
  refine SP.val (Val.move rfl) rfl rfl rfl ?_
  refine SP.val (Val.move rfl) rfl rfl rfl ?_
  refine SP.val (Val.nilCheck rfl) rfl rfl rfl ?_
  refine SP.val (Val.fieldAddr Try.underlying66 rfl sz64 rfl) rfl rfl rfl ?_
  obtain ⟨t5, hc, ho⟩ := bind_some (x := snap_doing_over_s1.f c_0_1 c_0_2) ho
  refine SP.callV see (caps := []) (.bool t5) fn46 rfl rfl rfl rfl (fun w2 hP hs sub ap => snap_doing_over_s1.ok c_0_1 c_0_2 _ _ hc w2 hP sub (ap.get 0 rfl)) ?_
  clear hc
  refine SP.val (Val.pickF rfl rfl) rfl rfl rfl ?_
  refine SP.val (Val.assign rfl) rfl rfl rfl ?_
  refine SP.nil ?_
  refine QE.then ?_
  refine CP.ret ?_
  obtain rfl := Option.some.inj ho
  exact QE.rets (rs := [.tmp 2]) (vs := [.bool t5]) Try.results18 rfl ⟨RVs.tmp rfl, trivial⟩ (fun w2 h => St.done (fun a b p s => rfl) h)
/-! ### (*capstan/snap.doing).over: function 46 -/
def snap_doing_over_s2.f (d_0_1 : Int) (d_0_2 : Int) (d_0_3 : Int) : Option Bool :=
  some true
theorem snap_doing_over_s2.ok (d_0_1 : Int) (d_0_2 : Int) (d_0_3 : Int) (b4 : Nat) (r : Bool) (H : snap_doing_over_s2.f d_0_1 d_0_2 d_0_3 = some r) (w : World) (hV : Hp) (sV : Sub hV (hp w)) (h0 : (boxP b4 [.int .i64 d_0_1, .pointer none, .int .i64 d_0_2, .nilFunc, .int .i64 d_0_3] 69).p hV) :
    Trip Try.prog 46 [.pointer (some ⟨b4, 0, none⟩)].toArray em hV w (fun v => HO.pure (v = .bool r)) := by
  have see : Sees w em hV := ⟨sV, Dj.em_right _⟩
  refine Trip.of (P := Try.prog) (n := ⟨12, []⟩) Try.func46 rfl ⟨rfl, rfl⟩ rfl (St.begin (All.cons (x := boxP b4 [.int .i64 d_0_1, .pointer none, .int .i64 d_0_2, .nilFunc, .int .i64 d_0_3] 69) h0 (All.nil _))) ?_
  have ho := H
  refine CP.seq ?_
  refine CP.region ?_
  refine SP.val (Val.assign rfl) rfl rfl rfl ?_
  refine SP.nil ?_
  refine QE.then ?_
  refine CP.seq ?_
  refine CP.region ?_
  refine SP.val (Val.move rfl) rfl rfl rfl ?_
  refine SP.val (Val.cast (v := .bool false) (Val.eqlPN Try.underlying102 rfl rfl) rfl) rfl rfl rfl ?_
  refine SP.val (Val.move rfl) rfl rfl rfl ?_
  refine SP.val (Val.move rfl) rfl rfl rfl ?_
  refine SP.val (Val.nilCheck rfl) rfl rfl rfl ?_
  refine SP.val (Val.fieldAddr Try.underlying64 rfl sz62 rfl) rfl rfl rfl ?_
  refine SP.val (Val.loadB1 see 0 rfl Try.underlying62 rfl rfl rfl) rfl rfl rfl ?_
  refine SP.val (Val.eqlFN Try.underlying62 rfl rfl rfl) rfl rfl rfl ?_
  refine SP.val (Val.pickF rfl rfl) rfl rfl rfl ?_
  refine SP.val (Val.assign rfl) rfl rfl rfl ?_
  refine SP.nil ?_
  refine QE.then ?_
  refine CP.ret ?_
  obtain rfl := Option.some.inj ho
  exact QE.rets (rs := [.tmp 2]) (vs := [.bool true]) Try.results46 rfl ⟨RVs.tmp rfl, trivial⟩ (fun w2 h => St.done (fun a b p s => rfl) h)
/-! ### (*capstan/snap.Keep).Over: function 19 -/
def snap_Keep_Over_s2.f (k_0_1 : Int) (k_0_2 : Int) (k_0_3 : Int) : Option Bool :=
  (snap_doing_over_s2.f k_0_1 k_0_2 k_0_3).bind fun t6 => some t6
theorem snap_Keep_Over_s2.ok (k_0_1 : Int) (k_0_2 : Int) (k_0_3 : Int) (b4 : Nat) (r : Bool) (H : snap_Keep_Over_s2.f k_0_1 k_0_2 k_0_3 = some r) (w : World) (hV : Hp) (sV : Sub hV (hp w)) (h0 : (boxP b4 [.int .i64 k_0_1, .pointer none, .int .i64 k_0_2, .nilFunc, .int .i64 k_0_3] 69).p hV) :
    Trip Try.prog 19 [.pointer (some ⟨b4, 0, none⟩)].toArray em hV w (fun v => HO.pure (v = .bool r)) := by
  have see : Sees w em hV := ⟨sV, Dj.em_right _⟩
  refine Trip.of (P := Try.prog) (n := ⟨11, []⟩) Try.func19 rfl ⟨rfl, rfl⟩ rfl (St.begin (All.cons (x := boxP b4 [.int .i64 k_0_1, .pointer none, .int .i64 k_0_2, .nilFunc, .int .i64 k_0_3] 69) h0 (All.nil _))) ?_
  have ho := H
  refine CP.seq ?_
  refine CP.region ?_
  refine SP.val (Val.assign rfl) rfl rfl rfl ?_
  refine SP.nil ?_
  refine QE.then ?_
  refine CP.seq ?_
  refine CP.region ?_
  refine SP.val (Val.move rfl) rfl rfl rfl ?_
  refine SP.val (Val.cast (v := .bool false) (Val.eqlPN Try.underlying51 rfl rfl) rfl) rfl rfl rfl ?_
  refine SP.val (Val.move rfl) rfl rfl rfl ?_
  refine SP.val (Val.move rfl) rfl rfl rfl ?_
  refine SP.val (Val.nilCheck rfl) rfl rfl rfl ?_
  refine SP.val (Val.fieldAddr Try.underlying69 rfl sz64 rfl) rfl rfl rfl ?_
  obtain ⟨t6, hc, ho⟩ := bind_some (x := snap_doing_over_s2.f k_0_1 k_0_2 k_0_3) ho
  refine SP.callV see (caps := []) (.bool t6) fn46 rfl rfl rfl rfl (fun w2 hP hs sub ap => snap_doing_over_s2.ok k_0_1 k_0_2 k_0_3 _ _ hc w2 hP sub (ap.get 0 rfl)) ?_
  clear hc
  refine SP.val (Val.pickF rfl rfl) rfl rfl rfl ?_
  refine SP.val (Val.assign rfl) rfl rfl rfl ?_
  refine SP.nil ?_
  refine QE.then ?_
  refine CP.ret ?_
  obtain rfl := Option.some.inj ho
  exact QE.rets (rs := [.tmp 2]) (vs := [.bool t6]) Try.results19 rfl ⟨RVs.tmp rfl, trivial⟩ (fun w2 h => St.done (fun a b p s => rfl) h)
/-! ### (*capstan/snap.Catch).Known: function 20 -/
def snap_Catch_Known_s2.f (c_0_1 : Int) (c_0_2 : Int) : Option Int :=
  some c_0_2
theorem snap_Catch_Known_s2.ok (c_0_1 : Int) (c_0_2 : Int) (b3 : Nat) (r : Int) (H : snap_Catch_Known_s2.f c_0_1 c_0_2 = some r) (w : World) (hV : Hp) (sV : Sub hV (hp w)) (h0 : (boxP b3 [.int .i64 c_0_1, .pointer none, .int .i64 c_0_2, .nilFunc] 66).p hV) :
    Trip Try.prog 20 [.pointer (some ⟨b3, 0, none⟩)].toArray em hV w (fun v => HO.pure (v = .int .i64 r)) := by
  have see : Sees w em hV := ⟨sV, Dj.em_right _⟩
  refine Trip.of (P := Try.prog) (n := ⟨10, []⟩) Try.func20 rfl ⟨rfl, rfl⟩ rfl (St.begin (All.cons (x := boxP b3 [.int .i64 c_0_1, .pointer none, .int .i64 c_0_2, .nilFunc] 66) h0 (All.nil _))) ?_
  have ho := H
  refine CP.seq ?_
  refine CP.region ?_
  refine SP.val (Val.assign rfl) rfl rfl rfl ?_
  refine SP.nil ?_
  refine QE.then ?_
  refine CP.seq ?_
  refine CP.seq ?_
  refine CP.region ?_
  refine SP.val (Val.move rfl) rfl rfl rfl ?_
  refine SP.val (Val.cast (v := .bool false) (Val.eqlPN Try.underlying50 rfl rfl) rfl) rfl rfl rfl ?_
  refine SP.nil ?_
  refine QE.then ?_
  refine CP.condF rfl rfl ?_
  refine CP.skip ?_
  refine QE.then ?_
  refine CP.seq ?_
  refine CP.region ?_
  refine SP.val (Val.move rfl) rfl rfl rfl ?_
  refine SP.val (Val.nilCheck rfl) rfl rfl rfl ?_
  refine SP.val (Val.fieldAddr Try.underlying66 rfl sz64 rfl) rfl rfl rfl ?_
  refine SP.val (Val.fieldAddr Try.underlying64 rfl sz3 rfl) rfl rfl rfl ?_
  refine SP.val (Val.loadB1 see 0 rfl Try.underlying3 rfl rfl rfl) rfl rfl rfl ?_
  refine SP.val (Val.assign rfl) rfl rfl rfl ?_
  refine SP.nil ?_
  refine QE.then ?_
  refine CP.ret ?_
  obtain rfl := Option.some.inj ho
  exact QE.rets (rs := [.tmp 2]) (vs := [.int .i64 c_0_2]) Try.results20 rfl ⟨RVs.tmp rfl, trivial⟩ (fun w2 h => St.done (fun a b p s => rfl) h)
/-! ### (*capstan/snap.Keep).Known: function 21 -/
def snap_Keep_Known_s2.f (k_0_1 : Int) (k_0_2 : Int) (k_0_3 : Int) : Option Int :=
  some k_0_2
theorem snap_Keep_Known_s2.ok (k_0_1 : Int) (k_0_2 : Int) (k_0_3 : Int) (b4 : Nat) (r : Int) (H : snap_Keep_Known_s2.f k_0_1 k_0_2 k_0_3 = some r) (w : World) (hV : Hp) (sV : Sub hV (hp w)) (h0 : (boxP b4 [.int .i64 k_0_1, .pointer none, .int .i64 k_0_2, .nilFunc, .int .i64 k_0_3] 69).p hV) :
    Trip Try.prog 21 [.pointer (some ⟨b4, 0, none⟩)].toArray em hV w (fun v => HO.pure (v = .int .i64 r)) := by
  have see : Sees w em hV := ⟨sV, Dj.em_right _⟩
  refine Trip.of (P := Try.prog) (n := ⟨10, []⟩) Try.func21 rfl ⟨rfl, rfl⟩ rfl (St.begin (All.cons (x := boxP b4 [.int .i64 k_0_1, .pointer none, .int .i64 k_0_2, .nilFunc, .int .i64 k_0_3] 69) h0 (All.nil _))) ?_
  have ho := H
  refine CP.seq ?_
  refine CP.region ?_
  refine SP.val (Val.assign rfl) rfl rfl rfl ?_
  refine SP.nil ?_
  refine QE.then ?_
  refine CP.seq ?_
  refine CP.seq ?_
  refine CP.region ?_
  refine SP.val (Val.move rfl) rfl rfl rfl ?_
  refine SP.val (Val.cast (v := .bool false) (Val.eqlPN Try.underlying51 rfl rfl) rfl) rfl rfl rfl ?_
  refine SP.nil ?_
  refine QE.then ?_
  refine CP.condF rfl rfl ?_
  refine CP.skip ?_
  refine QE.then ?_
  refine CP.seq ?_
  refine CP.region ?_
  refine SP.val (Val.move rfl) rfl rfl rfl ?_
  refine SP.val (Val.nilCheck rfl) rfl rfl rfl ?_
  refine SP.val (Val.fieldAddr Try.underlying69 rfl sz64 rfl) rfl rfl rfl ?_
  refine SP.val (Val.fieldAddr Try.underlying64 rfl sz3 rfl) rfl rfl rfl ?_
  refine SP.val (Val.loadB1 see 0 rfl Try.underlying3 rfl rfl rfl) rfl rfl rfl ?_
  refine SP.val (Val.assign rfl) rfl rfl rfl ?_
  refine SP.nil ?_
  refine QE.then ?_
  refine CP.ret ?_
  obtain rfl := Option.some.inj ho
  exact QE.rets (rs := [.tmp 2]) (vs := [.int .i64 k_0_2]) Try.results21 rfl ⟨RVs.tmp rfl, trivial⟩ (fun w2 h => St.done (fun a b p s => rfl) h)
/-! ### capstan/snap.Due: function 22 -/
def snap_Due.f (known_0 : Int) (pos_1 : Int) (every_2 : Int) : Option Bool :=
  (if ((decide (every_2 ≥ 1)) && (decide (known_0 ≥ 0))) = true then (if every_2 ≠ 0 then (some (decide ((IntKind.i64.wrap ((IntKind.i64.wrap (Int.tdiv pos_1 every_2)) * every_2)) > known_0))) else none) else (some false)).bind fun t5 => some t5
theorem snap_Due.ok (known_0 : Int) (pos_1 : Int) (every_2 : Int)  (r : Bool) (H : snap_Due.f known_0 pos_1 every_2 = some r) (w : World) (hV : Hp) (sV : Sub hV (hp w))  :
    Trip Try.prog 22 [.int .i64 known_0, .int .i64 pos_1, .int .i64 every_2].toArray em hV w (fun v => HO.pure (v = .bool r)) := by
  have see : Sees w em hV := ⟨sV, Dj.em_right _⟩
  refine Trip.of (P := Try.prog) (n := ⟨22, []⟩) Try.func22 rfl ⟨rfl, rfl⟩ rfl (St.begin (All.nil _)) ?_
  have ho := H
  refine CP.seq ?_
  refine CP.region ?_
  refine SP.val (Val.assign rfl) rfl rfl rfl ?_
  refine SP.nil ?_
  refine QE.then ?_
  refine CP.seq ?_
  refine CP.region ?_
  refine SP.val (Val.move rfl) rfl rfl rfl ?_
  refine SP.val (Val.geq rfl rfl) rfl rfl rfl ?_
  refine SP.val (Val.move rfl) rfl rfl rfl ?_
  refine SP.join 3 (fun a w2 => Env ⟨22, []⟩ [(0, .int .i64 known_0), (1, .int .i64 pos_1), (2, .int .i64 every_2), (12, .bool ((decide (every_2 ≥ 1)) && (decide (known_0 ≥ 0))))] a ∧ St w em hV [] [] w2) ?_ ?_
  · rintro a w2 ⟨ha, hw⟩
    refine SP.app ha hw ?_
    clear ha hw a w2
    refine SP.val (Val.move rfl) rfl rfl rfl ?_
    obtain ⟨t5, hg_t5, ho⟩ := bind_some ho
    refine SP.join 8 (fun a w2 => Env ⟨22, []⟩ [(21, .bool t5)] a ∧ St w em hV [] [] w2) ?_ ?_
    · rintro a w2 ⟨ha, hw⟩
      refine SP.app ha hw ?_
      clear ha hw a w2 hg_t5
      refine SP.val (Val.assign rfl) rfl rfl rfl ?_
      refine SP.nil ?_
      refine QE.then ?_
      refine CP.ret ?_
      obtain rfl := Option.some.inj ho
      exact QE.rets (rs := [.tmp 6]) (vs := [.bool t5]) Try.results22 rfl ⟨RVs.tmp rfl, trivial⟩ (fun w2 h => St.done (fun a b p s => rfl) h)
    · intro J
      clear ho
      have ho := hg_t5
      clear hg_t5
      rcases if_some ho with ⟨hc, ho⟩ | ⟨hc, ho⟩
      · have hq4 := hc
        refine SP.isT (d := 13) rfl hq4 ?_
        refine SP.val (Val.move rfl) rfl rfl rfl ?_
        refine SP.val (Val.move rfl) rfl rfl rfl ?_
        obtain ⟨hz, ho⟩ := must_some ho
        refine SP.val (Val.quo rfl rfl hz) rfl rfl rfl ?_
        clear hz
        refine SP.val (Val.move rfl) rfl rfl rfl ?_
        refine SP.val (Val.mul rfl rfl) rfl rfl rfl ?_
        refine SP.val (Val.move rfl) rfl rfl rfl ?_
        refine SP.val (Val.gtr rfl rfl) rfl rfl rfl ?_
        refine SP.val (Val.pickT rfl rfl) rfl rfl rfl ?_
        obtain rfl := Option.some.inj ho
        exact J fun a w2 ha hw => ⟨ha.sub ⟨rfl, trivial⟩, hw⟩
      · have hq4 := (bf hc)
        refine SP.isF (d := 13) rfl hq4 ?_
        refine SP.not rfl rfl rfl ?_
        refine SP.not rfl rfl rfl ?_
        refine SP.not rfl rfl rfl ?_
        refine SP.not rfl rfl rfl ?_
        refine SP.not rfl rfl rfl ?_
        refine SP.not rfl rfl rfl ?_
        refine SP.not rfl rfl rfl ?_
        refine SP.val (Val.pickF rfl rfl) rfl rfl rfl ?_
        obtain rfl := Option.some.inj ho
        exact J fun a w2 ha hw => ⟨ha.sub ⟨rfl, trivial⟩, hw⟩
  · intro J
    by_cases hc : every_2 ≥ 1
    · have hq2 := (decide_eq_true hc)
      refine SP.isT (d := 9) rfl hq2 ?_
      refine SP.val (Val.move rfl) rfl rfl rfl ?_
      refine SP.val (Val.geq rfl rfl) rfl rfl rfl ?_
      refine SP.val (Val.pickT rfl rfl) rfl rfl rfl ?_
      exact J fun a w2 ha hw => ⟨ha.sub ⟨rfl, rfl, rfl, congrArg (fun z => some (Value.bool z)) (and_t hq2 rfl), trivial⟩, hw⟩
    · have hq2 := (decide_eq_false hc)
      refine SP.isF (d := 9) rfl hq2 ?_
      refine SP.not rfl rfl rfl ?_
      refine SP.not rfl rfl rfl ?_
      refine SP.val (Val.pickF rfl rfl) rfl rfl rfl ?_
      exact J fun a w2 ha hw => ⟨ha.sub ⟨rfl, rfl, rfl, congrArg (fun z => some (Value.bool z)) (and_f hq2), trivial⟩, hw⟩
/-! ### capstan/capstanref26.Due: function 23 -/
def capstanref26_Due.f (known_0 : Int) (pos_1 : Int) (every_2 : Int) : Option Bool :=
  if (((decide (every_2 < 1)) || (decide (known_0 < 0))) || (decide (pos_1 ≤ known_0))) = true then (some false) else (if every_2 ≠ 0 then (if every_2 ≠ 0 then (some (decide ((IntKind.i64.wrap (Int.tdiv pos_1 every_2)) > (IntKind.i64.wrap (Int.tdiv known_0 every_2))))) else none) else none)
theorem capstanref26_Due.ok (known_0 : Int) (pos_1 : Int) (every_2 : Int)  (r : Bool) (H : capstanref26_Due.f known_0 pos_1 every_2 = some r) (w : World) (hV : Hp) (sV : Sub hV (hp w))  :
    Trip Try.prog 23 [.int .i64 known_0, .int .i64 pos_1, .int .i64 every_2].toArray em hV w (fun v => HO.pure (v = .bool r)) := by
  have see : Sees w em hV := ⟨sV, Dj.em_right _⟩
  refine Trip.of (P := Try.prog) (n := ⟨25, []⟩) Try.func23 rfl ⟨rfl, rfl⟩ rfl (St.begin (All.nil _)) ?_
  have ho := H
  refine CP.seq ?_
  refine CP.region ?_
  refine SP.val (Val.assign rfl) rfl rfl rfl ?_
  refine SP.nil ?_
  refine QE.then ?_
  refine CP.seq ?_
  refine CP.seq ?_
  refine CP.region ?_
  refine SP.val (Val.move rfl) rfl rfl rfl ?_
  refine SP.val (Val.lss rfl rfl) rfl rfl rfl ?_
  refine SP.val (Val.move rfl) rfl rfl rfl ?_
  refine SP.join 3 (fun a w2 => Env ⟨25, []⟩ [(0, .int .i64 known_0), (1, .int .i64 pos_1), (2, .int .i64 every_2), (12, .bool ((decide (every_2 < 1)) || (decide (known_0 < 0))))] a ∧ St w em hV [] [] w2) ?_ ?_
  · rintro a w2 ⟨ha, hw⟩
    refine SP.app ha hw ?_
    clear ha hw a w2
    refine SP.val (Val.move rfl) rfl rfl rfl ?_
    refine SP.join 4 (fun a w2 => Env ⟨25, []⟩ [(0, .int .i64 known_0), (1, .int .i64 pos_1), (2, .int .i64 every_2), (17, .bool (((decide (every_2 < 1)) || (decide (known_0 < 0))) || (decide (pos_1 ≤ known_0))))] a ∧ St w em hV [] [] w2) ?_ ?_
    · rintro a w2 ⟨ha, hw⟩
      refine SP.app ha hw ?_
      clear ha hw a w2
      refine SP.nil ?_
      refine QE.then ?_
      rcases if_some ho with ⟨hc, ho⟩ | ⟨hc, ho⟩
      · refine CP.condT rfl hc ?_
        refine CP.seq ?_
        refine CP.region ?_
        refine SP.val (Val.assign rfl) rfl rfl rfl ?_
        refine SP.nil ?_
        refine QE.then ?_
        refine CP.ret ?_
        refine QE.thru (by intro e; cases e) ?_
        obtain rfl := Option.some.inj ho
        exact QE.rets (rs := [.tmp 6]) (vs := [.bool false]) Try.results23 rfl ⟨RVs.tmp rfl, trivial⟩ (fun w2 h => St.done (fun a b p s => rfl) h)
      · refine CP.condF rfl (bf hc) ?_
        refine CP.skip ?_
        refine QE.then ?_
        refine CP.seq ?_
        refine CP.drawA (by kernel_rfl) (fun w2 k h => h.drawn k) ?_
        obtain ⟨hz5, ho⟩ := must_some ho
        obtain ⟨hz6, ho⟩ := must_some ho
        refine DA.phase (fun i => Nat.ble 0 i && Nat.blt i 7) (fun w2 => St w em hV [] [] w2) ?_
        refine DT.take 0 rfl rfl rfl rfl (by kernel_rfl) (fun _ _ _ h => h) (Val.move rfl) (fun w2 hw => hw) ?_
        refine DT.take 1 rfl rfl rfl rfl (by kernel_rfl) (fun _ _ _ h => h) (Val.move rfl) (fun w2 hw => hw) ?_
        refine DT.take 2 rfl rfl rfl rfl (by kernel_rfl) (fun _ _ _ h => h) (Val.quo rfl rfl hz5) (fun w2 hw => hw) ?_
        refine DT.take 3 rfl rfl rfl rfl (by kernel_rfl) (fun _ _ _ h => h) (Val.move rfl) (fun w2 hw => hw) ?_
        refine DT.take 4 rfl rfl rfl rfl (by kernel_rfl) (fun _ _ _ h => h) (Val.move rfl) (fun w2 hw => hw) ?_
        refine DT.take 5 rfl rfl rfl rfl (by kernel_rfl) (fun _ _ _ h => h) (Val.quo rfl rfl hz6) (fun w2 hw => hw) ?_
        refine DT.take 6 rfl rfl rfl rfl (by kernel_rfl) (fun _ _ _ h => h) (Val.gtr rfl rfl) (fun w2 hw => hw) ?_
        refine DT.next (by kernel_rfl) ?_
        refine DA.one 7 rfl (by kernel_rfl) ?_
        refine SP.val (Val.assign rfl) rfl rfl rfl ?_
        refine SP.nil ?_
        refine QE.atA ?_
        refine DA.done (by kernel_rfl) ?_
        refine QE.then ?_
        refine CP.ret ?_
        obtain rfl := Option.some.inj ho
        exact QE.rets (rs := [.tmp 6]) (vs := [.bool (decide ((IntKind.i64.wrap (Int.tdiv pos_1 every_2)) > (IntKind.i64.wrap (Int.tdiv known_0 every_2))))]) Try.results23 rfl ⟨RVs.tmp rfl, trivial⟩ (fun w2 h => St.done (fun a b p s => rfl) h)
    · intro J
      by_cases hc : ((decide (every_2 < 1)) || (decide (known_0 < 0))) = true
      · have hq4 := hc
        refine SP.isT (d := 13) rfl hq4 ?_
        refine SP.not rfl rfl rfl ?_
        refine SP.not rfl rfl rfl ?_
        refine SP.not rfl rfl rfl ?_
        refine SP.val (Val.pickT rfl rfl) rfl rfl rfl ?_
        exact J fun a w2 ha hw => ⟨ha.sub ⟨rfl, rfl, rfl, congrArg (fun z => some (Value.bool z)) (or_t hq4), trivial⟩, hw⟩
      · have hq4 := (bf hc)
        refine SP.isF (d := 13) rfl hq4 ?_
        refine SP.val (Val.move rfl) rfl rfl rfl ?_
        refine SP.val (Val.move rfl) rfl rfl rfl ?_
        refine SP.val (Val.leq rfl rfl) rfl rfl rfl ?_
        refine SP.val (Val.pickF rfl rfl) rfl rfl rfl ?_
        exact J fun a w2 ha hw => ⟨ha.sub ⟨rfl, rfl, rfl, congrArg (fun z => some (Value.bool z)) (or_f hq4 rfl), trivial⟩, hw⟩
  · intro J
    by_cases hc : every_2 < 1
    · have hq2 := (decide_eq_true hc)
      refine SP.isT (d := 9) rfl hq2 ?_
      refine SP.not rfl rfl rfl ?_
      refine SP.not rfl rfl rfl ?_
      refine SP.val (Val.pickT rfl rfl) rfl rfl rfl ?_
      exact J fun a w2 ha hw => ⟨ha.sub ⟨rfl, rfl, rfl, congrArg (fun z => some (Value.bool z)) (or_t hq2), trivial⟩, hw⟩
    · have hq2 := (decide_eq_false hc)
      refine SP.isF (d := 9) rfl hq2 ?_
      refine SP.val (Val.move rfl) rfl rfl rfl ?_
      refine SP.val (Val.lss rfl rfl) rfl rfl rfl ?_
      refine SP.val (Val.pickF rfl rfl) rfl rfl rfl ?_
      exact J fun a w2 ha hw => ⟨ha.sub ⟨rfl, rfl, rfl, congrArg (fun z => some (Value.bool z)) (or_f hq2 rfl), trivial⟩, hw⟩
/-! ### capstan/capstanlaw26.SnapDue: function 5 -/
def capstanlaw26_SnapDue.f (known_0 : Int) (pos_1 : Int) (every_2 : Int) : Option Bool :=
  (mem_New.f 1 1 (⟨(⟨[], [], [], 0⟩ : api_Module), [], []⟩ : mem_Image)).bind fun t1 => (snap_Catch_Step_s1.f ).bind fun t14 => (if t14 = true then (some true) else ((snap_Keep_Step_s1.f ).bind fun t19 => some t19)).bind fun t20 => (if t20 = true then (some true) else ((snap_Catch_Over_s1.f ).bind fun t25 => some (!t25))).bind fun t26 => (if t26 = true then (some true) else ((snap_Keep_Over_s1.f ).bind fun t31 => some (!t31))).bind fun t32 => (if t32 = true then (some true) else ((snap_Catch_Known_s1.f ).bind fun t37 => some (decide (t37 ≠ 0)))).bind fun t38 => (if t38 = true then (some true) else ((snap_Keep_Known_s1.f ).bind fun t43 => some (decide (t43 ≠ 0)))).bind fun t44 => if t44 = true then (some false) else ((snap_Catch_Step_s2.f 0 0).bind fun t47 => (if t47 = true then (some true) else ((snap_Keep_Step_s2.f 0 0 0).bind fun t60 => some t60)).bind fun t61 => (if t61 = true then (some true) else ((snap_Catch_Over_s2.f 0 0).bind fun t66 => some (!t66))).bind fun t67 => (if t67 = true then (some true) else ((snap_Keep_Over_s2.f 0 0 0).bind fun t72 => some (!t72))).bind fun t73 => (if t73 = true then (some true) else ((snap_Catch_Known_s2.f 0 0).bind fun t78 => some (decide (t78 ≠ 0)))).bind fun t79 => (if t79 = true then (some true) else ((snap_Keep_Known_s2.f 0 0 0).bind fun t84 => some (decide (t84 ≠ 0)))).bind fun t85 => if t85 = true then (some false) else ((snap_Due.f known_0 pos_1 every_2).bind fun t86 => (capstanref26_Due.f known_0 pos_1 every_2).bind fun t87 => some (t86 == t87)))
theorem capstanlaw26_SnapDue.ok (known_0 : Int) (pos_1 : Int) (every_2 : Int)  (r : Bool) (H : capstanlaw26_SnapDue.f known_0 pos_1 every_2 = some r) (w : World) (hV : Hp) (sV : Sub hV (hp w))  :
    Trip Try.prog 5 [.int .i64 known_0, .int .i64 pos_1, .int .i64 every_2].toArray em hV w (fun v => HO.pure (v = .bool r)) := by
  have see : Sees w em hV := ⟨sV, Dj.em_right _⟩
  refine Trip.of (P := Try.prog) (n := ⟨88, []⟩) Try.func5 rfl ⟨rfl, rfl⟩ rfl (St.begin (All.nil _)) ?_
  have ho := H
  refine CP.seq ?_
  refine CP.region ?_
  refine SP.val (Val.assign rfl) rfl rfl rfl ?_
  refine SP.nil ?_
  refine QE.then ?_
  refine CP.seq ?_
  refine CP.region ?_
  refine SP.val (Val.assign rfl) rfl rfl rfl ?_
  refine SP.nil ?_
  refine QE.then ?_
  refine CP.seq ?_
  refine CP.region ?_
  refine SP.val (Val.assign rfl) rfl rfl rfl ?_
  refine SP.nil ?_
  refine QE.then ?_
  refine CP.seq ?_
  refine CP.region ?_
  refine SP.val (Val.buildC (us := []) (ucs := []) (cs := [(.slice none 0 0), (.slice none 0 0), (.slice none 0 0), .int .i64 0, (.slice none 0 0), (.slice none 0 0)]) bt60 rfl rfl trivial (by rfl)) rfl rfl rfl ?_
  obtain ⟨t1, hc, ho⟩ := bind_some (x := mem_New.f 1 1 (⟨(⟨[], [], [], 0⟩ : api_Module), [], []⟩ : mem_Image)) ho
  refine SP.callK see (caps := []) _ fn15 rfl rfl rfl rfl (fun w2 hP hs sub ap => mem_New.ok 1 1 (⟨(⟨[], [], [], 0⟩ : api_Module), [], []⟩ : mem_Image) _ _ _ _ _ _ hc w2 hP sub (slP.nil _ _) (slP.nil _ _) (slP.nil _ _) (slP.nil _ _) (slP.nil _ _)) (fun vr => ?_)
  refine SP.ex (fun w2 h => St.open h) (fun v2 => ?_)
  refine SP.have (fun w2 h => (St.pand h).1.symm) (fun er => ?_)
  subst er
  refine SP.imp (fun w2 h => St.seps (St.pand h).2) ?_
  clear hc
  refine SP.val (Val.move rfl) rfl rfl rfl ?_
  refine SP.val (Val.extract rfl rfl) rfl rfl rfl ?_
  refine SP.val (Val.extract rfl rfl) rfl rfl rfl ?_
  refine SP.val (Val.assign rfl) rfl rfl rfl ?_
  refine SP.val (Val.assign rfl) rfl rfl rfl ?_
  refine SP.nil ?_
  refine QE.then ?_
  refine CP.seq ?_
  refine CP.region ?_
  refine SP.val (Val.move rfl) rfl rfl rfl ?_
  refine SP.val (Val.buildC (us := []) (ucs := []) (cs := [.int .i64 0, .pointer none, .int .i64 0, .nilFunc]) bt66 rfl rfl trivial (by rfl)) rfl rfl rfl ?_
  refine SP.box (cs := [.int .i64 0, .pointer none, .int .i64 0, .nilFunc]) rfl rfl rfl rfl (fun b4 => ?_)
  refine SP.lit (k := kRaw 1) (xs := [[.pointer none], [.pointer (some ⟨b4, 0, none⟩)]]) (vs := [.pointer none, .pointer (some ⟨b4, 0, none⟩)]) (cells := [.pointer none, .pointer (some ⟨b4, 0, none⟩)]) Try.underlying67 inf50 rfl rfl rfl rfl rfl rfl rfl rfl (fun _ ap => ⟨[.pointer none], _, rfl, ⟨rfl, rfl, rfl⟩, ⟨[.pointer (some ⟨b4, 0, none⟩)], _, rfl, ⟨rfl, rfl, rfl⟩, rfl⟩⟩) rfl rfl rfl (fun v6 => ?_)
  refine SP.freezeS see 0 rfl ?_
  refine SP.val (Val.assign rfl) rfl rfl rfl ?_
  refine SP.nil ?_
  refine QE.then ?_
  refine CP.seq ?_
  refine CP.region ?_
  refine SP.val (Val.move rfl) rfl rfl rfl ?_
  refine SP.val (Val.buildC (us := []) (ucs := []) (cs := [.int .i64 0, .pointer none, .int .i64 0, .nilFunc, .int .i64 0]) bt69 rfl rfl trivial (by rfl)) rfl rfl rfl ?_
  refine SP.box (cs := [.int .i64 0, .pointer none, .int .i64 0, .nilFunc, .int .i64 0]) rfl rfl rfl rfl (fun b8 => ?_)
  refine SP.lit (k := kRaw 1) (xs := [[.pointer none], [.pointer (some ⟨b8, 0, none⟩)]]) (vs := [.pointer none, .pointer (some ⟨b8, 0, none⟩)]) (cells := [.pointer none, .pointer (some ⟨b8, 0, none⟩)]) Try.underlying70 inf51 rfl rfl rfl rfl rfl rfl rfl rfl (fun _ ap => ⟨[.pointer none], _, rfl, ⟨rfl, rfl, rfl⟩, ⟨[.pointer (some ⟨b8, 0, none⟩)], _, rfl, ⟨rfl, rfl, rfl⟩, rfl⟩⟩) rfl rfl rfl (fun v10 => ?_)
  refine SP.freezeS see 0 rfl ?_
  refine SP.val (Val.assign rfl) rfl rfl rfl ?_
  refine SP.nil ?_
  refine QE.then ?_
  refine CP.seq ?_
  refine CP.seq ?_
  refine CP.region ?_
  refine SP.val (Val.assign rfl) rfl rfl rfl ?_
  refine SP.nil ?_
  refine QE.then ?_
  refine CP.block ?_
  refine CP.rounds 4 ?_
  refine LP.step ?_
  refine CP.seq ?_
  refine CP.seq ?_
  refine CP.region ?_
  refine SP.val (Val.move rfl) rfl rfl rfl ?_
  refine SP.val (Val.move rfl) rfl rfl rfl ?_
  refine SP.val (Val.cast (v := .int .i64 2) (Val.lenP see 1 rfl Try.underlying67 rfl) rfl) rfl rfl rfl ?_
  refine SP.val (Val.cast (v := .bool true) (Val.lss rfl rfl) rfl) rfl rfl rfl ?_
  refine SP.nil ?_
  refine QE.then ?_
  refine CP.condT rfl rfl ?_
  refine CP.skip ?_
  refine QE.then ?_
  refine CP.seq ?_
  refine CP.block ?_
  refine CP.seq ?_
  refine CP.region ?_
  refine SP.val (Val.move rfl) rfl rfl rfl ?_
  refine SP.val (Val.move rfl) rfl rfl rfl ?_
  refine SP.indexP (k := kRaw 1) (xs := [[.pointer none], [.pointer (some ⟨b4, 0, none⟩)]]) (j := 0) see 1 rfl Try.underlying67 sz50 (by decide) rfl rfl rfl rfl rfl (fun p12 => ?_)
  refine SP.val (Val.loadP1 see 0 rfl (fun _ _ e => e.1) Try.underlying50 rfl rfl) rfl rfl rfl ?_
  refine SP.val (Val.move rfl) rfl rfl rfl ?_
  obtain ⟨t14, hc, ho⟩ := bind_some (x := snap_Catch_Step_s1.f ) ho
  refine SP.callV see (caps := []) (.bool t14) fn16 rfl rfl rfl rfl (fun w2 hP hs sub ap => snap_Catch_Step_s1.ok  v2 _ hc w2 hP sub trivial) ?_
  clear hc
  refine SP.val (Val.move rfl) rfl rfl rfl ?_
  obtain ⟨t20, hg_t20, ho⟩ := bind_some ho
  refine SP.join 7 (fun a w2 => Env ⟨88, []⟩ [(0, .int .i64 known_0), (1, .int .i64 pos_1), (2, .int .i64 every_2), (9, v2), (11, v6), (12, v10), (13, .int .i64 0), (46, .bool t20)] a ∧ St w em hV [elP (kRaw 1) p12 [.pointer none], slP (kRaw 1) v10 [[.pointer none], [.pointer (some ⟨b8, 0, none⟩)]], slP (kRaw 1) v6 [[.pointer none], [.pointer (some ⟨b4, 0, none⟩)]]] [boxO b8 [.int .i64 0, .pointer none, .int .i64 0, .nilFunc, .int .i64 0] 69, boxO b4 [.int .i64 0, .pointer none, .int .i64 0, .nilFunc] 66, HO.em] w2) ?_ ?_
  · rintro a w2 ⟨ha, hw⟩
    refine SP.app ha hw ?_
    clear ha hw a w2 hg_t20
    refine SP.val (Val.move rfl) rfl rfl rfl ?_
    obtain ⟨t26, hg_t26, ho⟩ := bind_some ho
    refine SP.join 7 (fun a w2 => Env ⟨88, []⟩ [(0, .int .i64 known_0), (1, .int .i64 pos_1), (2, .int .i64 every_2), (9, v2), (11, v6), (12, v10), (13, .int .i64 0), (54, .bool t26)] a ∧ St w em hV [elP (kRaw 1) p12 [.pointer none], slP (kRaw 1) v10 [[.pointer none], [.pointer (some ⟨b8, 0, none⟩)]], slP (kRaw 1) v6 [[.pointer none], [.pointer (some ⟨b4, 0, none⟩)]]] [boxO b8 [.int .i64 0, .pointer none, .int .i64 0, .nilFunc, .int .i64 0] 69, boxO b4 [.int .i64 0, .pointer none, .int .i64 0, .nilFunc] 66, HO.em] w2) ?_ ?_
    · rintro a w2 ⟨ha, hw⟩
      refine SP.app ha hw ?_
      clear ha hw a w2 hg_t26
      refine SP.val (Val.move rfl) rfl rfl rfl ?_
      obtain ⟨t32, hg_t32, ho⟩ := bind_some ho
      refine SP.join 7 (fun a w2 => Env ⟨88, []⟩ [(0, .int .i64 known_0), (1, .int .i64 pos_1), (2, .int .i64 every_2), (9, v2), (11, v6), (12, v10), (13, .int .i64 0), (62, .bool t32)] a ∧ St w em hV [elP (kRaw 1) p12 [.pointer none], slP (kRaw 1) v10 [[.pointer none], [.pointer (some ⟨b8, 0, none⟩)]], slP (kRaw 1) v6 [[.pointer none], [.pointer (some ⟨b4, 0, none⟩)]]] [boxO b8 [.int .i64 0, .pointer none, .int .i64 0, .nilFunc, .int .i64 0] 69, boxO b4 [.int .i64 0, .pointer none, .int .i64 0, .nilFunc] 66, HO.em] w2) ?_ ?_
      · rintro a w2 ⟨ha, hw⟩
        refine SP.app ha hw ?_
        clear ha hw a w2 hg_t32
        refine SP.val (Val.move rfl) rfl rfl rfl ?_
        obtain ⟨t38, hg_t38, ho⟩ := bind_some ho
        refine SP.join 7 (fun a w2 => Env ⟨88, []⟩ [(0, .int .i64 known_0), (1, .int .i64 pos_1), (2, .int .i64 every_2), (9, v2), (11, v6), (12, v10), (13, .int .i64 0), (70, .bool t38)] a ∧ St w em hV [elP (kRaw 1) p12 [.pointer none], slP (kRaw 1) v10 [[.pointer none], [.pointer (some ⟨b8, 0, none⟩)]], slP (kRaw 1) v6 [[.pointer none], [.pointer (some ⟨b4, 0, none⟩)]]] [boxO b8 [.int .i64 0, .pointer none, .int .i64 0, .nilFunc, .int .i64 0] 69, boxO b4 [.int .i64 0, .pointer none, .int .i64 0, .nilFunc] 66, HO.em] w2) ?_ ?_
        · rintro a w2 ⟨ha, hw⟩
          refine SP.app ha hw ?_
          clear ha hw a w2 hg_t38
          refine SP.val (Val.move rfl) rfl rfl rfl ?_
          obtain ⟨t44, hg_t44, ho⟩ := bind_some ho
          refine SP.join 7 (fun a w2 => Env ⟨88, []⟩ [(0, .int .i64 known_0), (1, .int .i64 pos_1), (2, .int .i64 every_2), (9, v2), (11, v6), (12, v10), (13, .int .i64 0), (78, .bool t44)] a ∧ St w em hV [elP (kRaw 1) p12 [.pointer none], slP (kRaw 1) v10 [[.pointer none], [.pointer (some ⟨b8, 0, none⟩)]], slP (kRaw 1) v6 [[.pointer none], [.pointer (some ⟨b4, 0, none⟩)]]] [boxO b8 [.int .i64 0, .pointer none, .int .i64 0, .nilFunc, .int .i64 0] 69, boxO b4 [.int .i64 0, .pointer none, .int .i64 0, .nilFunc] 66, HO.em] w2) ?_ ?_
          · rintro a w2 ⟨ha, hw⟩
            refine SP.app ha hw ?_
            clear ha hw a w2 hg_t44
            refine SP.nil ?_
            refine QE.then ?_
            rcases if_some ho with ⟨hc, ho⟩ | ⟨hc, ho⟩
            · refine CP.condT rfl hc ?_
              refine CP.seq ?_
              refine CP.region ?_
              refine SP.val (Val.assign rfl) rfl rfl rfl ?_
              refine SP.nil ?_
              refine QE.then ?_
              refine CP.ret ?_
              refine QE.blockR ?_
              refine QE.thru (by intro e; cases e) ?_
              refine QE.thru (by intro e; cases e) ?_
              refine QE.blockR ?_
              refine QE.thru (by intro e; cases e) ?_
              obtain rfl := Option.some.inj ho
              exact QE.rets (rs := [.tmp 6]) (vs := [.bool false]) Try.results5 rfl ⟨RVs.tmp rfl, trivial⟩ (fun w2 h => St.done (fun a b p s => rfl) h)
            · refine CP.condF rfl (bf hc) ?_
              refine CP.skip ?_
              refine QE.blockN ?_
              refine QE.then ?_
              refine CP.region ?_
              refine SP.val (Val.move rfl) rfl rfl rfl ?_
              refine SP.val (Val.cast (v := .int .i64 1) (Val.add rfl rfl) rfl) rfl rfl rfl ?_
              refine SP.val (Val.assign rfl) rfl rfl rfl ?_
              refine SP.nil ?_
              refine QE.round ?_
              refine LP.step ?_
              refine CP.seq ?_
              refine CP.seq ?_
              refine CP.region ?_
              refine SP.val (Val.move rfl) rfl rfl rfl ?_
              refine SP.val (Val.move rfl) rfl rfl rfl ?_
              refine SP.val (Val.cast (v := .int .i64 2) (Val.lenP see 2 rfl Try.underlying67 rfl) rfl) rfl rfl rfl ?_
              refine SP.val (Val.cast (v := .bool true) (Val.lss rfl rfl) rfl) rfl rfl rfl ?_
              refine SP.nil ?_
              refine QE.then ?_
              refine CP.condT rfl rfl ?_
              refine CP.skip ?_
              refine QE.then ?_
              refine CP.seq ?_
              refine CP.block ?_
              refine CP.seq ?_
              refine CP.region ?_
              refine SP.val (Val.move rfl) rfl rfl rfl ?_
              refine SP.val (Val.move rfl) rfl rfl rfl ?_
              refine SP.indexP (k := kRaw 1) (xs := [[.pointer none], [.pointer (some ⟨b4, 0, none⟩)]]) (j := 1) see 2 rfl Try.underlying67 sz50 (by decide) rfl rfl rfl rfl rfl (fun p45 => ?_)
              refine SP.val (Val.loadP1 see 0 rfl (fun _ _ e => e.1) Try.underlying50 rfl rfl) rfl rfl rfl ?_
              refine SP.val (Val.move rfl) rfl rfl rfl ?_
              refine SP.freezeB see 1 rfl ?_
              obtain ⟨t47, hc, ho⟩ := bind_some (x := snap_Catch_Step_s2.f 0 0) ho
              refine SP.callV see (caps := []) (.bool t47) fn16 rfl rfl rfl rfl (fun w2 hP hs sub ap => snap_Catch_Step_s2.ok 0 0 _ v2 _ hc w2 hP sub (ap.get 0 rfl) trivial) ?_
              clear hc
              refine SP.val (Val.move rfl) rfl rfl rfl ?_
              refine SP.freezeB see 0 rfl ?_
              obtain ⟨t61, hg_t61, ho⟩ := bind_some ho
              refine SP.join 7 (fun a w2 => Env ⟨88, []⟩ [(0, .int .i64 known_0), (1, .int .i64 pos_1), (2, .int .i64 every_2), (9, v2), (11, v6), (12, v10), (13, .int .i64 1), (46, .bool t61)] a ∧ St w em hV [boxP b8 [.int .i64 0, .pointer none, .int .i64 0, .nilFunc, .int .i64 0] 69, boxP b4 [.int .i64 0, .pointer none, .int .i64 0, .nilFunc] 66, elP (kRaw 1) p45 [.pointer (some ⟨b4, 0, none⟩)], elP (kRaw 1) p12 [.pointer none], slP (kRaw 1) v10 [[.pointer none], [.pointer (some ⟨b8, 0, none⟩)]], slP (kRaw 1) v6 [[.pointer none], [.pointer (some ⟨b4, 0, none⟩)]]] [HO.em] w2) ?_ ?_
              · rintro a w2 ⟨ha, hw⟩
                refine SP.app ha hw ?_
                clear ha hw a w2 hg_t61
                refine SP.val (Val.move rfl) rfl rfl rfl ?_
                obtain ⟨t67, hg_t67, ho⟩ := bind_some ho
                refine SP.join 7 (fun a w2 => Env ⟨88, []⟩ [(0, .int .i64 known_0), (1, .int .i64 pos_1), (2, .int .i64 every_2), (9, v2), (11, v6), (12, v10), (13, .int .i64 1), (54, .bool t67)] a ∧ St w em hV [boxP b8 [.int .i64 0, .pointer none, .int .i64 0, .nilFunc, .int .i64 0] 69, boxP b4 [.int .i64 0, .pointer none, .int .i64 0, .nilFunc] 66, elP (kRaw 1) p45 [.pointer (some ⟨b4, 0, none⟩)], elP (kRaw 1) p12 [.pointer none], slP (kRaw 1) v10 [[.pointer none], [.pointer (some ⟨b8, 0, none⟩)]], slP (kRaw 1) v6 [[.pointer none], [.pointer (some ⟨b4, 0, none⟩)]]] [HO.em] w2) ?_ ?_
                · rintro a w2 ⟨ha, hw⟩
                  refine SP.app ha hw ?_
                  clear ha hw a w2 hg_t67
                  refine SP.val (Val.move rfl) rfl rfl rfl ?_
                  obtain ⟨t73, hg_t73, ho⟩ := bind_some ho
                  refine SP.join 7 (fun a w2 => Env ⟨88, []⟩ [(0, .int .i64 known_0), (1, .int .i64 pos_1), (2, .int .i64 every_2), (9, v2), (11, v6), (12, v10), (13, .int .i64 1), (62, .bool t73)] a ∧ St w em hV [boxP b8 [.int .i64 0, .pointer none, .int .i64 0, .nilFunc, .int .i64 0] 69, boxP b4 [.int .i64 0, .pointer none, .int .i64 0, .nilFunc] 66, elP (kRaw 1) p45 [.pointer (some ⟨b4, 0, none⟩)], elP (kRaw 1) p12 [.pointer none], slP (kRaw 1) v10 [[.pointer none], [.pointer (some ⟨b8, 0, none⟩)]], slP (kRaw 1) v6 [[.pointer none], [.pointer (some ⟨b4, 0, none⟩)]]] [HO.em] w2) ?_ ?_
                  · rintro a w2 ⟨ha, hw⟩
                    refine SP.app ha hw ?_
                    clear ha hw a w2 hg_t73
                    refine SP.val (Val.move rfl) rfl rfl rfl ?_
                    obtain ⟨t79, hg_t79, ho⟩ := bind_some ho
                    refine SP.join 7 (fun a w2 => Env ⟨88, []⟩ [(0, .int .i64 known_0), (1, .int .i64 pos_1), (2, .int .i64 every_2), (9, v2), (11, v6), (12, v10), (13, .int .i64 1), (70, .bool t79)] a ∧ St w em hV [boxP b8 [.int .i64 0, .pointer none, .int .i64 0, .nilFunc, .int .i64 0] 69, boxP b4 [.int .i64 0, .pointer none, .int .i64 0, .nilFunc] 66, elP (kRaw 1) p45 [.pointer (some ⟨b4, 0, none⟩)], elP (kRaw 1) p12 [.pointer none], slP (kRaw 1) v10 [[.pointer none], [.pointer (some ⟨b8, 0, none⟩)]], slP (kRaw 1) v6 [[.pointer none], [.pointer (some ⟨b4, 0, none⟩)]]] [HO.em] w2) ?_ ?_
                    · rintro a w2 ⟨ha, hw⟩
                      refine SP.app ha hw ?_
                      clear ha hw a w2 hg_t79
                      refine SP.val (Val.move rfl) rfl rfl rfl ?_
                      obtain ⟨t85, hg_t85, ho⟩ := bind_some ho
                      refine SP.join 7 (fun a w2 => Env ⟨88, []⟩ [(0, .int .i64 known_0), (1, .int .i64 pos_1), (2, .int .i64 every_2), (9, v2), (11, v6), (12, v10), (13, .int .i64 1), (78, .bool t85)] a ∧ St w em hV [boxP b8 [.int .i64 0, .pointer none, .int .i64 0, .nilFunc, .int .i64 0] 69, boxP b4 [.int .i64 0, .pointer none, .int .i64 0, .nilFunc] 66, elP (kRaw 1) p45 [.pointer (some ⟨b4, 0, none⟩)], elP (kRaw 1) p12 [.pointer none], slP (kRaw 1) v10 [[.pointer none], [.pointer (some ⟨b8, 0, none⟩)]], slP (kRaw 1) v6 [[.pointer none], [.pointer (some ⟨b4, 0, none⟩)]]] [HO.em] w2) ?_ ?_
                      · rintro a w2 ⟨ha, hw⟩
                        refine SP.app ha hw ?_
                        clear ha hw a w2 hg_t85
                        refine SP.nil ?_
                        refine QE.then ?_
                        rcases if_some ho with ⟨hc, ho⟩ | ⟨hc, ho⟩
                        · refine CP.condT rfl hc ?_
                          refine CP.seq ?_
                          refine CP.region ?_
                          refine SP.val (Val.assign rfl) rfl rfl rfl ?_
                          refine SP.nil ?_
                          refine QE.then ?_
                          refine CP.ret ?_
                          refine QE.blockR ?_
                          refine QE.thru (by intro e; cases e) ?_
                          refine QE.thru (by intro e; cases e) ?_
                          refine QE.blockR ?_
                          refine QE.thru (by intro e; cases e) ?_
                          obtain rfl := Option.some.inj ho
                          exact QE.rets (rs := [.tmp 6]) (vs := [.bool false]) Try.results5 rfl ⟨RVs.tmp rfl, trivial⟩ (fun w2 h => St.done (fun a b p s => rfl) h)
                        · refine CP.condF rfl (bf hc) ?_
                          refine CP.skip ?_
                          refine QE.blockN ?_
                          refine QE.then ?_
                          refine CP.region ?_
                          refine SP.val (Val.move rfl) rfl rfl rfl ?_
                          refine SP.val (Val.cast (v := .int .i64 2) (Val.add rfl rfl) rfl) rfl rfl rfl ?_
                          refine SP.val (Val.assign rfl) rfl rfl rfl ?_
                          refine SP.nil ?_
                          refine QE.round ?_
                          refine LP.step ?_
                          refine CP.seq ?_
                          refine CP.seq ?_
                          refine CP.region ?_
                          refine SP.val (Val.move rfl) rfl rfl rfl ?_
                          refine SP.val (Val.move rfl) rfl rfl rfl ?_
                          refine SP.val (Val.cast (v := .int .i64 2) (Val.lenP see 5 rfl Try.underlying67 rfl) rfl) rfl rfl rfl ?_
                          refine SP.val (Val.cast (v := .bool false) (Val.lss rfl rfl) rfl) rfl rfl rfl ?_
                          refine SP.nil ?_
                          refine QE.then ?_
                          refine CP.condF rfl rfl ?_
                          refine CP.exit ?_
                          refine QE.thru (by intro e; cases e) ?_
                          refine QE.thru (by intro e; cases e) ?_
                          refine QE.blockE ?_
                          refine QE.then ?_
                          refine CP.seq ?_
                          refine CP.region ?_
                          refine SP.val (Val.move rfl) rfl rfl rfl ?_
                          refine SP.val (Val.move rfl) rfl rfl rfl ?_
                          refine SP.val (Val.move rfl) rfl rfl rfl ?_
                          obtain ⟨t86, hc, ho⟩ := bind_some (x := snap_Due.f known_0 pos_1 every_2) ho
                          refine SP.callV see (caps := []) (.bool t86) fn22 rfl rfl rfl rfl (fun w2 hP hs sub ap => snap_Due.ok known_0 pos_1 every_2  _ hc w2 hP sub ) ?_
                          clear hc
                          refine SP.val (Val.move rfl) rfl rfl rfl ?_
                          refine SP.val (Val.move rfl) rfl rfl rfl ?_
                          refine SP.val (Val.move rfl) rfl rfl rfl ?_
                          obtain ⟨t87, hc, ho⟩ := bind_some (x := capstanref26_Due.f known_0 pos_1 every_2) ho
                          refine SP.callV see (caps := []) (.bool t87) fn23 rfl rfl rfl rfl (fun w2 hP hs sub ap => capstanref26_Due.ok known_0 pos_1 every_2  _ hc w2 hP sub ) ?_
                          clear hc
                          refine SP.val (Val.eqlB Try.underlying4 rfl rfl) rfl rfl rfl ?_
                          refine SP.val (Val.assign rfl) rfl rfl rfl ?_
                          refine SP.nil ?_
                          refine QE.then ?_
                          refine CP.ret ?_
                          obtain rfl := Option.some.inj ho
                          exact QE.rets (rs := [.tmp 6]) (vs := [.bool (t86 == t87)]) Try.results5 rfl ⟨RVs.tmp rfl, trivial⟩ (fun w2 h => St.done (fun a b p s => rfl) h)
                      · intro J
                        clear ho
                        have ho := hg_t85
                        clear hg_t85
                        rcases if_some ho with ⟨hc, ho⟩ | ⟨hc, ho⟩
                        · have hq81 := hc
                          refine SP.isT (d := 71) rfl hq81 ?_
                          refine SP.not rfl rfl rfl ?_
                          refine SP.not rfl rfl rfl ?_
                          refine SP.not rfl rfl rfl ?_
                          refine SP.not rfl rfl rfl ?_
                          refine SP.not rfl rfl rfl ?_
                          refine SP.not rfl rfl rfl ?_
                          refine SP.val (Val.pickT rfl rfl) rfl rfl rfl ?_
                          obtain rfl := Option.some.inj ho
                          exact J fun a w2 ha hw => ⟨ha.sub ⟨rfl, rfl, rfl, rfl, rfl, rfl, rfl, rfl, trivial⟩, hw⟩
                        · have hq81 := (bf hc)
                          refine SP.isF (d := 71) rfl hq81 ?_
                          refine SP.val (Val.move rfl) rfl rfl rfl ?_
                          refine SP.val (Val.move rfl) rfl rfl rfl ?_
                          refine SP.indexP (k := kRaw 1) (xs := [[.pointer none], [.pointer (some ⟨b8, 0, none⟩)]]) (j := 1) see 4 rfl Try.underlying70 sz51 (by decide) rfl rfl rfl rfl rfl (fun p82 => ?_)
                          refine SP.val (Val.loadP1 see 0 rfl (fun _ _ e => e.1) Try.underlying51 rfl rfl) rfl rfl rfl ?_
                          obtain ⟨t84, hc, ho⟩ := bind_some (x := snap_Keep_Known_s2.f 0 0 0) ho
                          refine SP.callV see (caps := []) (.int .i64 t84) fn21 rfl rfl rfl rfl (fun w2 hP hs sub ap => snap_Keep_Known_s2.ok 0 0 0 _ _ hc w2 hP sub (ap.get 1 rfl)) ?_
                          clear hc
                          refine SP.val (Val.neq rfl rfl) rfl rfl rfl ?_
                          refine SP.val (Val.pickF rfl rfl) rfl rfl rfl ?_
                          obtain rfl := Option.some.inj ho
                          exact J fun a w2 ha hw => ⟨ha.sub ⟨rfl, rfl, rfl, rfl, rfl, rfl, rfl, rfl, trivial⟩, (St.selP [1, 2, 3, 4, 5, 6] rfl hw)⟩
                    · intro J
                      clear ho
                      have ho := hg_t79
                      clear hg_t79
                      rcases if_some ho with ⟨hc, ho⟩ | ⟨hc, ho⟩
                      · have hq75 := hc
                        refine SP.isT (d := 63) rfl hq75 ?_
                        refine SP.not rfl rfl rfl ?_
                        refine SP.not rfl rfl rfl ?_
                        refine SP.not rfl rfl rfl ?_
                        refine SP.not rfl rfl rfl ?_
                        refine SP.not rfl rfl rfl ?_
                        refine SP.not rfl rfl rfl ?_
                        refine SP.val (Val.pickT rfl rfl) rfl rfl rfl ?_
                        obtain rfl := Option.some.inj ho
                        exact J fun a w2 ha hw => ⟨ha.sub ⟨rfl, rfl, rfl, rfl, rfl, rfl, rfl, rfl, trivial⟩, hw⟩
                      · have hq75 := (bf hc)
                        refine SP.isF (d := 63) rfl hq75 ?_
                        refine SP.val (Val.move rfl) rfl rfl rfl ?_
                        refine SP.val (Val.move rfl) rfl rfl rfl ?_
                        refine SP.indexP (k := kRaw 1) (xs := [[.pointer none], [.pointer (some ⟨b4, 0, none⟩)]]) (j := 1) see 5 rfl Try.underlying67 sz50 (by decide) rfl rfl rfl rfl rfl (fun p76 => ?_)
                        refine SP.val (Val.loadP1 see 0 rfl (fun _ _ e => e.1) Try.underlying50 rfl rfl) rfl rfl rfl ?_
                        obtain ⟨t78, hc, ho⟩ := bind_some (x := snap_Catch_Known_s2.f 0 0) ho
                        refine SP.callV see (caps := []) (.int .i64 t78) fn20 rfl rfl rfl rfl (fun w2 hP hs sub ap => snap_Catch_Known_s2.ok 0 0 _ _ hc w2 hP sub (ap.get 2 rfl)) ?_
                        clear hc
                        refine SP.val (Val.neq rfl rfl) rfl rfl rfl ?_
                        refine SP.val (Val.pickF rfl rfl) rfl rfl rfl ?_
                        obtain rfl := Option.some.inj ho
                        exact J fun a w2 ha hw => ⟨ha.sub ⟨rfl, rfl, rfl, rfl, rfl, rfl, rfl, rfl, trivial⟩, (St.selP [1, 2, 3, 4, 5, 6] rfl hw)⟩
                  · intro J
                    clear ho
                    have ho := hg_t73
                    clear hg_t73
                    rcases if_some ho with ⟨hc, ho⟩ | ⟨hc, ho⟩
                    · have hq69 := hc
                      refine SP.isT (d := 55) rfl hq69 ?_
                      refine SP.not rfl rfl rfl ?_
                      refine SP.not rfl rfl rfl ?_
                      refine SP.not rfl rfl rfl ?_
                      refine SP.not rfl rfl rfl ?_
                      refine SP.not rfl rfl rfl ?_
                      refine SP.not rfl rfl rfl ?_
                      refine SP.val (Val.pickT rfl rfl) rfl rfl rfl ?_
                      obtain rfl := Option.some.inj ho
                      exact J fun a w2 ha hw => ⟨ha.sub ⟨rfl, rfl, rfl, rfl, rfl, rfl, rfl, rfl, trivial⟩, hw⟩
                    · have hq69 := (bf hc)
                      refine SP.isF (d := 55) rfl hq69 ?_
                      refine SP.val (Val.move rfl) rfl rfl rfl ?_
                      refine SP.val (Val.move rfl) rfl rfl rfl ?_
                      refine SP.indexP (k := kRaw 1) (xs := [[.pointer none], [.pointer (some ⟨b8, 0, none⟩)]]) (j := 1) see 4 rfl Try.underlying70 sz51 (by decide) rfl rfl rfl rfl rfl (fun p70 => ?_)
                      refine SP.val (Val.loadP1 see 0 rfl (fun _ _ e => e.1) Try.underlying51 rfl rfl) rfl rfl rfl ?_
                      obtain ⟨t72, hc, ho⟩ := bind_some (x := snap_Keep_Over_s2.f 0 0 0) ho
                      refine SP.callV see (caps := []) (.bool t72) fn19 rfl rfl rfl rfl (fun w2 hP hs sub ap => snap_Keep_Over_s2.ok 0 0 0 _ _ hc w2 hP sub (ap.get 1 rfl)) ?_
                      clear hc
                      refine SP.val (Val.notB rfl) rfl rfl rfl ?_
                      refine SP.val (Val.pickF rfl rfl) rfl rfl rfl ?_
                      obtain rfl := Option.some.inj ho
                      exact J fun a w2 ha hw => ⟨ha.sub ⟨rfl, rfl, rfl, rfl, rfl, rfl, rfl, rfl, trivial⟩, (St.selP [1, 2, 3, 4, 5, 6] rfl hw)⟩
                · intro J
                  clear ho
                  have ho := hg_t67
                  clear hg_t67
                  rcases if_some ho with ⟨hc, ho⟩ | ⟨hc, ho⟩
                  · have hq63 := hc
                    refine SP.isT (d := 47) rfl hq63 ?_
                    refine SP.not rfl rfl rfl ?_
                    refine SP.not rfl rfl rfl ?_
                    refine SP.not rfl rfl rfl ?_
                    refine SP.not rfl rfl rfl ?_
                    refine SP.not rfl rfl rfl ?_
                    refine SP.not rfl rfl rfl ?_
                    refine SP.val (Val.pickT rfl rfl) rfl rfl rfl ?_
                    obtain rfl := Option.some.inj ho
                    exact J fun a w2 ha hw => ⟨ha.sub ⟨rfl, rfl, rfl, rfl, rfl, rfl, rfl, rfl, trivial⟩, hw⟩
                  · have hq63 := (bf hc)
                    refine SP.isF (d := 47) rfl hq63 ?_
                    refine SP.val (Val.move rfl) rfl rfl rfl ?_
                    refine SP.val (Val.move rfl) rfl rfl rfl ?_
                    refine SP.indexP (k := kRaw 1) (xs := [[.pointer none], [.pointer (some ⟨b4, 0, none⟩)]]) (j := 1) see 5 rfl Try.underlying67 sz50 (by decide) rfl rfl rfl rfl rfl (fun p64 => ?_)
                    refine SP.val (Val.loadP1 see 0 rfl (fun _ _ e => e.1) Try.underlying50 rfl rfl) rfl rfl rfl ?_
                    obtain ⟨t66, hc, ho⟩ := bind_some (x := snap_Catch_Over_s2.f 0 0) ho
                    refine SP.callV see (caps := []) (.bool t66) fn18 rfl rfl rfl rfl (fun w2 hP hs sub ap => snap_Catch_Over_s2.ok 0 0 _ _ hc w2 hP sub (ap.get 2 rfl)) ?_
                    clear hc
                    refine SP.val (Val.notB rfl) rfl rfl rfl ?_
                    refine SP.val (Val.pickF rfl rfl) rfl rfl rfl ?_
                    obtain rfl := Option.some.inj ho
                    exact J fun a w2 ha hw => ⟨ha.sub ⟨rfl, rfl, rfl, rfl, rfl, rfl, rfl, rfl, trivial⟩, (St.selP [1, 2, 3, 4, 5, 6] rfl hw)⟩
              · intro J
                clear ho
                have ho := hg_t61
                clear hg_t61
                rcases if_some ho with ⟨hc, ho⟩ | ⟨hc, ho⟩
                · have hq57 := hc
                  refine SP.isT (d := 39) rfl hq57 ?_
                  refine SP.not rfl rfl rfl ?_
                  refine SP.not rfl rfl rfl ?_
                  refine SP.not rfl rfl rfl ?_
                  refine SP.not rfl rfl rfl ?_
                  refine SP.not rfl rfl rfl ?_
                  refine SP.not rfl rfl rfl ?_
                  refine SP.val (Val.pickT rfl rfl) rfl rfl rfl ?_
                  obtain rfl := Option.some.inj ho
                  exact J fun a w2 ha hw => ⟨ha.sub ⟨rfl, rfl, rfl, rfl, rfl, rfl, rfl, rfl, trivial⟩, hw⟩
                · have hq57 := (bf hc)
                  refine SP.isF (d := 39) rfl hq57 ?_
                  refine SP.val (Val.move rfl) rfl rfl rfl ?_
                  refine SP.val (Val.move rfl) rfl rfl rfl ?_
                  refine SP.indexP (k := kRaw 1) (xs := [[.pointer none], [.pointer (some ⟨b8, 0, none⟩)]]) (j := 1) see 4 rfl Try.underlying70 sz51 (by decide) rfl rfl rfl rfl rfl (fun p58 => ?_)
                  refine SP.val (Val.loadP1 see 0 rfl (fun _ _ e => e.1) Try.underlying51 rfl rfl) rfl rfl rfl ?_
                  refine SP.val (Val.move rfl) rfl rfl rfl ?_
                  obtain ⟨t60, hc, ho⟩ := bind_some (x := snap_Keep_Step_s2.f 0 0 0) ho
                  refine SP.callV see (caps := []) (.bool t60) fn17 rfl rfl rfl rfl (fun w2 hP hs sub ap => snap_Keep_Step_s2.ok 0 0 0 _ v2 _ hc w2 hP sub (ap.get 1 rfl) trivial) ?_
                  clear hc
                  refine SP.val (Val.pickF rfl rfl) rfl rfl rfl ?_
                  obtain rfl := Option.some.inj ho
                  exact J fun a w2 ha hw => ⟨ha.sub ⟨rfl, rfl, rfl, rfl, rfl, rfl, rfl, rfl, trivial⟩, (St.selP [1, 2, 3, 4, 5, 6] rfl hw)⟩
          · intro J
            clear ho
            have ho := hg_t44
            clear hg_t44
            rcases if_some ho with ⟨hc, ho⟩ | ⟨hc, ho⟩
            · have hq40 := hc
              refine SP.isT (d := 71) rfl hq40 ?_
              refine SP.not rfl rfl rfl ?_
              refine SP.not rfl rfl rfl ?_
              refine SP.not rfl rfl rfl ?_
              refine SP.not rfl rfl rfl ?_
              refine SP.not rfl rfl rfl ?_
              refine SP.not rfl rfl rfl ?_
              refine SP.val (Val.pickT rfl rfl) rfl rfl rfl ?_
              obtain rfl := Option.some.inj ho
              exact J fun a w2 ha hw => ⟨ha.sub ⟨rfl, rfl, rfl, rfl, rfl, rfl, rfl, rfl, trivial⟩, hw⟩
            · have hq40 := (bf hc)
              refine SP.isF (d := 71) rfl hq40 ?_
              refine SP.val (Val.move rfl) rfl rfl rfl ?_
              refine SP.val (Val.move rfl) rfl rfl rfl ?_
              refine SP.indexP (k := kRaw 1) (xs := [[.pointer none], [.pointer (some ⟨b8, 0, none⟩)]]) (j := 0) see 1 rfl Try.underlying70 sz51 (by decide) rfl rfl rfl rfl rfl (fun p41 => ?_)
              refine SP.val (Val.loadP1 see 0 rfl (fun _ _ e => e.1) Try.underlying51 rfl rfl) rfl rfl rfl ?_
              obtain ⟨t43, hc, ho⟩ := bind_some (x := snap_Keep_Known_s1.f ) ho
              refine SP.callV see (caps := []) (.int .i64 t43) fn21 rfl rfl rfl rfl (fun w2 hP hs sub ap => snap_Keep_Known_s1.ok   _ hc w2 hP sub ) ?_
              clear hc
              refine SP.val (Val.neq rfl rfl) rfl rfl rfl ?_
              refine SP.val (Val.pickF rfl rfl) rfl rfl rfl ?_
              obtain rfl := Option.some.inj ho
              exact J fun a w2 ha hw => ⟨ha.sub ⟨rfl, rfl, rfl, rfl, rfl, rfl, rfl, rfl, trivial⟩, (St.selP [1, 2, 3] rfl hw)⟩
        · intro J
          clear ho
          have ho := hg_t38
          clear hg_t38
          rcases if_some ho with ⟨hc, ho⟩ | ⟨hc, ho⟩
          · have hq34 := hc
            refine SP.isT (d := 63) rfl hq34 ?_
            refine SP.not rfl rfl rfl ?_
            refine SP.not rfl rfl rfl ?_
            refine SP.not rfl rfl rfl ?_
            refine SP.not rfl rfl rfl ?_
            refine SP.not rfl rfl rfl ?_
            refine SP.not rfl rfl rfl ?_
            refine SP.val (Val.pickT rfl rfl) rfl rfl rfl ?_
            obtain rfl := Option.some.inj ho
            exact J fun a w2 ha hw => ⟨ha.sub ⟨rfl, rfl, rfl, rfl, rfl, rfl, rfl, rfl, trivial⟩, hw⟩
          · have hq34 := (bf hc)
            refine SP.isF (d := 63) rfl hq34 ?_
            refine SP.val (Val.move rfl) rfl rfl rfl ?_
            refine SP.val (Val.move rfl) rfl rfl rfl ?_
            refine SP.indexP (k := kRaw 1) (xs := [[.pointer none], [.pointer (some ⟨b4, 0, none⟩)]]) (j := 0) see 2 rfl Try.underlying67 sz50 (by decide) rfl rfl rfl rfl rfl (fun p35 => ?_)
            refine SP.val (Val.loadP1 see 0 rfl (fun _ _ e => e.1) Try.underlying50 rfl rfl) rfl rfl rfl ?_
            obtain ⟨t37, hc, ho⟩ := bind_some (x := snap_Catch_Known_s1.f ) ho
            refine SP.callV see (caps := []) (.int .i64 t37) fn20 rfl rfl rfl rfl (fun w2 hP hs sub ap => snap_Catch_Known_s1.ok   _ hc w2 hP sub ) ?_
            clear hc
            refine SP.val (Val.neq rfl rfl) rfl rfl rfl ?_
            refine SP.val (Val.pickF rfl rfl) rfl rfl rfl ?_
            obtain rfl := Option.some.inj ho
            exact J fun a w2 ha hw => ⟨ha.sub ⟨rfl, rfl, rfl, rfl, rfl, rfl, rfl, rfl, trivial⟩, (St.selP [1, 2, 3] rfl hw)⟩
      · intro J
        clear ho
        have ho := hg_t32
        clear hg_t32
        rcases if_some ho with ⟨hc, ho⟩ | ⟨hc, ho⟩
        · have hq28 := hc
          refine SP.isT (d := 55) rfl hq28 ?_
          refine SP.not rfl rfl rfl ?_
          refine SP.not rfl rfl rfl ?_
          refine SP.not rfl rfl rfl ?_
          refine SP.not rfl rfl rfl ?_
          refine SP.not rfl rfl rfl ?_
          refine SP.not rfl rfl rfl ?_
          refine SP.val (Val.pickT rfl rfl) rfl rfl rfl ?_
          obtain rfl := Option.some.inj ho
          exact J fun a w2 ha hw => ⟨ha.sub ⟨rfl, rfl, rfl, rfl, rfl, rfl, rfl, rfl, trivial⟩, hw⟩
        · have hq28 := (bf hc)
          refine SP.isF (d := 55) rfl hq28 ?_
          refine SP.val (Val.move rfl) rfl rfl rfl ?_
          refine SP.val (Val.move rfl) rfl rfl rfl ?_
          refine SP.indexP (k := kRaw 1) (xs := [[.pointer none], [.pointer (some ⟨b8, 0, none⟩)]]) (j := 0) see 1 rfl Try.underlying70 sz51 (by decide) rfl rfl rfl rfl rfl (fun p29 => ?_)
          refine SP.val (Val.loadP1 see 0 rfl (fun _ _ e => e.1) Try.underlying51 rfl rfl) rfl rfl rfl ?_
          obtain ⟨t31, hc, ho⟩ := bind_some (x := snap_Keep_Over_s1.f ) ho
          refine SP.callV see (caps := []) (.bool t31) fn19 rfl rfl rfl rfl (fun w2 hP hs sub ap => snap_Keep_Over_s1.ok   _ hc w2 hP sub ) ?_
          clear hc
          refine SP.val (Val.notB rfl) rfl rfl rfl ?_
          refine SP.val (Val.pickF rfl rfl) rfl rfl rfl ?_
          obtain rfl := Option.some.inj ho
          exact J fun a w2 ha hw => ⟨ha.sub ⟨rfl, rfl, rfl, rfl, rfl, rfl, rfl, rfl, trivial⟩, (St.selP [1, 2, 3] rfl hw)⟩
    · intro J
      clear ho
      have ho := hg_t26
      clear hg_t26
      rcases if_some ho with ⟨hc, ho⟩ | ⟨hc, ho⟩
      · have hq22 := hc
        refine SP.isT (d := 47) rfl hq22 ?_
        refine SP.not rfl rfl rfl ?_
        refine SP.not rfl rfl rfl ?_
        refine SP.not rfl rfl rfl ?_
        refine SP.not rfl rfl rfl ?_
        refine SP.not rfl rfl rfl ?_
        refine SP.not rfl rfl rfl ?_
        refine SP.val (Val.pickT rfl rfl) rfl rfl rfl ?_
        obtain rfl := Option.some.inj ho
        exact J fun a w2 ha hw => ⟨ha.sub ⟨rfl, rfl, rfl, rfl, rfl, rfl, rfl, rfl, trivial⟩, hw⟩
      · have hq22 := (bf hc)
        refine SP.isF (d := 47) rfl hq22 ?_
        refine SP.val (Val.move rfl) rfl rfl rfl ?_
        refine SP.val (Val.move rfl) rfl rfl rfl ?_
        refine SP.indexP (k := kRaw 1) (xs := [[.pointer none], [.pointer (some ⟨b4, 0, none⟩)]]) (j := 0) see 2 rfl Try.underlying67 sz50 (by decide) rfl rfl rfl rfl rfl (fun p23 => ?_)
        refine SP.val (Val.loadP1 see 0 rfl (fun _ _ e => e.1) Try.underlying50 rfl rfl) rfl rfl rfl ?_
        obtain ⟨t25, hc, ho⟩ := bind_some (x := snap_Catch_Over_s1.f ) ho
        refine SP.callV see (caps := []) (.bool t25) fn18 rfl rfl rfl rfl (fun w2 hP hs sub ap => snap_Catch_Over_s1.ok   _ hc w2 hP sub ) ?_
        clear hc
        refine SP.val (Val.notB rfl) rfl rfl rfl ?_
        refine SP.val (Val.pickF rfl rfl) rfl rfl rfl ?_
        obtain rfl := Option.some.inj ho
        exact J fun a w2 ha hw => ⟨ha.sub ⟨rfl, rfl, rfl, rfl, rfl, rfl, rfl, rfl, trivial⟩, (St.selP [1, 2, 3] rfl hw)⟩
  · intro J
    clear ho
    have ho := hg_t20
    clear hg_t20
    rcases if_some ho with ⟨hc, ho⟩ | ⟨hc, ho⟩
    · have hq16 := hc
      refine SP.isT (d := 39) rfl hq16 ?_
      refine SP.not rfl rfl rfl ?_
      refine SP.not rfl rfl rfl ?_
      refine SP.not rfl rfl rfl ?_
      refine SP.not rfl rfl rfl ?_
      refine SP.not rfl rfl rfl ?_
      refine SP.not rfl rfl rfl ?_
      refine SP.val (Val.pickT rfl rfl) rfl rfl rfl ?_
      obtain rfl := Option.some.inj ho
      exact J fun a w2 ha hw => ⟨ha.sub ⟨rfl, rfl, rfl, rfl, rfl, rfl, rfl, rfl, trivial⟩, hw⟩
    · have hq16 := (bf hc)
      refine SP.isF (d := 39) rfl hq16 ?_
      refine SP.val (Val.move rfl) rfl rfl rfl ?_
      refine SP.val (Val.move rfl) rfl rfl rfl ?_
      refine SP.indexP (k := kRaw 1) (xs := [[.pointer none], [.pointer (some ⟨b8, 0, none⟩)]]) (j := 0) see 1 rfl Try.underlying70 sz51 (by decide) rfl rfl rfl rfl rfl (fun p17 => ?_)
      refine SP.val (Val.loadP1 see 0 rfl (fun _ _ e => e.1) Try.underlying51 rfl rfl) rfl rfl rfl ?_
      refine SP.val (Val.move rfl) rfl rfl rfl ?_
      obtain ⟨t19, hc, ho⟩ := bind_some (x := snap_Keep_Step_s1.f ) ho
      refine SP.callV see (caps := []) (.bool t19) fn17 rfl rfl rfl rfl (fun w2 hP hs sub ap => snap_Keep_Step_s1.ok  v2 _ hc w2 hP sub trivial) ?_
      clear hc
      refine SP.val (Val.pickF rfl rfl) rfl rfl rfl ?_
      obtain rfl := Option.some.inj ho
      exact J fun a w2 ha hw => ⟨ha.sub ⟨rfl, rfl, rfl, rfl, rfl, rfl, rfl, rfl, trivial⟩, (St.selP [1, 2, 3] rfl hw)⟩
/-- What is left to be shown of the law: of plain values alone. -/
def capstanlaw26_SnapDue.Pure : Prop := ∀ (x0 : Int) (x1 : Int) (x2 : Int), (Lit.int .i64 x0).wf = true → (Lit.int .i64 x1).wf = true → (Lit.int .i64 x2).wf = true → capstanlaw26_SnapDue.f x0 x1 x2 = some true
end Go.Proofs.Ytbejlahmhloloaa
end
