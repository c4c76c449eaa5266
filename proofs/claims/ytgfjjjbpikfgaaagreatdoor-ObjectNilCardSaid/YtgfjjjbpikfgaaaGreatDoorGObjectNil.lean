/- Functions of the program as plain functions, with the proof that the code computes them: printed by gen.py of this session. -/
import Derived.Test.YtgfjjjbpikfgaaaGreatDoorProg
import Derived.Test.YtgfjjjbpikfgaaaGreatDoorQ22v188945
set_option linter.unusedVariables false
set_option linter.unusedSimpArgs false
set_option maxRecDepth 20000
set_option maxHeartbeats 2000000
noncomputable section
namespace Go.Proofs.YtgfjjjbpikfgaaaGreatDoor
open Go.Q
structure api_Value where
  Kind : Int
  A : Int
  B : Int
def api_Value.zero : api_Value := ⟨0, 0, 0⟩
def k_api_Value : Kd api_Value := ⟨3, fun h cs x => cs = [.int .u8 x.Kind, .int .i64 x.A, .int .i64 x.B], fun _ _ _ _ _ h => h, fun _ _ _ h => by simp [h], fun _ _ _ h => by subst h; rfl⟩
theorem k_api_Value.part_Kind : Part k_api_Value 0 (kInt .u8) (fun x => x.Kind) := fun h cs x e => ⟨[.int .u8 x.Kind], rfl, by subst e; exact seg_get [.int .u8 x.Kind, .int .i64 x.A, .int .i64 x.B] 0 1⟩
theorem k_api_Value.part_A : Part k_api_Value 1 (kInt .i64) (fun x => x.A) := fun h cs x e => ⟨[.int .i64 x.A], rfl, by subst e; exact seg_get [.int .u8 x.Kind, .int .i64 x.A, .int .i64 x.B] 1 1⟩
theorem k_api_Value.part_B : Part k_api_Value 2 (kInt .i64) (fun x => x.B) := fun h cs x e => ⟨[.int .i64 x.B], rfl, by subst e; exact seg_get [.int .u8 x.Kind, .int .i64 x.A, .int .i64 x.B] 2 1⟩
theorem k_api_Value.load {P : Program} {n : Fr} {ρ : Option Nat} {σ : List (Nat × Value)} {w0 : World} {hA hV : Hp} {ps : List HP} {os : List HO} {L l : List Oper} {Q : Cont} {d : Nat} {t tr : TypeId} {x : Operand} {pos : String} {af : Array Edge} {g : Option (Nat × Bool)} {v : Value} (see : Sees w0 hA hV) (i : Nat) {x0 : api_Value} (hi : ps[i]? = some (elP k_api_Value v x0)) {dsc : TypeDesc} (hu : P.underlying t = some dsc) (hd : (match dsc with | .struct _ | .array _ _ => true | _ => false) = true) (hs : (P.info? t).map (·.size) = some 3) (hg : gd L σ g = some true) (hn : Nat.blt d n.n = true) (hx : ev σ x = some v)
    (h : SP P n ρ ((d, .agg [.int .u8 x0.Kind, .int .i64 x0.A, .int .i64 x0.B].toArray) :: σ) (St w0 hA hV (ps) os) L l Q) : SP P n ρ σ (St w0 hA hV ps os) L (⟨some d, .load t x, tr, pos, af, g⟩ :: l) Q :=
  SP.loadP see i hi hu hd hs hg hn hx fun cs a w ha hw => by
    obtain ⟨m, fr, hN, hO, n1, n2, dj, s1, s2, ap, s⟩ := hw
    obtain rfl := ap.get 0 rfl
    exact h a w ha ⟨m, fr, hN, hO, n1, n2, dj, s1, s2, (fun y hy => ap y (List.mem_cons_of_mem _ hy)), s⟩
structure api_Op where
  Kind : Int
  Method : Int
  Args : (List api_Value)
  Bytes : (List Int)
def api_Op.zero : api_Op := ⟨0, 0, [], []⟩
def k_api_Op : Kd api_Op := ⟨4, fun h cs x => ∃ v0 v1 : Value, cs = [.int .u8 x.Kind, .int .i64 x.Method, v0, v1] ∧ slR k_api_Value h v0 x.Args ∧ slR (kInt .u8) h v1 x.Bytes,
  fun _ _ _ _ s ⟨v0, v1, e, p0, p1⟩ => ⟨v0, v1, e, slR.mono s p0, slR.mono s p1⟩, fun _ _ _ ⟨v0, v1, e, p0, p1⟩ => by simp [e],
  fun _ _ _ ⟨v0, v1, e, p0, p1⟩ => by subst e; obtain ⟨_, _, rfl, -⟩ := p0; obtain ⟨_, _, rfl, -⟩ := p1; rfl⟩
def o_api_Op : Ko api_Op := ⟨k_api_Op, fun cs x => HO.ex fun v0 : Value => HO.ex fun v1 : Value => HO.pand (cs = [.int .u8 x.Kind, .int .i64 x.Method, v0, v1]) (HO.seps [slO k_api_Value 35 v0 x.Args, slO (kInt .u8) 5 v1 x.Bytes]), fun ⟨v0, v1, e, q⟩ sa sh => ⟨v0, v1, e, slO.read (Sep.get 0 rfl q) sa sh, slO.read (Sep.get 1 rfl q) sa sh⟩⟩
@[reducible] def api_Op.set_Args (x : api_Op) (l : (List api_Value)) : api_Op := { x with Args := l }
theorem o_api_Op.leaf2 : Leaf o_api_Op 2 k_api_Value 35 (fun x => x.Args) api_Op.set_Args := fun a h c x ⟨v0, v1, e, q⟩ => by
  subst e
  obtain ⟨h1, h2, dj, s1, s2, p, rest⟩ := Sep.take 0 _ rfl q
  exact ⟨v0, h1, h2, rfl, dj, s1, s2, p, fun a' h' l' sa dj' r => ⟨v0, v1, rfl, Sep.back 0 [slO k_api_Value 35 v0 x.Args, slO (kInt .u8) 5 v1 x.Bytes] (x := slO k_api_Value 35 v0 l') (Nat.le_of_ble_eq_true rfl) dj' r (Sep.mono _ sa (Sub.refl _) rest)⟩⟩
@[reducible] def api_Op.set_Bytes (x : api_Op) (l : (List Int)) : api_Op := { x with Bytes := l }
theorem o_api_Op.leaf3 : Leaf o_api_Op 3 (kInt .u8) 5 (fun x => x.Bytes) api_Op.set_Bytes := fun a h c x ⟨v0, v1, e, q⟩ => by
  subst e
  obtain ⟨h1, h2, dj, s1, s2, p, rest⟩ := Sep.take 1 _ rfl q
  exact ⟨v1, h1, h2, rfl, dj, s1, s2, p, fun a' h' l' sa dj' r => ⟨v0, v1, rfl, Sep.back 1 [slO k_api_Value 35 v0 x.Args, slO (kInt .u8) 5 v1 x.Bytes] (x := slO (kInt .u8) 5 v1 l') (Nat.le_of_ble_eq_true rfl) dj' r (Sep.mono _ sa (Sub.refl _) rest)⟩⟩
theorem k_api_Op.part_Kind : Part k_api_Op 0 (kInt .u8) (fun x => x.Kind) := fun h cs x ⟨v0, v1, e, p0, p1⟩ => ⟨[.int .u8 x.Kind], rfl, by subst e; exact seg_get [.int .u8 x.Kind, .int .i64 x.Method, v0, v1] 0 1⟩
theorem k_api_Op.part_Method : Part k_api_Op 1 (kInt .i64) (fun x => x.Method) := fun h cs x ⟨v0, v1, e, p0, p1⟩ => ⟨[.int .i64 x.Method], rfl, by subst e; exact seg_get [.int .u8 x.Kind, .int .i64 x.Method, v0, v1] 1 1⟩
theorem k_api_Op.part_Args : Part k_api_Op 2 (kSl k_api_Value) (fun x => x.Args) := fun h cs x ⟨v0, v1, e, p0, p1⟩ => ⟨[v0], ⟨v0, rfl, p0⟩, by subst e; exact seg_get [.int .u8 x.Kind, .int .i64 x.Method, v0, v1] 2 1⟩
theorem k_api_Op.part_Bytes : Part k_api_Op 3 (kSl (kInt .u8)) (fun x => x.Bytes) := fun h cs x ⟨v0, v1, e, p0, p1⟩ => ⟨[v1], ⟨v1, rfl, p1⟩, by subst e; exact seg_get [.int .u8 x.Kind, .int .i64 x.Method, v0, v1] 3 1⟩
theorem k_api_Op.load {P : Program} {n : Fr} {ρ : Option Nat} {σ : List (Nat × Value)} {w0 : World} {hA hV : Hp} {ps : List HP} {os : List HO} {L l : List Oper} {Q : Cont} {d : Nat} {t tr : TypeId} {x : Operand} {pos : String} {af : Array Edge} {g : Option (Nat × Bool)} {v : Value} (see : Sees w0 hA hV) (i : Nat) {x0 : api_Op} (hi : ps[i]? = some (elP k_api_Op v x0)) {dsc : TypeDesc} (hu : P.underlying t = some dsc) (hd : (match dsc with | .struct _ | .array _ _ => true | _ => false) = true) (hs : (P.info? t).map (·.size) = some 4) (hg : gd L σ g = some true) (hn : Nat.blt d n.n = true) (hx : ev σ x = some v)
    (h : ∀ v0 v1, SP P n ρ ((d, .agg [.int .u8 x0.Kind, .int .i64 x0.Method, v0, v1].toArray) :: σ) (St w0 hA hV (slP k_api_Value v0 x0.Args :: slP (kInt .u8) v1 x0.Bytes :: ps) os) L l Q) : SP P n ρ σ (St w0 hA hV ps os) L (⟨some d, .load t x, tr, pos, af, g⟩ :: l) Q :=
  SP.loadP see i hi hu hd hs hg hn hx fun cs a w ha hw => by
    obtain ⟨m, fr, hN, hO, n1, n2, dj, s1, s2, ap, s⟩ := hw
    obtain ⟨v0, v1, e, p0, p1⟩ := ap.get 0 rfl
    subst e
    exact h v0 v1 a w ha ⟨m, fr, hN, hO, n1, n2, dj, s1, s2, All.cons p0 (All.cons p1 ((fun y hy => ap y (List.mem_cons_of_mem _ hy)))), s⟩
structure api_Instr where
  Op : Int
  A : Int
  B : Int
def api_Instr.zero : api_Instr := ⟨0, 0, 0⟩
def k_api_Instr : Kd api_Instr := ⟨3, fun h cs x => cs = [.int .u8 x.Op, .int .i64 x.A, .int .i64 x.B], fun _ _ _ _ _ h => h, fun _ _ _ h => by simp [h], fun _ _ _ h => by subst h; rfl⟩
theorem k_api_Instr.part_Op : Part k_api_Instr 0 (kInt .u8) (fun x => x.Op) := fun h cs x e => ⟨[.int .u8 x.Op], rfl, by subst e; exact seg_get [.int .u8 x.Op, .int .i64 x.A, .int .i64 x.B] 0 1⟩
theorem k_api_Instr.part_A : Part k_api_Instr 1 (kInt .i64) (fun x => x.A) := fun h cs x e => ⟨[.int .i64 x.A], rfl, by subst e; exact seg_get [.int .u8 x.Op, .int .i64 x.A, .int .i64 x.B] 1 1⟩
theorem k_api_Instr.part_B : Part k_api_Instr 2 (kInt .i64) (fun x => x.B) := fun h cs x e => ⟨[.int .i64 x.B], rfl, by subst e; exact seg_get [.int .u8 x.Op, .int .i64 x.A, .int .i64 x.B] 2 1⟩
theorem k_api_Instr.load {P : Program} {n : Fr} {ρ : Option Nat} {σ : List (Nat × Value)} {w0 : World} {hA hV : Hp} {ps : List HP} {os : List HO} {L l : List Oper} {Q : Cont} {d : Nat} {t tr : TypeId} {x : Operand} {pos : String} {af : Array Edge} {g : Option (Nat × Bool)} {v : Value} (see : Sees w0 hA hV) (i : Nat) {x0 : api_Instr} (hi : ps[i]? = some (elP k_api_Instr v x0)) {dsc : TypeDesc} (hu : P.underlying t = some dsc) (hd : (match dsc with | .struct _ | .array _ _ => true | _ => false) = true) (hs : (P.info? t).map (·.size) = some 3) (hg : gd L σ g = some true) (hn : Nat.blt d n.n = true) (hx : ev σ x = some v)
    (h : SP P n ρ ((d, .agg [.int .u8 x0.Op, .int .i64 x0.A, .int .i64 x0.B].toArray) :: σ) (St w0 hA hV (ps) os) L l Q) : SP P n ρ σ (St w0 hA hV ps os) L (⟨some d, .load t x, tr, pos, af, g⟩ :: l) Q :=
  SP.loadP see i hi hu hd hs hg hn hx fun cs a w ha hw => by
    obtain ⟨m, fr, hN, hO, n1, n2, dj, s1, s2, ap, s⟩ := hw
    obtain rfl := ap.get 0 rfl
    exact h a w ha ⟨m, fr, hN, hO, n1, n2, dj, s1, s2, (fun y hy => ap y (List.mem_cons_of_mem _ hy)), s⟩
structure api_Method where
  Args : (List Int)
  Locals : (List Int)
  Result : Int
  Reads : Bool
  Fuel : Int
  Stack : Int
  Heap : Int
  Code : (List api_Instr)
def api_Method.zero : api_Method := ⟨[], [], 0, false, 0, 0, 0, []⟩
def k_api_Method : Kd api_Method := ⟨8, fun h cs x => ∃ v0 v1 v2 : Value, cs = [v0, v1, .int .u8 x.Result, .bool x.Reads, .int .i64 x.Fuel, .int .i64 x.Stack, .int .i64 x.Heap, v2] ∧ slR (kInt .u8) h v0 x.Args ∧ slR (kInt .u8) h v1 x.Locals ∧ slR k_api_Instr h v2 x.Code,
  fun _ _ _ _ s ⟨v0, v1, v2, e, p0, p1, p2⟩ => ⟨v0, v1, v2, e, slR.mono s p0, slR.mono s p1, slR.mono s p2⟩, fun _ _ _ ⟨v0, v1, v2, e, p0, p1, p2⟩ => by simp [e],
  fun _ _ _ ⟨v0, v1, v2, e, p0, p1, p2⟩ => by subst e; obtain ⟨_, _, rfl, -⟩ := p0; obtain ⟨_, _, rfl, -⟩ := p1; obtain ⟨_, _, rfl, -⟩ := p2; rfl⟩
def o_api_Method : Ko api_Method := ⟨k_api_Method, fun cs x => HO.ex fun v0 : Value => HO.ex fun v1 : Value => HO.ex fun v2 : Value => HO.pand (cs = [v0, v1, .int .u8 x.Result, .bool x.Reads, .int .i64 x.Fuel, .int .i64 x.Stack, .int .i64 x.Heap, v2]) (HO.seps [slO (kInt .u8) 5 v0 x.Args, slO (kInt .u8) 5 v1 x.Locals, slO k_api_Instr 128 v2 x.Code]), fun ⟨v0, v1, v2, e, q⟩ sa sh => ⟨v0, v1, v2, e, slO.read (Sep.get 0 rfl q) sa sh, slO.read (Sep.get 1 rfl q) sa sh, slO.read (Sep.get 2 rfl q) sa sh⟩⟩
@[reducible] def api_Method.set_Args (x : api_Method) (l : (List Int)) : api_Method := { x with Args := l }
theorem o_api_Method.leaf0 : Leaf o_api_Method 0 (kInt .u8) 5 (fun x => x.Args) api_Method.set_Args := fun a h c x ⟨v0, v1, v2, e, q⟩ => by
  subst e
  obtain ⟨h1, h2, dj, s1, s2, p, rest⟩ := Sep.take 0 _ rfl q
  exact ⟨v0, h1, h2, rfl, dj, s1, s2, p, fun a' h' l' sa dj' r => ⟨v0, v1, v2, rfl, Sep.back 0 [slO (kInt .u8) 5 v0 x.Args, slO (kInt .u8) 5 v1 x.Locals, slO k_api_Instr 128 v2 x.Code] (x := slO (kInt .u8) 5 v0 l') (Nat.le_of_ble_eq_true rfl) dj' r (Sep.mono _ sa (Sub.refl _) rest)⟩⟩
@[reducible] def api_Method.set_Locals (x : api_Method) (l : (List Int)) : api_Method := { x with Locals := l }
theorem o_api_Method.leaf1 : Leaf o_api_Method 1 (kInt .u8) 5 (fun x => x.Locals) api_Method.set_Locals := fun a h c x ⟨v0, v1, v2, e, q⟩ => by
  subst e
  obtain ⟨h1, h2, dj, s1, s2, p, rest⟩ := Sep.take 1 _ rfl q
  exact ⟨v1, h1, h2, rfl, dj, s1, s2, p, fun a' h' l' sa dj' r => ⟨v0, v1, v2, rfl, Sep.back 1 [slO (kInt .u8) 5 v0 x.Args, slO (kInt .u8) 5 v1 x.Locals, slO k_api_Instr 128 v2 x.Code] (x := slO (kInt .u8) 5 v1 l') (Nat.le_of_ble_eq_true rfl) dj' r (Sep.mono _ sa (Sub.refl _) rest)⟩⟩
@[reducible] def api_Method.set_Code (x : api_Method) (l : (List api_Instr)) : api_Method := { x with Code := l }
theorem o_api_Method.leaf7 : Leaf o_api_Method 7 k_api_Instr 128 (fun x => x.Code) api_Method.set_Code := fun a h c x ⟨v0, v1, v2, e, q⟩ => by
  subst e
  obtain ⟨h1, h2, dj, s1, s2, p, rest⟩ := Sep.take 2 _ rfl q
  exact ⟨v2, h1, h2, rfl, dj, s1, s2, p, fun a' h' l' sa dj' r => ⟨v0, v1, v2, rfl, Sep.back 2 [slO (kInt .u8) 5 v0 x.Args, slO (kInt .u8) 5 v1 x.Locals, slO k_api_Instr 128 v2 x.Code] (x := slO k_api_Instr 128 v2 l') (Nat.le_of_ble_eq_true rfl) dj' r (Sep.mono _ sa (Sub.refl _) rest)⟩⟩
theorem k_api_Method.part_Args : Part k_api_Method 0 (kSl (kInt .u8)) (fun x => x.Args) := fun h cs x ⟨v0, v1, v2, e, p0, p1, p2⟩ => ⟨[v0], ⟨v0, rfl, p0⟩, by subst e; exact seg_get [v0, v1, .int .u8 x.Result, .bool x.Reads, .int .i64 x.Fuel, .int .i64 x.Stack, .int .i64 x.Heap, v2] 0 1⟩
theorem k_api_Method.part_Locals : Part k_api_Method 1 (kSl (kInt .u8)) (fun x => x.Locals) := fun h cs x ⟨v0, v1, v2, e, p0, p1, p2⟩ => ⟨[v1], ⟨v1, rfl, p1⟩, by subst e; exact seg_get [v0, v1, .int .u8 x.Result, .bool x.Reads, .int .i64 x.Fuel, .int .i64 x.Stack, .int .i64 x.Heap, v2] 1 1⟩
theorem k_api_Method.part_Result : Part k_api_Method 2 (kInt .u8) (fun x => x.Result) := fun h cs x ⟨v0, v1, v2, e, p0, p1, p2⟩ => ⟨[.int .u8 x.Result], rfl, by subst e; exact seg_get [v0, v1, .int .u8 x.Result, .bool x.Reads, .int .i64 x.Fuel, .int .i64 x.Stack, .int .i64 x.Heap, v2] 2 1⟩
theorem k_api_Method.part_Reads : Part k_api_Method 3 kBool (fun x => x.Reads) := fun h cs x ⟨v0, v1, v2, e, p0, p1, p2⟩ => ⟨[.bool x.Reads], rfl, by subst e; exact seg_get [v0, v1, .int .u8 x.Result, .bool x.Reads, .int .i64 x.Fuel, .int .i64 x.Stack, .int .i64 x.Heap, v2] 3 1⟩
theorem k_api_Method.part_Fuel : Part k_api_Method 4 (kInt .i64) (fun x => x.Fuel) := fun h cs x ⟨v0, v1, v2, e, p0, p1, p2⟩ => ⟨[.int .i64 x.Fuel], rfl, by subst e; exact seg_get [v0, v1, .int .u8 x.Result, .bool x.Reads, .int .i64 x.Fuel, .int .i64 x.Stack, .int .i64 x.Heap, v2] 4 1⟩
theorem k_api_Method.part_Stack : Part k_api_Method 5 (kInt .i64) (fun x => x.Stack) := fun h cs x ⟨v0, v1, v2, e, p0, p1, p2⟩ => ⟨[.int .i64 x.Stack], rfl, by subst e; exact seg_get [v0, v1, .int .u8 x.Result, .bool x.Reads, .int .i64 x.Fuel, .int .i64 x.Stack, .int .i64 x.Heap, v2] 5 1⟩
theorem k_api_Method.part_Heap : Part k_api_Method 6 (kInt .i64) (fun x => x.Heap) := fun h cs x ⟨v0, v1, v2, e, p0, p1, p2⟩ => ⟨[.int .i64 x.Heap], rfl, by subst e; exact seg_get [v0, v1, .int .u8 x.Result, .bool x.Reads, .int .i64 x.Fuel, .int .i64 x.Stack, .int .i64 x.Heap, v2] 6 1⟩
theorem k_api_Method.part_Code : Part k_api_Method 7 (kSl k_api_Instr) (fun x => x.Code) := fun h cs x ⟨v0, v1, v2, e, p0, p1, p2⟩ => ⟨[v2], ⟨v2, rfl, p2⟩, by subst e; exact seg_get [v0, v1, .int .u8 x.Result, .bool x.Reads, .int .i64 x.Fuel, .int .i64 x.Stack, .int .i64 x.Heap, v2] 7 1⟩
theorem k_api_Method.load {P : Program} {n : Fr} {ρ : Option Nat} {σ : List (Nat × Value)} {w0 : World} {hA hV : Hp} {ps : List HP} {os : List HO} {L l : List Oper} {Q : Cont} {d : Nat} {t tr : TypeId} {x : Operand} {pos : String} {af : Array Edge} {g : Option (Nat × Bool)} {v : Value} (see : Sees w0 hA hV) (i : Nat) {x0 : api_Method} (hi : ps[i]? = some (elP k_api_Method v x0)) {dsc : TypeDesc} (hu : P.underlying t = some dsc) (hd : (match dsc with | .struct _ | .array _ _ => true | _ => false) = true) (hs : (P.info? t).map (·.size) = some 8) (hg : gd L σ g = some true) (hn : Nat.blt d n.n = true) (hx : ev σ x = some v)
    (h : ∀ v0 v1 v2, SP P n ρ ((d, .agg [v0, v1, .int .u8 x0.Result, .bool x0.Reads, .int .i64 x0.Fuel, .int .i64 x0.Stack, .int .i64 x0.Heap, v2].toArray) :: σ) (St w0 hA hV (slP (kInt .u8) v0 x0.Args :: slP (kInt .u8) v1 x0.Locals :: slP k_api_Instr v2 x0.Code :: ps) os) L l Q) : SP P n ρ σ (St w0 hA hV ps os) L (⟨some d, .load t x, tr, pos, af, g⟩ :: l) Q :=
  SP.loadP see i hi hu hd hs hg hn hx fun cs a w ha hw => by
    obtain ⟨m, fr, hN, hO, n1, n2, dj, s1, s2, ap, s⟩ := hw
    obtain ⟨v0, v1, v2, e, p0, p1, p2⟩ := ap.get 0 rfl
    subst e
    exact h v0 v1 v2 a w ha ⟨m, fr, hN, hO, n1, n2, dj, s1, s2, All.cons p0 (All.cons p1 (All.cons p2 ((fun y hy => ap y (List.mem_cons_of_mem _ hy))))), s⟩
structure api_Module where
  Globals : (List api_Value)
  Pool : (List api_Value)
  Methods : (List api_Method)
  Migrate : Int
def api_Module.zero : api_Module := ⟨[], [], [], 0⟩
def k_api_Module : Kd api_Module := ⟨4, fun h cs x => ∃ v0 v1 v2 : Value, cs = [v0, v1, v2, .int .i64 x.Migrate] ∧ slR k_api_Value h v0 x.Globals ∧ slR k_api_Value h v1 x.Pool ∧ slR k_api_Method h v2 x.Methods,
  fun _ _ _ _ s ⟨v0, v1, v2, e, p0, p1, p2⟩ => ⟨v0, v1, v2, e, slR.mono s p0, slR.mono s p1, slR.mono s p2⟩, fun _ _ _ ⟨v0, v1, v2, e, p0, p1, p2⟩ => by simp [e],
  fun _ _ _ ⟨v0, v1, v2, e, p0, p1, p2⟩ => by subst e; obtain ⟨_, _, rfl, -⟩ := p0; obtain ⟨_, _, rfl, -⟩ := p1; obtain ⟨_, _, rfl, -⟩ := p2; rfl⟩
def o_api_Module : Ko api_Module := ⟨k_api_Module, fun cs x => HO.ex fun v0 : Value => HO.ex fun v1 : Value => HO.ex fun v2 : Value => HO.pand (cs = [v0, v1, v2, .int .i64 x.Migrate]) (HO.seps [slO k_api_Value 35 v0 x.Globals, slO k_api_Value 35 v1 x.Pool, slO k_api_Method 121 v2 x.Methods]), fun ⟨v0, v1, v2, e, q⟩ sa sh => ⟨v0, v1, v2, e, slO.read (Sep.get 0 rfl q) sa sh, slO.read (Sep.get 1 rfl q) sa sh, slO.read (Sep.get 2 rfl q) sa sh⟩⟩
@[reducible] def api_Module.set_Globals (x : api_Module) (l : (List api_Value)) : api_Module := { x with Globals := l }
theorem o_api_Module.leaf0 : Leaf o_api_Module 0 k_api_Value 35 (fun x => x.Globals) api_Module.set_Globals := fun a h c x ⟨v0, v1, v2, e, q⟩ => by
  subst e
  obtain ⟨h1, h2, dj, s1, s2, p, rest⟩ := Sep.take 0 _ rfl q
  exact ⟨v0, h1, h2, rfl, dj, s1, s2, p, fun a' h' l' sa dj' r => ⟨v0, v1, v2, rfl, Sep.back 0 [slO k_api_Value 35 v0 x.Globals, slO k_api_Value 35 v1 x.Pool, slO k_api_Method 121 v2 x.Methods] (x := slO k_api_Value 35 v0 l') (Nat.le_of_ble_eq_true rfl) dj' r (Sep.mono _ sa (Sub.refl _) rest)⟩⟩
@[reducible] def api_Module.set_Pool (x : api_Module) (l : (List api_Value)) : api_Module := { x with Pool := l }
theorem o_api_Module.leaf1 : Leaf o_api_Module 1 k_api_Value 35 (fun x => x.Pool) api_Module.set_Pool := fun a h c x ⟨v0, v1, v2, e, q⟩ => by
  subst e
  obtain ⟨h1, h2, dj, s1, s2, p, rest⟩ := Sep.take 1 _ rfl q
  exact ⟨v1, h1, h2, rfl, dj, s1, s2, p, fun a' h' l' sa dj' r => ⟨v0, v1, v2, rfl, Sep.back 1 [slO k_api_Value 35 v0 x.Globals, slO k_api_Value 35 v1 x.Pool, slO k_api_Method 121 v2 x.Methods] (x := slO k_api_Value 35 v1 l') (Nat.le_of_ble_eq_true rfl) dj' r (Sep.mono _ sa (Sub.refl _) rest)⟩⟩
@[reducible] def api_Module.set_Methods (x : api_Module) (l : (List api_Method)) : api_Module := { x with Methods := l }
theorem o_api_Module.leaf2 : Leaf o_api_Module 2 k_api_Method 121 (fun x => x.Methods) api_Module.set_Methods := fun a h c x ⟨v0, v1, v2, e, q⟩ => by
  subst e
  obtain ⟨h1, h2, dj, s1, s2, p, rest⟩ := Sep.take 2 _ rfl q
  exact ⟨v2, h1, h2, rfl, dj, s1, s2, p, fun a' h' l' sa dj' r => ⟨v0, v1, v2, rfl, Sep.back 2 [slO k_api_Value 35 v0 x.Globals, slO k_api_Value 35 v1 x.Pool, slO k_api_Method 121 v2 x.Methods] (x := slO k_api_Method 121 v2 l') (Nat.le_of_ble_eq_true rfl) dj' r (Sep.mono _ sa (Sub.refl _) rest)⟩⟩
theorem k_api_Module.part_Globals : Part k_api_Module 0 (kSl k_api_Value) (fun x => x.Globals) := fun h cs x ⟨v0, v1, v2, e, p0, p1, p2⟩ => ⟨[v0], ⟨v0, rfl, p0⟩, by subst e; exact seg_get [v0, v1, v2, .int .i64 x.Migrate] 0 1⟩
theorem k_api_Module.part_Pool : Part k_api_Module 1 (kSl k_api_Value) (fun x => x.Pool) := fun h cs x ⟨v0, v1, v2, e, p0, p1, p2⟩ => ⟨[v1], ⟨v1, rfl, p1⟩, by subst e; exact seg_get [v0, v1, v2, .int .i64 x.Migrate] 1 1⟩
theorem k_api_Module.part_Methods : Part k_api_Module 2 (kSl k_api_Method) (fun x => x.Methods) := fun h cs x ⟨v0, v1, v2, e, p0, p1, p2⟩ => ⟨[v2], ⟨v2, rfl, p2⟩, by subst e; exact seg_get [v0, v1, v2, .int .i64 x.Migrate] 2 1⟩
theorem k_api_Module.part_Migrate : Part k_api_Module 3 (kInt .i64) (fun x => x.Migrate) := fun h cs x ⟨v0, v1, v2, e, p0, p1, p2⟩ => ⟨[.int .i64 x.Migrate], rfl, by subst e; exact seg_get [v0, v1, v2, .int .i64 x.Migrate] 3 1⟩
theorem k_api_Module.load {P : Program} {n : Fr} {ρ : Option Nat} {σ : List (Nat × Value)} {w0 : World} {hA hV : Hp} {ps : List HP} {os : List HO} {L l : List Oper} {Q : Cont} {d : Nat} {t tr : TypeId} {x : Operand} {pos : String} {af : Array Edge} {g : Option (Nat × Bool)} {v : Value} (see : Sees w0 hA hV) (i : Nat) {x0 : api_Module} (hi : ps[i]? = some (elP k_api_Module v x0)) {dsc : TypeDesc} (hu : P.underlying t = some dsc) (hd : (match dsc with | .struct _ | .array _ _ => true | _ => false) = true) (hs : (P.info? t).map (·.size) = some 4) (hg : gd L σ g = some true) (hn : Nat.blt d n.n = true) (hx : ev σ x = some v)
    (h : ∀ v0 v1 v2, SP P n ρ ((d, .agg [v0, v1, v2, .int .i64 x0.Migrate].toArray) :: σ) (St w0 hA hV (slP k_api_Value v0 x0.Globals :: slP k_api_Value v1 x0.Pool :: slP k_api_Method v2 x0.Methods :: ps) os) L l Q) : SP P n ρ σ (St w0 hA hV ps os) L (⟨some d, .load t x, tr, pos, af, g⟩ :: l) Q :=
  SP.loadP see i hi hu hd hs hg hn hx fun cs a w ha hw => by
    obtain ⟨m, fr, hN, hO, n1, n2, dj, s1, s2, ap, s⟩ := hw
    obtain ⟨v0, v1, v2, e, p0, p1, p2⟩ := ap.get 0 rfl
    subst e
    exact h v0 v1 v2 a w ha ⟨m, fr, hN, hO, n1, n2, dj, s1, s2, All.cons p0 (All.cons p1 (All.cons p2 ((fun y hy => ap y (List.mem_cons_of_mem _ hy))))), s⟩
structure api_Cert where
  Fuel : Int
  Stack : Int
  Heap : Int
def api_Cert.zero : api_Cert := ⟨0, 0, 0⟩
def k_api_Cert : Kd api_Cert := ⟨3, fun h cs x => cs = [.int .i64 x.Fuel, .int .i64 x.Stack, .int .i64 x.Heap], fun _ _ _ _ _ h => h, fun _ _ _ h => by simp [h], fun _ _ _ h => by subst h; rfl⟩
theorem k_api_Cert.part_Fuel : Part k_api_Cert 0 (kInt .i64) (fun x => x.Fuel) := fun h cs x e => ⟨[.int .i64 x.Fuel], rfl, by subst e; exact seg_get [.int .i64 x.Fuel, .int .i64 x.Stack, .int .i64 x.Heap] 0 1⟩
theorem k_api_Cert.part_Stack : Part k_api_Cert 1 (kInt .i64) (fun x => x.Stack) := fun h cs x e => ⟨[.int .i64 x.Stack], rfl, by subst e; exact seg_get [.int .i64 x.Fuel, .int .i64 x.Stack, .int .i64 x.Heap] 1 1⟩
theorem k_api_Cert.part_Heap : Part k_api_Cert 2 (kInt .i64) (fun x => x.Heap) := fun h cs x e => ⟨[.int .i64 x.Heap], rfl, by subst e; exact seg_get [.int .i64 x.Fuel, .int .i64 x.Stack, .int .i64 x.Heap] 2 1⟩
theorem k_api_Cert.load {P : Program} {n : Fr} {ρ : Option Nat} {σ : List (Nat × Value)} {w0 : World} {hA hV : Hp} {ps : List HP} {os : List HO} {L l : List Oper} {Q : Cont} {d : Nat} {t tr : TypeId} {x : Operand} {pos : String} {af : Array Edge} {g : Option (Nat × Bool)} {v : Value} (see : Sees w0 hA hV) (i : Nat) {x0 : api_Cert} (hi : ps[i]? = some (elP k_api_Cert v x0)) {dsc : TypeDesc} (hu : P.underlying t = some dsc) (hd : (match dsc with | .struct _ | .array _ _ => true | _ => false) = true) (hs : (P.info? t).map (·.size) = some 3) (hg : gd L σ g = some true) (hn : Nat.blt d n.n = true) (hx : ev σ x = some v)
    (h : SP P n ρ ((d, .agg [.int .i64 x0.Fuel, .int .i64 x0.Stack, .int .i64 x0.Heap].toArray) :: σ) (St w0 hA hV (ps) os) L l Q) : SP P n ρ σ (St w0 hA hV ps os) L (⟨some d, .load t x, tr, pos, af, g⟩ :: l) Q :=
  SP.loadP see i hi hu hd hs hg hn hx fun cs a w ha hw => by
    obtain ⟨m, fr, hN, hO, n1, n2, dj, s1, s2, ap, s⟩ := hw
    obtain rfl := ap.get 0 rfl
    exact h a w ha ⟨m, fr, hN, hO, n1, n2, dj, s1, s2, (fun y hy => ap y (List.mem_cons_of_mem _ hy)), s⟩
structure object_Object where
  made : Bool
  m : api_Module
  certs : (List api_Cert)
  globals : (List api_Value)
def object_Object.zero : object_Object := ⟨false, api_Module.zero, [], []⟩
def k_object_Object : Kd object_Object := ⟨7, fun h cs x => ∃ v0 v1 v2 v3 v4 : Value, cs = [.bool x.made, v0, v1, v2, .int .i64 x.m.Migrate, v3, v4] ∧ slR k_api_Value h v0 x.m.Globals ∧ slR k_api_Value h v1 x.m.Pool ∧ slR k_api_Method h v2 x.m.Methods ∧ slR k_api_Cert h v3 x.certs ∧ slR k_api_Value h v4 x.globals,
  fun _ _ _ _ s ⟨v0, v1, v2, v3, v4, e, p0, p1, p2, p3, p4⟩ => ⟨v0, v1, v2, v3, v4, e, slR.mono s p0, slR.mono s p1, slR.mono s p2, slR.mono s p3, slR.mono s p4⟩, fun _ _ _ ⟨v0, v1, v2, v3, v4, e, p0, p1, p2, p3, p4⟩ => by simp [e],
  fun _ _ _ ⟨v0, v1, v2, v3, v4, e, p0, p1, p2, p3, p4⟩ => by subst e; obtain ⟨_, _, rfl, -⟩ := p0; obtain ⟨_, _, rfl, -⟩ := p1; obtain ⟨_, _, rfl, -⟩ := p2; obtain ⟨_, _, rfl, -⟩ := p3; obtain ⟨_, _, rfl, -⟩ := p4; rfl⟩
def o_object_Object : Ko object_Object := ⟨k_object_Object, fun cs x => HO.ex fun v0 : Value => HO.ex fun v1 : Value => HO.ex fun v2 : Value => HO.ex fun v3 : Value => HO.ex fun v4 : Value => HO.pand (cs = [.bool x.made, v0, v1, v2, .int .i64 x.m.Migrate, v3, v4]) (HO.seps [slO k_api_Value 35 v0 x.m.Globals, slO k_api_Value 35 v1 x.m.Pool, slO k_api_Method 121 v2 x.m.Methods, slO k_api_Cert 112 v3 x.certs, slO k_api_Value 35 v4 x.globals]), fun ⟨v0, v1, v2, v3, v4, e, q⟩ sa sh => ⟨v0, v1, v2, v3, v4, e, slO.read (Sep.get 0 rfl q) sa sh, slO.read (Sep.get 1 rfl q) sa sh, slO.read (Sep.get 2 rfl q) sa sh, slO.read (Sep.get 3 rfl q) sa sh, slO.read (Sep.get 4 rfl q) sa sh⟩⟩
@[reducible] def object_Object.set_m_Globals (x : object_Object) (l : (List api_Value)) : object_Object := { x with m := { x.m with Globals := l } }
theorem o_object_Object.leaf1 : Leaf o_object_Object 1 k_api_Value 35 (fun x => x.m.Globals) object_Object.set_m_Globals := fun a h c x ⟨v0, v1, v2, v3, v4, e, q⟩ => by
  subst e
  obtain ⟨h1, h2, dj, s1, s2, p, rest⟩ := Sep.take 0 _ rfl q
  exact ⟨v0, h1, h2, rfl, dj, s1, s2, p, fun a' h' l' sa dj' r => ⟨v0, v1, v2, v3, v4, rfl, Sep.back 0 [slO k_api_Value 35 v0 x.m.Globals, slO k_api_Value 35 v1 x.m.Pool, slO k_api_Method 121 v2 x.m.Methods, slO k_api_Cert 112 v3 x.certs, slO k_api_Value 35 v4 x.globals] (x := slO k_api_Value 35 v0 l') (Nat.le_of_ble_eq_true rfl) dj' r (Sep.mono _ sa (Sub.refl _) rest)⟩⟩
@[reducible] def object_Object.set_m_Pool (x : object_Object) (l : (List api_Value)) : object_Object := { x with m := { x.m with Pool := l } }
theorem o_object_Object.leaf2 : Leaf o_object_Object 2 k_api_Value 35 (fun x => x.m.Pool) object_Object.set_m_Pool := fun a h c x ⟨v0, v1, v2, v3, v4, e, q⟩ => by
  subst e
  obtain ⟨h1, h2, dj, s1, s2, p, rest⟩ := Sep.take 1 _ rfl q
  exact ⟨v1, h1, h2, rfl, dj, s1, s2, p, fun a' h' l' sa dj' r => ⟨v0, v1, v2, v3, v4, rfl, Sep.back 1 [slO k_api_Value 35 v0 x.m.Globals, slO k_api_Value 35 v1 x.m.Pool, slO k_api_Method 121 v2 x.m.Methods, slO k_api_Cert 112 v3 x.certs, slO k_api_Value 35 v4 x.globals] (x := slO k_api_Value 35 v1 l') (Nat.le_of_ble_eq_true rfl) dj' r (Sep.mono _ sa (Sub.refl _) rest)⟩⟩
@[reducible] def object_Object.set_m_Methods (x : object_Object) (l : (List api_Method)) : object_Object := { x with m := { x.m with Methods := l } }
theorem o_object_Object.leaf3 : Leaf o_object_Object 3 k_api_Method 121 (fun x => x.m.Methods) object_Object.set_m_Methods := fun a h c x ⟨v0, v1, v2, v3, v4, e, q⟩ => by
  subst e
  obtain ⟨h1, h2, dj, s1, s2, p, rest⟩ := Sep.take 2 _ rfl q
  exact ⟨v2, h1, h2, rfl, dj, s1, s2, p, fun a' h' l' sa dj' r => ⟨v0, v1, v2, v3, v4, rfl, Sep.back 2 [slO k_api_Value 35 v0 x.m.Globals, slO k_api_Value 35 v1 x.m.Pool, slO k_api_Method 121 v2 x.m.Methods, slO k_api_Cert 112 v3 x.certs, slO k_api_Value 35 v4 x.globals] (x := slO k_api_Method 121 v2 l') (Nat.le_of_ble_eq_true rfl) dj' r (Sep.mono _ sa (Sub.refl _) rest)⟩⟩
@[reducible] def object_Object.set_certs (x : object_Object) (l : (List api_Cert)) : object_Object := { x with certs := l }
theorem o_object_Object.leaf5 : Leaf o_object_Object 5 k_api_Cert 112 (fun x => x.certs) object_Object.set_certs := fun a h c x ⟨v0, v1, v2, v3, v4, e, q⟩ => by
  subst e
  obtain ⟨h1, h2, dj, s1, s2, p, rest⟩ := Sep.take 3 _ rfl q
  exact ⟨v3, h1, h2, rfl, dj, s1, s2, p, fun a' h' l' sa dj' r => ⟨v0, v1, v2, v3, v4, rfl, Sep.back 3 [slO k_api_Value 35 v0 x.m.Globals, slO k_api_Value 35 v1 x.m.Pool, slO k_api_Method 121 v2 x.m.Methods, slO k_api_Cert 112 v3 x.certs, slO k_api_Value 35 v4 x.globals] (x := slO k_api_Cert 112 v3 l') (Nat.le_of_ble_eq_true rfl) dj' r (Sep.mono _ sa (Sub.refl _) rest)⟩⟩
@[reducible] def object_Object.set_globals (x : object_Object) (l : (List api_Value)) : object_Object := { x with globals := l }
theorem o_object_Object.leaf6 : Leaf o_object_Object 6 k_api_Value 35 (fun x => x.globals) object_Object.set_globals := fun a h c x ⟨v0, v1, v2, v3, v4, e, q⟩ => by
  subst e
  obtain ⟨h1, h2, dj, s1, s2, p, rest⟩ := Sep.take 4 _ rfl q
  exact ⟨v4, h1, h2, rfl, dj, s1, s2, p, fun a' h' l' sa dj' r => ⟨v0, v1, v2, v3, v4, rfl, Sep.back 4 [slO k_api_Value 35 v0 x.m.Globals, slO k_api_Value 35 v1 x.m.Pool, slO k_api_Method 121 v2 x.m.Methods, slO k_api_Cert 112 v3 x.certs, slO k_api_Value 35 v4 x.globals] (x := slO k_api_Value 35 v4 l') (Nat.le_of_ble_eq_true rfl) dj' r (Sep.mono _ sa (Sub.refl _) rest)⟩⟩
theorem k_object_Object.part_made : Part k_object_Object 0 kBool (fun x => x.made) := fun h cs x ⟨v0, v1, v2, v3, v4, e, p0, p1, p2, p3, p4⟩ => ⟨[.bool x.made], rfl, by subst e; exact seg_get [.bool x.made, v0, v1, v2, .int .i64 x.m.Migrate, v3, v4] 0 1⟩
theorem k_object_Object.part_m : Part k_object_Object 1 k_api_Module (fun x => x.m) := fun h cs x ⟨v0, v1, v2, v3, v4, e, p0, p1, p2, p3, p4⟩ => ⟨[v0, v1, v2, .int .i64 x.m.Migrate], ⟨v0, v1, v2, rfl, p0, p1, p2⟩, by subst e; exact seg_get [.bool x.made, v0, v1, v2, .int .i64 x.m.Migrate, v3, v4] 1 4⟩
theorem k_object_Object.part_certs : Part k_object_Object 5 (kSl k_api_Cert) (fun x => x.certs) := fun h cs x ⟨v0, v1, v2, v3, v4, e, p0, p1, p2, p3, p4⟩ => ⟨[v3], ⟨v3, rfl, p3⟩, by subst e; exact seg_get [.bool x.made, v0, v1, v2, .int .i64 x.m.Migrate, v3, v4] 5 1⟩
theorem k_object_Object.part_globals : Part k_object_Object 6 (kSl k_api_Value) (fun x => x.globals) := fun h cs x ⟨v0, v1, v2, v3, v4, e, p0, p1, p2, p3, p4⟩ => ⟨[v4], ⟨v4, rfl, p4⟩, by subst e; exact seg_get [.bool x.made, v0, v1, v2, .int .i64 x.m.Migrate, v3, v4] 6 1⟩
theorem k_object_Object.load {P : Program} {n : Fr} {ρ : Option Nat} {σ : List (Nat × Value)} {w0 : World} {hA hV : Hp} {ps : List HP} {os : List HO} {L l : List Oper} {Q : Cont} {d : Nat} {t tr : TypeId} {x : Operand} {pos : String} {af : Array Edge} {g : Option (Nat × Bool)} {v : Value} (see : Sees w0 hA hV) (i : Nat) {x0 : object_Object} (hi : ps[i]? = some (elP k_object_Object v x0)) {dsc : TypeDesc} (hu : P.underlying t = some dsc) (hd : (match dsc with | .struct _ | .array _ _ => true | _ => false) = true) (hs : (P.info? t).map (·.size) = some 7) (hg : gd L σ g = some true) (hn : Nat.blt d n.n = true) (hx : ev σ x = some v)
    (h : ∀ v0 v1 v2 v3 v4, SP P n ρ ((d, .agg [.bool x0.made, v0, v1, v2, .int .i64 x0.m.Migrate, v3, v4].toArray) :: σ) (St w0 hA hV (slP k_api_Value v0 x0.m.Globals :: slP k_api_Value v1 x0.m.Pool :: slP k_api_Method v2 x0.m.Methods :: slP k_api_Cert v3 x0.certs :: slP k_api_Value v4 x0.globals :: ps) os) L l Q) : SP P n ρ σ (St w0 hA hV ps os) L (⟨some d, .load t x, tr, pos, af, g⟩ :: l) Q :=
  SP.loadP see i hi hu hd hs hg hn hx fun cs a w ha hw => by
    obtain ⟨m, fr, hN, hO, n1, n2, dj, s1, s2, ap, s⟩ := hw
    obtain ⟨v0, v1, v2, v3, v4, e, p0, p1, p2, p3, p4⟩ := ap.get 0 rfl
    subst e
    exact h v0 v1 v2 v3 v4 a w ha ⟨m, fr, hN, hO, n1, n2, dj, s1, s2, All.cons p0 (All.cons p1 (All.cons p2 (All.cons p3 (All.cons p4 ((fun y hy => ap y (List.mem_cons_of_mem _ hy))))))), s⟩
structure api_Outcome where
  Trap : Int
  Result : api_Value
def api_Outcome.zero : api_Outcome := ⟨0, api_Value.zero⟩
def k_api_Outcome : Kd api_Outcome := ⟨4, fun h cs x => cs = [.int .i64 x.Trap, .int .u8 x.Result.Kind, .int .i64 x.Result.A, .int .i64 x.Result.B], fun _ _ _ _ _ h => h, fun _ _ _ h => by simp [h], fun _ _ _ h => by subst h; rfl⟩
theorem k_api_Outcome.part_Trap : Part k_api_Outcome 0 (kInt .i64) (fun x => x.Trap) := fun h cs x e => ⟨[.int .i64 x.Trap], rfl, by subst e; exact seg_get [.int .i64 x.Trap, .int .u8 x.Result.Kind, .int .i64 x.Result.A, .int .i64 x.Result.B] 0 1⟩
theorem k_api_Outcome.part_Result : Part k_api_Outcome 1 k_api_Value (fun x => x.Result) := fun h cs x e => ⟨[.int .u8 x.Result.Kind, .int .i64 x.Result.A, .int .i64 x.Result.B], rfl, by subst e; exact seg_get [.int .i64 x.Trap, .int .u8 x.Result.Kind, .int .i64 x.Result.A, .int .i64 x.Result.B] 1 3⟩
theorem k_api_Outcome.load {P : Program} {n : Fr} {ρ : Option Nat} {σ : List (Nat × Value)} {w0 : World} {hA hV : Hp} {ps : List HP} {os : List HO} {L l : List Oper} {Q : Cont} {d : Nat} {t tr : TypeId} {x : Operand} {pos : String} {af : Array Edge} {g : Option (Nat × Bool)} {v : Value} (see : Sees w0 hA hV) (i : Nat) {x0 : api_Outcome} (hi : ps[i]? = some (elP k_api_Outcome v x0)) {dsc : TypeDesc} (hu : P.underlying t = some dsc) (hd : (match dsc with | .struct _ | .array _ _ => true | _ => false) = true) (hs : (P.info? t).map (·.size) = some 4) (hg : gd L σ g = some true) (hn : Nat.blt d n.n = true) (hx : ev σ x = some v)
    (h : SP P n ρ ((d, .agg [.int .i64 x0.Trap, .int .u8 x0.Result.Kind, .int .i64 x0.Result.A, .int .i64 x0.Result.B].toArray) :: σ) (St w0 hA hV (ps) os) L l Q) : SP P n ρ σ (St w0 hA hV ps os) L (⟨some d, .load t x, tr, pos, af, g⟩ :: l) Q :=
  SP.loadP see i hi hu hd hs hg hn hx fun cs a w ha hw => by
    obtain ⟨m, fr, hN, hO, n1, n2, dj, s1, s2, ap, s⟩ := hw
    obtain rfl := ap.get 0 rfl
    exact h a w ha ⟨m, fr, hN, hO, n1, n2, dj, s1, s2, (fun y hy => ap y (List.mem_cons_of_mem _ hy)), s⟩
structure api_Reply where
  Err : Int
  Out : api_Outcome
def api_Reply.zero : api_Reply := ⟨0, api_Outcome.zero⟩
def k_api_Reply : Kd api_Reply := ⟨5, fun h cs x => cs = [.int .i64 x.Err, .int .i64 x.Out.Trap, .int .u8 x.Out.Result.Kind, .int .i64 x.Out.Result.A, .int .i64 x.Out.Result.B], fun _ _ _ _ _ h => h, fun _ _ _ h => by simp [h], fun _ _ _ h => by subst h; rfl⟩
theorem k_api_Reply.part_Err : Part k_api_Reply 0 (kInt .i64) (fun x => x.Err) := fun h cs x e => ⟨[.int .i64 x.Err], rfl, by subst e; exact seg_get [.int .i64 x.Err, .int .i64 x.Out.Trap, .int .u8 x.Out.Result.Kind, .int .i64 x.Out.Result.A, .int .i64 x.Out.Result.B] 0 1⟩
theorem k_api_Reply.part_Out : Part k_api_Reply 1 k_api_Outcome (fun x => x.Out) := fun h cs x e => ⟨[.int .i64 x.Out.Trap, .int .u8 x.Out.Result.Kind, .int .i64 x.Out.Result.A, .int .i64 x.Out.Result.B], rfl, by subst e; exact seg_get [.int .i64 x.Err, .int .i64 x.Out.Trap, .int .u8 x.Out.Result.Kind, .int .i64 x.Out.Result.A, .int .i64 x.Out.Result.B] 1 4⟩
theorem k_api_Reply.load {P : Program} {n : Fr} {ρ : Option Nat} {σ : List (Nat × Value)} {w0 : World} {hA hV : Hp} {ps : List HP} {os : List HO} {L l : List Oper} {Q : Cont} {d : Nat} {t tr : TypeId} {x : Operand} {pos : String} {af : Array Edge} {g : Option (Nat × Bool)} {v : Value} (see : Sees w0 hA hV) (i : Nat) {x0 : api_Reply} (hi : ps[i]? = some (elP k_api_Reply v x0)) {dsc : TypeDesc} (hu : P.underlying t = some dsc) (hd : (match dsc with | .struct _ | .array _ _ => true | _ => false) = true) (hs : (P.info? t).map (·.size) = some 5) (hg : gd L σ g = some true) (hn : Nat.blt d n.n = true) (hx : ev σ x = some v)
    (h : SP P n ρ ((d, .agg [.int .i64 x0.Err, .int .i64 x0.Out.Trap, .int .u8 x0.Out.Result.Kind, .int .i64 x0.Out.Result.A, .int .i64 x0.Out.Result.B].toArray) :: σ) (St w0 hA hV (ps) os) L l Q) : SP P n ρ σ (St w0 hA hV ps os) L (⟨some d, .load t x, tr, pos, af, g⟩ :: l) Q :=
  SP.loadP see i hi hu hd hs hg hn hx fun cs a w ha hw => by
    obtain ⟨m, fr, hN, hO, n1, n2, dj, s1, s2, ap, s⟩ := hw
    obtain rfl := ap.get 0 rfl
    exact h a w ha ⟨m, fr, hN, hO, n1, n2, dj, s1, s2, (fun y hy => ap y (List.mem_cons_of_mem _ hy)), s⟩
theorem sz3 : (Tryz.prog.info? 3).map (·.size) = some 1 := by kernel_rfl
theorem sz4 : (Tryz.prog.info? 4).map (·.size) = some 1 := by kernel_rfl
theorem sz22 : (Tryz.prog.info? 22).map (·.size) = some 1 := by kernel_rfl
theorem sz23 : (Tryz.prog.info? 23).map (·.size) = some 1 := by kernel_rfl
theorem sz25 : (Tryz.prog.info? 25).map (·.size) = some 4 := by kernel_rfl
theorem sz27 : (Tryz.prog.info? 27).map (·.size) = some 1 := by kernel_rfl
theorem sz29 : (Tryz.prog.info? 29).map (·.size) = some 4 := by kernel_rfl
theorem sz30 : (Tryz.prog.info? 30).map (·.size) = some 1 := by kernel_rfl
theorem sz32 : (Tryz.prog.info? 32).map (·.size) = some 7 := by kernel_rfl
theorem sz33 : (Tryz.prog.info? 33).map (·.size) = some 1 := by kernel_rfl
theorem sz39 : (Tryz.prog.info? 39).map (·.size) = some 5 := by kernel_rfl
theorem sz124 : (Tryz.prog.info? 124).map (·.size) = some 3 := by kernel_rfl
theorem inf29 : (Tryz.prog.info? 29).map (fun i => ((i.zero.map fun z => z.cells.toList), i.size, i.bytes)) = some (some [(.slice none 0 0), (.slice none 0 0), (.slice none 0 0), .int .i64 0], 4, 80) := by kernel_rfl
theorem inf32 : (Tryz.prog.info? 32).map (fun i => ((i.zero.map fun z => z.cells.toList), i.size, i.bytes)) = some (some [.bool false, (.slice none 0 0), (.slice none 0 0), (.slice none 0 0), .int .i64 0, (.slice none 0 0), (.slice none 0 0)], 7, 136) := by kernel_rfl
theorem inf39 : (Tryz.prog.info? 39).map (fun i => ((i.zero.map fun z => z.cells.toList), i.size, i.bytes)) = some (some [.int .i64 0, .int .i64 0, .int .u8 0, .int .i64 0, .int .i64 0], 5, 40) := by kernel_rfl
theorem inf124 : (Tryz.prog.info? 124).map (fun i => ((i.zero.map fun z => z.cells.toList), i.size, i.bytes)) = some (some [.nilFunc, .nilFunc, .nilFunc], 3, 24) := by kernel_rfl
theorem bt39 : shapeOf Tryz.prog 39 = some ([.int .i64 0, .int .i64 0, .int .u8 0, .int .i64 0, .int .i64 0], [(0, 1), (1, 4)]) := by kernel_rfl
theorem bt124 : shapeOf Tryz.prog 124 = some ([.nilFunc, .nilFunc, .nilFunc], [(0, 1), (1, 1), (2, 1)]) := by kernel_rfl
theorem fn8 : ((Tryz.prog.funcs[8]?).map fun fn => fn.body.isSome && !(fn.name == "runtime.NumGoroutine")) = some true := by rw [Tryz.func8]; rfl
theorem fn51 : ((Tryz.prog.funcs[51]?).map fun fn => fn.body.isSome && !(fn.name == "runtime.NumGoroutine")) = some true := by rw [Tryz.func51]; rfl
theorem fn9 : ((Tryz.prog.funcs[9]?).map fun fn => fn.body.isSome && !(fn.name == "runtime.NumGoroutine")) = some true := by rw [Tryz.func9]; rfl
theorem fn10 : ((Tryz.prog.funcs[10]?).map fun fn => fn.body.isSome && !(fn.name == "runtime.NumGoroutine")) = some true := by rw [Tryz.func10]; rfl
theorem fn57 : ((Tryz.prog.funcs[57]?).map fun fn => fn.body.isSome && !(fn.name == "runtime.NumGoroutine")) = some true := by rw [Tryz.func57]; rfl
theorem fn11 : ((Tryz.prog.funcs[11]?).map fun fn => fn.body.isSome && !(fn.name == "runtime.NumGoroutine")) = some true := by rw [Tryz.func11]; rfl
theorem fn12 : ((Tryz.prog.funcs[12]?).map fun fn => fn.body.isSome && !(fn.name == "runtime.NumGoroutine")) = some true := by rw [Tryz.func12]; rfl
theorem fn60 : ((Tryz.prog.funcs[60]?).map fun fn => fn.body.isSome && !(fn.name == "runtime.NumGoroutine")) = some true := by rw [Tryz.func60]; rfl
theorem fn61 : ((Tryz.prog.funcs[61]?).map fun fn => fn.body.isSome && !(fn.name == "runtime.NumGoroutine")) = some true := by rw [Tryz.func61]; rfl
theorem fn62 : ((Tryz.prog.funcs[62]?).map fun fn => fn.body.isSome && !(fn.name == "runtime.NumGoroutine")) = some true := by rw [Tryz.func62]; rfl
theorem fn13 : ((Tryz.prog.funcs[13]?).map fun fn => fn.body.isSome && !(fn.name == "runtime.NumGoroutine")) = some true := by rw [Tryz.func13]; rfl
theorem fn63 : ((Tryz.prog.funcs[63]?).map fun fn => fn.body.isSome && !(fn.name == "runtime.NumGoroutine")) = some true := by rw [Tryz.func63]; rfl
theorem fn14 : ((Tryz.prog.funcs[14]?).map fun fn => fn.body.isSome && !(fn.name == "runtime.NumGoroutine")) = some true := by rw [Tryz.func14]; rfl
theorem fn64 : ((Tryz.prog.funcs[64]?).map fun fn => fn.body.isSome && !(fn.name == "runtime.NumGoroutine")) = some true := by rw [Tryz.func64]; rfl
theorem fn15 : ((Tryz.prog.funcs[15]?).map fun fn => fn.body.isSome && !(fn.name == "runtime.NumGoroutine")) = some true := by rw [Tryz.func15]; rfl
theorem fn97 : ((Tryz.prog.funcs[97]?).map fun fn => fn.body.isSome && !(fn.name == "runtime.NumGoroutine")) = some true := by rw [Tryz.func97]; rfl
theorem fn65 : ((Tryz.prog.funcs[65]?).map fun fn => fn.body.isSome && !(fn.name == "runtime.NumGoroutine")) = some true := by rw [Tryz.func65]; rfl
theorem fn16 : ((Tryz.prog.funcs[16]?).map fun fn => fn.body.isSome && !(fn.name == "runtime.NumGoroutine")) = some true := by rw [Tryz.func16]; rfl
theorem fn3 : ((Tryz.prog.funcs[3]?).map fun fn => fn.body.isSome && !(fn.name == "runtime.NumGoroutine")) = some true := by rw [Tryz.func3]; rfl
/-! ### capstan/capstanlaw20.Great: function 8 -/
def capstanlaw20_Great.f (op_0 : api_Op) : Option Bool :=
  some ((decide ((op_0.Args.length : Int) > 20)) || (decide ((op_0.Bytes.length : Int) > 3000)))
theorem capstanlaw20_Great.ok (op_0 : api_Op) (v_op_0_Args : Value) (v_op_0_Bytes : Value) (r : Bool) (H : capstanlaw20_Great.f op_0 = some r) (w : World) (hV : Hp) (sV : Sub hV (hp w)) (h0 : slR k_api_Value hV v_op_0_Args op_0.Args) (h1 : slR (kInt .u8) hV v_op_0_Bytes op_0.Bytes) :
    Trip Tryz.prog 8 [.agg #[.int .u8 op_0.Kind, .int .i64 op_0.Method, v_op_0_Args, v_op_0_Bytes]].toArray em hV w (fun v => HO.pure (v = .bool r)) := by
  have see : Sees w em hV := ⟨sV, Dj.em_right _⟩
  refine Trip.of (P := Tryz.prog) (n := ⟨13, []⟩) Tryz.func8 rfl ⟨rfl, rfl⟩ rfl (St.begin (All.cons (x := slP k_api_Value v_op_0_Args op_0.Args) h0 (All.cons (x := slP (kInt .u8) v_op_0_Bytes op_0.Bytes) h1 (All.nil _)))) ?_
  have ho := H
  refine CP.seq ?_
  refine CP.region ?_
  refine SP.box (cs := [.int .u8 op_0.Kind, .int .i64 op_0.Method, v_op_0_Args, v_op_0_Bytes]) rfl rfl rfl rfl (fun b3 => ?_)
  refine SP.val (Val.assign rfl) rfl rfl rfl ?_
  refine SP.nil ?_
  refine QE.then ?_
  refine CP.seq ?_
  refine CP.region ?_
  refine SP.val (Val.fieldAddr Tryz.underlying25 rfl sz22 rfl) rfl rfl rfl ?_
  refine SP.val (Val.load1 0 rfl Tryz.underlying22 rfl rfl rfl) rfl rfl rfl ?_
  refine SP.val (Val.lenP see 0 rfl Tryz.underlying22 rfl) rfl rfl rfl ?_
  refine SP.val (Val.gtr rfl rfl) rfl rfl rfl ?_
  refine SP.val (Val.move rfl) rfl rfl rfl ?_
  refine SP.join 5 (fun a w2 => Env ⟨13, []⟩ [(12, .bool ((decide ((op_0.Args.length : Int) > 20)) || (decide ((op_0.Bytes.length : Int) > 3000))))] a ∧ St w em hV [slP k_api_Value v_op_0_Args op_0.Args, slP (kInt .u8) v_op_0_Bytes op_0.Bytes] [boxO b3 [.int .u8 op_0.Kind, .int .i64 op_0.Method, v_op_0_Args, v_op_0_Bytes] 25] w2) ?_ ?_
  · rintro a w2 ⟨ha, hw⟩
    refine SP.app ha hw ?_
    clear ha hw a w2
    refine SP.val (Val.assign rfl) rfl rfl rfl ?_
    refine SP.nil ?_
    refine QE.then ?_
    refine CP.ret ?_
    obtain rfl := Option.some.inj ho
    exact QE.rets (rs := [.tmp 2]) (vs := [.bool ((decide ((op_0.Args.length : Int) > 20)) || (decide ((op_0.Bytes.length : Int) > 3000)))]) Tryz.results8 rfl ⟨RVs.tmp rfl, trivial⟩ (fun w2 h => St.done (fun a b p s => rfl) h)
  · intro J
    by_cases hc : (op_0.Args.length : Int) > 20
    · have hq6 := (decide_eq_true hc)
      refine SP.isT (d := 7) rfl hq6 ?_
      refine SP.not rfl rfl rfl ?_
      refine SP.not rfl rfl rfl ?_
      refine SP.not rfl rfl rfl ?_
      refine SP.not rfl rfl rfl ?_
      refine SP.val (Val.pickT rfl rfl) rfl rfl rfl ?_
      exact J fun a w2 ha hw => ⟨ha.sub ⟨congrArg (fun z => some (Value.bool z)) (or_t hq6), trivial⟩, hw⟩
    · have hq6 := (decide_eq_false hc)
      refine SP.isF (d := 7) rfl hq6 ?_
      refine SP.val (Val.fieldAddr Tryz.underlying25 rfl sz23 rfl) rfl rfl rfl ?_
      refine SP.val (Val.load1 0 rfl Tryz.underlying23 rfl rfl rfl) rfl rfl rfl ?_
      refine SP.val (Val.lenP see 1 rfl Tryz.underlying23 rfl) rfl rfl rfl ?_
      refine SP.val (Val.gtr rfl rfl) rfl rfl rfl ?_
      refine SP.val (Val.pickF rfl rfl) rfl rfl rfl ?_
      exact J fun a w2 ha hw => ⟨ha.sub ⟨congrArg (fun z => some (Value.bool z)) (or_f hq6 rfl), trivial⟩, hw⟩
/-! ### (capstan/object.Object).fits: function 51 -/
def object_Object_fits_s1.f (op_1 : api_Op) : Option Unit :=
  some ()
theorem object_Object_fits_s1.ok (op_1 : api_Op) (v_op_1_Args : Value) (v_op_1_Bytes : Value) (r : Unit) (H : object_Object_fits_s1.f op_1 = some r) (w : World) (hV : Hp) (sV : Sub hV (hp w)) (h0 : slR k_api_Value hV v_op_1_Args op_1.Args) (h1 : slR (kInt .u8) hV v_op_1_Bytes op_1.Bytes) :
    Trip Tryz.prog 51 [.agg #[.bool false, (.slice none 0 0), (.slice none 0 0), (.slice none 0 0), .int .i64 0, (.slice none 0 0), (.slice none 0 0)], .agg #[.int .u8 op_1.Kind, .int .i64 op_1.Method, v_op_1_Args, v_op_1_Bytes]].toArray em hV w (fun v => HO.pure (v = .int .i64 1)) := by
  have see : Sees w em hV := ⟨sV, Dj.em_right _⟩
  refine Trip.of (P := Tryz.prog) (n := ⟨48, []⟩) Tryz.func51 rfl ⟨rfl, rfl⟩ rfl (St.begin (All.cons (x := slP k_api_Value v_op_1_Args op_1.Args) h0 (All.cons (x := slP (kInt .u8) v_op_1_Bytes op_1.Bytes) h1 (All.nil _)))) ?_
  have ho := H
  refine CP.seq ?_
  refine CP.region ?_
  refine SP.box (cs := [.bool false, (.slice none 0 0), (.slice none 0 0), (.slice none 0 0), .int .i64 0, (.slice none 0 0), (.slice none 0 0)]) rfl rfl rfl rfl (fun b3 => ?_)
  refine SP.box (cs := [.int .u8 op_1.Kind, .int .i64 op_1.Method, v_op_1_Args, v_op_1_Bytes]) rfl rfl rfl rfl (fun b5 => ?_)
  refine SP.val (Val.assign rfl) rfl rfl rfl ?_
  refine SP.nil ?_
  refine QE.then ?_
  refine CP.seq ?_
  refine CP.region ?_
  refine SP.val (Val.assign rfl) rfl rfl rfl ?_
  refine SP.nil ?_
  refine QE.then ?_
  refine CP.seq ?_
  refine CP.block ?_
  refine CP.seq ?_
  refine CP.region ?_
  refine SP.val (Val.fieldAddr Tryz.underlying32 rfl sz4 rfl) rfl rfl rfl ?_
  refine SP.val (Val.load1 1 rfl Tryz.underlying4 rfl rfl rfl) rfl rfl rfl ?_
  refine SP.val (Val.cast (v := .bool true) (Val.notB rfl) rfl) rfl rfl rfl ?_
  refine SP.val (Val.assign rfl) rfl rfl rfl ?_
  refine SP.nil ?_
  refine QE.then ?_
  refine CP.condT rfl rfl ?_
  refine CP.seq ?_
  refine CP.region ?_
  refine SP.val (Val.assign rfl) rfl rfl rfl ?_
  refine SP.nil ?_
  refine QE.then ?_
  refine CP.ret ?_
  refine QE.blockR ?_
  refine QE.thru (by intro e; cases e) ?_
  obtain rfl := Option.some.inj ho
  exact QE.rets (rs := [.tmp 4]) (vs := [.int .i64 1]) Tryz.results51 rfl ⟨RVs.tmp rfl, trivial⟩ (fun w2 h => St.done (fun a b p s => rfl) h)
/-! ### (capstan/object.Object).Call: function 9 -/
def object_Object_Call_s1.f (op_1 : api_Op) : Option Unit :=
  (object_Object_fits_s1.f op_1).bind fun t11 => some ()
theorem object_Object_Call_s1.ok (op_1 : api_Op) (v_op_1_Args : Value) (v_op_1_Bytes : Value) (r : Unit) (H : object_Object_Call_s1.f op_1 = some r) (w : World) (hV : Hp) (sV : Sub hV (hp w)) (h0 : slR k_api_Value hV v_op_1_Args op_1.Args) (h1 : slR (kInt .u8) hV v_op_1_Bytes op_1.Bytes) :
    Trip Tryz.prog 9 [.agg #[.bool false, (.slice none 0 0), (.slice none 0 0), (.slice none 0 0), .int .i64 0, (.slice none 0 0), (.slice none 0 0)], .agg #[.int .u8 op_1.Kind, .int .i64 op_1.Method, v_op_1_Args, v_op_1_Bytes]].toArray em hV w (fun v => HO.pure (v = .tuple #[.agg #[.bool false, (.slice none 0 0), (.slice none 0 0), (.slice none 0 0), .int .i64 0, (.slice none 0 0), (.slice none 0 0)], .agg #[.int .i64 1, .int .i64 0, .int .u8 0, .int .i64 0, .int .i64 0]])) := by
  have see : Sees w em hV := ⟨sV, Dj.em_right _⟩
  refine Trip.of (P := Tryz.prog) (n := ⟨49, []⟩) Tryz.func9 rfl ⟨rfl, rfl⟩ rfl (St.begin (All.cons (x := slP k_api_Value v_op_1_Args op_1.Args) h0 (All.cons (x := slP (kInt .u8) v_op_1_Bytes op_1.Bytes) h1 (All.nil _)))) ?_
  have ho := H
  refine CP.seq ?_
  refine CP.region ?_
  refine SP.box (cs := [.bool false, (.slice none 0 0), (.slice none 0 0), (.slice none 0 0), .int .i64 0, (.slice none 0 0), (.slice none 0 0)]) rfl rfl rfl rfl (fun b3 => ?_)
  refine SP.box (cs := [.int .u8 op_1.Kind, .int .i64 op_1.Method, v_op_1_Args, v_op_1_Bytes]) rfl rfl rfl rfl (fun b5 => ?_)
  refine SP.alloc (cs := [.bool false, (.slice none 0 0), (.slice none 0 0), (.slice none 0 0), .int .i64 0, (.slice none 0 0), (.slice none 0 0)]) inf32 rfl rfl (fun b7 => ?_)
  refine SP.alloc (cs := [.int .i64 0, .int .i64 0, .int .u8 0, .int .i64 0, .int .i64 0]) inf39 rfl rfl (fun b9 => ?_)
  refine SP.nil ?_
  refine QE.then ?_
  refine CP.seq ?_
  refine CP.seq ?_
  refine CP.region ?_
  refine SP.val (Val.loadA 3 rfl Tryz.underlying32 rfl sz32 rfl rfl rfl) rfl rfl rfl ?_
  refine SP.val (Val.loadA 2 rfl Tryz.underlying25 rfl sz25 rfl rfl rfl) rfl rfl rfl ?_
  obtain ⟨t11, hc, ho⟩ := bind_some (x := object_Object_fits_s1.f op_1) ho
  refine SP.callV see (caps := []) (.int .i64 1) fn51 rfl rfl rfl rfl (fun w2 hP hs sub ap => object_Object_fits_s1.ok op_1 _ _ _ hc w2 hP sub (ap.get 0 rfl) (ap.get 1 rfl)) ?_
  clear hc
  refine SP.val (Val.assign rfl) rfl rfl rfl ?_
  refine SP.nil ?_
  refine QE.then ?_
  refine CP.seq ?_
  refine CP.region ?_
  refine SP.val (Val.move rfl) rfl rfl rfl ?_
  refine SP.val (Val.cast (v := .bool true) (Val.neq rfl rfl) rfl) rfl rfl rfl ?_
  refine SP.nil ?_
  refine QE.then ?_
  refine CP.condT rfl rfl ?_
  refine CP.seq ?_
  refine CP.region ?_
  refine SP.val (Val.loadA 3 rfl Tryz.underlying32 rfl sz32 rfl rfl rfl) rfl rfl rfl ?_
  refine SP.val (Val.move rfl) rfl rfl rfl ?_
  refine SP.val (Val.buildC (us := [(0, .int .i64 1)]) (ucs := [(0, [.int .i64 1])]) (cs := [.int .i64 1, .int .i64 0, .int .u8 0, .int .i64 0, .int .i64 0]) bt39 rfl rfl ⟨rfl, rfl, trivial⟩ (by rfl)) rfl rfl rfl ?_
  refine SP.store (v := .agg #[.bool false, (.slice none 0 0), (.slice none 0 0), (.slice none 0 0), .int .i64 0, (.slice none 0 0), (.slice none 0 0)]) (vs := [.bool false, (.slice none 0 0), (.slice none 0 0), (.slice none 0 0), .int .i64 0, (.slice none 0 0), (.slice none 0 0)]) 1 (by rfl) sz32 (by rfl) (by rfl) (by rfl) (by rfl) (by rfl) (by rfl) ?_
  refine SP.store (v := .agg #[.int .i64 1, .int .i64 0, .int .u8 0, .int .i64 0, .int .i64 0]) (vs := [.int .i64 1, .int .i64 0, .int .u8 0, .int .i64 0, .int .i64 0]) 0 (by rfl) sz39 (by rfl) (by rfl) (by rfl) (by rfl) (by rfl) (by rfl) ?_
  refine SP.nil ?_
  refine QE.then ?_
  refine CP.ret ?_
  refine QE.thru (by intro e; cases e) ?_
  obtain rfl := Option.some.inj ho
  exact QE.rets (rs := [.cell 4 32, .cell 5 39]) (vs := [.agg #[.bool false, (.slice none 0 0), (.slice none 0 0), (.slice none 0 0), .int .i64 0, (.slice none 0 0), (.slice none 0 0)], .agg #[.int .i64 1, .int .i64 0, .int .u8 0, .int .i64 0, .int .i64 0]]) Tryz.results9 rfl ⟨RVs.cellA 1 rfl rfl Tryz.underlying32 rfl sz32, RVs.cellA 0 rfl rfl Tryz.underlying39 rfl sz39, trivial⟩ (fun w2 h => St.done (fun a b p s => rfl) h)
/-! ### (capstan/object.Object).Upgrade: function 10 -/
def object_Object_Upgrade_s1.f (op_1 : api_Op) : Option Unit :=
  some ()
theorem object_Object_Upgrade_s1.ok (op_1 : api_Op) (v_op_1_Args : Value) (v_op_1_Bytes : Value) (r : Unit) (H : object_Object_Upgrade_s1.f op_1 = some r) (w : World) (hV : Hp) (sV : Sub hV (hp w)) (h0 : slR k_api_Value hV v_op_1_Args op_1.Args) (h1 : slR (kInt .u8) hV v_op_1_Bytes op_1.Bytes) :
    Trip Tryz.prog 10 [.agg #[.bool false, (.slice none 0 0), (.slice none 0 0), (.slice none 0 0), .int .i64 0, (.slice none 0 0), (.slice none 0 0)], .agg #[.int .u8 op_1.Kind, .int .i64 op_1.Method, v_op_1_Args, v_op_1_Bytes]].toArray em hV w (fun v => HO.pure (v = .tuple #[.agg #[.bool false, (.slice none 0 0), (.slice none 0 0), (.slice none 0 0), .int .i64 0, (.slice none 0 0), (.slice none 0 0)], .agg #[.int .i64 1, .int .i64 0, .int .u8 0, .int .i64 0, .int .i64 0]])) := by
  have see : Sees w em hV := ⟨sV, Dj.em_right _⟩
  refine Trip.of (P := Tryz.prog) (n := ⟨81, []⟩) Tryz.func10 rfl ⟨rfl, rfl⟩ rfl (St.begin (All.cons (x := slP k_api_Value v_op_1_Args op_1.Args) h0 (All.cons (x := slP (kInt .u8) v_op_1_Bytes op_1.Bytes) h1 (All.nil _)))) ?_
  have ho := H
  refine CP.seq ?_
  refine CP.region ?_
  refine SP.box (cs := [.bool false, (.slice none 0 0), (.slice none 0 0), (.slice none 0 0), .int .i64 0, (.slice none 0 0), (.slice none 0 0)]) rfl rfl rfl rfl (fun b3 => ?_)
  refine SP.box (cs := [.int .u8 op_1.Kind, .int .i64 op_1.Method, v_op_1_Args, v_op_1_Bytes]) rfl rfl rfl rfl (fun b5 => ?_)
  refine SP.alloc (cs := [.bool false, (.slice none 0 0), (.slice none 0 0), (.slice none 0 0), .int .i64 0, (.slice none 0 0), (.slice none 0 0)]) inf32 rfl rfl (fun b7 => ?_)
  refine SP.alloc (cs := [.int .i64 0, .int .i64 0, .int .u8 0, .int .i64 0, .int .i64 0]) inf39 rfl rfl (fun b9 => ?_)
  refine SP.nil ?_
  refine QE.then ?_
  refine CP.seq ?_
  refine CP.block ?_
  refine CP.seq ?_
  refine CP.region ?_
  refine SP.val (Val.fieldAddr Tryz.underlying32 rfl sz4 rfl) rfl rfl rfl ?_
  refine SP.val (Val.load1 3 rfl Tryz.underlying4 rfl rfl rfl) rfl rfl rfl ?_
  refine SP.val (Val.cast (v := .bool true) (Val.notB rfl) rfl) rfl rfl rfl ?_
  refine SP.val (Val.assign rfl) rfl rfl rfl ?_
  refine SP.nil ?_
  refine QE.then ?_
  refine CP.condT rfl rfl ?_
  refine CP.seq ?_
  refine CP.region ?_
  refine SP.val (Val.loadA 3 rfl Tryz.underlying32 rfl sz32 rfl rfl rfl) rfl rfl rfl ?_
  refine SP.val (Val.buildC (us := [(0, .int .i64 1)]) (ucs := [(0, [.int .i64 1])]) (cs := [.int .i64 1, .int .i64 0, .int .u8 0, .int .i64 0, .int .i64 0]) bt39 rfl rfl ⟨rfl, rfl, trivial⟩ (by rfl)) rfl rfl rfl ?_
  refine SP.store (v := .agg #[.bool false, (.slice none 0 0), (.slice none 0 0), (.slice none 0 0), .int .i64 0, (.slice none 0 0), (.slice none 0 0)]) (vs := [.bool false, (.slice none 0 0), (.slice none 0 0), (.slice none 0 0), .int .i64 0, (.slice none 0 0), (.slice none 0 0)]) 1 (by rfl) sz32 (by rfl) (by rfl) (by rfl) (by rfl) (by rfl) (by rfl) ?_
  refine SP.store (v := .agg #[.int .i64 1, .int .i64 0, .int .u8 0, .int .i64 0, .int .i64 0]) (vs := [.int .i64 1, .int .i64 0, .int .u8 0, .int .i64 0, .int .i64 0]) 0 (by rfl) sz39 (by rfl) (by rfl) (by rfl) (by rfl) (by rfl) (by rfl) ?_
  refine SP.nil ?_
  refine QE.then ?_
  refine CP.ret ?_
  refine QE.blockR ?_
  refine QE.thru (by intro e; cases e) ?_
  obtain rfl := Option.some.inj ho
  exact QE.rets (rs := [.cell 4 32, .cell 5 39]) (vs := [.agg #[.bool false, (.slice none 0 0), (.slice none 0 0), (.slice none 0 0), .int .i64 0, (.slice none 0 0), (.slice none 0 0)], .agg #[.int .i64 1, .int .i64 0, .int .u8 0, .int .i64 0, .int .i64 0]]) Tryz.results10 rfl ⟨RVs.cellA 1 rfl rfl Tryz.underlying32 rfl sz32, RVs.cellA 0 rfl rfl Tryz.underlying39 rfl sz39, trivial⟩ (fun w2 h => St.done (fun a b p s => rfl) h)
/-! ### capstan/object.does: function 57 -/
def object_does.f  : Option Unit :=
  some ()
theorem object_does.ok   (r : Unit) (H : object_does.f  = some r) (w : World) (hV : Hp) (sV : Sub hV (hp w))  :
    Trip Tryz.prog 57 [].toArray em hV w (fun v => HO.pure (v = .agg #[.nilFunc, .func (.func 9) #[] #[], .func (.func 10) #[] #[]])) := by
  have see : Sees w em hV := ⟨sV, Dj.em_right _⟩
  refine Trip.of (P := Tryz.prog) (n := ⟨2, []⟩) Tryz.func57 rfl ⟨rfl, rfl⟩ rfl (St.begin (All.nil _)) ?_
  have ho := H
  refine CP.seq ?_
  refine CP.region ?_
  refine SP.alloc (cs := [.nilFunc, .nilFunc, .nilFunc]) inf124 rfl rfl (fun b1 => ?_)
  refine SP.nil ?_
  refine QE.then ?_
  refine CP.seq ?_
  refine CP.region ?_
  refine SP.val (Val.buildC (us := [(1, .func (.func 9) #[] #[]), (2, .func (.func 10) #[] #[])]) (ucs := [(1, [.func (.func 9) #[] #[]]), (2, [.func (.func 10) #[] #[]])]) (cs := [.nilFunc, .func (.func 9) #[] #[], .func (.func 10) #[] #[]]) bt124 rfl rfl ⟨rfl, rfl, ⟨rfl, rfl, trivial⟩⟩ (by rfl)) rfl rfl rfl ?_
  refine SP.store (v := .agg #[.nilFunc, .func (.func 9) #[] #[], .func (.func 10) #[] #[]]) (vs := [.nilFunc, .func (.func 9) #[] #[], .func (.func 10) #[] #[]]) 0 (by rfl) sz124 (by rfl) (by rfl) (by rfl) (by rfl) (by rfl) (by rfl) ?_
  refine SP.nil ?_
  refine QE.then ?_
  refine CP.ret ?_
  obtain rfl := Option.some.inj ho
  exact QE.rets (rs := [.cell 0 124]) (vs := [.agg #[.nilFunc, .func (.func 9) #[] #[], .func (.func 10) #[] #[]]]) Tryz.results57 rfl ⟨RVs.cellA 0 rfl rfl Tryz.underlying124 rfl sz124, trivial⟩ (fun w2 h => St.done (fun a b p s => rfl) h)
/-! ### (capstan/object.Object).Do: function 11 -/
def object_Object_Do_s1.f (op_1 : api_Op) : Option Unit :=
  (object_does.f ).bind fun t11 => some ()
theorem object_Object_Do_s1.ok (op_1 : api_Op) (v_op_1_Args : Value) (v_op_1_Bytes : Value) (r : Unit) (H : object_Object_Do_s1.f op_1 = some r) (w : World) (hV : Hp) (sV : Sub hV (hp w)) (h0 : slR k_api_Value hV v_op_1_Args op_1.Args) (h1 : slR (kInt .u8) hV v_op_1_Bytes op_1.Bytes) :
    Trip Tryz.prog 11 [.agg #[.bool false, (.slice none 0 0), (.slice none 0 0), (.slice none 0 0), .int .i64 0, (.slice none 0 0), (.slice none 0 0)], .agg #[.int .u8 op_1.Kind, .int .i64 op_1.Method, v_op_1_Args, v_op_1_Bytes]].toArray em hV w (fun v => HO.pure (v = .tuple #[.agg #[.bool false, (.slice none 0 0), (.slice none 0 0), (.slice none 0 0), .int .i64 0, (.slice none 0 0), (.slice none 0 0)], .agg #[.int .i64 1, .int .i64 0, .int .u8 0, .int .i64 0, .int .i64 0]])) := by
  have see : Sees w em hV := ⟨sV, Dj.em_right _⟩
  refine Trip.of (P := Tryz.prog) (n := ⟨37, []⟩) Tryz.func11 rfl ⟨rfl, rfl⟩ rfl (St.begin (All.cons (x := slP k_api_Value v_op_1_Args op_1.Args) h0 (All.cons (x := slP (kInt .u8) v_op_1_Bytes op_1.Bytes) h1 (All.nil _)))) ?_
  have ho := H
  refine CP.seq ?_
  refine CP.region ?_
  refine SP.box (cs := [.bool false, (.slice none 0 0), (.slice none 0 0), (.slice none 0 0), .int .i64 0, (.slice none 0 0), (.slice none 0 0)]) rfl rfl rfl rfl (fun b3 => ?_)
  refine SP.box (cs := [.int .u8 op_1.Kind, .int .i64 op_1.Method, v_op_1_Args, v_op_1_Bytes]) rfl rfl rfl rfl (fun b5 => ?_)
  refine SP.alloc (cs := [.bool false, (.slice none 0 0), (.slice none 0 0), (.slice none 0 0), .int .i64 0, (.slice none 0 0), (.slice none 0 0)]) inf32 rfl rfl (fun b7 => ?_)
  refine SP.alloc (cs := [.int .i64 0, .int .i64 0, .int .u8 0, .int .i64 0, .int .i64 0]) inf39 rfl rfl (fun b9 => ?_)
  refine SP.nil ?_
  refine QE.then ?_
  refine CP.seq ?_
  refine CP.region ?_
  obtain ⟨t11, hc, ho⟩ := bind_some (x := object_does.f ) ho
  refine SP.callV see (caps := []) (.agg #[.nilFunc, .func (.func 9) #[] #[], .func (.func 10) #[] #[]]) fn57 rfl rfl rfl rfl (fun w2 hP hs sub ap => object_does.ok   _ hc w2 hP sub ) ?_
  clear hc
  refine SP.alloc (cs := [.nilFunc, .nilFunc, .nilFunc]) inf124 rfl rfl (fun b12 => ?_)
  refine SP.store (v := .agg #[.nilFunc, .func (.func 9) #[] #[], .func (.func 10) #[] #[]]) (vs := [.nilFunc, .func (.func 9) #[] #[], .func (.func 10) #[] #[]]) 0 (by rfl) sz124 (by rfl) (by rfl) (by rfl) (by rfl) (by rfl) (by rfl) ?_
  refine SP.nil ?_
  refine QE.then ?_
  refine CP.seq ?_
  refine CP.block ?_
  refine CP.seq ?_
  refine CP.region ?_
  refine SP.val (Val.fieldAddr Tryz.underlying32 rfl sz4 rfl) rfl rfl rfl ?_
  refine SP.val (Val.load1 4 rfl Tryz.underlying4 rfl rfl rfl) rfl rfl rfl ?_
  refine SP.val (Val.cast (v := .bool true) (Val.notB rfl) rfl) rfl rfl rfl ?_
  refine SP.val (Val.assign rfl) rfl rfl rfl ?_
  refine SP.nil ?_
  refine QE.then ?_
  refine CP.condT rfl rfl ?_
  refine CP.seq ?_
  refine CP.region ?_
  refine SP.val (Val.loadA 4 rfl Tryz.underlying32 rfl sz32 rfl rfl rfl) rfl rfl rfl ?_
  refine SP.val (Val.buildC (us := [(0, .int .i64 1)]) (ucs := [(0, [.int .i64 1])]) (cs := [.int .i64 1, .int .i64 0, .int .u8 0, .int .i64 0, .int .i64 0]) bt39 rfl rfl ⟨rfl, rfl, trivial⟩ (by rfl)) rfl rfl rfl ?_
  refine SP.store (v := .agg #[.bool false, (.slice none 0 0), (.slice none 0 0), (.slice none 0 0), .int .i64 0, (.slice none 0 0), (.slice none 0 0)]) (vs := [.bool false, (.slice none 0 0), (.slice none 0 0), (.slice none 0 0), .int .i64 0, (.slice none 0 0), (.slice none 0 0)]) 2 (by rfl) sz32 (by rfl) (by rfl) (by rfl) (by rfl) (by rfl) (by rfl) ?_
  refine SP.store (v := .agg #[.int .i64 1, .int .i64 0, .int .u8 0, .int .i64 0, .int .i64 0]) (vs := [.int .i64 1, .int .i64 0, .int .u8 0, .int .i64 0, .int .i64 0]) 1 (by rfl) sz39 (by rfl) (by rfl) (by rfl) (by rfl) (by rfl) (by rfl) ?_
  refine SP.nil ?_
  refine QE.then ?_
  refine CP.ret ?_
  refine QE.blockR ?_
  refine QE.thru (by intro e; cases e) ?_
  obtain rfl := Option.some.inj ho
  exact QE.rets (rs := [.cell 4 32, .cell 5 39]) (vs := [.agg #[.bool false, (.slice none 0 0), (.slice none 0 0), (.slice none 0 0), .int .i64 0, (.slice none 0 0), (.slice none 0 0)], .agg #[.int .i64 1, .int .i64 0, .int .u8 0, .int .i64 0, .int .i64 0]]) Tryz.results11 rfl ⟨RVs.cellA 2 rfl rfl Tryz.underlying32 rfl sz32, RVs.cellA 1 rfl rfl Tryz.underlying39 rfl sz39, trivial⟩ (fun w2 h => St.done (fun a b p s => rfl) h)
/-! ### (capstan/object.Object).Read: function 12 -/
def object_Object_Read_s1.f (op_1 : api_Op) : Option Unit :=
  (object_Object_fits_s1.f op_1).bind fun t9 => some ()
theorem object_Object_Read_s1.ok (op_1 : api_Op) (v_op_1_Args : Value) (v_op_1_Bytes : Value) (r : Unit) (H : object_Object_Read_s1.f op_1 = some r) (w : World) (hV : Hp) (sV : Sub hV (hp w)) (h0 : slR k_api_Value hV v_op_1_Args op_1.Args) (h1 : slR (kInt .u8) hV v_op_1_Bytes op_1.Bytes) :
    Trip Tryz.prog 12 [.agg #[.bool false, (.slice none 0 0), (.slice none 0 0), (.slice none 0 0), .int .i64 0, (.slice none 0 0), (.slice none 0 0)], .agg #[.int .u8 op_1.Kind, .int .i64 op_1.Method, v_op_1_Args, v_op_1_Bytes]].toArray em hV w (fun v => HO.pure (v = .agg #[.int .i64 1, .int .i64 0, .int .u8 0, .int .i64 0, .int .i64 0])) := by
  have see : Sees w em hV := ⟨sV, Dj.em_right _⟩
  refine Trip.of (P := Tryz.prog) (n := ⟨32, []⟩) Tryz.func12 rfl ⟨rfl, rfl⟩ rfl (St.begin (All.cons (x := slP k_api_Value v_op_1_Args op_1.Args) h0 (All.cons (x := slP (kInt .u8) v_op_1_Bytes op_1.Bytes) h1 (All.nil _)))) ?_
  have ho := H
  refine CP.seq ?_
  refine CP.region ?_
  refine SP.box (cs := [.bool false, (.slice none 0 0), (.slice none 0 0), (.slice none 0 0), .int .i64 0, (.slice none 0 0), (.slice none 0 0)]) rfl rfl rfl rfl (fun b3 => ?_)
  refine SP.box (cs := [.int .u8 op_1.Kind, .int .i64 op_1.Method, v_op_1_Args, v_op_1_Bytes]) rfl rfl rfl rfl (fun b5 => ?_)
  refine SP.alloc (cs := [.int .i64 0, .int .i64 0, .int .u8 0, .int .i64 0, .int .i64 0]) inf39 rfl rfl (fun b7 => ?_)
  refine SP.nil ?_
  refine QE.then ?_
  refine CP.seq ?_
  refine CP.seq ?_
  refine CP.region ?_
  refine SP.val (Val.loadA 2 rfl Tryz.underlying32 rfl sz32 rfl rfl rfl) rfl rfl rfl ?_
  refine SP.val (Val.loadA 1 rfl Tryz.underlying25 rfl sz25 rfl rfl rfl) rfl rfl rfl ?_
  obtain ⟨t9, hc, ho⟩ := bind_some (x := object_Object_fits_s1.f op_1) ho
  refine SP.callV see (caps := []) (.int .i64 1) fn51 rfl rfl rfl rfl (fun w2 hP hs sub ap => object_Object_fits_s1.ok op_1 _ _ _ hc w2 hP sub (ap.get 0 rfl) (ap.get 1 rfl)) ?_
  clear hc
  refine SP.val (Val.assign rfl) rfl rfl rfl ?_
  refine SP.nil ?_
  refine QE.then ?_
  refine CP.seq ?_
  refine CP.region ?_
  refine SP.val (Val.move rfl) rfl rfl rfl ?_
  refine SP.val (Val.cast (v := .bool true) (Val.neq rfl rfl) rfl) rfl rfl rfl ?_
  refine SP.nil ?_
  refine QE.then ?_
  refine CP.condT rfl rfl ?_
  refine CP.seq ?_
  refine CP.region ?_
  refine SP.val (Val.move rfl) rfl rfl rfl ?_
  refine SP.val (Val.buildC (us := [(0, .int .i64 1)]) (ucs := [(0, [.int .i64 1])]) (cs := [.int .i64 1, .int .i64 0, .int .u8 0, .int .i64 0, .int .i64 0]) bt39 rfl rfl ⟨rfl, rfl, trivial⟩ (by rfl)) rfl rfl rfl ?_
  refine SP.store (v := .agg #[.int .i64 1, .int .i64 0, .int .u8 0, .int .i64 0, .int .i64 0]) (vs := [.int .i64 1, .int .i64 0, .int .u8 0, .int .i64 0, .int .i64 0]) 0 (by rfl) sz39 (by rfl) (by rfl) (by rfl) (by rfl) (by rfl) (by rfl) ?_
  refine SP.nil ?_
  refine QE.then ?_
  refine CP.ret ?_
  refine QE.thru (by intro e; cases e) ?_
  obtain rfl := Option.some.inj ho
  exact QE.rets (rs := [.cell 4 39]) (vs := [.agg #[.int .i64 1, .int .i64 0, .int .u8 0, .int .i64 0, .int .i64 0]]) Tryz.results12 rfl ⟨RVs.cellA 0 rfl rfl Tryz.underlying39 rfl sz39, trivial⟩ (fun w2 h => St.done (fun a b p s => rfl) h)
/-! ### slices.Equal[[]capstan/api.Value,capstan/api.Value]: function 60 -/
def slices_Equal_api_Value_api_Value_s1.f  : Option Unit :=
  some ()
theorem slices_Equal_api_Value_api_Value_s1.ok   (r : Unit) (H : slices_Equal_api_Value_api_Value_s1.f  = some r) (w : World) (hV : Hp) (sV : Sub hV (hp w))  :
    Trip Tryz.prog 60 [(.slice none 0 0), (.slice none 0 0)].toArray em hV w (fun v => HO.pure (v = .bool true)) := by
  have see : Sees w em hV := ⟨sV, Dj.em_right _⟩
  refine Trip.of (P := Tryz.prog) (n := ⟨26, []⟩) Tryz.func60 rfl ⟨rfl, rfl⟩ rfl (St.begin (All.nil _)) ?_
  have ho := H
  refine CP.seq ?_
  refine CP.region ?_
  refine SP.val (Val.assign rfl) rfl rfl rfl ?_
  refine SP.nil ?_
  refine QE.then ?_
  refine CP.seq ?_
  refine CP.seq ?_
  refine CP.region ?_
  refine SP.val (Val.move rfl) rfl rfl rfl ?_
  refine SP.val (Val.lenN Tryz.underlying22 rfl) rfl rfl rfl ?_
  refine SP.val (Val.move rfl) rfl rfl rfl ?_
  refine SP.val (Val.lenN Tryz.underlying22 rfl) rfl rfl rfl ?_
  refine SP.val (Val.cast (v := .bool false) (Val.neq rfl rfl) rfl) rfl rfl rfl ?_
  refine SP.nil ?_
  refine QE.then ?_
  refine CP.condF rfl rfl ?_
  refine CP.skip ?_
  refine QE.then ?_
  refine CP.seq ?_
  refine CP.seq ?_
  refine CP.region ?_
  refine SP.val (Val.move rfl) rfl rfl rfl ?_
  refine SP.val (Val.lenN Tryz.underlying22 rfl) rfl rfl rfl ?_
  refine SP.val (Val.move rfl) rfl rfl rfl ?_
  refine SP.nil ?_
  refine QE.then ?_
  refine CP.block ?_
  refine CP.rounds 2 ?_
  refine LP.step ?_
  refine CP.seq ?_
  refine CP.region ?_
  refine SP.val (Val.cast (v := .bool false) (Val.lss rfl rfl) rfl) rfl rfl rfl ?_
  refine SP.nil ?_
  refine QE.then ?_
  refine CP.seq ?_
  refine CP.condF rfl rfl ?_
  refine CP.exit ?_
  refine QE.thru (by intro e; cases e) ?_
  refine QE.thru (by intro e; cases e) ?_
  refine QE.blockE ?_
  refine QE.then ?_
  refine CP.seq ?_
  refine CP.region ?_
  refine SP.val (Val.assign rfl) rfl rfl rfl ?_
  refine SP.nil ?_
  refine QE.then ?_
  refine CP.ret ?_
  obtain rfl := Option.some.inj ho
  exact QE.rets (rs := [.tmp 4]) (vs := [.bool true]) Tryz.results60 rfl ⟨RVs.tmp rfl, trivial⟩ (fun w2 h => St.done (fun a b p s => rfl) h)
/-! ### slices.EqualFunc[[]capstan/api.Method,[]capstan/api.Method,capstan/api.Method,capstan/api.Method]: function 61 -/
def slices_EqualFunc_api_Method_api_Method_api_Method_api_Method_s1.f  : Option Unit :=
  some ()
theorem slices_EqualFunc_api_Method_api_Method_api_Method_api_Method_s1.ok   (r : Unit) (H : slices_EqualFunc_api_Method_api_Method_api_Method_api_Method_s1.f  = some r) (w : World) (hV : Hp) (sV : Sub hV (hp w))  :
    Trip Tryz.prog 61 [(.slice none 0 0), (.slice none 0 0), .func (.func 58) #[] #[]].toArray em hV w (fun v => HO.pure (v = .bool true)) := by
  have see : Sees w em hV := ⟨sV, Dj.em_right _⟩
  refine Trip.of (P := Tryz.prog) (n := ⟨32, []⟩) Tryz.func61 rfl ⟨rfl, rfl⟩ rfl (St.begin (All.nil _)) ?_
  have ho := H
  refine CP.seq ?_
  refine CP.region ?_
  refine SP.val (Val.assign rfl) rfl rfl rfl ?_
  refine SP.nil ?_
  refine QE.then ?_
  refine CP.seq ?_
  refine CP.seq ?_
  refine CP.region ?_
  refine SP.val (Val.move rfl) rfl rfl rfl ?_
  refine SP.val (Val.lenN Tryz.underlying27 rfl) rfl rfl rfl ?_
  refine SP.val (Val.move rfl) rfl rfl rfl ?_
  refine SP.val (Val.lenN Tryz.underlying27 rfl) rfl rfl rfl ?_
  refine SP.val (Val.cast (v := .bool false) (Val.neq rfl rfl) rfl) rfl rfl rfl ?_
  refine SP.nil ?_
  refine QE.then ?_
  refine CP.condF rfl rfl ?_
  refine CP.skip ?_
  refine QE.then ?_
  refine CP.seq ?_
  refine CP.seq ?_
  refine CP.region ?_
  refine SP.val (Val.move rfl) rfl rfl rfl ?_
  refine SP.val (Val.lenN Tryz.underlying27 rfl) rfl rfl rfl ?_
  refine SP.val (Val.move rfl) rfl rfl rfl ?_
  refine SP.nil ?_
  refine QE.then ?_
  refine CP.block ?_
  refine CP.rounds 2 ?_
  refine LP.step ?_
  refine CP.seq ?_
  refine CP.region ?_
  refine SP.val (Val.cast (v := .bool false) (Val.lss rfl rfl) rfl) rfl rfl rfl ?_
  refine SP.nil ?_
  refine QE.then ?_
  refine CP.seq ?_
  refine CP.condF rfl rfl ?_
  refine CP.exit ?_
  refine QE.thru (by intro e; cases e) ?_
  refine QE.thru (by intro e; cases e) ?_
  refine QE.blockE ?_
  refine QE.then ?_
  refine CP.seq ?_
  refine CP.region ?_
  refine SP.val (Val.assign rfl) rfl rfl rfl ?_
  refine SP.nil ?_
  refine QE.then ?_
  refine CP.ret ?_
  obtain rfl := Option.some.inj ho
  exact QE.rets (rs := [.tmp 6]) (vs := [.bool true]) Tryz.results61 rfl ⟨RVs.tmp rfl, trivial⟩ (fun w2 h => St.done (fun a b p s => rfl) h)
/-! ### capstan/state.Same: function 62 -/
def state_Same_s1.f  : Option Unit :=
  (slices_Equal_api_Value_api_Value_s1.f ).bind fun t1 => some ()
theorem state_Same_s1.ok   (r : Unit) (H : state_Same_s1.f  = some r) (w : World) (hV : Hp) (sV : Sub hV (hp w))  :
    Trip Tryz.prog 62 [(.slice none 0 0), (.slice none 0 0)].toArray em hV w (fun v => HO.pure (v = .bool true)) := by
  have see : Sees w em hV := ⟨sV, Dj.em_right _⟩
  refine Trip.of (P := Tryz.prog) (n := ⟨8, []⟩) Tryz.func62 rfl ⟨rfl, rfl⟩ rfl (St.begin (All.nil _)) ?_
  have ho := H
  refine CP.seq ?_
  refine CP.region ?_
  refine SP.val (Val.assign rfl) rfl rfl rfl ?_
  refine SP.nil ?_
  refine QE.then ?_
  refine CP.seq ?_
  refine CP.region ?_
  refine SP.val (Val.move rfl) rfl rfl rfl ?_
  refine SP.val (Val.move rfl) rfl rfl rfl ?_
  obtain ⟨t1, hc, ho⟩ := bind_some (x := slices_Equal_api_Value_api_Value_s1.f ) ho
  refine SP.callV see (caps := []) (.bool true) fn60 rfl rfl rfl rfl (fun w2 hP hs sub ap => slices_Equal_api_Value_api_Value_s1.ok   _ hc w2 hP sub ) ?_
  clear hc
  refine SP.val (Val.assign rfl) rfl rfl rfl ?_
  refine SP.nil ?_
  refine QE.then ?_
  refine CP.ret ?_
  obtain rfl := Option.some.inj ho
  exact QE.rets (rs := [.tmp 4]) (vs := [.bool true]) Tryz.results62 rfl ⟨RVs.tmp rfl, trivial⟩ (fun w2 h => St.done (fun a b p s => rfl) h)
/-! ### capstan/object.Same: function 13 -/
def object_Same_s1.f  : Option Unit :=
  (slices_Equal_api_Value_api_Value_s1.f ).bind fun t5 => (slices_Equal_api_Value_api_Value_s1.f ).bind fun t6 => (slices_EqualFunc_api_Method_api_Method_api_Method_api_Method_s1.f ).bind fun t7 => (state_Same_s1.f ).bind fun t8 => some ()
theorem object_Same_s1.ok   (r : Unit) (H : object_Same_s1.f  = some r) (w : World) (hV : Hp) (sV : Sub hV (hp w))  :
    Trip Tryz.prog 13 [.agg #[.bool false, (.slice none 0 0), (.slice none 0 0), (.slice none 0 0), .int .i64 0, (.slice none 0 0), (.slice none 0 0)], .agg #[.bool false, (.slice none 0 0), (.slice none 0 0), (.slice none 0 0), .int .i64 0, (.slice none 0 0), (.slice none 0 0)]].toArray em hV w (fun v => HO.pure (v = .bool true)) := by
  have see : Sees w em hV := ⟨sV, Dj.em_right _⟩
  refine Trip.of (P := Tryz.prog) (n := ⟨55, []⟩) Tryz.func13 rfl ⟨rfl, rfl⟩ rfl (St.begin (All.nil _)) ?_
  have ho := H
  refine CP.seq ?_
  refine CP.region ?_
  refine SP.box (cs := [.bool false, (.slice none 0 0), (.slice none 0 0), (.slice none 0 0), .int .i64 0, (.slice none 0 0), (.slice none 0 0)]) rfl rfl rfl rfl (fun b1 => ?_)
  refine SP.box (cs := [.bool false, (.slice none 0 0), (.slice none 0 0), (.slice none 0 0), .int .i64 0, (.slice none 0 0), (.slice none 0 0)]) rfl rfl rfl rfl (fun b3 => ?_)
  refine SP.val (Val.assign rfl) rfl rfl rfl ?_
  refine SP.nil ?_
  refine QE.then ?_
  refine CP.seq ?_
  refine CP.region ?_
  refine SP.val (Val.assign rfl) rfl rfl rfl ?_
  refine SP.nil ?_
  refine QE.then ?_
  refine CP.seq ?_
  refine CP.region ?_
  refine SP.val (Val.fieldAddr Tryz.underlying32 rfl sz4 rfl) rfl rfl rfl ?_
  refine SP.val (Val.load1 1 rfl Tryz.underlying4 rfl rfl rfl) rfl rfl rfl ?_
  refine SP.val (Val.fieldAddr Tryz.underlying32 rfl sz4 rfl) rfl rfl rfl ?_
  refine SP.val (Val.load1 0 rfl Tryz.underlying4 rfl rfl rfl) rfl rfl rfl ?_
  refine SP.val (Val.cast (v := .bool true) (Val.eqlB Tryz.underlying4 rfl rfl) rfl) rfl rfl rfl ?_
  refine SP.val (Val.move rfl) rfl rfl rfl ?_
  refine SP.val (Val.fieldAddr Tryz.underlying32 rfl sz29 rfl) rfl rfl rfl ?_
  refine SP.val (Val.fieldAddr Tryz.underlying29 rfl sz3 rfl) rfl rfl rfl ?_
  refine SP.val (Val.load1 1 rfl Tryz.underlying3 rfl rfl rfl) rfl rfl rfl ?_
  refine SP.val (Val.fieldAddr Tryz.underlying32 rfl sz29 rfl) rfl rfl rfl ?_
  refine SP.val (Val.fieldAddr Tryz.underlying29 rfl sz3 rfl) rfl rfl rfl ?_
  refine SP.val (Val.load1 0 rfl Tryz.underlying3 rfl rfl rfl) rfl rfl rfl ?_
  refine SP.val (Val.cast (v := .bool true) (Val.eql rfl rfl) rfl) rfl rfl rfl ?_
  refine SP.val (Val.pickT rfl rfl) rfl rfl rfl ?_
  refine SP.val (Val.move rfl) rfl rfl rfl ?_
  refine SP.val (Val.fieldAddr Tryz.underlying32 rfl sz29 rfl) rfl rfl rfl ?_
  refine SP.val (Val.fieldAddr Tryz.underlying29 rfl sz22 rfl) rfl rfl rfl ?_
  refine SP.val (Val.load1 1 rfl Tryz.underlying22 rfl rfl rfl) rfl rfl rfl ?_
  refine SP.val (Val.fieldAddr Tryz.underlying32 rfl sz29 rfl) rfl rfl rfl ?_
  refine SP.val (Val.fieldAddr Tryz.underlying29 rfl sz22 rfl) rfl rfl rfl ?_
  refine SP.val (Val.load1 0 rfl Tryz.underlying22 rfl rfl rfl) rfl rfl rfl ?_
  obtain ⟨t5, hc, ho⟩ := bind_some (x := slices_Equal_api_Value_api_Value_s1.f ) ho
  refine SP.callV see (caps := []) (.bool true) fn60 rfl rfl rfl rfl (fun w2 hP hs sub ap => slices_Equal_api_Value_api_Value_s1.ok   _ hc w2 hP sub ) ?_
  clear hc
  refine SP.val (Val.pickT rfl rfl) rfl rfl rfl ?_
  refine SP.val (Val.move rfl) rfl rfl rfl ?_
  refine SP.val (Val.fieldAddr Tryz.underlying32 rfl sz29 rfl) rfl rfl rfl ?_
  refine SP.val (Val.fieldAddr Tryz.underlying29 rfl sz22 rfl) rfl rfl rfl ?_
  refine SP.val (Val.load1 1 rfl Tryz.underlying22 rfl rfl rfl) rfl rfl rfl ?_
  refine SP.val (Val.fieldAddr Tryz.underlying32 rfl sz29 rfl) rfl rfl rfl ?_
  refine SP.val (Val.fieldAddr Tryz.underlying29 rfl sz22 rfl) rfl rfl rfl ?_
  refine SP.val (Val.load1 0 rfl Tryz.underlying22 rfl rfl rfl) rfl rfl rfl ?_
  obtain ⟨t6, hc, ho⟩ := bind_some (x := slices_Equal_api_Value_api_Value_s1.f ) ho
  refine SP.callV see (caps := []) (.bool true) fn60 rfl rfl rfl rfl (fun w2 hP hs sub ap => slices_Equal_api_Value_api_Value_s1.ok   _ hc w2 hP sub ) ?_
  clear hc
  refine SP.val (Val.pickT rfl rfl) rfl rfl rfl ?_
  refine SP.val (Val.move rfl) rfl rfl rfl ?_
  refine SP.val (Val.fieldAddr Tryz.underlying32 rfl sz29 rfl) rfl rfl rfl ?_
  refine SP.val (Val.fieldAddr Tryz.underlying29 rfl sz27 rfl) rfl rfl rfl ?_
  refine SP.val (Val.load1 1 rfl Tryz.underlying27 rfl rfl rfl) rfl rfl rfl ?_
  refine SP.val (Val.fieldAddr Tryz.underlying32 rfl sz29 rfl) rfl rfl rfl ?_
  refine SP.val (Val.fieldAddr Tryz.underlying29 rfl sz27 rfl) rfl rfl rfl ?_
  refine SP.val (Val.load1 0 rfl Tryz.underlying27 rfl rfl rfl) rfl rfl rfl ?_
  refine SP.val (Val.move rfl) rfl rfl rfl ?_
  obtain ⟨t7, hc, ho⟩ := bind_some (x := slices_EqualFunc_api_Method_api_Method_api_Method_api_Method_s1.f ) ho
  refine SP.callV see (caps := []) (.bool true) fn61 rfl rfl rfl rfl (fun w2 hP hs sub ap => slices_EqualFunc_api_Method_api_Method_api_Method_api_Method_s1.ok   _ hc w2 hP sub ) ?_
  clear hc
  refine SP.val (Val.pickT rfl rfl) rfl rfl rfl ?_
  refine SP.val (Val.move rfl) rfl rfl rfl ?_
  refine SP.val (Val.fieldAddr Tryz.underlying32 rfl sz22 rfl) rfl rfl rfl ?_
  refine SP.val (Val.load1 1 rfl Tryz.underlying22 rfl rfl rfl) rfl rfl rfl ?_
  refine SP.val (Val.fieldAddr Tryz.underlying32 rfl sz22 rfl) rfl rfl rfl ?_
  refine SP.val (Val.load1 0 rfl Tryz.underlying22 rfl rfl rfl) rfl rfl rfl ?_
  obtain ⟨t8, hc, ho⟩ := bind_some (x := state_Same_s1.f ) ho
  refine SP.callV see (caps := []) (.bool true) fn62 rfl rfl rfl rfl (fun w2 hP hs sub ap => state_Same_s1.ok   _ hc w2 hP sub ) ?_
  clear hc
  refine SP.val (Val.pickT rfl rfl) rfl rfl rfl ?_
  refine SP.val (Val.assign rfl) rfl rfl rfl ?_
  refine SP.nil ?_
  refine QE.then ?_
  refine CP.ret ?_
  obtain rfl := Option.some.inj ho
  exact QE.rets (rs := [.tmp 4]) (vs := [.bool true]) Tryz.results13 rfl ⟨RVs.tmp rfl, trivial⟩ (fun w2 h => St.done (fun a b p s => rfl) h)
/-! ### slices.Clone[[]capstan/api.Value,capstan/api.Value]: function 63 -/
def slices_Clone_api_Value_api_Value_s1.f  : Option Unit :=
  some ()
theorem slices_Clone_api_Value_api_Value_s1.ok   (r : Unit) (H : slices_Clone_api_Value_api_Value_s1.f  = some r) (w : World) (hV : Hp) (sV : Sub hV (hp w))  :
    Trip Tryz.prog 63 [(.slice none 0 0)].toArray em hV w (fun v => HO.pure (v = (.slice none 0 0))) := by
  have see : Sees w em hV := ⟨sV, Dj.em_right _⟩
  refine Trip.of (P := Tryz.prog) (n := ⟨8, []⟩) Tryz.func63 rfl ⟨rfl, rfl⟩ rfl (St.begin (All.nil _)) ?_
  have ho := H
  refine CP.seq ?_
  refine CP.region ?_
  refine SP.val (Val.assign rfl) rfl rfl rfl ?_
  refine SP.nil ?_
  refine QE.then ?_
  refine CP.seq ?_
  refine CP.seq ?_
  refine CP.region ?_
  refine SP.val (Val.move rfl) rfl rfl rfl ?_
  refine SP.val (Val.eqlN Tryz.underlying22 rfl rfl) rfl rfl rfl ?_
  refine SP.nil ?_
  refine QE.then ?_
  refine CP.condT rfl rfl ?_
  refine CP.seq ?_
  refine CP.region ?_
  refine SP.val (Val.assign rfl) rfl rfl rfl ?_
  refine SP.nil ?_
  refine QE.then ?_
  refine CP.ret ?_
  refine QE.thru (by intro e; cases e) ?_
  obtain rfl := Option.some.inj ho
  exact QE.rets (rs := [.tmp 2]) (vs := [(.slice none 0 0)]) Tryz.results63 rfl ⟨RVs.tmp rfl, trivial⟩ (fun w2 h => St.done (fun a b p s => rfl) h)
/-! ### (capstan/object.Object).Globals: function 14 -/
def object_Object_Globals_s1.f  : Option Unit :=
  (slices_Clone_api_Value_api_Value_s1.f ).bind fun t3 => some ()
theorem object_Object_Globals_s1.ok   (r : Unit) (H : object_Object_Globals_s1.f  = some r) (w : World) (hV : Hp) (sV : Sub hV (hp w))  :
    Trip Tryz.prog 14 [.agg #[.bool false, (.slice none 0 0), (.slice none 0 0), (.slice none 0 0), .int .i64 0, (.slice none 0 0), (.slice none 0 0)]].toArray em hV w (fun v => HO.pure (v = (.slice none 0 0))) := by
  have see : Sees w em hV := ⟨sV, Dj.em_right _⟩
  refine Trip.of (P := Tryz.prog) (n := ⟨6, []⟩) Tryz.func14 rfl ⟨rfl, rfl⟩ rfl (St.begin (All.nil _)) ?_
  have ho := H
  refine CP.seq ?_
  refine CP.region ?_
  refine SP.box (cs := [.bool false, (.slice none 0 0), (.slice none 0 0), (.slice none 0 0), .int .i64 0, (.slice none 0 0), (.slice none 0 0)]) rfl rfl rfl rfl (fun b1 => ?_)
  refine SP.val (Val.assign rfl) rfl rfl rfl ?_
  refine SP.nil ?_
  refine QE.then ?_
  refine CP.seq ?_
  refine CP.region ?_
  refine SP.val (Val.fieldAddr Tryz.underlying32 rfl sz22 rfl) rfl rfl rfl ?_
  refine SP.val (Val.load1 0 rfl Tryz.underlying22 rfl rfl rfl) rfl rfl rfl ?_
  obtain ⟨t3, hc, ho⟩ := bind_some (x := slices_Clone_api_Value_api_Value_s1.f ) ho
  refine SP.callV see (caps := []) ((.slice none 0 0)) fn63 rfl rfl rfl rfl (fun w2 hP hs sub ap => slices_Clone_api_Value_api_Value_s1.ok   _ hc w2 hP sub ) ?_
  clear hc
  refine SP.val (Val.assign rfl) rfl rfl rfl ?_
  refine SP.nil ?_
  refine QE.then ?_
  refine CP.ret ?_
  obtain rfl := Option.some.inj ho
  exact QE.rets (rs := [.tmp 2]) (vs := [(.slice none 0 0)]) Tryz.results14 rfl ⟨RVs.tmp rfl, trivial⟩ (fun w2 h => St.done (fun a b p s => rfl) h)
/-! ### slices.Clone[[]capstan/api.Cert,capstan/api.Cert]: function 64 -/
def slices_Clone_api_Cert_api_Cert_s1.f  : Option Unit :=
  some ()
theorem slices_Clone_api_Cert_api_Cert_s1.ok   (r : Unit) (H : slices_Clone_api_Cert_api_Cert_s1.f  = some r) (w : World) (hV : Hp) (sV : Sub hV (hp w))  :
    Trip Tryz.prog 64 [(.slice none 0 0)].toArray em hV w (fun v => HO.pure (v = (.slice none 0 0))) := by
  have see : Sees w em hV := ⟨sV, Dj.em_right _⟩
  refine Trip.of (P := Tryz.prog) (n := ⟨8, []⟩) Tryz.func64 rfl ⟨rfl, rfl⟩ rfl (St.begin (All.nil _)) ?_
  have ho := H
  refine CP.seq ?_
  refine CP.region ?_
  refine SP.val (Val.assign rfl) rfl rfl rfl ?_
  refine SP.nil ?_
  refine QE.then ?_
  refine CP.seq ?_
  refine CP.seq ?_
  refine CP.region ?_
  refine SP.val (Val.move rfl) rfl rfl rfl ?_
  refine SP.val (Val.eqlN Tryz.underlying30 rfl rfl) rfl rfl rfl ?_
  refine SP.nil ?_
  refine QE.then ?_
  refine CP.condT rfl rfl ?_
  refine CP.seq ?_
  refine CP.region ?_
  refine SP.val (Val.assign rfl) rfl rfl rfl ?_
  refine SP.nil ?_
  refine QE.then ?_
  refine CP.ret ?_
  refine QE.thru (by intro e; cases e) ?_
  obtain rfl := Option.some.inj ho
  exact QE.rets (rs := [.tmp 2]) (vs := [(.slice none 0 0)]) Tryz.results64 rfl ⟨RVs.tmp rfl, trivial⟩ (fun w2 h => St.done (fun a b p s => rfl) h)
/-! ### (capstan/object.Object).Certs: function 15 -/
def object_Object_Certs_s1.f  : Option Unit :=
  (slices_Clone_api_Cert_api_Cert_s1.f ).bind fun t3 => some ()
theorem object_Object_Certs_s1.ok   (r : Unit) (H : object_Object_Certs_s1.f  = some r) (w : World) (hV : Hp) (sV : Sub hV (hp w))  :
    Trip Tryz.prog 15 [.agg #[.bool false, (.slice none 0 0), (.slice none 0 0), (.slice none 0 0), .int .i64 0, (.slice none 0 0), (.slice none 0 0)]].toArray em hV w (fun v => HO.pure (v = (.slice none 0 0))) := by
  have see : Sees w em hV := ⟨sV, Dj.em_right _⟩
  refine Trip.of (P := Tryz.prog) (n := ⟨6, []⟩) Tryz.func15 rfl ⟨rfl, rfl⟩ rfl (St.begin (All.nil _)) ?_
  have ho := H
  refine CP.seq ?_
  refine CP.region ?_
  refine SP.box (cs := [.bool false, (.slice none 0 0), (.slice none 0 0), (.slice none 0 0), .int .i64 0, (.slice none 0 0), (.slice none 0 0)]) rfl rfl rfl rfl (fun b1 => ?_)
  refine SP.val (Val.assign rfl) rfl rfl rfl ?_
  refine SP.nil ?_
  refine QE.then ?_
  refine CP.seq ?_
  refine CP.region ?_
  refine SP.val (Val.fieldAddr Tryz.underlying32 rfl sz30 rfl) rfl rfl rfl ?_
  refine SP.val (Val.load1 0 rfl Tryz.underlying30 rfl rfl rfl) rfl rfl rfl ?_
  obtain ⟨t3, hc, ho⟩ := bind_some (x := slices_Clone_api_Cert_api_Cert_s1.f ) ho
  refine SP.callV see (caps := []) ((.slice none 0 0)) fn64 rfl rfl rfl rfl (fun w2 hP hs sub ap => slices_Clone_api_Cert_api_Cert_s1.ok   _ hc w2 hP sub ) ?_
  clear hc
  refine SP.val (Val.assign rfl) rfl rfl rfl ?_
  refine SP.nil ?_
  refine QE.then ?_
  refine CP.ret ?_
  obtain rfl := Option.some.inj ho
  exact QE.rets (rs := [.tmp 2]) (vs := [(.slice none 0 0)]) Tryz.results15 rfl ⟨RVs.tmp rfl, trivial⟩ (fun w2 h => St.done (fun a b p s => rfl) h)
/-! ### slices.Clone[[]capstan/api.Method,capstan/api.Method]: function 97 -/
def slices_Clone_api_Method_api_Method_s1.f  : Option Unit :=
  some ()
theorem slices_Clone_api_Method_api_Method_s1.ok   (r : Unit) (H : slices_Clone_api_Method_api_Method_s1.f  = some r) (w : World) (hV : Hp) (sV : Sub hV (hp w))  :
    Trip Tryz.prog 97 [(.slice none 0 0)].toArray em hV w (fun v => HO.pure (v = (.slice none 0 0))) := by
  have see : Sees w em hV := ⟨sV, Dj.em_right _⟩
  refine Trip.of (P := Tryz.prog) (n := ⟨8, []⟩) Tryz.func97 rfl ⟨rfl, rfl⟩ rfl (St.begin (All.nil _)) ?_
  have ho := H
  refine CP.seq ?_
  refine CP.region ?_
  refine SP.val (Val.assign rfl) rfl rfl rfl ?_
  refine SP.nil ?_
  refine QE.then ?_
  refine CP.seq ?_
  refine CP.seq ?_
  refine CP.region ?_
  refine SP.val (Val.move rfl) rfl rfl rfl ?_
  refine SP.val (Val.eqlN Tryz.underlying27 rfl rfl) rfl rfl rfl ?_
  refine SP.nil ?_
  refine QE.then ?_
  refine CP.condT rfl rfl ?_
  refine CP.seq ?_
  refine CP.region ?_
  refine SP.val (Val.assign rfl) rfl rfl rfl ?_
  refine SP.nil ?_
  refine QE.then ?_
  refine CP.ret ?_
  refine QE.thru (by intro e; cases e) ?_
  obtain rfl := Option.some.inj ho
  exact QE.rets (rs := [.tmp 2]) (vs := [(.slice none 0 0)]) Tryz.results97 rfl ⟨RVs.tmp rfl, trivial⟩ (fun w2 h => St.done (fun a b p s => rfl) h)
/-! ### capstan/object.own: function 65 -/
def object_own_s1.f  : Option Unit :=
  (slices_Clone_api_Value_api_Value_s1.f ).bind fun t13 => (slices_Clone_api_Value_api_Value_s1.f ).bind fun t16 => (slices_Clone_api_Method_api_Method_s1.f ).bind fun t18 => some ()
theorem object_own_s1.ok   (r : Unit) (H : object_own_s1.f  = some r) (w : World) (hV : Hp) (sV : Sub hV (hp w))  :
    Trip Tryz.prog 65 [.agg #[(.slice none 0 0), (.slice none 0 0), (.slice none 0 0), .int .i64 0]].toArray em hV w (fun v => HO.pure (v = .agg #[(.slice none 0 0), (.slice none 0 0), (.slice none 0 0), .int .i64 0])) := by
  have see : Sees w em hV := ⟨sV, Dj.em_right _⟩
  refine Trip.of (P := Tryz.prog) (n := ⟨51, []⟩) Tryz.func65 rfl ⟨rfl, rfl⟩ rfl (St.begin (All.nil _)) ?_
  have ho := H
  refine CP.seq ?_
  refine CP.region ?_
  refine SP.box (cs := [(.slice none 0 0), (.slice none 0 0), (.slice none 0 0), .int .i64 0]) rfl rfl rfl rfl (fun b1 => ?_)
  refine SP.alloc (cs := [(.slice none 0 0), (.slice none 0 0), (.slice none 0 0), .int .i64 0]) inf29 rfl rfl (fun b3 => ?_)
  refine SP.nil ?_
  refine QE.then ?_
  refine CP.seq ?_
  refine CP.drawA (by kernel_rfl) (fun w2 k h => h.drawn k) ?_
  refine DA.phase (fun i => Nat.ble 0 i && Nat.blt i 10) (fun w2 => St w em hV [] [boxO b3 [(.slice none 0 0), (.slice none 0 0), (.slice none 0 0), .int .i64 0] 29, boxO b1 [(.slice none 0 0), (.slice none 0 0), (.slice none 0 0), .int .i64 0] 29] w2) ?_
  refine DT.take 0 rfl rfl rfl rfl (by kernel_rfl) (fun _ _ _ h => h) (Val.fieldAddr Tryz.underlying29 rfl sz22 rfl) (fun w2 hw => hw) ?_
  refine DT.take 1 rfl rfl rfl rfl (by kernel_rfl) (fun _ _ _ h => h) (Val.load1 1 rfl Tryz.underlying22 rfl rfl rfl) (fun w2 hw => hw) ?_
  refine DT.take 3 rfl rfl rfl rfl (by kernel_rfl) (fun _ _ _ h => h) (Val.fieldAddr Tryz.underlying29 rfl sz22 rfl) (fun w2 hw => hw) ?_
  refine DT.take 4 rfl rfl rfl rfl (by kernel_rfl) (fun _ _ _ h => h) (Val.load1 1 rfl Tryz.underlying22 rfl rfl rfl) (fun w2 hw => hw) ?_
  refine DT.take 6 rfl rfl rfl rfl (by kernel_rfl) (fun _ _ _ h => h) (Val.fieldAddr Tryz.underlying29 rfl sz27 rfl) (fun w2 hw => hw) ?_
  refine DT.take 7 rfl rfl rfl rfl (by kernel_rfl) (fun _ _ _ h => h) (Val.load1 1 rfl Tryz.underlying27 rfl rfl rfl) (fun w2 hw => hw) ?_
  refine DT.one 2 rfl (by kernel_rfl) rfl ?_
  obtain ⟨t13, hc, ho⟩ := bind_some (x := slices_Clone_api_Value_api_Value_s1.f ) ho
  refine SP.callV see (caps := []) ((.slice none 0 0)) fn63 rfl rfl rfl rfl (fun w2 hP hs sub ap => slices_Clone_api_Value_api_Value_s1.ok   _ hc w2 hP sub ) ?_
  clear hc
  refine SP.nil ?_
  refine QE.atT (fun w2 hw => hw) ?_
  refine DT.take 9 rfl rfl rfl rfl (by kernel_rfl) (fun _ _ _ h => h) (Val.fieldAddr Tryz.underlying29 rfl sz22 rfl) (fun w2 hw => hw) ?_
  refine DT.one 5 rfl (by kernel_rfl) rfl ?_
  obtain ⟨t16, hc, ho⟩ := bind_some (x := slices_Clone_api_Value_api_Value_s1.f ) ho
  refine SP.callV see (caps := []) ((.slice none 0 0)) fn63 rfl rfl rfl rfl (fun w2 hP hs sub ap => slices_Clone_api_Value_api_Value_s1.ok   _ hc w2 hP sub ) ?_
  clear hc
  refine SP.nil ?_
  refine QE.atT (fun w2 hw => hw) ?_
  refine DT.one 8 rfl (by kernel_rfl) rfl ?_
  obtain ⟨t18, hc, ho⟩ := bind_some (x := slices_Clone_api_Method_api_Method_s1.f ) ho
  refine SP.callV see (caps := []) ((.slice none 0 0)) fn97 rfl rfl rfl rfl (fun w2 hP hs sub ap => slices_Clone_api_Method_api_Method_s1.ok   _ hc w2 hP sub ) ?_
  clear hc
  refine SP.nil ?_
  refine QE.atT (fun w2 hw => hw) ?_
  refine DT.next (by kernel_rfl) ?_
  refine DA.one 10 rfl (by kernel_rfl) ?_
  refine SP.store (v := (.slice none 0 0)) (vs := [(.slice none 0 0)]) 1 (by rfl) sz22 (by rfl) (by rfl) (by rfl) (by rfl) (by rfl) (by rfl) ?_
  refine SP.nil ?_
  refine QE.atA ?_
  refine DA.one 11 rfl (by kernel_rfl) ?_
  refine SP.val (Val.fieldAddr Tryz.underlying29 rfl sz22 rfl) rfl rfl rfl ?_
  refine SP.nil ?_
  refine QE.atA ?_
  refine DA.one 12 rfl (by kernel_rfl) ?_
  refine SP.store (v := (.slice none 0 0)) (vs := [(.slice none 0 0)]) 1 (by rfl) sz22 (by rfl) (by rfl) (by rfl) (by rfl) (by rfl) (by rfl) ?_
  refine SP.nil ?_
  refine QE.atA ?_
  refine DA.one 13 rfl (by kernel_rfl) ?_
  refine SP.val (Val.fieldAddr Tryz.underlying29 rfl sz27 rfl) rfl rfl rfl ?_
  refine SP.nil ?_
  refine QE.atA ?_
  refine DA.one 14 rfl (by kernel_rfl) ?_
  refine SP.store (v := (.slice none 0 0)) (vs := [(.slice none 0 0)]) 1 (by rfl) sz27 (by rfl) (by rfl) (by rfl) (by rfl) (by rfl) (by rfl) ?_
  refine SP.nil ?_
  refine QE.atA ?_
  refine DA.done (by kernel_rfl) ?_
  refine QE.then ?_
  refine CP.seq ?_
  refine CP.seq ?_
  refine CP.region ?_
  refine SP.val (Val.fieldAddr Tryz.underlying29 rfl sz27 rfl) rfl rfl rfl ?_
  refine SP.val (Val.load1 1 rfl Tryz.underlying27 rfl rfl rfl) rfl rfl rfl ?_
  refine SP.val (Val.lenN Tryz.underlying27 rfl) rfl rfl rfl ?_
  refine SP.val (Val.move rfl) rfl rfl rfl ?_
  refine SP.nil ?_
  refine QE.then ?_
  refine CP.block ?_
  refine CP.rounds 2 ?_
  refine LP.step ?_
  refine CP.seq ?_
  refine CP.region ?_
  refine SP.val (Val.cast (v := .bool false) (Val.lss rfl rfl) rfl) rfl rfl rfl ?_
  refine SP.nil ?_
  refine QE.then ?_
  refine CP.seq ?_
  refine CP.condF rfl rfl ?_
  refine CP.exit ?_
  refine QE.thru (by intro e; cases e) ?_
  refine QE.thru (by intro e; cases e) ?_
  refine QE.blockE ?_
  refine QE.then ?_
  refine CP.seq ?_
  refine CP.region ?_
  refine SP.val (Val.loadA 1 rfl Tryz.underlying29 rfl sz29 rfl rfl rfl) rfl rfl rfl ?_
  refine SP.store (v := .agg #[(.slice none 0 0), (.slice none 0 0), (.slice none 0 0), .int .i64 0]) (vs := [(.slice none 0 0), (.slice none 0 0), (.slice none 0 0), .int .i64 0]) 0 (by rfl) sz29 (by rfl) (by rfl) (by rfl) (by rfl) (by rfl) (by rfl) ?_
  refine SP.nil ?_
  refine QE.then ?_
  refine CP.ret ?_
  obtain rfl := Option.some.inj ho
  exact QE.rets (rs := [.cell 2 29]) (vs := [.agg #[(.slice none 0 0), (.slice none 0 0), (.slice none 0 0), .int .i64 0]]) Tryz.results65 rfl ⟨RVs.cellA 0 rfl rfl Tryz.underlying29 rfl sz29, trivial⟩ (fun w2 h => St.done (fun a b p s => rfl) h)
/-! ### (capstan/object.Object).Module: function 16 -/
def object_Object_Module_s1.f  : Option Unit :=
  (object_own_s1.f ).bind fun t5 => some ()
theorem object_Object_Module_s1.ok   (r : Unit) (H : object_Object_Module_s1.f  = some r) (w : World) (hV : Hp) (sV : Sub hV (hp w))  :
    Trip Tryz.prog 16 [.agg #[.bool false, (.slice none 0 0), (.slice none 0 0), (.slice none 0 0), .int .i64 0, (.slice none 0 0), (.slice none 0 0)]].toArray em hV w (fun v => HO.pure (v = .agg #[(.slice none 0 0), (.slice none 0 0), (.slice none 0 0), .int .i64 0])) := by
  have see : Sees w em hV := ⟨sV, Dj.em_right _⟩
  refine Trip.of (P := Tryz.prog) (n := ⟨6, []⟩) Tryz.func16 rfl ⟨rfl, rfl⟩ rfl (St.begin (All.nil _)) ?_
  have ho := H
  refine CP.seq ?_
  refine CP.region ?_
  refine SP.box (cs := [.bool false, (.slice none 0 0), (.slice none 0 0), (.slice none 0 0), .int .i64 0, (.slice none 0 0), (.slice none 0 0)]) rfl rfl rfl rfl (fun b1 => ?_)
  refine SP.alloc (cs := [(.slice none 0 0), (.slice none 0 0), (.slice none 0 0), .int .i64 0]) inf29 rfl rfl (fun b3 => ?_)
  refine SP.nil ?_
  refine QE.then ?_
  refine CP.seq ?_
  refine CP.region ?_
  refine SP.val (Val.fieldAddr Tryz.underlying32 rfl sz29 rfl) rfl rfl rfl ?_
  refine SP.val (Val.loadA 1 rfl Tryz.underlying29 rfl sz29 rfl rfl rfl) rfl rfl rfl ?_
  obtain ⟨t5, hc, ho⟩ := bind_some (x := object_own_s1.f ) ho
  refine SP.callV see (caps := []) (.agg #[(.slice none 0 0), (.slice none 0 0), (.slice none 0 0), .int .i64 0]) fn65 rfl rfl rfl rfl (fun w2 hP hs sub ap => object_own_s1.ok   _ hc w2 hP sub ) ?_
  clear hc
  refine SP.store (v := .agg #[(.slice none 0 0), (.slice none 0 0), (.slice none 0 0), .int .i64 0]) (vs := [(.slice none 0 0), (.slice none 0 0), (.slice none 0 0), .int .i64 0]) 0 (by rfl) sz29 (by rfl) (by rfl) (by rfl) (by rfl) (by rfl) (by rfl) ?_
  refine SP.nil ?_
  refine QE.then ?_
  refine CP.ret ?_
  obtain rfl := Option.some.inj ho
  exact QE.rets (rs := [.cell 2 29]) (vs := [.agg #[(.slice none 0 0), (.slice none 0 0), (.slice none 0 0), .int .i64 0]]) Tryz.results16 rfl ⟨RVs.cellA 0 rfl rfl Tryz.underlying29 rfl sz29, trivial⟩ (fun w2 h => St.done (fun a b p s => rfl) h)
/-! ### capstan/capstanlaw19.ObjectNil: function 3 -/
def capstanlaw19_ObjectNil.j1 (op_0 : api_Op)  : Option Bool :=
  some true

def capstanlaw19_ObjectNil.f (op_0 : api_Op) : Option Bool :=
  (capstanlaw20_Great.f op_0).bind fun t5 => if t5 = true then (some true) else ((object_Object_Call_s1.f op_0).bind fun t8 => (object_Object_Upgrade_s1.f op_0).bind fun t13 => (object_Object_Do_s1.f op_0).bind fun t18 => (object_Object_Read_s1.f op_0).bind fun t23 => (object_Same_s1.f ).bind fun t24 => (object_Same_s1.f ).bind fun t25 => (object_Same_s1.f ).bind fun t26 => (object_Object_Globals_s1.f ).bind fun t33 => (object_Object_Certs_s1.f ).bind fun t35 => (object_Object_Module_s1.f ).bind fun t37 => capstanlaw19_ObjectNil.j1 op_0)
theorem capstanlaw19_ObjectNil.ok (op_0 : api_Op) (v_op_0_Args : Value) (v_op_0_Bytes : Value) (r : Bool) (H : capstanlaw19_ObjectNil.f op_0 = some r) (w : World) (hV : Hp) (sV : Sub hV (hp w)) (h0 : slR k_api_Value hV v_op_0_Args op_0.Args) (h1 : slR (kInt .u8) hV v_op_0_Bytes op_0.Bytes) :
    Trip Tryz.prog 3 [.agg #[.int .u8 op_0.Kind, .int .i64 op_0.Method, v_op_0_Args, v_op_0_Bytes]].toArray em hV w (fun v => HO.pure (v = .bool r)) := by
  have see : Sees w em hV := ⟨sV, Dj.em_right _⟩
  refine Trip.of (P := Tryz.prog) (n := ⟨80, []⟩) Tryz.func3 rfl ⟨rfl, rfl⟩ rfl (St.begin (All.cons (x := slP k_api_Value v_op_0_Args op_0.Args) h0 (All.cons (x := slP (kInt .u8) v_op_0_Bytes op_0.Bytes) h1 (All.nil _)))) ?_
  have ho := H
  refine CP.seq ?_
  refine CP.region ?_
  refine SP.box (cs := [.int .u8 op_0.Kind, .int .i64 op_0.Method, v_op_0_Args, v_op_0_Bytes]) rfl rfl rfl rfl (fun b3 => ?_)
  refine SP.val (Val.assign rfl) rfl rfl rfl ?_
  refine SP.nil ?_
  refine QE.then ?_
  refine CP.seq ?_
  refine CP.seq ?_
  refine CP.region ?_
  refine SP.val (Val.loadA 0 rfl Tryz.underlying25 rfl sz25 rfl rfl rfl) rfl rfl rfl ?_
  obtain ⟨t5, hc, ho⟩ := bind_some (x := capstanlaw20_Great.f op_0) ho
  refine SP.callV see (caps := []) (.bool t5) fn8 rfl rfl rfl rfl (fun w2 hP hs sub ap => capstanlaw20_Great.ok op_0 _ _ _ hc w2 hP sub (ap.get 0 rfl) (ap.get 1 rfl)) ?_
  clear hc
  refine SP.nil ?_
  refine QE.then ?_
  rcases if_some ho with ⟨hc, ho⟩ | ⟨hc, ho⟩
  · refine CP.condT rfl hc ?_
    refine CP.seq ?_
    refine CP.region ?_
    refine SP.val (Val.assign rfl) rfl rfl rfl ?_
    refine SP.nil ?_
    refine QE.then ?_
    refine CP.ret ?_
    refine QE.thru (by intro e; cases e) ?_
    obtain rfl := Option.some.inj ho
    exact QE.rets (rs := [.tmp 2]) (vs := [.bool true]) Tryz.results3 rfl ⟨RVs.tmp rfl, trivial⟩ (fun w2 h => St.done (fun a b p s => rfl) h)
  · refine CP.condF rfl (bf hc) ?_
    refine CP.skip ?_
    refine QE.then ?_
    refine CP.seq ?_
    refine CP.region ?_
    refine SP.alloc (cs := [.bool false, (.slice none 0 0), (.slice none 0 0), (.slice none 0 0), .int .i64 0, (.slice none 0 0), (.slice none 0 0)]) inf32 rfl rfl (fun b6 => ?_)
    refine SP.nil ?_
    refine QE.then ?_
    refine CP.seq ?_
    refine CP.region ?_
    refine SP.val (Val.loadA 0 rfl Tryz.underlying32 rfl sz32 rfl rfl rfl) rfl rfl rfl ?_
    refine SP.val (Val.loadA 1 rfl Tryz.underlying25 rfl sz25 rfl rfl rfl) rfl rfl rfl ?_
    obtain ⟨t8, hc, ho⟩ := bind_some (x := object_Object_Call_s1.f op_0) ho
    refine SP.callV see (caps := []) (.tuple #[.agg #[.bool false, (.slice none 0 0), (.slice none 0 0), (.slice none 0 0), .int .i64 0, (.slice none 0 0), (.slice none 0 0)], .agg #[.int .i64 1, .int .i64 0, .int .u8 0, .int .i64 0, .int .i64 0]]) fn9 rfl rfl rfl rfl (fun w2 hP hs sub ap => object_Object_Call_s1.ok op_0 _ _ _ hc w2 hP sub (ap.get 0 rfl) (ap.get 1 rfl)) ?_
    clear hc
    refine SP.val (Val.move rfl) rfl rfl rfl ?_
    refine SP.val (Val.extract rfl rfl) rfl rfl rfl ?_
    refine SP.val (Val.extract rfl rfl) rfl rfl rfl ?_
    refine SP.alloc (cs := [.bool false, (.slice none 0 0), (.slice none 0 0), (.slice none 0 0), .int .i64 0, (.slice none 0 0), (.slice none 0 0)]) inf32 rfl rfl (fun b9 => ?_)
    refine SP.alloc (cs := [.int .i64 0, .int .i64 0, .int .u8 0, .int .i64 0, .int .i64 0]) inf39 rfl rfl (fun b11 => ?_)
    refine SP.store (v := .agg #[.bool false, (.slice none 0 0), (.slice none 0 0), (.slice none 0 0), .int .i64 0, (.slice none 0 0), (.slice none 0 0)]) (vs := [.bool false, (.slice none 0 0), (.slice none 0 0), (.slice none 0 0), .int .i64 0, (.slice none 0 0), (.slice none 0 0)]) 1 (by rfl) sz32 (by rfl) (by rfl) (by rfl) (by rfl) (by rfl) (by rfl) ?_
    refine SP.store (v := .agg #[.int .i64 1, .int .i64 0, .int .u8 0, .int .i64 0, .int .i64 0]) (vs := [.int .i64 1, .int .i64 0, .int .u8 0, .int .i64 0, .int .i64 0]) 0 (by rfl) sz39 (by rfl) (by rfl) (by rfl) (by rfl) (by rfl) (by rfl) ?_
    refine SP.nil ?_
    refine QE.then ?_
    refine CP.seq ?_
    refine CP.region ?_
    refine SP.val (Val.loadA 2 rfl Tryz.underlying32 rfl sz32 rfl rfl rfl) rfl rfl rfl ?_
    refine SP.val (Val.loadA 3 rfl Tryz.underlying25 rfl sz25 rfl rfl rfl) rfl rfl rfl ?_
    obtain ⟨t13, hc, ho⟩ := bind_some (x := object_Object_Upgrade_s1.f op_0) ho
    refine SP.callV see (caps := []) (.tuple #[.agg #[.bool false, (.slice none 0 0), (.slice none 0 0), (.slice none 0 0), .int .i64 0, (.slice none 0 0), (.slice none 0 0)], .agg #[.int .i64 1, .int .i64 0, .int .u8 0, .int .i64 0, .int .i64 0]]) fn10 rfl rfl rfl rfl (fun w2 hP hs sub ap => object_Object_Upgrade_s1.ok op_0 _ _ _ hc w2 hP sub (ap.get 0 rfl) (ap.get 1 rfl)) ?_
    clear hc
    refine SP.val (Val.move rfl) rfl rfl rfl ?_
    refine SP.val (Val.extract rfl rfl) rfl rfl rfl ?_
    refine SP.val (Val.extract rfl rfl) rfl rfl rfl ?_
    refine SP.alloc (cs := [.bool false, (.slice none 0 0), (.slice none 0 0), (.slice none 0 0), .int .i64 0, (.slice none 0 0), (.slice none 0 0)]) inf32 rfl rfl (fun b14 => ?_)
    refine SP.alloc (cs := [.int .i64 0, .int .i64 0, .int .u8 0, .int .i64 0, .int .i64 0]) inf39 rfl rfl (fun b16 => ?_)
    refine SP.store (v := .agg #[.bool false, (.slice none 0 0), (.slice none 0 0), (.slice none 0 0), .int .i64 0, (.slice none 0 0), (.slice none 0 0)]) (vs := [.bool false, (.slice none 0 0), (.slice none 0 0), (.slice none 0 0), .int .i64 0, (.slice none 0 0), (.slice none 0 0)]) 1 (by rfl) sz32 (by rfl) (by rfl) (by rfl) (by rfl) (by rfl) (by rfl) ?_
    refine SP.store (v := .agg #[.int .i64 1, .int .i64 0, .int .u8 0, .int .i64 0, .int .i64 0]) (vs := [.int .i64 1, .int .i64 0, .int .u8 0, .int .i64 0, .int .i64 0]) 0 (by rfl) sz39 (by rfl) (by rfl) (by rfl) (by rfl) (by rfl) (by rfl) ?_
    refine SP.nil ?_
    refine QE.then ?_
    refine CP.seq ?_
    refine CP.region ?_
    refine SP.val (Val.loadA 4 rfl Tryz.underlying32 rfl sz32 rfl rfl rfl) rfl rfl rfl ?_
    refine SP.val (Val.loadA 5 rfl Tryz.underlying25 rfl sz25 rfl rfl rfl) rfl rfl rfl ?_
    obtain ⟨t18, hc, ho⟩ := bind_some (x := object_Object_Do_s1.f op_0) ho
    refine SP.callV see (caps := []) (.tuple #[.agg #[.bool false, (.slice none 0 0), (.slice none 0 0), (.slice none 0 0), .int .i64 0, (.slice none 0 0), (.slice none 0 0)], .agg #[.int .i64 1, .int .i64 0, .int .u8 0, .int .i64 0, .int .i64 0]]) fn11 rfl rfl rfl rfl (fun w2 hP hs sub ap => object_Object_Do_s1.ok op_0 _ _ _ hc w2 hP sub (ap.get 0 rfl) (ap.get 1 rfl)) ?_
    clear hc
    refine SP.val (Val.move rfl) rfl rfl rfl ?_
    refine SP.val (Val.extract rfl rfl) rfl rfl rfl ?_
    refine SP.val (Val.extract rfl rfl) rfl rfl rfl ?_
    refine SP.alloc (cs := [.bool false, (.slice none 0 0), (.slice none 0 0), (.slice none 0 0), .int .i64 0, (.slice none 0 0), (.slice none 0 0)]) inf32 rfl rfl (fun b19 => ?_)
    refine SP.alloc (cs := [.int .i64 0, .int .i64 0, .int .u8 0, .int .i64 0, .int .i64 0]) inf39 rfl rfl (fun b21 => ?_)
    refine SP.store (v := .agg #[.bool false, (.slice none 0 0), (.slice none 0 0), (.slice none 0 0), .int .i64 0, (.slice none 0 0), (.slice none 0 0)]) (vs := [.bool false, (.slice none 0 0), (.slice none 0 0), (.slice none 0 0), .int .i64 0, (.slice none 0 0), (.slice none 0 0)]) 1 (by rfl) sz32 (by rfl) (by rfl) (by rfl) (by rfl) (by rfl) (by rfl) ?_
    refine SP.store (v := .agg #[.int .i64 1, .int .i64 0, .int .u8 0, .int .i64 0, .int .i64 0]) (vs := [.int .i64 1, .int .i64 0, .int .u8 0, .int .i64 0, .int .i64 0]) 0 (by rfl) sz39 (by rfl) (by rfl) (by rfl) (by rfl) (by rfl) (by rfl) ?_
    refine SP.nil ?_
    refine QE.then ?_
    refine CP.join (fun a w2 => capstanlaw19_ObjectNil.j1 op_0 = some r ∧ Env ⟨80, []⟩ [(2, .bool true)] a ∧ St w em hV [] [] w2) ?_ ?_
    · rintro a w2 ⟨ho, ha, hw⟩
      refine CP.app ha hw ?_
      clear ha hw a w2
      refine CP.ret ?_
      obtain rfl := Option.some.inj ho
      exact QE.rets (rs := [.tmp 2]) (vs := [.bool true]) Tryz.results3 rfl ⟨RVs.tmp rfl, trivial⟩ (fun w2 h => St.done (fun a b p s => rfl) h)
    · refine CP.drawA (by kernel_rfl) (fun w2 k h => h.drawn k) ?_
      refine DA.one 0 rfl (by kernel_rfl) ?_
      refine SP.val (Val.fieldAddr Tryz.underlying39 rfl sz33 rfl) rfl rfl rfl ?_
      refine SP.nil ?_
      refine QE.atA ?_
      refine DA.one 1 rfl (by kernel_rfl) ?_
      refine SP.val (Val.load1 4 rfl Tryz.underlying33 rfl rfl rfl) rfl rfl rfl ?_
      refine SP.nil ?_
      refine QE.atA ?_
      refine DA.one 2 rfl (by kernel_rfl) ?_
      refine SP.val (Val.cast (v := .bool true) (Val.eql rfl rfl) rfl) rfl rfl rfl ?_
      refine SP.nil ?_
      refine QE.atA ?_
      refine DA.one 3 rfl (by kernel_rfl) ?_
      refine SP.val (Val.move rfl) rfl rfl rfl ?_
      refine SP.nil ?_
      refine QE.atA ?_
      refine DA.one 4 rfl (by kernel_rfl) ?_
      refine SP.val (Val.fieldAddr Tryz.underlying39 rfl sz33 rfl) rfl rfl rfl ?_
      refine SP.nil ?_
      refine QE.atA ?_
      refine DA.one 5 rfl (by kernel_rfl) ?_
      refine SP.val (Val.load1 2 rfl Tryz.underlying33 rfl rfl rfl) rfl rfl rfl ?_
      refine SP.nil ?_
      refine QE.atA ?_
      refine DA.one 6 rfl (by kernel_rfl) ?_
      refine SP.val (Val.cast (v := .bool true) (Val.eql rfl rfl) rfl) rfl rfl rfl ?_
      refine SP.nil ?_
      refine QE.atA ?_
      refine DA.one 7 rfl (by kernel_rfl) ?_
      refine SP.val (Val.pickT rfl rfl) rfl rfl rfl ?_
      refine SP.nil ?_
      refine QE.atA ?_
      refine DA.one 8 rfl (by kernel_rfl) ?_
      refine SP.val (Val.move rfl) rfl rfl rfl ?_
      refine SP.nil ?_
      refine QE.atA ?_
      refine DA.one 9 rfl (by kernel_rfl) ?_
      refine SP.val (Val.fieldAddr Tryz.underlying39 rfl sz33 rfl) rfl rfl rfl ?_
      refine SP.nil ?_
      refine QE.atA ?_
      refine DA.one 10 rfl (by kernel_rfl) ?_
      refine SP.val (Val.load1 0 rfl Tryz.underlying33 rfl rfl rfl) rfl rfl rfl ?_
      refine SP.nil ?_
      refine QE.atA ?_
      refine DA.one 11 rfl (by kernel_rfl) ?_
      refine SP.val (Val.cast (v := .bool true) (Val.eql rfl rfl) rfl) rfl rfl rfl ?_
      refine SP.nil ?_
      refine QE.atA ?_
      refine DA.one 12 rfl (by kernel_rfl) ?_
      refine SP.val (Val.pickT rfl rfl) rfl rfl rfl ?_
      refine SP.nil ?_
      refine QE.atA ?_
      refine DA.one 13 rfl (by kernel_rfl) ?_
      refine SP.val (Val.move rfl) rfl rfl rfl ?_
      refine SP.nil ?_
      refine QE.atA ?_
      refine DA.phase (fun i => Nat.ble 14 i && Nat.blt i 16) (fun w2 => St w em hV [slP k_api_Value v_op_0_Args op_0.Args, slP (kInt .u8) v_op_0_Bytes op_0.Bytes] [boxO b21 [.int .i64 1, .int .i64 0, .int .u8 0, .int .i64 0, .int .i64 0] 39, boxO b19 [.bool false, (.slice none 0 0), (.slice none 0 0), (.slice none 0 0), .int .i64 0, (.slice none 0 0), (.slice none 0 0)] 32, boxO b16 [.int .i64 1, .int .i64 0, .int .u8 0, .int .i64 0, .int .i64 0] 39, boxO b14 [.bool false, (.slice none 0 0), (.slice none 0 0), (.slice none 0 0), .int .i64 0, (.slice none 0 0), (.slice none 0 0)] 32, boxO b11 [.int .i64 1, .int .i64 0, .int .u8 0, .int .i64 0, .int .i64 0] 39, boxO b9 [.bool false, (.slice none 0 0), (.slice none 0 0), (.slice none 0 0), .int .i64 0, (.slice none 0 0), (.slice none 0 0)] 32, boxO b6 [.bool false, (.slice none 0 0), (.slice none 0 0), (.slice none 0 0), .int .i64 0, (.slice none 0 0), (.slice none 0 0)] 32, boxO b3 [.int .u8 op_0.Kind, .int .i64 op_0.Method, v_op_0_Args, v_op_0_Bytes] 25] w2) ?_
      refine DT.take 14 rfl rfl rfl rfl (by kernel_rfl) (fun _ _ _ h => h) (Val.loadA 6 rfl Tryz.underlying32 rfl sz32 rfl rfl rfl) (fun w2 hw => hw) ?_
      refine DT.take 15 rfl rfl rfl rfl (by kernel_rfl) (fun _ _ _ h => h) (Val.loadA 7 rfl Tryz.underlying25 rfl sz25 rfl rfl rfl) (fun w2 hw => hw) ?_
      refine DT.next (by kernel_rfl) ?_
      refine DA.one 16 rfl (by kernel_rfl) ?_
      obtain ⟨t23, hc, ho⟩ := bind_some (x := object_Object_Read_s1.f op_0) ho
      refine SP.callV see (caps := []) (.agg #[.int .i64 1, .int .i64 0, .int .u8 0, .int .i64 0, .int .i64 0]) fn12 rfl rfl rfl rfl (fun w2 hP hs sub ap => object_Object_Read_s1.ok op_0 _ _ _ hc w2 hP sub (ap.get 0 rfl) (ap.get 1 rfl)) ?_
      clear hc
      refine SP.nil ?_
      refine QE.atA ?_
      refine DA.one 17 rfl (by kernel_rfl) ?_
      refine SP.val (Val.fieldV1 Tryz.underlying39 rfl Tryz.underlying33 rfl rfl rfl) rfl rfl rfl ?_
      refine SP.nil ?_
      refine QE.atA ?_
      refine DA.one 18 rfl (by kernel_rfl) ?_
      refine SP.val (Val.cast (v := .bool true) (Val.eql rfl rfl) rfl) rfl rfl rfl ?_
      refine SP.nil ?_
      refine QE.atA ?_
      refine DA.one 19 rfl (by kernel_rfl) ?_
      refine SP.val (Val.pickT rfl rfl) rfl rfl rfl ?_
      refine SP.nil ?_
      refine QE.atA ?_
      refine DA.one 20 rfl (by kernel_rfl) ?_
      refine SP.val (Val.move rfl) rfl rfl rfl ?_
      refine SP.nil ?_
      refine QE.atA ?_
      refine DA.phase (fun i => Nat.ble 21 i && Nat.blt i 23) (fun w2 => St w em hV [slP k_api_Value v_op_0_Args op_0.Args, slP (kInt .u8) v_op_0_Bytes op_0.Bytes] [boxO b21 [.int .i64 1, .int .i64 0, .int .u8 0, .int .i64 0, .int .i64 0] 39, boxO b19 [.bool false, (.slice none 0 0), (.slice none 0 0), (.slice none 0 0), .int .i64 0, (.slice none 0 0), (.slice none 0 0)] 32, boxO b16 [.int .i64 1, .int .i64 0, .int .u8 0, .int .i64 0, .int .i64 0] 39, boxO b14 [.bool false, (.slice none 0 0), (.slice none 0 0), (.slice none 0 0), .int .i64 0, (.slice none 0 0), (.slice none 0 0)] 32, boxO b11 [.int .i64 1, .int .i64 0, .int .u8 0, .int .i64 0, .int .i64 0] 39, boxO b9 [.bool false, (.slice none 0 0), (.slice none 0 0), (.slice none 0 0), .int .i64 0, (.slice none 0 0), (.slice none 0 0)] 32, boxO b6 [.bool false, (.slice none 0 0), (.slice none 0 0), (.slice none 0 0), .int .i64 0, (.slice none 0 0), (.slice none 0 0)] 32, boxO b3 [.int .u8 op_0.Kind, .int .i64 op_0.Method, v_op_0_Args, v_op_0_Bytes] 25] w2) ?_
      refine DT.take 21 rfl rfl rfl rfl (by kernel_rfl) (fun _ _ _ h => h) (Val.loadA 5 rfl Tryz.underlying32 rfl sz32 rfl rfl rfl) (fun w2 hw => hw) ?_
      refine DT.take 22 rfl rfl rfl rfl (by kernel_rfl) (fun _ _ _ h => h) (Val.loadA 6 rfl Tryz.underlying32 rfl sz32 rfl rfl rfl) (fun w2 hw => hw) ?_
      refine DT.next (by kernel_rfl) ?_
      refine DA.one 23 rfl (by kernel_rfl) ?_
      obtain ⟨t24, hc, ho⟩ := bind_some (x := object_Same_s1.f ) ho
      refine SP.callV see (caps := []) (.bool true) fn13 rfl rfl rfl rfl (fun w2 hP hs sub ap => object_Same_s1.ok   _ hc w2 hP sub ) ?_
      clear hc
      refine SP.nil ?_
      refine QE.atA ?_
      refine DA.one 24 rfl (by kernel_rfl) ?_
      refine SP.val (Val.pickT rfl rfl) rfl rfl rfl ?_
      refine SP.nil ?_
      refine QE.atA ?_
      refine DA.one 25 rfl (by kernel_rfl) ?_
      refine SP.val (Val.move rfl) rfl rfl rfl ?_
      refine SP.nil ?_
      refine QE.atA ?_
      refine DA.phase (fun i => Nat.ble 26 i && Nat.blt i 28) (fun w2 => St w em hV [slP k_api_Value v_op_0_Args op_0.Args, slP (kInt .u8) v_op_0_Bytes op_0.Bytes] [boxO b21 [.int .i64 1, .int .i64 0, .int .u8 0, .int .i64 0, .int .i64 0] 39, boxO b19 [.bool false, (.slice none 0 0), (.slice none 0 0), (.slice none 0 0), .int .i64 0, (.slice none 0 0), (.slice none 0 0)] 32, boxO b16 [.int .i64 1, .int .i64 0, .int .u8 0, .int .i64 0, .int .i64 0] 39, boxO b14 [.bool false, (.slice none 0 0), (.slice none 0 0), (.slice none 0 0), .int .i64 0, (.slice none 0 0), (.slice none 0 0)] 32, boxO b11 [.int .i64 1, .int .i64 0, .int .u8 0, .int .i64 0, .int .i64 0] 39, boxO b9 [.bool false, (.slice none 0 0), (.slice none 0 0), (.slice none 0 0), .int .i64 0, (.slice none 0 0), (.slice none 0 0)] 32, boxO b6 [.bool false, (.slice none 0 0), (.slice none 0 0), (.slice none 0 0), .int .i64 0, (.slice none 0 0), (.slice none 0 0)] 32, boxO b3 [.int .u8 op_0.Kind, .int .i64 op_0.Method, v_op_0_Args, v_op_0_Bytes] 25] w2) ?_
      refine DT.take 26 rfl rfl rfl rfl (by kernel_rfl) (fun _ _ _ h => h) (Val.loadA 3 rfl Tryz.underlying32 rfl sz32 rfl rfl rfl) (fun w2 hw => hw) ?_
      refine DT.take 27 rfl rfl rfl rfl (by kernel_rfl) (fun _ _ _ h => h) (Val.loadA 6 rfl Tryz.underlying32 rfl sz32 rfl rfl rfl) (fun w2 hw => hw) ?_
      refine DT.next (by kernel_rfl) ?_
      refine DA.one 28 rfl (by kernel_rfl) ?_
      obtain ⟨t25, hc, ho⟩ := bind_some (x := object_Same_s1.f ) ho
      refine SP.callV see (caps := []) (.bool true) fn13 rfl rfl rfl rfl (fun w2 hP hs sub ap => object_Same_s1.ok   _ hc w2 hP sub ) ?_
      clear hc
      refine SP.nil ?_
      refine QE.atA ?_
      refine DA.one 29 rfl (by kernel_rfl) ?_
      refine SP.val (Val.pickT rfl rfl) rfl rfl rfl ?_
      refine SP.nil ?_
      refine QE.atA ?_
      refine DA.one 30 rfl (by kernel_rfl) ?_
      refine SP.val (Val.move rfl) rfl rfl rfl ?_
      refine SP.nil ?_
      refine QE.atA ?_
      refine DA.phase (fun i => Nat.ble 31 i && Nat.blt i 33) (fun w2 => St w em hV [slP k_api_Value v_op_0_Args op_0.Args, slP (kInt .u8) v_op_0_Bytes op_0.Bytes] [boxO b21 [.int .i64 1, .int .i64 0, .int .u8 0, .int .i64 0, .int .i64 0] 39, boxO b19 [.bool false, (.slice none 0 0), (.slice none 0 0), (.slice none 0 0), .int .i64 0, (.slice none 0 0), (.slice none 0 0)] 32, boxO b16 [.int .i64 1, .int .i64 0, .int .u8 0, .int .i64 0, .int .i64 0] 39, boxO b14 [.bool false, (.slice none 0 0), (.slice none 0 0), (.slice none 0 0), .int .i64 0, (.slice none 0 0), (.slice none 0 0)] 32, boxO b11 [.int .i64 1, .int .i64 0, .int .u8 0, .int .i64 0, .int .i64 0] 39, boxO b9 [.bool false, (.slice none 0 0), (.slice none 0 0), (.slice none 0 0), .int .i64 0, (.slice none 0 0), (.slice none 0 0)] 32, boxO b6 [.bool false, (.slice none 0 0), (.slice none 0 0), (.slice none 0 0), .int .i64 0, (.slice none 0 0), (.slice none 0 0)] 32, boxO b3 [.int .u8 op_0.Kind, .int .i64 op_0.Method, v_op_0_Args, v_op_0_Bytes] 25] w2) ?_
      refine DT.take 31 rfl rfl rfl rfl (by kernel_rfl) (fun _ _ _ h => h) (Val.loadA 1 rfl Tryz.underlying32 rfl sz32 rfl rfl rfl) (fun w2 hw => hw) ?_
      refine DT.take 32 rfl rfl rfl rfl (by kernel_rfl) (fun _ _ _ h => h) (Val.loadA 6 rfl Tryz.underlying32 rfl sz32 rfl rfl rfl) (fun w2 hw => hw) ?_
      refine DT.next (by kernel_rfl) ?_
      refine DA.one 33 rfl (by kernel_rfl) ?_
      obtain ⟨t26, hc, ho⟩ := bind_some (x := object_Same_s1.f ) ho
      refine SP.callV see (caps := []) (.bool true) fn13 rfl rfl rfl rfl (fun w2 hP hs sub ap => object_Same_s1.ok   _ hc w2 hP sub ) ?_
      clear hc
      refine SP.nil ?_
      refine QE.atA ?_
      refine DA.one 34 rfl (by kernel_rfl) ?_
      refine SP.val (Val.pickT rfl rfl) rfl rfl rfl ?_
      refine SP.nil ?_
      refine QE.atA ?_
      refine DA.one 35 rfl (by kernel_rfl) ?_
      refine SP.val (Val.move rfl) rfl rfl rfl ?_
      refine SP.nil ?_
      refine QE.atA ?_
      refine DA.phase (fun i => Nat.ble 36 i && Nat.blt i 47) (fun w2 => St w em hV [slP k_api_Value v_op_0_Args op_0.Args, slP (kInt .u8) v_op_0_Bytes op_0.Bytes] [boxO b21 [.int .i64 1, .int .i64 0, .int .u8 0, .int .i64 0, .int .i64 0] 39, boxO b19 [.bool false, (.slice none 0 0), (.slice none 0 0), (.slice none 0 0), .int .i64 0, (.slice none 0 0), (.slice none 0 0)] 32, boxO b16 [.int .i64 1, .int .i64 0, .int .u8 0, .int .i64 0, .int .i64 0] 39, boxO b14 [.bool false, (.slice none 0 0), (.slice none 0 0), (.slice none 0 0), .int .i64 0, (.slice none 0 0), (.slice none 0 0)] 32, boxO b11 [.int .i64 1, .int .i64 0, .int .u8 0, .int .i64 0, .int .i64 0] 39, boxO b9 [.bool false, (.slice none 0 0), (.slice none 0 0), (.slice none 0 0), .int .i64 0, (.slice none 0 0), (.slice none 0 0)] 32, boxO b6 [.bool false, (.slice none 0 0), (.slice none 0 0), (.slice none 0 0), .int .i64 0, (.slice none 0 0), (.slice none 0 0)] 32, boxO b3 [.int .u8 op_0.Kind, .int .i64 op_0.Method, v_op_0_Args, v_op_0_Bytes] 25] w2) ?_
      refine DT.take 36 rfl rfl rfl rfl (by kernel_rfl) (fun _ _ _ h => h) (Val.loadA 6 rfl Tryz.underlying32 rfl sz32 rfl rfl rfl) (fun w2 hw => hw) ?_
      refine DT.take 39 rfl rfl rfl rfl (by kernel_rfl) (fun _ _ _ h => h) (Val.loadA 6 rfl Tryz.underlying32 rfl sz32 rfl rfl rfl) (fun w2 hw => hw) ?_
      refine DT.take 43 rfl rfl rfl rfl (by kernel_rfl) (fun _ _ _ h => h) (Val.loadA 6 rfl Tryz.underlying32 rfl sz32 rfl rfl rfl) (fun w2 hw => hw) ?_
      refine DT.one 37 rfl (by kernel_rfl) rfl ?_
      obtain ⟨t33, hc, ho⟩ := bind_some (x := object_Object_Globals_s1.f ) ho
      refine SP.callV see (caps := []) ((.slice none 0 0)) fn14 rfl rfl rfl rfl (fun w2 hP hs sub ap => object_Object_Globals_s1.ok   _ hc w2 hP sub ) ?_
      clear hc
      refine SP.nil ?_
      refine QE.atT (fun w2 hw => hw) ?_
      refine DT.take 38 rfl rfl rfl rfl (by kernel_rfl) (fun _ _ _ h => h) (Val.lenN Tryz.underlying22 rfl) (fun w2 hw => hw) ?_
      refine DT.one 40 rfl (by kernel_rfl) rfl ?_
      obtain ⟨t35, hc, ho⟩ := bind_some (x := object_Object_Certs_s1.f ) ho
      refine SP.callV see (caps := []) ((.slice none 0 0)) fn15 rfl rfl rfl rfl (fun w2 hP hs sub ap => object_Object_Certs_s1.ok   _ hc w2 hP sub ) ?_
      clear hc
      refine SP.nil ?_
      refine QE.atT (fun w2 hw => hw) ?_
      refine DT.take 41 rfl rfl rfl rfl (by kernel_rfl) (fun _ _ _ h => h) (Val.lenN Tryz.underlying30 rfl) (fun w2 hw => hw) ?_
      refine DT.take 42 rfl rfl rfl rfl (by kernel_rfl) (fun _ _ _ h => h) (Val.cast (v := .int .i64 0) (Val.add rfl rfl) rfl) (fun w2 hw => hw) ?_
      refine DT.one 44 rfl (by kernel_rfl) rfl ?_
      obtain ⟨t37, hc, ho⟩ := bind_some (x := object_Object_Module_s1.f ) ho
      refine SP.callV see (caps := []) (.agg #[(.slice none 0 0), (.slice none 0 0), (.slice none 0 0), .int .i64 0]) fn16 rfl rfl rfl rfl (fun w2 hP hs sub ap => object_Object_Module_s1.ok   _ hc w2 hP sub ) ?_
      clear hc
      refine SP.nil ?_
      refine QE.atT (fun w2 hw => hw) ?_
      refine DT.take 45 rfl rfl rfl rfl (by kernel_rfl) (fun _ _ _ h => h) (Val.fieldV1 Tryz.underlying29 rfl Tryz.underlying27 rfl rfl rfl) (fun w2 hw => hw) ?_
      refine DT.take 46 rfl rfl rfl rfl (by kernel_rfl) (fun _ _ _ h => h) (Val.lenN Tryz.underlying27 rfl) (fun w2 hw => hw) ?_
      refine DT.next (by kernel_rfl) ?_
      refine DA.one 47 rfl (by kernel_rfl) ?_
      refine SP.val (Val.cast (v := .int .i64 0) (Val.add rfl rfl) rfl) rfl rfl rfl ?_
      refine SP.nil ?_
      refine QE.atA ?_
      refine DA.one 48 rfl (by kernel_rfl) ?_
      refine SP.val (Val.cast (v := .bool true) (Val.eql rfl rfl) rfl) rfl rfl rfl ?_
      refine SP.nil ?_
      refine QE.atA ?_
      refine DA.one 49 rfl (by kernel_rfl) ?_
      refine SP.val (Val.pickT rfl rfl) rfl rfl rfl ?_
      refine SP.nil ?_
      refine QE.atA ?_
      refine DA.one 50 rfl (by kernel_rfl) ?_
      refine SP.val (Val.assign rfl) rfl rfl rfl ?_
      refine SP.nil ?_
      refine QE.atA ?_
      refine DA.done (by kernel_rfl) ?_
      exact QE.meet fun a w2 ha hw => ⟨ho, ha.sub ⟨rfl, trivial⟩, (St.selP [] rfl (St.selO [] rfl rfl hw))⟩
theorem cl5 : Tryz.prog.cellsOf 5 = 1 := by kernel_rfl
theorem cl2 : Tryz.prog.cellsOf 2 = 1 := by kernel_rfl
theorem cl35 : Tryz.prog.cellsOf 35 = 3 := by kernel_rfl
def wf_api_Value (x : api_Value) : Prop := (Lit.int .u8 x.Kind).wf = true ∧ (Lit.int .i64 x.A).wf = true ∧ (Lit.int .i64 x.B).wf = true
theorem opens_api_Value : Opens Tryz.prog 35 k_api_Value wf_api_Value := by
  intro H enc W fuel cs d ps h
  cases fuel with
  | zero => simp [DataW.trod] at h
  | succ n =>
    obtain ⟨hl, hf⟩ := trod_struct Tryz.underlying35 h
    rw [cl35] at hl
    obtain ⟨c0, c1, c2, rfl⟩ := len3 hl
    obtain ⟨d0, q0, h0⟩ := hf 0 _ rfl
    replace h0 : DataW.trod enc Tryz.prog W 0 (fun _ => true) true n 5 (List.take (Tryz.prog.cellsOf 5) [c0, c1, c2]) = some (d0, q0) := h0
    rw [cl5] at h0
    replace h0 : DataW.trod enc Tryz.prog W 0 (fun _ => true) true n 5 [c0] = some (d0, q0) := h0
    obtain ⟨x0, r0, w0⟩ := (Opens.int Tryz.underlying5) enc W n _ _ _ h0
    obtain ⟨rfl, -⟩ := List.cons.inj r0
    obtain ⟨d1, q1, h1⟩ := hf 1 _ rfl
    replace h1 : DataW.trod enc Tryz.prog W 0 (fun _ => true) true n 2 (List.take (Tryz.prog.cellsOf 2) [c1, c2]) = some (d1, q1) := h1
    rw [cl2] at h1
    replace h1 : DataW.trod enc Tryz.prog W 0 (fun _ => true) true n 2 [c1] = some (d1, q1) := h1
    obtain ⟨x1, r1, w1⟩ := (Opens.int Tryz.underlying2) enc W n _ _ _ h1
    obtain ⟨rfl, -⟩ := List.cons.inj r1
    obtain ⟨d2, q2, h2⟩ := hf 2 _ rfl
    replace h2 : DataW.trod enc Tryz.prog W 0 (fun _ => true) true n 2 (List.take (Tryz.prog.cellsOf 2) [c2]) = some (d2, q2) := h2
    rw [cl2] at h2
    replace h2 : DataW.trod enc Tryz.prog W 0 (fun _ => true) true n 2 [c2] = some (d2, q2) := h2
    obtain ⟨x2, r2, w2⟩ := (Opens.int Tryz.underlying2) enc W n _ _ _ h2
    obtain ⟨rfl, -⟩ := List.cons.inj r2
    exact ⟨⟨x0, x1, x2⟩, rfl, w0, w1, w2⟩
theorem cl3 : Tryz.prog.cellsOf 3 = 1 := by kernel_rfl
theorem cl22 : Tryz.prog.cellsOf 22 = 1 := by kernel_rfl
theorem cl23 : Tryz.prog.cellsOf 23 = 1 := by kernel_rfl
theorem cl25 : Tryz.prog.cellsOf 25 = 4 := by kernel_rfl
def wf_api_Op (x : api_Op) : Prop := (Lit.int .u8 x.Kind).wf = true ∧ (Lit.int .i64 x.Method).wf = true ∧ (x.Args.length ≤ maxLen ∧ ∀ y ∈ x.Args, wf_api_Value y) ∧ (x.Bytes.length ≤ maxLen ∧ ∀ y ∈ x.Bytes, (Lit.int .u8 y).wf = true)
theorem opens_api_Op : Opens Tryz.prog 25 k_api_Op wf_api_Op := by
  intro H enc W fuel cs d ps h
  cases fuel with
  | zero => simp [DataW.trod] at h
  | succ n =>
    obtain ⟨hl, hf⟩ := trod_struct Tryz.underlying25 h
    rw [cl25] at hl
    obtain ⟨c0, c1, c2, c3, rfl⟩ := len4 hl
    obtain ⟨d0, q0, h0⟩ := hf 0 _ rfl
    replace h0 : DataW.trod enc Tryz.prog W 0 (fun _ => true) true n 5 (List.take (Tryz.prog.cellsOf 5) [c0, c1, c2, c3]) = some (d0, q0) := h0
    rw [cl5] at h0
    replace h0 : DataW.trod enc Tryz.prog W 0 (fun _ => true) true n 5 [c0] = some (d0, q0) := h0
    obtain ⟨x0, r0, w0⟩ := (Opens.int Tryz.underlying5) enc W n _ _ _ h0
    obtain ⟨rfl, -⟩ := List.cons.inj r0
    obtain ⟨d1, q1, h1⟩ := hf 1 _ rfl
    replace h1 : DataW.trod enc Tryz.prog W 0 (fun _ => true) true n 3 (List.take (Tryz.prog.cellsOf 3) [c1, c2, c3]) = some (d1, q1) := h1
    rw [cl3] at h1
    replace h1 : DataW.trod enc Tryz.prog W 0 (fun _ => true) true n 3 [c1] = some (d1, q1) := h1
    obtain ⟨x1, r1, w1⟩ := (Opens.int Tryz.underlying3) enc W n _ _ _ h1
    obtain ⟨rfl, -⟩ := List.cons.inj r1
    obtain ⟨d2, q2, h2⟩ := hf 2 _ rfl
    replace h2 : DataW.trod enc Tryz.prog W 0 (fun _ => true) true n 22 (List.take (Tryz.prog.cellsOf 22) [c2, c3]) = some (d2, q2) := h2
    rw [cl22] at h2
    replace h2 : DataW.trod enc Tryz.prog W 0 (fun _ => true) true n 22 [c2] = some (d2, q2) := h2
    obtain ⟨x2, r2, w2⟩ := (Opens.slice Tryz.underlying22 opens_api_Value cl35 (by decide)) enc W n _ _ _ h2
    obtain ⟨v2, e2, r2⟩ := r2
    obtain ⟨rfl, -⟩ := List.cons.inj e2
    obtain ⟨d3, q3, h3⟩ := hf 3 _ rfl
    replace h3 : DataW.trod enc Tryz.prog W 0 (fun _ => true) true n 23 (List.take (Tryz.prog.cellsOf 23) [c3]) = some (d3, q3) := h3
    rw [cl23] at h3
    replace h3 : DataW.trod enc Tryz.prog W 0 (fun _ => true) true n 23 [c3] = some (d3, q3) := h3
    obtain ⟨x3, r3, w3⟩ := (Opens.slice Tryz.underlying23 (Opens.int Tryz.underlying5) cl5 (by decide)) enc W n _ _ _ h3
    obtain ⟨v3, e3, r3⟩ := r3
    obtain ⟨rfl, -⟩ := List.cons.inj e3
    exact ⟨⟨x0, x1, x2, x3⟩, ⟨_, _, rfl, r2, r3⟩, w0, w1, w2, w3⟩
/-- What is left to be shown of the law: of plain values alone. -/
def capstanlaw19_ObjectNil.Pure : Prop := ∀ (x0 : api_Op), wf_api_Op x0 → capstanlaw19_ObjectNil.f x0 = some true
end Go.Proofs.YtgfjjjbpikfgaaaGreatDoor
end
