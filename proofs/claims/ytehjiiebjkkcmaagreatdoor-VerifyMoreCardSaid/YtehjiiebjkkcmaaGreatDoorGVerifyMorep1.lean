/- Functions of the program as plain functions, with the proof that the code computes them: printed by gen.py of this session. -/
import Derived.Test.YtehjiiebjkkcmaaGreatDoorProg
import Derived.Test.YtehjiiebjkkcmaaGreatDoorQ33xVerifyMore
import Derived.Test.YtehjiiebjkkcmaaGreatDoorQ39xVerifyMore
import Derived.Ground.GgzProg
import Derived.Ground.Names8Prog
import Derived.Ground.NamesProg
import Derived.Ground.SlgcProg
import Derived.Ground.SlgmProg
import Derived.Ground.SlgnProg
import Derived.Ground.SlsfProg
import Derived.Shelf.Bits.Mul64
import Derived.Shelf.Lay
import Derived.Shelf.SlGeneric
import Derived.Shelf.SlIterI.Nil
import Derived.Shelf.SlSortCmp.WholeK
import Derived.Shelf.SlicesE.Reverse
import Derived.Shelf.SlicesG.Cmp
import Derived.Shelf.SlicesG.CompactI
import Derived.Shelf.Small.Bits
import Derived.Shelf.SortM.Plain
import Derived.Shelf.SortM.SortNone
import Derived.Shelf.Spec.SlicesGrow
set_option linter.unusedVariables false
set_option linter.unusedSimpArgs false
set_option maxRecDepth 20000
set_option maxHeartbeats 2000000
set_option linter.defProp false
set_option warn.classDefReducibility false
noncomputable section
namespace Go.Proofs.YtehjiiebjkkcmaaGreatDoor
open Go.Q
structure api_Value where
  Kind : Int
  A : Int
  B : Int
def api_Value.zero : api_Value := ⟨0, 0, 0⟩
def k_api_Value : Kd api_Value := ⟨3, fun h cs x => cs = [.int .u8 x.Kind, .int .i64 x.A, .int .i64 x.B], fun _ _ _ _ _ h => h, fun _ _ _ h => by simp [h], fun _ _ _ h => by subst h; rfl⟩
theorem k_api_Value.part_Kind : Part k_api_Value 0 (kInt .u8) (fun x => x.Kind) := fun h cs x e => ⟨[.int .u8 x.Kind], rfl, by subst e; exact seg_get [.int .u8 x.Kind, .int .i64 x.A, .int .i64 x.B] 0 1⟩
theorem k_api_Value.part_A : Part k_api_Value 1 (kInt .i64) (fun x => x.A) := fun h cs x e => ⟨[.int .i64 x.A], rfl, by subst e; exact seg_get [.int .u8 x.Kind, .int .i64 x.A, .int .i64 x.B] 1 1⟩
theorem k_api_Value.load {P : Program} {n : Fr} {ρ : Option Nat} {σ : List (Nat × Value)} {w0 : World} {hA hV : Hp} {ps : List HP} {os : List HO} {L l : List Oper} {Q : Cont} {d : Nat} {t tr : TypeId} {x : Operand} {pos : String} {af : Array Edge} {g : Option (Nat × Bool)} {v : Value} (see : Sees w0 hA hV) (i : Nat) {x0 : api_Value} (hi : ps[i]? = some (elP k_api_Value v x0)) {dsc : TypeDesc} (hu : P.underlying t = some dsc) (hd : (match dsc with | .struct _ | .array _ _ => true | _ => false) = true) (hs : (P.info? t).map (·.size) = some 3) (hg : gd L σ g = some true) (hn : Nat.blt d n.n = true) (hx : ev σ x = some v)
    (h : SP P n ρ ((d, .agg [.int .u8 x0.Kind, .int .i64 x0.A, .int .i64 x0.B].toArray) :: σ) (St w0 hA hV (ps) os) L l Q) : SP P n ρ σ (St w0 hA hV ps os) L (⟨some d, .load t x, tr, pos, af, g⟩ :: l) Q :=
  SP.loadP see i hi hu hd hs hg hn hx fun cs a w ha hw => by
    obtain ⟨m, fr, hN, hO, n1, n2, dj, s1, s2, ap, s⟩ := hw
    obtain rfl := ap.get 0 rfl
    exact h a w ha ⟨m, fr, hN, hO, n1, n2, dj, s1, s2, (fun y hy => ap y (List.mem_cons_of_mem _ hy)), s⟩
structure api_Instr where
  Op : Int
  A : Int
  B : Int
def api_Instr.zero : api_Instr := ⟨0, 0, 0⟩
def k_api_Instr : Kd api_Instr := ⟨3, fun h cs x => cs = [.int .u8 x.Op, .int .i64 x.A, .int .i64 x.B], fun _ _ _ _ _ h => h, fun _ _ _ h => by simp [h], fun _ _ _ h => by subst h; rfl⟩
theorem k_api_Instr.part_A : Part k_api_Instr 1 (kInt .i64) (fun x => x.A) := fun h cs x e => ⟨[.int .i64 x.A], rfl, by subst e; exact seg_get [.int .u8 x.Op, .int .i64 x.A, .int .i64 x.B] 1 1⟩
theorem k_api_Instr.load {P : Program} {n : Fr} {ρ : Option Nat} {σ : List (Nat × Value)} {w0 : World} {hA hV : Hp} {ps : List HP} {os : List HO} {L l : List Oper} {Q : Cont} {d : Nat} {t tr : TypeId} {x : Operand} {pos : String} {af : Array Edge} {g : Option (Nat × Bool)} {v : Value} (see : Sees w0 hA hV) (i : Nat) {x0 : api_Instr} (hi : ps[i]? = some (elP k_api_Instr v x0)) {dsc : TypeDesc} (hu : P.underlying t = some dsc) (hd : (match dsc with | .struct _ | .array _ _ => true | _ => false) = true) (hs : (P.info? t).map (·.size) = some 3) (hg : gd L σ g = some true) (hn : Nat.blt d n.n = true) (hx : ev σ x = some v)
    (h : SP P n ρ ((d, .agg [.int .u8 x0.Op, .int .i64 x0.A, .int .i64 x0.B].toArray) :: σ) (St w0 hA hV (ps) os) L l Q) : SP P n ρ σ (St w0 hA hV ps os) L (⟨some d, .load t x, tr, pos, af, g⟩ :: l) Q :=
  SP.loadP see i hi hu hd hs hg hn hx fun cs a w ha hw => by
    obtain ⟨m, fr, hN, hO, n1, n2, dj, s1, s2, ap, s⟩ := hw
    obtain rfl := ap.get 0 rfl
    exact h a w ha ⟨m, fr, hN, hO, n1, n2, dj, s1, s2, (fun y hy => ap y (List.mem_cons_of_mem _ hy)), s⟩
structure api_Method where
  Args : (List Int)
  Locals : (List Int)
  Result : Int
  Reads : Bool
  Fuel : Int
  Stack : Int
  Heap : Int
  Code : (List api_Instr)
def api_Method.zero : api_Method := ⟨[], [], 0, false, 0, 0, 0, []⟩
def k_api_Method : Kd api_Method := ⟨8, fun h cs x => ∃ v0 v1 v2 : Value, cs = [v0, v1, .int .u8 x.Result, .bool x.Reads, .int .i64 x.Fuel, .int .i64 x.Stack, .int .i64 x.Heap, v2] ∧ slR (kInt .u8) h v0 x.Args ∧ slR (kInt .u8) h v1 x.Locals ∧ slR k_api_Instr h v2 x.Code,
  fun _ _ _ _ s ⟨v0, v1, v2, e, p0, p1, p2⟩ => ⟨v0, v1, v2, e, slR.mono s p0, slR.mono s p1, slR.mono s p2⟩, fun _ _ _ ⟨v0, v1, v2, e, p0, p1, p2⟩ => by simp [e],
  fun _ _ _ ⟨v0, v1, v2, e, p0, p1, p2⟩ => by subst e; obtain ⟨_, _, rfl, -⟩ := p0; obtain ⟨_, _, rfl, -⟩ := p1; obtain ⟨_, _, rfl, -⟩ := p2; rfl⟩
def o_api_Method : Ko api_Method := ⟨k_api_Method, fun cs x => HO.ex fun v0 : Value => HO.ex fun v1 : Value => HO.ex fun v2 : Value => HO.pand (cs = [v0, v1, .int .u8 x.Result, .bool x.Reads, .int .i64 x.Fuel, .int .i64 x.Stack, .int .i64 x.Heap, v2]) (HO.seps [slO (kInt .u8) 5 v0 x.Args, slO (kInt .u8) 5 v1 x.Locals, slO k_api_Instr 43 v2 x.Code]), fun ⟨v0, v1, v2, e, q⟩ sa sh => ⟨v0, v1, v2, e, slO.read (Sep.get 0 rfl q) sa sh, slO.read (Sep.get 1 rfl q) sa sh, slO.read (Sep.get 2 rfl q) sa sh⟩⟩
theorem k_api_Method.part_Args : Part k_api_Method 0 (kSl (kInt .u8)) (fun x => x.Args) := fun h cs x ⟨v0, v1, v2, e, p0, p1, p2⟩ => ⟨[v0], ⟨v0, rfl, p0⟩, by subst e; exact seg_get [v0, v1, .int .u8 x.Result, .bool x.Reads, .int .i64 x.Fuel, .int .i64 x.Stack, .int .i64 x.Heap, v2] 0 1⟩
theorem k_api_Method.part_Result : Part k_api_Method 2 (kInt .u8) (fun x => x.Result) := fun h cs x ⟨v0, v1, v2, e, p0, p1, p2⟩ => ⟨[.int .u8 x.Result], rfl, by subst e; exact seg_get [v0, v1, .int .u8 x.Result, .bool x.Reads, .int .i64 x.Fuel, .int .i64 x.Stack, .int .i64 x.Heap, v2] 2 1⟩
theorem k_api_Method.part_Reads : Part k_api_Method 3 kBool (fun x => x.Reads) := fun h cs x ⟨v0, v1, v2, e, p0, p1, p2⟩ => ⟨[.bool x.Reads], rfl, by subst e; exact seg_get [v0, v1, .int .u8 x.Result, .bool x.Reads, .int .i64 x.Fuel, .int .i64 x.Stack, .int .i64 x.Heap, v2] 3 1⟩
theorem k_api_Method.part_Code : Part k_api_Method 7 (kSl k_api_Instr) (fun x => x.Code) := fun h cs x ⟨v0, v1, v2, e, p0, p1, p2⟩ => ⟨[v2], ⟨v2, rfl, p2⟩, by subst e; exact seg_get [v0, v1, .int .u8 x.Result, .bool x.Reads, .int .i64 x.Fuel, .int .i64 x.Stack, .int .i64 x.Heap, v2] 7 1⟩
theorem k_api_Method.load {P : Program} {n : Fr} {ρ : Option Nat} {σ : List (Nat × Value)} {w0 : World} {hA hV : Hp} {ps : List HP} {os : List HO} {L l : List Oper} {Q : Cont} {d : Nat} {t tr : TypeId} {x : Operand} {pos : String} {af : Array Edge} {g : Option (Nat × Bool)} {v : Value} (see : Sees w0 hA hV) (i : Nat) {x0 : api_Method} (hi : ps[i]? = some (elP k_api_Method v x0)) {dsc : TypeDesc} (hu : P.underlying t = some dsc) (hd : (match dsc with | .struct _ | .array _ _ => true | _ => false) = true) (hs : (P.info? t).map (·.size) = some 8) (hg : gd L σ g = some true) (hn : Nat.blt d n.n = true) (hx : ev σ x = some v)
    (h : ∀ v0 v1 v2, SP P n ρ ((d, .agg [v0, v1, .int .u8 x0.Result, .bool x0.Reads, .int .i64 x0.Fuel, .int .i64 x0.Stack, .int .i64 x0.Heap, v2].toArray) :: σ) (St w0 hA hV (slP (kInt .u8) v0 x0.Args :: slP (kInt .u8) v1 x0.Locals :: slP k_api_Instr v2 x0.Code :: ps) os) L l Q) : SP P n ρ σ (St w0 hA hV ps os) L (⟨some d, .load t x, tr, pos, af, g⟩ :: l) Q :=
  SP.loadP see i hi hu hd hs hg hn hx fun cs a w ha hw => by
    obtain ⟨m, fr, hN, hO, n1, n2, dj, s1, s2, ap, s⟩ := hw
    obtain ⟨v0, v1, v2, e, p0, p1, p2⟩ := ap.get 0 rfl
    subst e
    exact h v0 v1 v2 a w ha ⟨m, fr, hN, hO, n1, n2, dj, s1, s2, All.cons p0 (All.cons p1 (All.cons p2 ((fun y hy => ap y (List.mem_cons_of_mem _ hy))))), s⟩
structure api_Module where
  Globals : (List api_Value)
  Pool : (List api_Value)
  Methods : (List api_Method)
  Migrate : Int
def api_Module.zero : api_Module := ⟨[], [], [], 0⟩
def k_api_Module : Kd api_Module := ⟨4, fun h cs x => ∃ v0 v1 v2 : Value, cs = [v0, v1, v2, .int .i64 x.Migrate] ∧ slR k_api_Value h v0 x.Globals ∧ slR k_api_Value h v1 x.Pool ∧ slR k_api_Method h v2 x.Methods,
  fun _ _ _ _ s ⟨v0, v1, v2, e, p0, p1, p2⟩ => ⟨v0, v1, v2, e, slR.mono s p0, slR.mono s p1, slR.mono s p2⟩, fun _ _ _ ⟨v0, v1, v2, e, p0, p1, p2⟩ => by simp [e],
  fun _ _ _ ⟨v0, v1, v2, e, p0, p1, p2⟩ => by subst e; obtain ⟨_, _, rfl, -⟩ := p0; obtain ⟨_, _, rfl, -⟩ := p1; obtain ⟨_, _, rfl, -⟩ := p2; rfl⟩
theorem k_api_Module.load {P : Program} {n : Fr} {ρ : Option Nat} {σ : List (Nat × Value)} {w0 : World} {hA hV : Hp} {ps : List HP} {os : List HO} {L l : List Oper} {Q : Cont} {d : Nat} {t tr : TypeId} {x : Operand} {pos : String} {af : Array Edge} {g : Option (Nat × Bool)} {v : Value} (see : Sees w0 hA hV) (i : Nat) {x0 : api_Module} (hi : ps[i]? = some (elP k_api_Module v x0)) {dsc : TypeDesc} (hu : P.underlying t = some dsc) (hd : (match dsc with | .struct _ | .array _ _ => true | _ => false) = true) (hs : (P.info? t).map (·.size) = some 4) (hg : gd L σ g = some true) (hn : Nat.blt d n.n = true) (hx : ev σ x = some v)
    (h : ∀ v0 v1 v2, SP P n ρ ((d, .agg [v0, v1, v2, .int .i64 x0.Migrate].toArray) :: σ) (St w0 hA hV (slP k_api_Value v0 x0.Globals :: slP k_api_Value v1 x0.Pool :: slP k_api_Method v2 x0.Methods :: ps) os) L l Q) : SP P n ρ σ (St w0 hA hV ps os) L (⟨some d, .load t x, tr, pos, af, g⟩ :: l) Q :=
  SP.loadP see i hi hu hd hs hg hn hx fun cs a w ha hw => by
    obtain ⟨m, fr, hN, hO, n1, n2, dj, s1, s2, ap, s⟩ := hw
    obtain ⟨v0, v1, v2, e, p0, p1, p2⟩ := ap.get 0 rfl
    subst e
    exact h v0 v1 v2 a w ha ⟨m, fr, hN, hO, n1, n2, dj, s1, s2, All.cons p0 (All.cons p1 (All.cons p2 ((fun y hy => ap y (List.mem_cons_of_mem _ hy))))), s⟩
structure api_Cert where
  Fuel : Int
  Stack : Int
  Heap : Int
def api_Cert.zero : api_Cert := ⟨0, 0, 0⟩
def k_api_Cert : Kd api_Cert := ⟨3, fun h cs x => cs = [.int .i64 x.Fuel, .int .i64 x.Stack, .int .i64 x.Heap], fun _ _ _ _ _ h => h, fun _ _ _ h => by simp [h], fun _ _ _ h => by subst h; rfl⟩
theorem k_api_Cert.load {P : Program} {n : Fr} {ρ : Option Nat} {σ : List (Nat × Value)} {w0 : World} {hA hV : Hp} {ps : List HP} {os : List HO} {L l : List Oper} {Q : Cont} {d : Nat} {t tr : TypeId} {x : Operand} {pos : String} {af : Array Edge} {g : Option (Nat × Bool)} {v : Value} (see : Sees w0 hA hV) (i : Nat) {x0 : api_Cert} (hi : ps[i]? = some (elP k_api_Cert v x0)) {dsc : TypeDesc} (hu : P.underlying t = some dsc) (hd : (match dsc with | .struct _ | .array _ _ => true | _ => false) = true) (hs : (P.info? t).map (·.size) = some 3) (hg : gd L σ g = some true) (hn : Nat.blt d n.n = true) (hx : ev σ x = some v)
    (h : SP P n ρ ((d, .agg [.int .i64 x0.Fuel, .int .i64 x0.Stack, .int .i64 x0.Heap].toArray) :: σ) (St w0 hA hV (ps) os) L l Q) : SP P n ρ σ (St w0 hA hV ps os) L (⟨some d, .load t x, tr, pos, af, g⟩ :: l) Q :=
  SP.loadP see i hi hu hd hs hg hn hx fun cs a w ha hw => by
    obtain ⟨m, fr, hN, hO, n1, n2, dj, s1, s2, ap, s⟩ := hw
    obtain rfl := ap.get 0 rfl
    exact h a w ha ⟨m, fr, hN, hO, n1, n2, dj, s1, s2, (fun y hy => ap y (List.mem_cons_of_mem _ hy)), s⟩
structure gauss_Pair where
  e0 : Int
  e1 : Int
def gauss_Pair.zero : gauss_Pair := ⟨0, 0⟩
def k_gauss_Pair : Kd gauss_Pair := ⟨2, fun h cs x => cs = [.int .i64 x.e0, .int .i64 x.e1], fun _ _ _ _ _ h => h, fun _ _ _ h => by simp [h], fun _ _ _ h => by subst h; rfl⟩
theorem k_gauss_Pair.load {P : Program} {n : Fr} {ρ : Option Nat} {σ : List (Nat × Value)} {w0 : World} {hA hV : Hp} {ps : List HP} {os : List HO} {L l : List Oper} {Q : Cont} {d : Nat} {t tr : TypeId} {x : Operand} {pos : String} {af : Array Edge} {g : Option (Nat × Bool)} {v : Value} (see : Sees w0 hA hV) (i : Nat) {x0 : gauss_Pair} (hi : ps[i]? = some (elP k_gauss_Pair v x0)) {dsc : TypeDesc} (hu : P.underlying t = some dsc) (hd : (match dsc with | .struct _ | .array _ _ => true | _ => false) = true) (hs : (P.info? t).map (·.size) = some 2) (hg : gd L σ g = some true) (hn : Nat.blt d n.n = true) (hx : ev σ x = some v)
    (h : SP P n ρ ((d, .agg [.int .i64 x0.e0, .int .i64 x0.e1].toArray) :: σ) (St w0 hA hV (ps) os) L l Q) : SP P n ρ σ (St w0 hA hV ps os) L (⟨some d, .load t x, tr, pos, af, g⟩ :: l) Q :=
  SP.loadP see i hi hu hd hs hg hn hx fun cs a w ha hw => by
    obtain ⟨m, fr, hN, hO, n1, n2, dj, s1, s2, ap, s⟩ := hw
    obtain rfl := ap.get 0 rfl
    exact h a w ha ⟨m, fr, hN, hO, n1, n2, dj, s1, s2, (fun y hy => ap y (List.mem_cons_of_mem _ hy)), s⟩
structure arr245 where
  e0 : Int
  e1 : Int
def arr245.zero : arr245 := ⟨0, 0⟩
def k_arr245 : Kd arr245 := ⟨2, fun h cs x => cs = [.int .i64 x.e0, .int .i64 x.e1], fun _ _ _ _ _ h => h, fun _ _ _ h => by simp [h], fun _ _ _ h => by subst h; rfl⟩
theorem k_arr245.load {P : Program} {n : Fr} {ρ : Option Nat} {σ : List (Nat × Value)} {w0 : World} {hA hV : Hp} {ps : List HP} {os : List HO} {L l : List Oper} {Q : Cont} {d : Nat} {t tr : TypeId} {x : Operand} {pos : String} {af : Array Edge} {g : Option (Nat × Bool)} {v : Value} (see : Sees w0 hA hV) (i : Nat) {x0 : arr245} (hi : ps[i]? = some (elP k_arr245 v x0)) {dsc : TypeDesc} (hu : P.underlying t = some dsc) (hd : (match dsc with | .struct _ | .array _ _ => true | _ => false) = true) (hs : (P.info? t).map (·.size) = some 2) (hg : gd L σ g = some true) (hn : Nat.blt d n.n = true) (hx : ev σ x = some v)
    (h : SP P n ρ ((d, .agg [.int .i64 x0.e0, .int .i64 x0.e1].toArray) :: σ) (St w0 hA hV (ps) os) L l Q) : SP P n ρ σ (St w0 hA hV ps os) L (⟨some d, .load t x, tr, pos, af, g⟩ :: l) Q :=
  SP.loadP see i hi hu hd hs hg hn hx fun cs a w ha hw => by
    obtain ⟨m, fr, hN, hO, n1, n2, dj, s1, s2, ap, s⟩ := hw
    obtain rfl := ap.get 0 rfl
    exact h a w ha ⟨m, fr, hN, hO, n1, n2, dj, s1, s2, (fun y hy => ap y (List.mem_cons_of_mem _ hy)), s⟩
structure types_Row where
  Reached : Bool
  Kinds : (List Int)
def types_Row.zero : types_Row := ⟨false, []⟩
def k_types_Row : Kd types_Row := ⟨2, fun h cs x => ∃ v0 : Value, cs = [.bool x.Reached, v0] ∧ slR (kInt .u8) h v0 x.Kinds,
  fun _ _ _ _ s ⟨v0, e, p0⟩ => ⟨v0, e, slR.mono s p0⟩, fun _ _ _ ⟨v0, e, p0⟩ => by simp [e],
  fun _ _ _ ⟨v0, e, p0⟩ => by subst e; obtain ⟨_, _, rfl, -⟩ := p0; rfl⟩
theorem k_types_Row.load {P : Program} {n : Fr} {ρ : Option Nat} {σ : List (Nat × Value)} {w0 : World} {hA hV : Hp} {ps : List HP} {os : List HO} {L l : List Oper} {Q : Cont} {d : Nat} {t tr : TypeId} {x : Operand} {pos : String} {af : Array Edge} {g : Option (Nat × Bool)} {v : Value} (see : Sees w0 hA hV) (i : Nat) {x0 : types_Row} (hi : ps[i]? = some (elP k_types_Row v x0)) {dsc : TypeDesc} (hu : P.underlying t = some dsc) (hd : (match dsc with | .struct _ | .array _ _ => true | _ => false) = true) (hs : (P.info? t).map (·.size) = some 2) (hg : gd L σ g = some true) (hn : Nat.blt d n.n = true) (hx : ev σ x = some v)
    (h : ∀ v0, SP P n ρ ((d, .agg [.bool x0.Reached, v0].toArray) :: σ) (St w0 hA hV (slP (kInt .u8) v0 x0.Kinds :: ps) os) L l Q) : SP P n ρ σ (St w0 hA hV ps os) L (⟨some d, .load t x, tr, pos, af, g⟩ :: l) Q :=
  SP.loadP see i hi hu hd hs hg hn hx fun cs a w ha hw => by
    obtain ⟨m, fr, hN, hO, n1, n2, dj, s1, s2, ap, s⟩ := hw
    obtain ⟨v0, e, p0⟩ := ap.get 0 rfl
    subst e
    exact h v0 a w ha ⟨m, fr, hN, hO, n1, n2, dj, s1, s2, All.cons p0 ((fun y hy => ap y (List.mem_cons_of_mem _ hy))), s⟩
structure flow_Loop where
  From : Int
  To : Int
  Turns : Int
def flow_Loop.zero : flow_Loop := ⟨0, 0, 0⟩
def k_flow_Loop : Kd flow_Loop := ⟨3, fun h cs x => cs = [.int .i64 x.From, .int .i64 x.To, .int .i64 x.Turns], fun _ _ _ _ _ h => h, fun _ _ _ h => by simp [h], fun _ _ _ h => by subst h; rfl⟩
theorem k_flow_Loop.load {P : Program} {n : Fr} {ρ : Option Nat} {σ : List (Nat × Value)} {w0 : World} {hA hV : Hp} {ps : List HP} {os : List HO} {L l : List Oper} {Q : Cont} {d : Nat} {t tr : TypeId} {x : Operand} {pos : String} {af : Array Edge} {g : Option (Nat × Bool)} {v : Value} (see : Sees w0 hA hV) (i : Nat) {x0 : flow_Loop} (hi : ps[i]? = some (elP k_flow_Loop v x0)) {dsc : TypeDesc} (hu : P.underlying t = some dsc) (hd : (match dsc with | .struct _ | .array _ _ => true | _ => false) = true) (hs : (P.info? t).map (·.size) = some 3) (hg : gd L σ g = some true) (hn : Nat.blt d n.n = true) (hx : ev σ x = some v)
    (h : SP P n ρ ((d, .agg [.int .i64 x0.From, .int .i64 x0.To, .int .i64 x0.Turns].toArray) :: σ) (St w0 hA hV (ps) os) L l Q) : SP P n ρ σ (St w0 hA hV ps os) L (⟨some d, .load t x, tr, pos, af, g⟩ :: l) Q :=
  SP.loadP see i hi hu hd hs hg hn hx fun cs a w ha hw => by
    obtain ⟨m, fr, hN, hO, n1, n2, dj, s1, s2, ap, s⟩ := hw
    obtain rfl := ap.get 0 rfl
    exact h a w ha ⟨m, fr, hN, hO, n1, n2, dj, s1, s2, (fun y hy => ap y (List.mem_cons_of_mem _ hy)), s⟩
structure op_Shape where
  Takes : (List Int)
  Gives : (List Int)
def op_Shape.zero : op_Shape := ⟨[], []⟩
def k_op_Shape : Kd op_Shape := ⟨2, fun h cs x => ∃ v0 v1 : Value, cs = [v0, v1] ∧ slR (kInt .u8) h v0 x.Takes ∧ slR (kInt .u8) h v1 x.Gives,
  fun _ _ _ _ s ⟨v0, v1, e, p0, p1⟩ => ⟨v0, v1, e, slR.mono s p0, slR.mono s p1⟩, fun _ _ _ ⟨v0, v1, e, p0, p1⟩ => by simp [e],
  fun _ _ _ ⟨v0, v1, e, p0, p1⟩ => by subst e; obtain ⟨_, _, rfl, -⟩ := p0; obtain ⟨_, _, rfl, -⟩ := p1; rfl⟩
theorem k_op_Shape.load {P : Program} {n : Fr} {ρ : Option Nat} {σ : List (Nat × Value)} {w0 : World} {hA hV : Hp} {ps : List HP} {os : List HO} {L l : List Oper} {Q : Cont} {d : Nat} {t tr : TypeId} {x : Operand} {pos : String} {af : Array Edge} {g : Option (Nat × Bool)} {v : Value} (see : Sees w0 hA hV) (i : Nat) {x0 : op_Shape} (hi : ps[i]? = some (elP k_op_Shape v x0)) {dsc : TypeDesc} (hu : P.underlying t = some dsc) (hd : (match dsc with | .struct _ | .array _ _ => true | _ => false) = true) (hs : (P.info? t).map (·.size) = some 2) (hg : gd L σ g = some true) (hn : Nat.blt d n.n = true) (hx : ev σ x = some v)
    (h : ∀ v0 v1, SP P n ρ ((d, .agg [v0, v1].toArray) :: σ) (St w0 hA hV (slP (kInt .u8) v0 x0.Takes :: slP (kInt .u8) v1 x0.Gives :: ps) os) L l Q) : SP P n ρ σ (St w0 hA hV ps os) L (⟨some d, .load t x, tr, pos, af, g⟩ :: l) Q :=
  SP.loadP see i hi hu hd hs hg hn hx fun cs a w ha hw => by
    obtain ⟨m, fr, hN, hO, n1, n2, dj, s1, s2, ap, s⟩ := hw
    obtain ⟨v0, v1, e, p0, p1⟩ := ap.get 0 rfl
    subst e
    exact h v0 v1 a w ha ⟨m, fr, hN, hO, n1, n2, dj, s1, s2, All.cons p0 (All.cons p1 ((fun y hy => ap y (List.mem_cons_of_mem _ hy)))), s⟩
theorem sz1 : (Tryz.prog.info? 1).map (·.size) = some 1 := by kernel_rfl
theorem sz2 : (Tryz.prog.info? 2).map (·.size) = some 1 := by kernel_rfl
theorem sz3 : (Tryz.prog.info? 3).map (·.size) = some 1 := by kernel_rfl
theorem sz4 : (Tryz.prog.info? 4).map (·.size) = some 1 := by kernel_rfl
theorem sz5 : (Tryz.prog.info? 5).map (·.size) = some 1 := by kernel_rfl
theorem sz22 : (Tryz.prog.info? 22).map (·.size) = some 1 := by kernel_rfl
theorem sz23 : (Tryz.prog.info? 23).map (·.size) = some 1 := by kernel_rfl
theorem sz25 : (Tryz.prog.info? 25).map (·.size) = some 4 := by kernel_rfl
theorem sz28 : (Tryz.prog.info? 28).map (·.size) = some 1 := by kernel_rfl
theorem sz29 : (Tryz.prog.info? 29).map (·.size) = some 1 := by kernel_rfl
theorem sz31 : (Tryz.prog.info? 31).map (·.size) = some 1 := by kernel_rfl
theorem sz32 : (Tryz.prog.info? 32).map (·.size) = some 1 := by kernel_rfl
theorem sz34 : (Tryz.prog.info? 34).map (·.size) = some 8 := by kernel_rfl
theorem sz43 : (Tryz.prog.info? 43).map (·.size) = some 3 := by kernel_rfl
theorem sz45 : (Tryz.prog.info? 45).map (·.size) = some 3 := by kernel_rfl
theorem sz48 : (Tryz.prog.info? 48).map (·.size) = some 1 := by kernel_rfl
theorem sz67 : (Tryz.prog.info? 67).map (·.size) = some 1 := by kernel_rfl
theorem sz100 : (Tryz.prog.info? 100).map (·.size) = some 3 := by kernel_rfl
theorem sz107 : (Tryz.prog.info? 107).map (·.size) = some 4 := by kernel_rfl
theorem sz111 : (Tryz.prog.info? 111).map (·.size) = some 3 := by kernel_rfl
theorem sz116 : (Tryz.prog.info? 116).map (·.size) = some 1 := by kernel_rfl
theorem sz119 : (Tryz.prog.info? 119).map (·.size) = some 2 := by kernel_rfl
theorem sz120 : (Tryz.prog.info? 120).map (·.size) = some 400 := by kernel_rfl
theorem sz132 : (Tryz.prog.info? 132).map (·.size) = some 1 := by kernel_rfl
theorem sz133 : (Tryz.prog.info? 133).map (·.size) = some 6 := by kernel_rfl
theorem sz138 : (Tryz.prog.info? 138).map (·.size) = some 3 := by kernel_rfl
theorem sz164 : (Tryz.prog.info? 164).map (·.size) = some 1 := by kernel_rfl
theorem sz165 : (Tryz.prog.info? 165).map (·.size) = some 1 := by kernel_rfl
theorem sz240 : (Tryz.prog.info? 240).map (·.size) = some 2 := by kernel_rfl
theorem sz245 : (Tryz.prog.info? 245).map (·.size) = some 2 := by kernel_rfl
theorem sz255 : (Tryz.prog.info? 255).map (·.size) = some 2 := by kernel_rfl
theorem sz314 : (Tryz.prog.info? 314).map (·.size) = some 2 := by kernel_rfl
theorem inf3 : (Tryz.prog.info? 3).map (fun i => ((i.zero.map fun z => z.cells.toList), i.size, i.bytes)) = some (some [.int .i64 0], 1, 8) := by kernel_rfl
theorem inf5 : (Tryz.prog.info? 5).map (fun i => ((i.zero.map fun z => z.cells.toList), i.size, i.bytes)) = some (some [.int .u8 0], 1, 1) := by kernel_rfl
theorem inf25 : (Tryz.prog.info? 25).map (fun i => ((i.zero.map fun z => z.cells.toList), i.size, i.bytes)) = some (some [(.slice none 0 0), (.slice none 0 0), (.slice none 0 0), .int .i64 0], 4, 80) := by kernel_rfl
theorem inf28 : (Tryz.prog.info? 28).map (fun i => ((i.zero.map fun z => z.cells.toList), i.size, i.bytes)) = some (some [.int .i64 0], 1, 8) := by kernel_rfl
theorem inf31 : (Tryz.prog.info? 31).map (fun i => ((i.zero.map fun z => z.cells.toList), i.size, i.bytes)) = some (some [(.slice none 0 0)], 1, 24) := by kernel_rfl
theorem inf34 : (Tryz.prog.info? 34).map (fun i => ((i.zero.map fun z => z.cells.toList), i.size, i.bytes)) = some (some [(.slice none 0 0), (.slice none 0 0), .int .u8 0, .bool false, .int .i64 0, .int .i64 0, .int .i64 0, (.slice none 0 0)], 8, 104) := by kernel_rfl
theorem inf43 : (Tryz.prog.info? 43).map (fun i => ((i.zero.map fun z => z.cells.toList), i.size, i.bytes)) = some (some [.int .u8 0, .int .i64 0, .int .i64 0], 3, 24) := by kernel_rfl
theorem inf45 : (Tryz.prog.info? 45).map (fun i => ((i.zero.map fun z => z.cells.toList), i.size, i.bytes)) = some (some [.int .i64 0, .int .i64 0, .int .i64 0], 3, 24) := by kernel_rfl
theorem inf48 : (Tryz.prog.info? 48).map (fun i => ((i.zero.map fun z => z.cells.toList), i.size, i.bytes)) = some (some [(.slice none 0 0)], 1, 24) := by kernel_rfl
theorem inf100 : (Tryz.prog.info? 100).map (fun i => ((i.zero.map fun z => z.cells.toList), i.size, i.bytes)) = some (some [.int .u8 0, .int .i64 0, .int .i64 0], 3, 24) := by kernel_rfl
theorem inf109 : (Tryz.prog.info? 109).map (fun i => ((i.zero.map fun z => z.cells.toList), i.size, i.bytes)) = some (some [.int .i64 0, .int .i64 0, .int .i64 0, .int .i64 0, .int .i64 0], 5, 40) := by kernel_rfl
theorem inf111 : (Tryz.prog.info? 111).map (fun i => ((i.zero.map fun z => z.cells.toList), i.size, i.bytes)) = some (some [.int .i64 0, .int .i64 0, .int .i64 0], 3, 24) := by kernel_rfl
theorem inf116 : (Tryz.prog.info? 116).map (fun i => ((i.zero.map fun z => z.cells.toList), i.size, i.bytes)) = some (some [.pointer none], 1, 8) := by kernel_rfl
theorem inf119 : (Tryz.prog.info? 119).map (fun i => ((i.zero.map fun z => z.cells.toList), i.size, i.bytes)) = some (some [.bool false, (.slice none 0 0)], 2, 32) := by kernel_rfl
theorem inf132 : (Tryz.prog.info? 132).map (fun i => ((i.zero.map fun z => z.cells.toList), i.size, i.bytes)) = some (some [.nilFunc], 1, 8) := by kernel_rfl
theorem inf133 : (Tryz.prog.info? 133).map (fun i => ((i.zero.map fun z => z.cells.toList), i.size, i.bytes)) = some (some [.nilFunc, .nilFunc, .nilFunc, .nilFunc, .nilFunc, .nilFunc], 6, 48) := by kernel_rfl
theorem inf164 : (Tryz.prog.info? 164).map (fun i => ((i.zero.map fun z => z.cells.toList), i.size, i.bytes)) = some (some [.nilFunc], 1, 8) := by kernel_rfl
theorem inf165 : (Tryz.prog.info? 165).map (fun i => ((i.zero.map fun z => z.cells.toList), i.size, i.bytes)) = some (some [.nilFunc], 1, 8) := by kernel_rfl
theorem inf240 : (Tryz.prog.info? 240).map (fun i => ((i.zero.map fun z => z.cells.toList), i.size, i.bytes)) = some (some [.int .i64 0, .int .i64 0], 2, 16) := by kernel_rfl
theorem inf245 : (Tryz.prog.info? 245).map (fun i => ((i.zero.map fun z => z.cells.toList), i.size, i.bytes)) = some (some [.int .i64 0, .int .i64 0], 2, 16) := by kernel_rfl
theorem inf255 : (Tryz.prog.info? 255).map (fun i => ((i.zero.map fun z => z.cells.toList), i.size, i.bytes)) = some (some [(.slice none 0 0), (.slice none 0 0)], 2, 48) := by kernel_rfl
def zz200_2384 : List Value := (List.replicate 200 [.bool false, (.slice none 0 0)]).flatten
theorem bt25 : shapeOf Tryz.prog 25 = some ([(.slice none 0 0), (.slice none 0 0), (.slice none 0 0), .int .i64 0], [(0, 1), (1, 1), (2, 1), (3, 1)]) := by kernel_rfl
theorem bt34 : shapeOf Tryz.prog 34 = some ([(.slice none 0 0), (.slice none 0 0), .int .u8 0, .bool false, .int .i64 0, .int .i64 0, .int .i64 0, (.slice none 0 0)], [(0, 1), (1, 1), (2, 1), (3, 1), (4, 1), (5, 1), (6, 1), (7, 1)]) := by kernel_rfl
theorem bt43 : shapeOf Tryz.prog 43 = some ([.int .u8 0, .int .i64 0, .int .i64 0], [(0, 1), (1, 1), (2, 1)]) := by kernel_rfl
theorem bt45 : shapeOf Tryz.prog 45 = some ([.int .i64 0, .int .i64 0, .int .i64 0], [(0, 1), (1, 1), (2, 1)]) := by kernel_rfl
theorem bt100 : shapeOf Tryz.prog 100 = some ([.int .u8 0, .int .i64 0, .int .i64 0], [(0, 1), (1, 1), (2, 1)]) := by kernel_rfl
theorem bt111 : shapeOf Tryz.prog 111 = some ([.int .i64 0, .int .i64 0, .int .i64 0], [(0, 1), (1, 1), (2, 1)]) := by kernel_rfl
theorem bt119 : shapeOf Tryz.prog 119 = some ([.bool false, (.slice none 0 0)], [(0, 1), (1, 1)]) := by kernel_rfl
theorem bt122 : shapeOf Tryz.prog 122 = some (([(.slice none 0 0), (.slice none 0 0), (.slice none 0 0), .int .i64 0, (.slice none 0 0), (.slice none 0 0), .int .u8 0, .bool false, .int .i64 0, .int .i64 0, .int .i64 0, (.slice none 0 0), (.slice none 0 0)] ++ zz200_2384), [(0, 4), (4, 8), (12, 1), (13, 400)]) := by kernel_rfl
theorem bt132 : shapeOf Tryz.prog 132 = some ([.nilFunc], [(0, 1)]) := by kernel_rfl
theorem bt133 : shapeOf Tryz.prog 133 = some ([.nilFunc, .nilFunc, .nilFunc, .nilFunc, .nilFunc, .nilFunc], [(0, 1), (1, 1), (2, 1), (3, 1), (4, 1), (5, 1)]) := by kernel_rfl
theorem bt140 : shapeOf Tryz.prog 140 = some ([.int .i64 0, .int .i64 0, .int .i64 0, (.slice none 0 0), (.slice none 0 0), .int .u8 0, .bool false, .int .i64 0, .int .i64 0, .int .i64 0, (.slice none 0 0), (.slice none 0 0)], [(0, 3), (3, 8), (11, 1)]) := by kernel_rfl
theorem bt170 : shapeOf Tryz.prog 170 = some ([.nilFunc, .nilFunc, .nilFunc, .nilFunc, .nilFunc], [(0, 1), (1, 1), (2, 1), (3, 1), (4, 1)]) := by kernel_rfl
theorem bt240 : shapeOf Tryz.prog 240 = some ([.int .i64 0, .int .i64 0], [(0, 1), (1, 1)]) := by kernel_rfl
theorem bt241 : shapeOf Tryz.prog 241 = some ([.int .i64 0, .int .i64 0, .int .i64 0, .int .i64 0, .int .i64 0, .int .i64 0], [(0, 2), (2, 2), (4, 2)]) := by kernel_rfl
theorem bt255 : shapeOf Tryz.prog 255 = some ([(.slice none 0 0), (.slice none 0 0)], [(0, 1), (1, 1)]) := by kernel_rfl
theorem bt297 : shapeOf Tryz.prog 297 = some ([.int .i64 0, .int .i64 0], [(0, 1), (1, 1)]) := by kernel_rfl
theorem bt314 : shapeOf Tryz.prog 314 = some ([.int .i64 0, .int .i64 0], [(0, 1), (1, 1)]) := by kernel_rfl
theorem eqA100 (d : Nat) (w : World) (x0 y0 : Int) (x1 y1 : Int) (x2 y2 : Int) : (Op.equalIn (d + 2) 100 (.agg #[.int .u8 x0, .int .i64 x1, .int .i64 x2]) (.agg #[.int .u8 y0, .int .i64 y1, .int .i64 y2])).run Tryz.prog w = .ok (x0 == y0 && (x1 == y1 && (x2 == y2))) w := by
  refine eqA_of Tryz.underlying100 (by kernel_rfl) ?_
  refine eqf_cons (by rfl) (run_part1 Tryz.underlying5 rfl rfl) (run_part1 Tryz.underlying5 rfl rfl) (run_equalIn_int w _ 5 _ _ _ _ Tryz.underlying5) ?_
  refine eqf_cons (by rfl) (run_part1 Tryz.underlying2 rfl rfl) (run_part1 Tryz.underlying2 rfl rfl) (run_equalIn_int w _ 2 _ _ _ _ Tryz.underlying2) ?_
  exact eqf_last (by rfl) (run_part1 Tryz.underlying2 rfl rfl) (run_part1 Tryz.underlying2 rfl rfl) (run_equalIn_int w _ 2 _ _ _ _ Tryz.underlying2)
theorem eqA45 (d : Nat) (w : World) (x0 y0 : Int) (x1 y1 : Int) (x2 y2 : Int) : (Op.equalIn (d + 2) 45 (.agg #[.int .i64 x0, .int .i64 x1, .int .i64 x2]) (.agg #[.int .i64 y0, .int .i64 y1, .int .i64 y2])).run Tryz.prog w = .ok (x0 == y0 && (x1 == y1 && (x2 == y2))) w := by
  refine eqA_of Tryz.underlying45 (by kernel_rfl) ?_
  refine eqf_cons (by rfl) (run_part1 Tryz.underlying3 rfl rfl) (run_part1 Tryz.underlying3 rfl rfl) (run_equalIn_int w _ 3 _ _ _ _ Tryz.underlying3) ?_
  refine eqf_cons (by rfl) (run_part1 Tryz.underlying3 rfl rfl) (run_part1 Tryz.underlying3 rfl rfl) (run_equalIn_int w _ 3 _ _ _ _ Tryz.underlying3) ?_
  exact eqf_last (by rfl) (run_part1 Tryz.underlying3 rfl rfl) (run_part1 Tryz.underlying3 rfl rfl) (run_equalIn_int w _ 3 _ _ _ _ Tryz.underlying3)
theorem fn29 : ((Tryz.prog.funcs[29]?).map fun fn => fn.body.isSome && !(fn.name == "runtime.NumGoroutine")) = some true := by rw [Tryz.func29]; rfl
theorem fn88 : ((Tryz.prog.funcs[88]?).map fun fn => fn.body.isSome && !(fn.name == "runtime.NumGoroutine")) = some true := by rw [Tryz.func88]; rfl
theorem fn250 : ((Tryz.prog.funcs[250]?).map fun fn => fn.body.isSome && !(fn.name == "runtime.NumGoroutine")) = some true := by rw [Tryz.func250]; rfl
theorem fn221 : ((Tryz.prog.funcs[221]?).map fun fn => fn.body.isSome && !(fn.name == "runtime.NumGoroutine")) = some true := by rw [Tryz.func221]; rfl
theorem fn220 : ((Tryz.prog.funcs[220]?).map fun fn => fn.body.isSome && !(fn.name == "runtime.NumGoroutine")) = some true := by rw [Tryz.func220]; rfl
theorem fn231 : ((Tryz.prog.funcs[231]?).map fun fn => fn.body.isSome && !(fn.name == "runtime.NumGoroutine")) = some true := by rw [Tryz.func231]; rfl
theorem fn230 : ((Tryz.prog.funcs[230]?).map fun fn => fn.body.isSome && !(fn.name == "runtime.NumGoroutine")) = some true := by rw [Tryz.func230]; rfl
theorem fn251 : ((Tryz.prog.funcs[251]?).map fun fn => fn.body.isSome && !(fn.name == "runtime.NumGoroutine")) = some true := by rw [Tryz.func251]; rfl
theorem fn229 : ((Tryz.prog.funcs[229]?).map fun fn => fn.body.isSome && !(fn.name == "runtime.NumGoroutine")) = some true := by rw [Tryz.func229]; rfl
theorem fn182 : ((Tryz.prog.funcs[182]?).map fun fn => fn.body.isSome && !(fn.name == "runtime.NumGoroutine")) = some true := by rw [Tryz.func182]; rfl
theorem fn234 : ((Tryz.prog.funcs[234]?).map fun fn => fn.body.isSome && !(fn.name == "runtime.NumGoroutine")) = some true := by rw [Tryz.func234]; rfl
theorem fn232 : ((Tryz.prog.funcs[232]?).map fun fn => fn.body.isSome && !(fn.name == "runtime.NumGoroutine")) = some true := by rw [Tryz.func232]; rfl
theorem fn233 : ((Tryz.prog.funcs[233]?).map fun fn => fn.body.isSome && !(fn.name == "runtime.NumGoroutine")) = some true := by rw [Tryz.func233]; rfl
theorem fn184 : ((Tryz.prog.funcs[184]?).map fun fn => fn.body.isSome && !(fn.name == "runtime.NumGoroutine")) = some true := by rw [Tryz.func184]; rfl
theorem fn183 : ((Tryz.prog.funcs[183]?).map fun fn => fn.body.isSome && !(fn.name == "runtime.NumGoroutine")) = some true := by rw [Tryz.func183]; rfl
theorem fn124 : ((Tryz.prog.funcs[124]?).map fun fn => fn.body.isSome && !(fn.name == "runtime.NumGoroutine")) = some true := by rw [Tryz.func124]; rfl
theorem fn135 : ((Tryz.prog.funcs[135]?).map fun fn => fn.body.isSome && !(fn.name == "runtime.NumGoroutine")) = some true := by rw [Tryz.func135]; rfl
theorem fn76 : ((Tryz.prog.funcs[76]?).map fun fn => fn.body.isSome && !(fn.name == "runtime.NumGoroutine")) = some true := by rw [Tryz.func76]; rfl
theorem fn62 : ((Tryz.prog.funcs[62]?).map fun fn => fn.body.isSome && !(fn.name == "runtime.NumGoroutine")) = some true := by rw [Tryz.func62]; rfl
theorem fn187 : ((Tryz.prog.funcs[187]?).map fun fn => fn.body.isSome && !(fn.name == "runtime.NumGoroutine")) = some true := by rw [Tryz.func187]; rfl
theorem fn127 : ((Tryz.prog.funcs[127]?).map fun fn => fn.body.isSome && !(fn.name == "runtime.NumGoroutine")) = some true := by rw [Tryz.func127]; rfl
theorem fn63 : ((Tryz.prog.funcs[63]?).map fun fn => fn.body.isSome && !(fn.name == "runtime.NumGoroutine")) = some true := by rw [Tryz.func63]; rfl
theorem fn64 : ((Tryz.prog.funcs[64]?).map fun fn => fn.body.isSome && !(fn.name == "runtime.NumGoroutine")) = some true := by rw [Tryz.func64]; rfl
theorem fn32 : ((Tryz.prog.funcs[32]?).map fun fn => fn.body.isSome && !(fn.name == "runtime.NumGoroutine")) = some true := by rw [Tryz.func32]; rfl
theorem fn125 : ((Tryz.prog.funcs[125]?).map fun fn => fn.body.isSome && !(fn.name == "runtime.NumGoroutine")) = some true := by rw [Tryz.func125]; rfl
theorem fn188 : ((Tryz.prog.funcs[188]?).map fun fn => fn.body.isSome && !(fn.name == "runtime.NumGoroutine")) = some true := by rw [Tryz.func188]; rfl
theorem fn189 : ((Tryz.prog.funcs[189]?).map fun fn => fn.body.isSome && !(fn.name == "runtime.NumGoroutine")) = some true := by rw [Tryz.func189]; rfl
theorem fn129 : ((Tryz.prog.funcs[129]?).map fun fn => fn.body.isSome && !(fn.name == "runtime.NumGoroutine")) = some true := by rw [Tryz.func129]; rfl
theorem fn68 : ((Tryz.prog.funcs[68]?).map fun fn => fn.body.isSome && !(fn.name == "runtime.NumGoroutine")) = some true := by rw [Tryz.func68]; rfl
theorem fn235 : ((Tryz.prog.funcs[235]?).map fun fn => fn.body.isSome && !(fn.name == "runtime.NumGoroutine")) = some true := by rw [Tryz.func235]; rfl
theorem fn128 : ((Tryz.prog.funcs[128]?).map fun fn => fn.body.isSome && !(fn.name == "runtime.NumGoroutine")) = some true := by rw [Tryz.func128]; rfl
theorem fn66 : ((Tryz.prog.funcs[66]?).map fun fn => fn.body.isSome && !(fn.name == "runtime.NumGoroutine")) = some true := by rw [Tryz.func66]; rfl
theorem fn185 : ((Tryz.prog.funcs[185]?).map fun fn => fn.body.isSome && !(fn.name == "runtime.NumGoroutine")) = some true := by rw [Tryz.func185]; rfl
theorem fn186 : ((Tryz.prog.funcs[186]?).map fun fn => fn.body.isSome && !(fn.name == "runtime.NumGoroutine")) = some true := by rw [Tryz.func186]; rfl
theorem fn126 : ((Tryz.prog.funcs[126]?).map fun fn => fn.body.isSome && !(fn.name == "runtime.NumGoroutine")) = some true := by rw [Tryz.func126]; rfl
theorem fn61 : ((Tryz.prog.funcs[61]?).map fun fn => fn.body.isSome && !(fn.name == "runtime.NumGoroutine")) = some true := by rw [Tryz.func61]; rfl
theorem fn31 : ((Tryz.prog.funcs[31]?).map fun fn => fn.body.isSome && !(fn.name == "runtime.NumGoroutine")) = some true := by rw [Tryz.func31]; rfl
theorem fn10 : ((Tryz.prog.funcs[10]?).map fun fn => fn.body.isSome && !(fn.name == "runtime.NumGoroutine")) = some true := by rw [Tryz.func10]; rfl
theorem fn65 : ((Tryz.prog.funcs[65]?).map fun fn => fn.body.isSome && !(fn.name == "runtime.NumGoroutine")) = some true := by rw [Tryz.func65]; rfl
theorem fn33 : ((Tryz.prog.funcs[33]?).map fun fn => fn.body.isSome && !(fn.name == "runtime.NumGoroutine")) = some true := by rw [Tryz.func33]; rfl
theorem fn11 : ((Tryz.prog.funcs[11]?).map fun fn => fn.body.isSome && !(fn.name == "runtime.NumGoroutine")) = some true := by rw [Tryz.func11]; rfl
theorem fn142 : ((Tryz.prog.funcs[142]?).map fun fn => fn.body.isSome && !(fn.name == "runtime.NumGoroutine")) = some true := by rw [Tryz.func142]; rfl
theorem fn67 : ((Tryz.prog.funcs[67]?).map fun fn => fn.body.isSome && !(fn.name == "runtime.NumGoroutine")) = some true := by rw [Tryz.func67]; rfl
theorem fn69 : ((Tryz.prog.funcs[69]?).map fun fn => fn.body.isSome && !(fn.name == "runtime.NumGoroutine")) = some true := by rw [Tryz.func69]; rfl
theorem fn70 : ((Tryz.prog.funcs[70]?).map fun fn => fn.body.isSome && !(fn.name == "runtime.NumGoroutine")) = some true := by rw [Tryz.func70]; rfl
theorem fn71 : ((Tryz.prog.funcs[71]?).map fun fn => fn.body.isSome && !(fn.name == "runtime.NumGoroutine")) = some true := by rw [Tryz.func71]; rfl
theorem fn131 : ((Tryz.prog.funcs[131]?).map fun fn => fn.body.isSome && !(fn.name == "runtime.NumGoroutine")) = some true := by rw [Tryz.func131]; rfl
theorem fn130 : ((Tryz.prog.funcs[130]?).map fun fn => fn.body.isSome && !(fn.name == "runtime.NumGoroutine")) = some true := by rw [Tryz.func130]; rfl
theorem fn190 : ((Tryz.prog.funcs[190]?).map fun fn => fn.body.isSome && !(fn.name == "runtime.NumGoroutine")) = some true := by rw [Tryz.func190]; rfl
theorem fn132 : ((Tryz.prog.funcs[132]?).map fun fn => fn.body.isSome && !(fn.name == "runtime.NumGoroutine")) = some true := by rw [Tryz.func132]; rfl
theorem fn72 : ((Tryz.prog.funcs[72]?).map fun fn => fn.body.isSome && !(fn.name == "runtime.NumGoroutine")) = some true := by rw [Tryz.func72]; rfl
theorem fn73 : ((Tryz.prog.funcs[73]?).map fun fn => fn.body.isSome && !(fn.name == "runtime.NumGoroutine")) = some true := by rw [Tryz.func73]; rfl
theorem fn34 : ((Tryz.prog.funcs[34]?).map fun fn => fn.body.isSome && !(fn.name == "runtime.NumGoroutine")) = some true := by rw [Tryz.func34]; rfl
theorem fn12 : ((Tryz.prog.funcs[12]?).map fun fn => fn.body.isSome && !(fn.name == "runtime.NumGoroutine")) = some true := by rw [Tryz.func12]; rfl
theorem fn78 : ((Tryz.prog.funcs[78]?).map fun fn => fn.body.isSome && !(fn.name == "runtime.NumGoroutine")) = some true := by rw [Tryz.func78]; rfl
theorem fn77 : ((Tryz.prog.funcs[77]?).map fun fn => fn.body.isSome && !(fn.name == "runtime.NumGoroutine")) = some true := by rw [Tryz.func77]; rfl
theorem fn253 : ((Tryz.prog.funcs[253]?).map fun fn => fn.body.isSome && !(fn.name == "runtime.NumGoroutine")) = some true := by rw [Tryz.func253]; rfl
theorem fn254 : ((Tryz.prog.funcs[254]?).map fun fn => fn.body.isSome && !(fn.name == "runtime.NumGoroutine")) = some true := by rw [Tryz.func254]; rfl
theorem fn239 : ((Tryz.prog.funcs[239]?).map fun fn => fn.body.isSome && !(fn.name == "runtime.NumGoroutine")) = some true := by rw [Tryz.func239]; rfl
theorem fn81 : ((Tryz.prog.funcs[81]?).map fun fn => fn.body.isSome && !(fn.name == "runtime.NumGoroutine")) = some true := by rw [Tryz.func81]; rfl
theorem fn240 : ((Tryz.prog.funcs[240]?).map fun fn => fn.body.isSome && !(fn.name == "runtime.NumGoroutine")) = some true := by rw [Tryz.func240]; rfl
theorem fn241 : ((Tryz.prog.funcs[241]?).map fun fn => fn.body.isSome && !(fn.name == "runtime.NumGoroutine")) = some true := by rw [Tryz.func241]; rfl
theorem fn203 : ((Tryz.prog.funcs[203]?).map fun fn => fn.body.isSome && !(fn.name == "runtime.NumGoroutine")) = some true := by rw [Tryz.func203]; rfl
theorem fn242 : ((Tryz.prog.funcs[242]?).map fun fn => fn.body.isSome && !(fn.name == "runtime.NumGoroutine")) = some true := by rw [Tryz.func242]; rfl
theorem fn199 : ((Tryz.prog.funcs[199]?).map fun fn => fn.body.isSome && !(fn.name == "runtime.NumGoroutine")) = some true := by rw [Tryz.func199]; rfl
theorem fn136 : ((Tryz.prog.funcs[136]?).map fun fn => fn.body.isSome && !(fn.name == "runtime.NumGoroutine")) = some true := by rw [Tryz.func136]; rfl
theorem fn200 : ((Tryz.prog.funcs[200]?).map fun fn => fn.body.isSome && !(fn.name == "runtime.NumGoroutine")) = some true := by rw [Tryz.func200]; rfl
theorem fn201 : ((Tryz.prog.funcs[201]?).map fun fn => fn.body.isSome && !(fn.name == "runtime.NumGoroutine")) = some true := by rw [Tryz.func201]; rfl
theorem fn48 : ((Tryz.prog.funcs[48]?).map fun fn => fn.body.isSome && !(fn.name == "runtime.NumGoroutine")) = some true := by rw [Tryz.func48]; rfl
theorem fn49 : ((Tryz.prog.funcs[49]?).map fun fn => fn.body.isSome && !(fn.name == "runtime.NumGoroutine")) = some true := by rw [Tryz.func49]; rfl
theorem fn137 : ((Tryz.prog.funcs[137]?).map fun fn => fn.body.isSome && !(fn.name == "runtime.NumGoroutine")) = some true := by rw [Tryz.func137]; rfl
theorem fn138 : ((Tryz.prog.funcs[138]?).map fun fn => fn.body.isSome && !(fn.name == "runtime.NumGoroutine")) = some true := by rw [Tryz.func138]; rfl
theorem fn79 : ((Tryz.prog.funcs[79]?).map fun fn => fn.body.isSome && !(fn.name == "runtime.NumGoroutine")) = some true := by rw [Tryz.func79]; rfl
theorem fn80 : ((Tryz.prog.funcs[80]?).map fun fn => fn.body.isSome && !(fn.name == "runtime.NumGoroutine")) = some true := by rw [Tryz.func80]; rfl
theorem fn35 : ((Tryz.prog.funcs[35]?).map fun fn => fn.body.isSome && !(fn.name == "runtime.NumGoroutine")) = some true := by rw [Tryz.func35]; rfl
theorem fn13 : ((Tryz.prog.funcs[13]?).map fun fn => fn.body.isSome && !(fn.name == "runtime.NumGoroutine")) = some true := by rw [Tryz.func13]; rfl
theorem fn42 : ((Tryz.prog.funcs[42]?).map fun fn => fn.body.isSome && !(fn.name == "runtime.NumGoroutine")) = some true := by rw [Tryz.func42]; rfl
theorem fn143 : ((Tryz.prog.funcs[143]?).map fun fn => fn.body.isSome && !(fn.name == "runtime.NumGoroutine")) = some true := by rw [Tryz.func143]; rfl
theorem fn47 : ((Tryz.prog.funcs[47]?).map fun fn => fn.body.isSome && !(fn.name == "runtime.NumGoroutine")) = some true := by rw [Tryz.func47]; rfl
theorem fn95 : ((Tryz.prog.funcs[95]?).map fun fn => fn.body.isSome && !(fn.name == "runtime.NumGoroutine")) = some true := by rw [Tryz.func95]; rfl
theorem fn23 : ((Tryz.prog.funcs[23]?).map fun fn => fn.body.isSome && !(fn.name == "runtime.NumGoroutine")) = some true := by rw [Tryz.func23]; rfl
theorem fn82 : ((Tryz.prog.funcs[82]?).map fun fn => fn.body.isSome && !(fn.name == "runtime.NumGoroutine")) = some true := by rw [Tryz.func82]; rfl
theorem fn84 : ((Tryz.prog.funcs[84]?).map fun fn => fn.body.isSome && !(fn.name == "runtime.NumGoroutine")) = some true := by rw [Tryz.func84]; rfl
theorem fn83 : ((Tryz.prog.funcs[83]?).map fun fn => fn.body.isSome && !(fn.name == "runtime.NumGoroutine")) = some true := by rw [Tryz.func83]; rfl
theorem fn141 : ((Tryz.prog.funcs[141]?).map fun fn => fn.body.isSome && !(fn.name == "runtime.NumGoroutine")) = some true := by rw [Tryz.func141]; rfl
theorem fn85 : ((Tryz.prog.funcs[85]?).map fun fn => fn.body.isSome && !(fn.name == "runtime.NumGoroutine")) = some true := by rw [Tryz.func85]; rfl
theorem fn36 : ((Tryz.prog.funcs[36]?).map fun fn => fn.body.isSome && !(fn.name == "runtime.NumGoroutine")) = some true := by rw [Tryz.func36]; rfl
theorem fn14 : ((Tryz.prog.funcs[14]?).map fun fn => fn.body.isSome && !(fn.name == "runtime.NumGoroutine")) = some true := by rw [Tryz.func14]; rfl
theorem fn144 : ((Tryz.prog.funcs[144]?).map fun fn => fn.body.isSome && !(fn.name == "runtime.NumGoroutine")) = some true := by rw [Tryz.func144]; rfl
theorem fn89 : ((Tryz.prog.funcs[89]?).map fun fn => fn.body.isSome && !(fn.name == "runtime.NumGoroutine")) = some true := by rw [Tryz.func89]; rfl
theorem fn91 : ((Tryz.prog.funcs[91]?).map fun fn => fn.body.isSome && !(fn.name == "runtime.NumGoroutine")) = some true := by rw [Tryz.func91]; rfl
theorem fn90 : ((Tryz.prog.funcs[90]?).map fun fn => fn.body.isSome && !(fn.name == "runtime.NumGoroutine")) = some true := by rw [Tryz.func90]; rfl
theorem fn92 : ((Tryz.prog.funcs[92]?).map fun fn => fn.body.isSome && !(fn.name == "runtime.NumGoroutine")) = some true := by rw [Tryz.func92]; rfl
theorem fn93 : ((Tryz.prog.funcs[93]?).map fun fn => fn.body.isSome && !(fn.name == "runtime.NumGoroutine")) = some true := by rw [Tryz.func93]; rfl
theorem fn43 : ((Tryz.prog.funcs[43]?).map fun fn => fn.body.isSome && !(fn.name == "runtime.NumGoroutine")) = some true := by rw [Tryz.func43]; rfl
theorem fn94 : ((Tryz.prog.funcs[94]?).map fun fn => fn.body.isSome && !(fn.name == "runtime.NumGoroutine")) = some true := by rw [Tryz.func94]; rfl
theorem fn44 : ((Tryz.prog.funcs[44]?).map fun fn => fn.body.isSome && !(fn.name == "runtime.NumGoroutine")) = some true := by rw [Tryz.func44]; rfl
theorem fn20 : ((Tryz.prog.funcs[20]?).map fun fn => fn.body.isSome && !(fn.name == "runtime.NumGoroutine")) = some true := by rw [Tryz.func20]; rfl
theorem fn15 : ((Tryz.prog.funcs[15]?).map fun fn => fn.body.isSome && !(fn.name == "runtime.NumGoroutine")) = some true := by rw [Tryz.func15]; rfl
theorem fn37 : ((Tryz.prog.funcs[37]?).map fun fn => fn.body.isSome && !(fn.name == "runtime.NumGoroutine")) = some true := by rw [Tryz.func37]; rfl
theorem fn86 : ((Tryz.prog.funcs[86]?).map fun fn => fn.body.isSome && !(fn.name == "runtime.NumGoroutine")) = some true := by rw [Tryz.func86]; rfl
theorem fn39 : ((Tryz.prog.funcs[39]?).map fun fn => fn.body.isSome && !(fn.name == "runtime.NumGoroutine")) = some true := by rw [Tryz.func39]; rfl
theorem fn38 : ((Tryz.prog.funcs[38]?).map fun fn => fn.body.isSome && !(fn.name == "runtime.NumGoroutine")) = some true := by rw [Tryz.func38]; rfl
theorem fn87 : ((Tryz.prog.funcs[87]?).map fun fn => fn.body.isSome && !(fn.name == "runtime.NumGoroutine")) = some true := by rw [Tryz.func87]; rfl
theorem fn40 : ((Tryz.prog.funcs[40]?).map fun fn => fn.body.isSome && !(fn.name == "runtime.NumGoroutine")) = some true := by rw [Tryz.func40]; rfl
theorem fn16 : ((Tryz.prog.funcs[16]?).map fun fn => fn.body.isSome && !(fn.name == "runtime.NumGoroutine")) = some true := by rw [Tryz.func16]; rfl
theorem fn41 : ((Tryz.prog.funcs[41]?).map fun fn => fn.body.isSome && !(fn.name == "runtime.NumGoroutine")) = some true := by rw [Tryz.func41]; rfl
theorem fn19 : ((Tryz.prog.funcs[19]?).map fun fn => fn.body.isSome && !(fn.name == "runtime.NumGoroutine")) = some true := by rw [Tryz.func19]; rfl
theorem fn17 : ((Tryz.prog.funcs[17]?).map fun fn => fn.body.isSome && !(fn.name == "runtime.NumGoroutine")) = some true := by rw [Tryz.func17]; rfl
theorem fn173 : ((Tryz.prog.funcs[173]?).map fun fn => fn.body.isSome && !(fn.name == "runtime.NumGoroutine")) = some true := by rw [Tryz.func173]; rfl
theorem fn174 : ((Tryz.prog.funcs[174]?).map fun fn => fn.body.isSome && !(fn.name == "runtime.NumGoroutine")) = some true := by rw [Tryz.func174]; rfl
theorem fn111 : ((Tryz.prog.funcs[111]?).map fun fn => fn.body.isSome && !(fn.name == "runtime.NumGoroutine")) = some true := by rw [Tryz.func111]; rfl
theorem fn175 : ((Tryz.prog.funcs[175]?).map fun fn => fn.body.isSome && !(fn.name == "runtime.NumGoroutine")) = some true := by rw [Tryz.func175]; rfl
theorem fn114 : ((Tryz.prog.funcs[114]?).map fun fn => fn.body.isSome && !(fn.name == "runtime.NumGoroutine")) = some true := by rw [Tryz.func114]; rfl
theorem fn118 : ((Tryz.prog.funcs[118]?).map fun fn => fn.body.isSome && !(fn.name == "runtime.NumGoroutine")) = some true := by rw [Tryz.func118]; rfl
theorem fn59 : ((Tryz.prog.funcs[59]?).map fun fn => fn.body.isSome && !(fn.name == "runtime.NumGoroutine")) = some true := by rw [Tryz.func59]; rfl
theorem fn27 : ((Tryz.prog.funcs[27]?).map fun fn => fn.body.isSome && !(fn.name == "runtime.NumGoroutine")) = some true := by rw [Tryz.func27]; rfl
theorem fn18 : ((Tryz.prog.funcs[18]?).map fun fn => fn.body.isSome && !(fn.name == "runtime.NumGoroutine")) = some true := by rw [Tryz.func18]; rfl
theorem fn8 : ((Tryz.prog.funcs[8]?).map fun fn => fn.body.isSome && !(fn.name == "runtime.NumGoroutine")) = some true := by rw [Tryz.func8]; rfl
theorem fn30 : ((Tryz.prog.funcs[30]?).map fun fn => fn.body.isSome && !(fn.name == "runtime.NumGoroutine")) = some true := by rw [Tryz.func30]; rfl
theorem fn9 : ((Tryz.prog.funcs[9]?).map fun fn => fn.body.isSome && !(fn.name == "runtime.NumGoroutine")) = some true := by rw [Tryz.func9]; rfl
theorem fn45 : ((Tryz.prog.funcs[45]?).map fun fn => fn.body.isSome && !(fn.name == "runtime.NumGoroutine")) = some true := by rw [Tryz.func45]; rfl
theorem fn46 : ((Tryz.prog.funcs[46]?).map fun fn => fn.body.isSome && !(fn.name == "runtime.NumGoroutine")) = some true := by rw [Tryz.func46]; rfl
theorem fn22 : ((Tryz.prog.funcs[22]?).map fun fn => fn.body.isSome && !(fn.name == "runtime.NumGoroutine")) = some true := by rw [Tryz.func22]; rfl
theorem fn21 : ((Tryz.prog.funcs[21]?).map fun fn => fn.body.isSome && !(fn.name == "runtime.NumGoroutine")) = some true := by rw [Tryz.func21]; rfl
theorem fn110 : ((Tryz.prog.funcs[110]?).map fun fn => fn.body.isSome && !(fn.name == "runtime.NumGoroutine")) = some true := by rw [Tryz.func110]; rfl
theorem fn112 : ((Tryz.prog.funcs[112]?).map fun fn => fn.body.isSome && !(fn.name == "runtime.NumGoroutine")) = some true := by rw [Tryz.func112]; rfl
theorem fn113 : ((Tryz.prog.funcs[113]?).map fun fn => fn.body.isSome && !(fn.name == "runtime.NumGoroutine")) = some true := by rw [Tryz.func113]; rfl
theorem fn115 : ((Tryz.prog.funcs[115]?).map fun fn => fn.body.isSome && !(fn.name == "runtime.NumGoroutine")) = some true := by rw [Tryz.func115]; rfl
theorem fn116 : ((Tryz.prog.funcs[116]?).map fun fn => fn.body.isSome && !(fn.name == "runtime.NumGoroutine")) = some true := by rw [Tryz.func116]; rfl
theorem fn117 : ((Tryz.prog.funcs[117]?).map fun fn => fn.body.isSome && !(fn.name == "runtime.NumGoroutine")) = some true := by rw [Tryz.func117]; rfl
theorem fn119 : ((Tryz.prog.funcs[119]?).map fun fn => fn.body.isSome && !(fn.name == "runtime.NumGoroutine")) = some true := by rw [Tryz.func119]; rfl
theorem fn172 : ((Tryz.prog.funcs[172]?).map fun fn => fn.body.isSome && !(fn.name == "runtime.NumGoroutine")) = some true := by rw [Tryz.func172]; rfl
def tab0 : List arr245 := [(⟨0, 0⟩ : arr245), (⟨0, 31⟩ : arr245), (⟨0, 15⟩ : arr245), (⟨0, 3⟩ : arr245), (⟨0, 1024⟩ : arr245), (⟨0, 199⟩ : arr245), (⟨0, 15⟩ : arr245), (⟨0, 255⟩ : arr245), (⟨1, 100⟩ : arr245)]
@[reducible, instance] def i_u1 := Und.mk Tryz.underlying1
@[reducible, instance] def i_u2 := Und.mk Tryz.underlying2
@[reducible, instance] def i_u3 := Und.mk Tryz.underlying3
@[reducible, instance] def i_u4 := Und.mk Tryz.underlying4
@[reducible, instance] def i_u5 := Und.mk Tryz.underlying5
@[reducible, instance] def i_u22 := Und.mk Tryz.underlying22
@[reducible, instance] def i_u23 := Und.mk Tryz.underlying23
@[reducible, instance] def i_u25 := Und.mk Tryz.underlying25
@[reducible, instance] def i_u28 := Und.mk Tryz.underlying28
@[reducible, instance] def i_u29 := Und.mk Tryz.underlying29
@[reducible, instance] def i_u31 := Und.mk Tryz.underlying31
@[reducible, instance] def i_u32 := Und.mk Tryz.underlying32
@[reducible, instance] def i_u34 := Und.mk Tryz.underlying34
@[reducible, instance] def i_u37 := Und.mk Tryz.underlying37
@[reducible, instance] def i_u43 := Und.mk Tryz.underlying43
@[reducible, instance] def i_u45 := Und.mk Tryz.underlying45
@[reducible, instance] def i_u48 := Und.mk Tryz.underlying48
@[reducible, instance] def i_u64 := Und.mk Tryz.underlying64
@[reducible, instance] def i_u67 := Und.mk Tryz.underlying67
@[reducible, instance] def i_u71 := Und.mk Tryz.underlying71
@[reducible, instance] def i_u100 := Und.mk Tryz.underlying100
@[reducible, instance] def i_u107 := Und.mk Tryz.underlying107
@[reducible, instance] def i_u109 := Und.mk Tryz.underlying109
@[reducible, instance] def i_u111 := Und.mk Tryz.underlying111
@[reducible, instance] def i_u116 := Und.mk Tryz.underlying116
@[reducible, instance] def i_u119 := Und.mk Tryz.underlying119
@[reducible, instance] def i_u120 := Und.mk Tryz.underlying120
@[reducible, instance] def i_u122 := Und.mk Tryz.underlying122
@[reducible, instance] def i_u126 := Und.mk Tryz.underlying126
@[reducible, instance] def i_u132 := Und.mk Tryz.underlying132
@[reducible, instance] def i_u133 := Und.mk Tryz.underlying133
@[reducible, instance] def i_u138 := Und.mk Tryz.underlying138
@[reducible, instance] def i_u140 := Und.mk Tryz.underlying140
@[reducible, instance] def i_u148 := Und.mk Tryz.underlying148
@[reducible, instance] def i_u164 := Und.mk Tryz.underlying164
@[reducible, instance] def i_u165 := Und.mk Tryz.underlying165
@[reducible, instance] def i_u170 := Und.mk Tryz.underlying170
@[reducible, instance] def i_u191 := Und.mk Tryz.underlying191
@[reducible, instance] def i_u210 := Und.mk Tryz.underlying210
@[reducible, instance] def i_u240 := Und.mk Tryz.underlying240
@[reducible, instance] def i_u241 := Und.mk Tryz.underlying241
@[reducible, instance] def i_u245 := Und.mk Tryz.underlying245
@[reducible, instance] def i_u246 := Und.mk Tryz.underlying246
@[reducible, instance] def i_u255 := Und.mk Tryz.underlying255
@[reducible, instance] def i_u297 := Und.mk Tryz.underlying297
@[reducible, instance] def i_u314 := Und.mk Tryz.underlying314
@[reducible, instance] def i_z1 := Siz.mk sz1
@[reducible, instance] def i_z2 := Siz.mk sz2
@[reducible, instance] def i_z3 := Siz.mk sz3
@[reducible, instance] def i_z4 := Siz.mk sz4
@[reducible, instance] def i_z5 := Siz.mk sz5
@[reducible, instance] def i_z22 := Siz.mk sz22
@[reducible, instance] def i_z23 := Siz.mk sz23
@[reducible, instance] def i_z25 := Siz.mk sz25
@[reducible, instance] def i_z28 := Siz.mk sz28
@[reducible, instance] def i_z29 := Siz.mk sz29
@[reducible, instance] def i_z31 := Siz.mk sz31
@[reducible, instance] def i_z32 := Siz.mk sz32
@[reducible, instance] def i_z34 := Siz.mk sz34
@[reducible, instance] def i_z43 := Siz.mk sz43
@[reducible, instance] def i_z45 := Siz.mk sz45
@[reducible, instance] def i_z48 := Siz.mk sz48
@[reducible, instance] def i_z67 := Siz.mk sz67
@[reducible, instance] def i_z100 := Siz.mk sz100
@[reducible, instance] def i_z107 := Siz.mk sz107
@[reducible, instance] def i_z111 := Siz.mk sz111
@[reducible, instance] def i_z116 := Siz.mk sz116
@[reducible, instance] def i_z119 := Siz.mk sz119
@[reducible, instance] def i_z120 := Siz.mk sz120
@[reducible, instance] def i_z132 := Siz.mk sz132
@[reducible, instance] def i_z133 := Siz.mk sz133
@[reducible, instance] def i_z138 := Siz.mk sz138
@[reducible, instance] def i_z164 := Siz.mk sz164
@[reducible, instance] def i_z165 := Siz.mk sz165
@[reducible, instance] def i_z240 := Siz.mk sz240
@[reducible, instance] def i_z245 := Siz.mk sz245
@[reducible, instance] def i_z255 := Siz.mk sz255
@[reducible, instance] def i_z314 := Siz.mk sz314
@[reducible, instance] def i_f25_0 : Fld Tryz.prog 25 0 0 := ⟨⟨_, _, _, Tryz.underlying25, rfl, rfl, sz22⟩⟩
@[reducible, instance] def i_f25_1 : Fld Tryz.prog 25 1 1 := ⟨⟨_, _, _, Tryz.underlying25, rfl, rfl, sz22⟩⟩
@[reducible, instance] def i_f25_2 : Fld Tryz.prog 25 2 2 := ⟨⟨_, _, _, Tryz.underlying25, rfl, rfl, sz23⟩⟩
@[reducible, instance] def i_f25_3 : Fld Tryz.prog 25 3 3 := ⟨⟨_, _, _, Tryz.underlying25, rfl, rfl, sz3⟩⟩
@[reducible, instance] def i_f34_0 : Fld Tryz.prog 34 0 0 := ⟨⟨_, _, _, Tryz.underlying34, rfl, rfl, sz31⟩⟩
@[reducible, instance] def i_f34_1 : Fld Tryz.prog 34 1 1 := ⟨⟨_, _, _, Tryz.underlying34, rfl, rfl, sz31⟩⟩
@[reducible, instance] def i_f34_2 : Fld Tryz.prog 34 2 2 := ⟨⟨_, _, _, Tryz.underlying34, rfl, rfl, sz5⟩⟩
@[reducible, instance] def i_f34_3 : Fld Tryz.prog 34 3 3 := ⟨⟨_, _, _, Tryz.underlying34, rfl, rfl, sz4⟩⟩
@[reducible, instance] def i_f34_4 : Fld Tryz.prog 34 4 4 := ⟨⟨_, _, _, Tryz.underlying34, rfl, rfl, sz3⟩⟩
@[reducible, instance] def i_f34_5 : Fld Tryz.prog 34 5 5 := ⟨⟨_, _, _, Tryz.underlying34, rfl, rfl, sz3⟩⟩
@[reducible, instance] def i_f34_6 : Fld Tryz.prog 34 6 6 := ⟨⟨_, _, _, Tryz.underlying34, rfl, rfl, sz3⟩⟩
@[reducible, instance] def i_f34_7 : Fld Tryz.prog 34 7 7 := ⟨⟨_, _, _, Tryz.underlying34, rfl, rfl, sz32⟩⟩
@[reducible, instance] def i_f43_0 : Fld Tryz.prog 43 0 0 := ⟨⟨_, _, _, Tryz.underlying43, rfl, rfl, sz5⟩⟩
@[reducible, instance] def i_f43_1 : Fld Tryz.prog 43 1 1 := ⟨⟨_, _, _, Tryz.underlying43, rfl, rfl, sz3⟩⟩
@[reducible, instance] def i_f43_2 : Fld Tryz.prog 43 2 2 := ⟨⟨_, _, _, Tryz.underlying43, rfl, rfl, sz3⟩⟩
@[reducible, instance] def i_f45_0 : Fld Tryz.prog 45 0 0 := ⟨⟨_, _, _, Tryz.underlying45, rfl, rfl, sz3⟩⟩
@[reducible, instance] def i_f45_1 : Fld Tryz.prog 45 1 1 := ⟨⟨_, _, _, Tryz.underlying45, rfl, rfl, sz3⟩⟩
@[reducible, instance] def i_f45_2 : Fld Tryz.prog 45 2 2 := ⟨⟨_, _, _, Tryz.underlying45, rfl, rfl, sz3⟩⟩
@[reducible, instance] def i_f100_0 : Fld Tryz.prog 100 0 0 := ⟨⟨_, _, _, Tryz.underlying100, rfl, rfl, sz5⟩⟩
@[reducible, instance] def i_f100_1 : Fld Tryz.prog 100 1 1 := ⟨⟨_, _, _, Tryz.underlying100, rfl, rfl, sz2⟩⟩
@[reducible, instance] def i_f100_2 : Fld Tryz.prog 100 2 2 := ⟨⟨_, _, _, Tryz.underlying100, rfl, rfl, sz2⟩⟩
@[reducible, instance] def i_f109_0 : Fld Tryz.prog 109 0 0 := ⟨⟨_, _, _, Tryz.underlying109, rfl, rfl, sz107⟩⟩
@[reducible, instance] def i_f109_1 : Fld Tryz.prog 109 1 4 := ⟨⟨_, _, _, Tryz.underlying109, rfl, rfl, sz3⟩⟩
@[reducible, instance] def i_f111_0 : Fld Tryz.prog 111 0 0 := ⟨⟨_, _, _, Tryz.underlying111, rfl, rfl, sz3⟩⟩
@[reducible, instance] def i_f111_1 : Fld Tryz.prog 111 1 1 := ⟨⟨_, _, _, Tryz.underlying111, rfl, rfl, sz3⟩⟩
@[reducible, instance] def i_f111_2 : Fld Tryz.prog 111 2 2 := ⟨⟨_, _, _, Tryz.underlying111, rfl, rfl, sz3⟩⟩
@[reducible, instance] def i_f119_0 : Fld Tryz.prog 119 0 0 := ⟨⟨_, _, _, Tryz.underlying119, rfl, rfl, sz4⟩⟩
@[reducible, instance] def i_f119_1 : Fld Tryz.prog 119 1 1 := ⟨⟨_, _, _, Tryz.underlying119, rfl, rfl, sz31⟩⟩
@[reducible, instance] def i_f122_0 : Fld Tryz.prog 122 0 0 := ⟨⟨_, _, _, Tryz.underlying122, rfl, rfl, sz25⟩⟩
@[reducible, instance] def i_f122_1 : Fld Tryz.prog 122 1 4 := ⟨⟨_, _, _, Tryz.underlying122, rfl, rfl, sz34⟩⟩
@[reducible, instance] def i_f122_2 : Fld Tryz.prog 122 2 12 := ⟨⟨_, _, _, Tryz.underlying122, rfl, rfl, sz31⟩⟩
@[reducible, instance] def i_f122_3 : Fld Tryz.prog 122 3 13 := ⟨⟨_, _, _, Tryz.underlying122, rfl, rfl, sz120⟩⟩
@[reducible, instance] def i_f132_0 : Fld Tryz.prog 132 0 0 := ⟨⟨_, _, _, Tryz.underlying132, rfl, rfl, sz29⟩⟩
@[reducible, instance] def i_f138_0 : Fld Tryz.prog 138 0 0 := ⟨⟨_, _, _, Tryz.underlying138, rfl, rfl, sz45⟩⟩
@[reducible, instance] def i_f140_0 : Fld Tryz.prog 140 0 0 := ⟨⟨_, _, _, Tryz.underlying140, rfl, rfl, sz138⟩⟩
@[reducible, instance] def i_f140_1 : Fld Tryz.prog 140 1 3 := ⟨⟨_, _, _, Tryz.underlying140, rfl, rfl, sz34⟩⟩
@[reducible, instance] def i_f140_2 : Fld Tryz.prog 140 2 11 := ⟨⟨_, _, _, Tryz.underlying140, rfl, rfl, sz67⟩⟩
@[reducible, instance] def i_f240_0 : Fld Tryz.prog 240 0 0 := ⟨⟨_, _, _, Tryz.underlying240, rfl, rfl, sz3⟩⟩
@[reducible, instance] def i_f240_1 : Fld Tryz.prog 240 1 1 := ⟨⟨_, _, _, Tryz.underlying240, rfl, rfl, sz3⟩⟩
@[reducible, instance] def i_f255_0 : Fld Tryz.prog 255 0 0 := ⟨⟨_, _, _, Tryz.underlying255, rfl, rfl, sz31⟩⟩
@[reducible, instance] def i_f255_1 : Fld Tryz.prog 255 1 1 := ⟨⟨_, _, _, Tryz.underlying255, rfl, rfl, sz31⟩⟩
@[reducible, instance] def i_r4 := Rsl.mk Tryz.results4
@[reducible, instance] def i_r8 := Rsl.mk Tryz.results8
@[reducible, instance] def i_r9 := Rsl.mk Tryz.results9
@[reducible, instance] def i_r10 := Rsl.mk Tryz.results10
@[reducible, instance] def i_r11 := Rsl.mk Tryz.results11
@[reducible, instance] def i_r12 := Rsl.mk Tryz.results12
@[reducible, instance] def i_r13 := Rsl.mk Tryz.results13
@[reducible, instance] def i_r14 := Rsl.mk Tryz.results14
@[reducible, instance] def i_r15 := Rsl.mk Tryz.results15
@[reducible, instance] def i_r16 := Rsl.mk Tryz.results16
@[reducible, instance] def i_r17 := Rsl.mk Tryz.results17
@[reducible, instance] def i_r18 := Rsl.mk Tryz.results18
@[reducible, instance] def i_r19 := Rsl.mk Tryz.results19
@[reducible, instance] def i_r20 := Rsl.mk Tryz.results20
@[reducible, instance] def i_r21 := Rsl.mk Tryz.results21
@[reducible, instance] def i_r22 := Rsl.mk Tryz.results22
@[reducible, instance] def i_r23 := Rsl.mk Tryz.results23
@[reducible, instance] def i_r27 := Rsl.mk Tryz.results27
@[reducible, instance] def i_r29 := Rsl.mk Tryz.results29
@[reducible, instance] def i_r30 := Rsl.mk Tryz.results30
@[reducible, instance] def i_r31 := Rsl.mk Tryz.results31
@[reducible, instance] def i_r32 := Rsl.mk Tryz.results32
@[reducible, instance] def i_r33 := Rsl.mk Tryz.results33
@[reducible, instance] def i_r34 := Rsl.mk Tryz.results34
@[reducible, instance] def i_r35 := Rsl.mk Tryz.results35
@[reducible, instance] def i_r36 := Rsl.mk Tryz.results36
@[reducible, instance] def i_r37 := Rsl.mk Tryz.results37
@[reducible, instance] def i_r38 := Rsl.mk Tryz.results38
@[reducible, instance] def i_r39 := Rsl.mk Tryz.results39
@[reducible, instance] def i_r40 := Rsl.mk Tryz.results40
@[reducible, instance] def i_r41 := Rsl.mk Tryz.results41
@[reducible, instance] def i_r42 := Rsl.mk Tryz.results42
@[reducible, instance] def i_r43 := Rsl.mk Tryz.results43
@[reducible, instance] def i_r44 := Rsl.mk Tryz.results44
@[reducible, instance] def i_r45 := Rsl.mk Tryz.results45
@[reducible, instance] def i_r46 := Rsl.mk Tryz.results46
@[reducible, instance] def i_r47 := Rsl.mk Tryz.results47
@[reducible, instance] def i_r59 := Rsl.mk Tryz.results59
@[reducible, instance] def i_r61 := Rsl.mk Tryz.results61
@[reducible, instance] def i_r62 := Rsl.mk Tryz.results62
@[reducible, instance] def i_r63 := Rsl.mk Tryz.results63
@[reducible, instance] def i_r64 := Rsl.mk Tryz.results64
@[reducible, instance] def i_r65 := Rsl.mk Tryz.results65
@[reducible, instance] def i_r66 := Rsl.mk Tryz.results66
@[reducible, instance] def i_r67 := Rsl.mk Tryz.results67
@[reducible, instance] def i_r68 := Rsl.mk Tryz.results68
@[reducible, instance] def i_r69 := Rsl.mk Tryz.results69
@[reducible, instance] def i_r70 := Rsl.mk Tryz.results70
@[reducible, instance] def i_r71 := Rsl.mk Tryz.results71
@[reducible, instance] def i_r72 := Rsl.mk Tryz.results72
@[reducible, instance] def i_r76 := Rsl.mk Tryz.results76
@[reducible, instance] def i_r77 := Rsl.mk Tryz.results77
@[reducible, instance] def i_r78 := Rsl.mk Tryz.results78
@[reducible, instance] def i_r79 := Rsl.mk Tryz.results79
@[reducible, instance] def i_r80 := Rsl.mk Tryz.results80
@[reducible, instance] def i_r81 := Rsl.mk Tryz.results81
@[reducible, instance] def i_r82 := Rsl.mk Tryz.results82
@[reducible, instance] def i_r85 := Rsl.mk Tryz.results85
@[reducible, instance] def i_r86 := Rsl.mk Tryz.results86
@[reducible, instance] def i_r87 := Rsl.mk Tryz.results87
@[reducible, instance] def i_r88 := Rsl.mk Tryz.results88
@[reducible, instance] def i_r89 := Rsl.mk Tryz.results89
@[reducible, instance] def i_r90 := Rsl.mk Tryz.results90
@[reducible, instance] def i_r91 := Rsl.mk Tryz.results91
@[reducible, instance] def i_r92 := Rsl.mk Tryz.results92
@[reducible, instance] def i_r93 := Rsl.mk Tryz.results93
@[reducible, instance] def i_r94 := Rsl.mk Tryz.results94
@[reducible, instance] def i_r95 := Rsl.mk Tryz.results95
@[reducible, instance] def i_r110 := Rsl.mk Tryz.results110
@[reducible, instance] def i_r111 := Rsl.mk Tryz.results111
@[reducible, instance] def i_r112 := Rsl.mk Tryz.results112
@[reducible, instance] def i_r113 := Rsl.mk Tryz.results113
@[reducible, instance] def i_r114 := Rsl.mk Tryz.results114
@[reducible, instance] def i_r115 := Rsl.mk Tryz.results115
@[reducible, instance] def i_r116 := Rsl.mk Tryz.results116
@[reducible, instance] def i_r117 := Rsl.mk Tryz.results117
@[reducible, instance] def i_r119 := Rsl.mk Tryz.results119
@[reducible, instance] def i_r124 := Rsl.mk Tryz.results124
@[reducible, instance] def i_r125 := Rsl.mk Tryz.results125
@[reducible, instance] def i_r126 := Rsl.mk Tryz.results126
@[reducible, instance] def i_r127 := Rsl.mk Tryz.results127
@[reducible, instance] def i_r128 := Rsl.mk Tryz.results128
@[reducible, instance] def i_r129 := Rsl.mk Tryz.results129
@[reducible, instance] def i_r130 := Rsl.mk Tryz.results130
@[reducible, instance] def i_r131 := Rsl.mk Tryz.results131
@[reducible, instance] def i_r132 := Rsl.mk Tryz.results132
@[reducible, instance] def i_r136 := Rsl.mk Tryz.results136
@[reducible, instance] def i_r137 := Rsl.mk Tryz.results137
@[reducible, instance] def i_r138 := Rsl.mk Tryz.results138
@[reducible, instance] def i_r141 := Rsl.mk Tryz.results141
@[reducible, instance] def i_r142 := Rsl.mk Tryz.results142
@[reducible, instance] def i_r143 := Rsl.mk Tryz.results143
@[reducible, instance] def i_r144 := Rsl.mk Tryz.results144
@[reducible, instance] def i_r172 := Rsl.mk Tryz.results172
@[reducible, instance] def i_r173 := Rsl.mk Tryz.results173
@[reducible, instance] def i_r174 := Rsl.mk Tryz.results174
@[reducible, instance] def i_r182 := Rsl.mk Tryz.results182
@[reducible, instance] def i_r183 := Rsl.mk Tryz.results183
@[reducible, instance] def i_r184 := Rsl.mk Tryz.results184
@[reducible, instance] def i_r185 := Rsl.mk Tryz.results185
@[reducible, instance] def i_r186 := Rsl.mk Tryz.results186
@[reducible, instance] def i_r187 := Rsl.mk Tryz.results187
@[reducible, instance] def i_r188 := Rsl.mk Tryz.results188
@[reducible, instance] def i_r189 := Rsl.mk Tryz.results189
@[reducible, instance] def i_r190 := Rsl.mk Tryz.results190
@[reducible, instance] def i_r199 := Rsl.mk Tryz.results199
@[reducible, instance] def i_r200 := Rsl.mk Tryz.results200
@[reducible, instance] def i_r201 := Rsl.mk Tryz.results201
@[reducible, instance] def i_r220 := Rsl.mk Tryz.results220
@[reducible, instance] def i_r221 := Rsl.mk Tryz.results221
@[reducible, instance] def i_r229 := Rsl.mk Tryz.results229
@[reducible, instance] def i_r230 := Rsl.mk Tryz.results230
@[reducible, instance] def i_r231 := Rsl.mk Tryz.results231
@[reducible, instance] def i_r232 := Rsl.mk Tryz.results232
@[reducible, instance] def i_r233 := Rsl.mk Tryz.results233
@[reducible, instance] def i_r234 := Rsl.mk Tryz.results234
@[reducible, instance] def i_r235 := Rsl.mk Tryz.results235
@[reducible, instance] def i_r239 := Rsl.mk Tryz.results239
@[reducible, instance] def i_r240 := Rsl.mk Tryz.results240
@[reducible, instance] def i_r242 := Rsl.mk Tryz.results242
@[reducible, instance] def i_r250 := Rsl.mk Tryz.results250
@[reducible, instance] def i_r251 := Rsl.mk Tryz.results251
@[reducible, instance] def i_r253 := Rsl.mk Tryz.results253
@[reducible, instance] def i_r254 := Rsl.mk Tryz.results254
attribute [local irreducible] CP SP QE DA DT Val St
def capstanlaw14_small.f (fuel_0 : Int) : Option api_Module :=
  some (⟨[(⟨1, 0, 0⟩ : api_Value)], [], [(⟨[], [], 1, false, fuel_0, 1, 0, [(⟨4, 0, 0⟩ : api_Instr), (⟨31, 0, 0⟩ : api_Instr)]⟩ : api_Method)], (-1)⟩ : api_Module)
theorem capstanlaw14_small.ok (fuel_0 : Int)  (r : api_Module) (H : capstanlaw14_small.f fuel_0 = some r) (w : World) (hV : Hp) (sV : Sub hV (hp w))  :
    Trip Tryz.prog 29 [.int .i64 fuel_0].toArray em hV w (fun v => HO.ex fun u0 : Value => HO.ex fun u1 : Value => HO.ex fun u2 : Value => HO.pand (v = .agg #[u0, u1, u2, .int .i64 r.Migrate]) (HO.seps [slO k_api_Value 100 u0 r.Globals, slO k_api_Value 100 u1 r.Pool, slO k_api_Method 34 u2 r.Methods])) := by
 refine Trip.go 12 Tryz.func29 sV (All.nil _) fun see => ?_
 have ho := H
 refine go ?_
 refine SP.alloc (cs := [(.slice none 0 0), (.slice none 0 0), (.slice none 0 0), .int .i64 0]) inf25 rfl rfl (fun b1 => go ?_)
 refine SP.val (Val.buildC (us := [(0, .int .u8 1)]) (ucs := [(0, [.int .u8 1])]) (cs := [.int .u8 1, .int .i64 0, .int .i64 0]) bt100 rfl rfl ⟨rfl, rfl, trivial⟩ (by rfl)) rfl rfl rfl ?_
 refine SP.lit (k := k_api_Value) (xs := [(⟨1, 0, 0⟩ : api_Value)]) (vs := [.agg #[.int .u8 1, .int .i64 0, .int .i64 0]]) (cells := [.int .u8 1, .int .i64 0, .int .i64 0]) Tryz.underlying22 inf100 rfl rfl rfl rfl rfl rfl rfl rfl (fun _ ap => ⟨[.int .u8 1, .int .i64 0, .int .i64 0], _, rfl, rfl, rfl⟩) rfl rfl rfl (fun v3 => go ?_)
 refine SP.val (Val.buildC (us := [(0, .int .u8 4)]) (ucs := [(0, [.int .u8 4])]) (cs := [.int .u8 4, .int .i64 0, .int .i64 0]) bt43 rfl rfl ⟨rfl, rfl, trivial⟩ (by rfl)) rfl rfl rfl ?_
 refine SP.val (Val.buildC (us := [(0, .int .u8 31)]) (ucs := [(0, [.int .u8 31])]) (cs := [.int .u8 31, .int .i64 0, .int .i64 0]) bt43 rfl rfl ⟨rfl, rfl, trivial⟩ (by rfl)) rfl rfl rfl ?_
 refine SP.lit (k := k_api_Instr) (xs := [(⟨4, 0, 0⟩ : api_Instr), (⟨31, 0, 0⟩ : api_Instr)]) (vs := [.agg #[.int .u8 4, .int .i64 0, .int .i64 0], .agg #[.int .u8 31, .int .i64 0, .int .i64 0]]) (cells := [.int .u8 4, .int .i64 0, .int .i64 0, .int .u8 31, .int .i64 0, .int .i64 0]) Tryz.underlying32 inf43 rfl rfl rfl rfl rfl rfl rfl rfl (fun _ ap => ⟨[.int .u8 4, .int .i64 0, .int .i64 0], _, rfl, rfl, ⟨[.int .u8 31, .int .i64 0, .int .i64 0], _, rfl, rfl, rfl⟩⟩) rfl rfl rfl (fun v5 => ?_)
 refine SP.have (fun w2 hw => slO.shape (St.own 0 rfl see.sub see.dj hw)) (fun hs_v5 => ?_)
 refine SP.val (Val.buildC (us := [(2, .int .u8 1), (4, .int .i64 fuel_0), (5, .int .i64 1), (7, v5)]) (ucs := [(2, [.int .u8 1]), (4, [.int .i64 fuel_0]), (5, [.int .i64 1]), (7, [v5])]) (cs := [(.slice none 0 0), (.slice none 0 0), .int .u8 1, .bool false, .int .i64 fuel_0, .int .i64 1, .int .i64 0, v5]) bt34 rfl rfl ⟨rfl, rfl, ⟨rfl, rfl, ⟨rfl, rfl, ⟨rfl, one_cells hs_v5, trivial⟩⟩⟩⟩ (by rfl)) rfl rfl rfl ?_
 refine SP.freezeS see 0 rfl ?_
 refine SP.lit (k := k_api_Method) (xs := [(⟨[], [], 1, false, fuel_0, 1, 0, [(⟨4, 0, 0⟩ : api_Instr), (⟨31, 0, 0⟩ : api_Instr)]⟩ : api_Method)]) (vs := [.agg #[(.slice none 0 0), (.slice none 0 0), .int .u8 1, .bool false, .int .i64 fuel_0, .int .i64 1, .int .i64 0, v5]]) (cells := [(.slice none 0 0), (.slice none 0 0), .int .u8 1, .bool false, .int .i64 fuel_0, .int .i64 1, .int .i64 0, v5]) Tryz.underlying23 inf34 rfl rfl rfl rfl rfl rfl rfl rfl (fun _ ap => ⟨[(.slice none 0 0), (.slice none 0 0), .int .u8 1, .bool false, .int .i64 fuel_0, .int .i64 1, .int .i64 0, v5], _, rfl, ⟨_, _, _, rfl, slP.nil _ _, slP.nil _ _, ap.get 0 rfl⟩, rfl⟩) rfl rfl rfl (fun v7 => ?_)
 refine SP.have (fun w2 hw => slO.shape (St.own 1 rfl see.sub see.dj hw)) (fun hs_v3 => ?_)
 refine SP.have (fun w2 hw => slO.shape (St.own 0 rfl see.sub see.dj hw)) (fun hs_v7 => ?_)
 refine SP.val (Val.buildC (us := [(0, v3), (3, .int .i64 (-1)), (2, v7)]) (ucs := [(0, [v3]), (3, [.int .i64 (-1)]), (2, [v7])]) (cs := [v3, (.slice none 0 0), v7, .int .i64 (-1)]) bt25 rfl rfl ⟨rfl, one_cells hs_v3, ⟨rfl, rfl, ⟨rfl, one_cells hs_v7, trivial⟩⟩⟩ (by rfl)) rfl rfl rfl ?_
 refine SP.have (fun w2 hw => slO.shape (St.own 1 rfl see.sub see.dj hw)) (fun hs_v3 => ?_)
 refine SP.have (fun w2 hw => slO.shape (St.own 0 rfl see.sub see.dj hw)) (fun hs_v7 => ?_)
 refine SP.store (v := .agg #[v3, (.slice none 0 0), v7, .int .i64 (-1)]) (vs := [v3, (.slice none 0 0), v7, .int .i64 (-1)]) 2 (by rfl) sz25 (by rfl) (by rfl) (by rfl) (by rfl) (one_cons hs_v3 (one_cons rfl (one_cons hs_v7 (one_cons rfl (rfl))))) (by rfl) (go ?_)
 obtain rfl := Option.some.inj ho
 exact QE.rt (fun _ h => St.selO [2, 0, 1] rfl rfl (St.addO (slO.nil k_api_Value 100) h)) (rs := [.cell 2 25]) (vs := [.agg #[v3, (.slice none 0 0), v7, .int .i64 (-1)]]) (hv := ⟨RVs.cellA 2 rfl rfl Tryz.underlying25 rfl sz25, trivial⟩)
def verify_checks.f  : Option Unit :=
  some ()
theorem verify_checks.ok   (r : Unit) (H : verify_checks.f  = some r) (w : World) (hV : Hp) (sV : Sub hV (hp w))  :
    Trip Tryz.prog 88 [].toArray em hV w (fun v => HO.pure (v = .agg #[.func (.func 10) #[] #[], .func (.func 142) #[] #[], .func (.func 143) #[] #[], .func (.func 14) #[] #[], .func (.func 15) #[] #[], .func (.func 16) #[] #[]])) := by
 refine Trip.go 8 Tryz.func88 sV (All.nil _) fun see => ?_
 have ho := H
 refine go ?_
 refine SP.alloc (cs := [.nilFunc, .nilFunc, .nilFunc, .nilFunc, .nilFunc, .nilFunc]) inf133 rfl rfl (fun b1 => go ?_)
 refine SP.val (Val.buildC (us := [(0, .func (.func 10) #[] #[])]) (ucs := [(0, [.func (.func 10) #[] #[]])]) (cs := [.func (.func 10) #[] #[]]) bt132 rfl rfl ⟨rfl, rfl, trivial⟩ (by rfl)) rfl rfl rfl ?_
 refine SP.val (Val.buildC (us := [(0, .func (.func 142) #[] #[])]) (ucs := [(0, [.func (.func 142) #[] #[]])]) (cs := [.func (.func 142) #[] #[]]) bt132 rfl rfl ⟨rfl, rfl, trivial⟩ (by rfl)) rfl rfl rfl ?_
 refine SP.val (Val.buildC (us := [(0, .func (.func 143) #[] #[])]) (ucs := [(0, [.func (.func 143) #[] #[]])]) (cs := [.func (.func 143) #[] #[]]) bt132 rfl rfl ⟨rfl, rfl, trivial⟩ (by rfl)) rfl rfl rfl ?_
 refine SP.val (Val.buildC (us := [(0, .func (.func 14) #[] #[])]) (ucs := [(0, [.func (.func 14) #[] #[]])]) (cs := [.func (.func 14) #[] #[]]) bt132 rfl rfl ⟨rfl, rfl, trivial⟩ (by rfl)) rfl rfl rfl ?_
 refine SP.val (Val.buildC (us := [(0, .func (.func 15) #[] #[])]) (ucs := [(0, [.func (.func 15) #[] #[]])]) (cs := [.func (.func 15) #[] #[]]) bt132 rfl rfl ⟨rfl, rfl, trivial⟩ (by rfl)) rfl rfl rfl ?_
 refine SP.val (Val.buildC (us := [(0, .func (.func 16) #[] #[])]) (ucs := [(0, [.func (.func 16) #[] #[]])]) (cs := [.func (.func 16) #[] #[]]) bt132 rfl rfl ⟨rfl, rfl, trivial⟩ (by rfl)) rfl rfl rfl ?_
 refine SP.val (Val.buildC (us := [(0, .agg #[.func (.func 10) #[] #[]]), (1, .agg #[.func (.func 142) #[] #[]]), (2, .agg #[.func (.func 143) #[] #[]]), (3, .agg #[.func (.func 14) #[] #[]]), (4, .agg #[.func (.func 15) #[] #[]]), (5, .agg #[.func (.func 16) #[] #[]])]) (ucs := [(0, [.func (.func 10) #[] #[]]), (1, [.func (.func 142) #[] #[]]), (2, [.func (.func 143) #[] #[]]), (3, [.func (.func 14) #[] #[]]), (4, [.func (.func 15) #[] #[]]), (5, [.func (.func 16) #[] #[]])]) (cs := [.func (.func 10) #[] #[], .func (.func 142) #[] #[], .func (.func 143) #[] #[], .func (.func 14) #[] #[], .func (.func 15) #[] #[], .func (.func 16) #[] #[]]) bt133 rfl rfl ⟨rfl, rfl, ⟨rfl, rfl, ⟨rfl, rfl, ⟨rfl, rfl, ⟨rfl, rfl, ⟨rfl, rfl, trivial⟩⟩⟩⟩⟩⟩ (by rfl)) rfl rfl rfl ?_
 refine SP.store (v := .agg #[.func (.func 10) #[] #[], .func (.func 142) #[] #[], .func (.func 143) #[] #[], .func (.func 14) #[] #[], .func (.func 15) #[] #[], .func (.func 16) #[] #[]]) (vs := [.func (.func 10) #[] #[], .func (.func 142) #[] #[], .func (.func 143) #[] #[], .func (.func 14) #[] #[], .func (.func 15) #[] #[], .func (.func 16) #[] #[]]) 0 (by rfl) sz133 (by rfl) (by rfl) (by rfl) (by rfl) (by rfl) (by rfl) (go ?_)
 obtain rfl := Option.some.inj ho
 exact QE.rt (fun _ h => h) (rs := [.cell 0 133]) (vs := [.agg #[.func (.func 10) #[] #[], .func (.func 142) #[] #[], .func (.func 143) #[] #[], .func (.func 14) #[] #[], .func (.func 15) #[] #[], .func (.func 16) #[] #[]]]) (hv := ⟨RVs.cellA 0 rfl rfl Tryz.underlying133 rfl sz133, trivial⟩)
def gauss_May.f (p_0 : gauss_Pair) : Option Bool :=
  if ((decide (p_0.e0 < (-1048576))) || (decide (p_0.e0 > 1048576))) = true then (some false) else (if ((decide (p_0.e1 < (-1048576))) || (decide (p_0.e1 > 1048576))) = true then (some false) else (some true))
theorem gauss_May.ok (p_0 : gauss_Pair)  (r : Bool) (H : gauss_May.f p_0 = some r) (w : World) (hV : Hp) (sV : Sub hV (hp w))  :
    Trip Tryz.prog 250 [.agg #[.int .i64 p_0.e0, .int .i64 p_0.e1]].toArray em hV w (fun v => HO.pure (v = .bool r)) := by
 refine Trip.go 16 Tryz.func250 sV (All.nil _) fun see => ?_
 have ho := H
 refine go ?_
 refine SP.box rfl rfl rfl rfl fun b1 => go ?_
 refine CP.seq (go ?_)
 refine SP.val (Val.loadA 0 rfl Tryz.underlying314 rfl sz314 rfl rfl rfl) rfl rfl rfl (go ?_)
 refine CP.rounds 4 ?_
 refine LP.step ?_
 refine CP.seq ?_
 refine CP.region ?_
 refine SP.val (Val.cast (v := .bool true) (Val.lss rfl rfl) rfl) rfl rfl rfl (go ?_)
 refine CP.seq ?_
 refine CP.condT rfl rfl (go ?_)
 refine CP.seq (go ?_)
 refine SP.val (Val.indexC1 0 Tryz.underlying314 Tryz.underlying2 rfl sz2 rfl rfl rfl rfl) rfl rfl rfl (go ?_)
 refine SP.jn 3 [5, 6] 14 (.bool ((decide (p_0.e0 < (-1048576))) || (decide (p_0.e0 > 1048576)))) ?_ ?_
 ·refine go ?_
  refine CP.cb ho (fun ho => ?_) fun ho => ?_
  ·refine go ?_
   obtain rfl := Option.some.inj ho
   exact QE.rt (fun _ h => h)
  refine CP.skip ?_
  refine QE.blockN ?_
  refine QE.then ?_
  refine CP.region ?_
  refine SP.val (Val.cast (v := .int .i64 1) (Val.add rfl rfl) rfl) rfl rfl rfl (go ?_)
  refine QE.round ?_
  refine LP.step ?_
  refine CP.seq ?_
  refine CP.region ?_
  refine SP.val (Val.cast (v := .bool true) (Val.lss rfl rfl) rfl) rfl rfl rfl (go ?_)
  refine CP.seq ?_
  refine CP.condT rfl rfl (go ?_)
  refine CP.seq (go ?_)
  refine SP.val (Val.indexC1 1 Tryz.underlying314 Tryz.underlying2 rfl sz2 rfl rfl rfl rfl) rfl rfl rfl (go ?_)
  refine SP.jn 3 [5, 6] 14 (.bool ((decide (p_0.e1 < (-1048576))) || (decide (p_0.e1 > 1048576)))) ?_ ?_
  ·refine go ?_
   refine CP.cb ho (fun ho => ?_) fun ho => ?_
   ·refine go ?_
    obtain rfl := Option.some.inj ho
    exact QE.rt (fun _ h => h)
   refine CP.skip ?_
   refine QE.blockN ?_
   refine QE.then ?_
   refine CP.region ?_
   refine SP.val (Val.cast (v := .int .i64 2) (Val.add rfl rfl) rfl) rfl rfl rfl (go ?_)
   refine QE.round ?_
   refine LP.step ?_
   refine CP.seq ?_
   refine CP.region ?_
   refine SP.val (Val.cast (v := .bool false) (Val.lss rfl rfl) rfl) rfl rfl rfl (go ?_)
   refine CP.seq ?_
   refine CP.condF rfl rfl (go ?_)
   obtain rfl := Option.some.inj ho
   exact QE.rt (fun _ h => h)
  refine SP.bb 11 (fun hq6 => ?_) fun hq6 => ?_
  ·refine go ?_
   exact QE.jb (or_t hq6) fun w2 hw => hw
  refine go ?_
  exact QE.jb (or_f hq6 rfl) fun w2 hw => hw
 refine SP.bb 11 (fun hq4 => ?_) fun hq4 => ?_
 ·refine go ?_
  exact QE.jb (or_t hq4) fun w2 hw => hw
 refine go ?_
 exact QE.jb (or_f hq4 rfl) fun w2 hw => hw
def value_Pair.f (a_0 : Int) (b_1 : Int) : Option (api_Value × Bool) :=
  (gauss_May.f (⟨a_0, b_1⟩ : gauss_Pair)).bind fun t3 => if (!t3) = true then (some ((⟨0, 0, 0⟩ : api_Value), false)) else (some ((⟨2, a_0, b_1⟩ : api_Value), true))
theorem value_Pair.ok (a_0 b_1 : Int)  (r : api_Value × Bool) (H : value_Pair.f a_0 b_1 = some r) (w : World) (hV : Hp) (sV : Sub hV (hp w))  :
    Trip Tryz.prog 221 [.int .i64 a_0, .int .i64 b_1].toArray em hV w (fun v => HO.pure (v = .tuple #[.agg #[.int .u8 r.1.Kind, .int .i64 r.1.A, .int .i64 r.1.B], .bool r.2])) := by
 refine Trip.go 15 Tryz.func221 sV (All.nil _) fun see => ?_
 have ho := H
 refine go ?_
 refine SP.alloc (cs := [.int .u8 0, .int .i64 0, .int .i64 0]) inf100 rfl rfl (fun b1 => go ?_)
 refine CP.seq (go ?_)
 refine SP.val (Val.buildC (us := [(0, .int .i64 a_0), (1, .int .i64 b_1)]) (ucs := [(0, [.int .i64 a_0]), (1, [.int .i64 b_1])]) (cs := [.int .i64 a_0, .int .i64 b_1]) bt314 rfl rfl ⟨rfl, rfl, ⟨rfl, rfl, trivial⟩⟩ (by rfl)) rfl rfl rfl ?_
 obtain ⟨t3, hc, ho⟩ := bind_some ho
 refine SP.callV see (caps := []) (.bool t3) fn250 rfl rfl rfl rfl (fun w2 hP hs sub ap => gauss_May.ok _  _ hc w2 hP sub ) ?_
 clear hc
 refine go ?_
 refine CP.cb ho (fun ho => ?_) fun ho => ?_
 ·refine go ?_
  refine SP.val (Val.buildC (us := []) (ucs := []) (cs := [.int .u8 0, .int .i64 0, .int .i64 0]) bt100 rfl rfl trivial (by rfl)) rfl rfl rfl ?_
  refine SP.store (v := .agg #[.int .u8 0, .int .i64 0, .int .i64 0]) (vs := [.int .u8 0, .int .i64 0, .int .i64 0]) 0 (by rfl) sz100 (by rfl) (by rfl) (by rfl) (by rfl) (by rfl) (by rfl) (go ?_)
  obtain rfl := Option.some.inj ho
  exact QE.rt (fun _ h => h) (rs := [.cell 4 100, .tmp 5]) (vs := [.agg #[.int .u8 0, .int .i64 0, .int .i64 0], .bool false]) (hv := ⟨RVs.cellA 0 rfl rfl Tryz.underlying100 rfl sz100, RVs.tmp rfl, trivial⟩)
 refine go ?_
 refine SP.val (Val.buildC (us := [(0, .int .u8 2), (1, .int .i64 a_0), (2, .int .i64 b_1)]) (ucs := [(0, [.int .u8 2]), (1, [.int .i64 a_0]), (2, [.int .i64 b_1])]) (cs := [.int .u8 2, .int .i64 a_0, .int .i64 b_1]) bt100 rfl rfl ⟨rfl, rfl, ⟨rfl, rfl, ⟨rfl, rfl, trivial⟩⟩⟩ (by rfl)) rfl rfl rfl ?_
 refine SP.store (v := .agg #[.int .u8 2, .int .i64 a_0, .int .i64 b_1]) (vs := [.int .u8 2, .int .i64 a_0, .int .i64 b_1]) 0 (by rfl) sz100 (by rfl) (by rfl) (by rfl) (by rfl) (by rfl) (by rfl) (go ?_)
 obtain rfl := Option.some.inj ho
 exact QE.rt (fun _ h => h) (rs := [.cell 4 100, .tmp 5]) (vs := [.agg #[.int .u8 2, .int .i64 a_0, .int .i64 b_1], .bool true]) (hv := ⟨RVs.cellA 0 rfl rfl Tryz.underlying100 rfl sz100, RVs.tmp rfl, trivial⟩)
def value_Int.f (n_0 : Int) : Option api_Value :=
  some (⟨1, n_0, 0⟩ : api_Value)
theorem value_Int.ok (n_0 : Int)  (r : api_Value) (H : value_Int.f n_0 = some r) (w : World) (hV : Hp) (sV : Sub hV (hp w))  :
    Trip Tryz.prog 220 [.int .i64 n_0].toArray em hV w (fun v => HO.pure (v = .agg #[.int .u8 r.Kind, .int .i64 r.A, .int .i64 r.B])) := by
 refine Trip.go 5 Tryz.func220 sV (All.nil _) fun see => ?_
 have ho := H
 refine go ?_
 refine SP.alloc (cs := [.int .u8 0, .int .i64 0, .int .i64 0]) inf100 rfl rfl (fun b1 => go ?_)
 refine SP.val (Val.buildC (us := [(0, .int .u8 1), (1, .int .i64 n_0)]) (ucs := [(0, [.int .u8 1]), (1, [.int .i64 n_0])]) (cs := [.int .u8 1, .int .i64 n_0, .int .i64 0]) bt100 rfl rfl ⟨rfl, rfl, ⟨rfl, rfl, trivial⟩⟩ (by rfl)) rfl rfl rfl ?_
 refine SP.store (v := .agg #[.int .u8 1, .int .i64 n_0, .int .i64 0]) (vs := [.int .u8 1, .int .i64 n_0, .int .i64 0]) 0 (by rfl) sz100 (by rfl) (by rfl) (by rfl) (by rfl) (by rfl) (by rfl) (go ?_)
 obtain rfl := Option.some.inj ho
 exact QE.rt (fun _ h => h) (rs := [.cell 2 100]) (vs := [.agg #[.int .u8 1, .int .i64 n_0, .int .i64 0]]) (hv := ⟨RVs.cellA 0 rfl rfl Tryz.underlying100 rfl sz100, trivial⟩)
def value_May.j1 (v_0 : api_Value) (b12 : Bool) : Option Bool :=
  some b12
def value_May.f (v_0 : api_Value) : Option Bool :=
  (value_Pair.f v_0.A v_0.B).bind fun t3 => (value_Int.f v_0.A).bind fun t6 => if (v_0.Kind == t6.Kind && (v_0.A == t6.A && (v_0.B == t6.B))) = true then (value_May.j1 v_0 true) else (if t3.2 = true then (value_May.j1 v_0 (v_0.Kind == t3.1.Kind && (v_0.A == t3.1.A && (v_0.B == t3.1.B)))) else (value_May.j1 v_0 false))
theorem value_May.ok (v_0 : api_Value)  (r : Bool) (H : value_May.f v_0 = some r) (w : World) (hV : Hp) (sV : Sub hV (hp w))  :
    Trip Tryz.prog 231 [.agg #[.int .u8 v_0.Kind, .int .i64 v_0.A, .int .i64 v_0.B]].toArray em hV w (fun v => HO.pure (v = .bool r)) := by
 refine Trip.go 26 Tryz.func231 sV (All.nil _) fun see => ?_
 have ho := H
 refine go ?_
 refine SP.box rfl rfl rfl rfl fun b1 => go ?_
 obtain ⟨t3, hc, ho⟩ := bind_some ho
 refine SP.callV see (caps := []) (.tuple #[.agg #[.int .u8 t3.1.Kind, .int .i64 t3.1.A, .int .i64 t3.1.B], .bool t3.2]) fn221 rfl rfl rfl rfl (fun w2 hP hs sub ap => value_Pair.ok _ _  _ hc w2 hP sub ) ?_
 clear hc
 refine go ?_
 refine SP.alloc (cs := [.int .u8 0, .int .i64 0, .int .i64 0]) inf100 rfl rfl (fun b4 => ?_)
 refine SP.store (v := .agg #[.int .u8 t3.1.Kind, .int .i64 t3.1.A, .int .i64 t3.1.B]) (vs := [.int .u8 t3.1.Kind, .int .i64 t3.1.A, .int .i64 t3.1.B]) 0 (by rfl) sz100 (by rfl) (by rfl) (by rfl) (by rfl) (by rfl) (by rfl) (go ?_)
 refine CP.join (fun a w2 => ∃ b12 : Bool, value_May.j1 v_0 b12 = some r ∧ Env ⟨26, []⟩ [(2, .bool b12)] a ∧ St w em hV [] [] w2) ?_ ?_
 ·rintro a w2 ⟨b12, ho, ha, hw⟩
  refine CP.app ha hw ?_
  clear ha hw a w2
  refine go ?_
  obtain rfl := Option.some.inj ho
  exact QE.rt (fun _ h => h)
 refine CP.drawA (by kernel_rfl) (fun w2 k h => h.drawn k) ?_
 obtain ⟨t6, hc7, ho⟩ := bind_some ho
 refine DA.ph 0 4 ?_
 refine DT.tv 0 rfl (Val.loadA 1 rfl Tryz.underlying100 rfl sz100 rfl rfl rfl) ?_
 refine DT.tk 1 ?_
 refine DT.tk 2 ?_
 refine DT.one 3 rfl (by kernel_rfl) rfl ?_
 refine SP.callV see (caps := []) (.agg #[.int .u8 t6.Kind, .int .i64 t6.A, .int .i64 t6.B]) fn220 rfl rfl rfl rfl (fun w2 hP hs sub ap => value_Int.ok v_0.A  _ hc7 w2 hP sub ) (go ?_)
 refine QE.atT (fun w2 hw => hw) ?_
 refine DT.next (by kernel_rfl) ?_
 refine DA.one 4 rfl (by kernel_rfl) ?_
 refine SP.val (Val.eqlA (by kernel_rfl) (fun w2 => eqA100 9998 w2 v_0.Kind t6.Kind v_0.A t6.A v_0.B t6.B) rfl rfl) rfl rfl rfl (go ?_)
 refine QE.atA ?_
 refine DA.one 5 rfl (by kernel_rfl) (go ?_)
 refine QE.atA ?_
 rcases if_some ho with ⟨hc, ho⟩ | ⟨hc, ho⟩
 ·have hg8 := hc
  clear hc
  refine DA.is (d := 18) (b := true) rfl hg8 ?_
  refine DA.ph 6 7 ?_
  refine DT.tn 6 ?_
  refine DT.next (by kernel_rfl) ?_
  refine DA.ph 7 8 ?_
  refine DT.tn 7 ?_
  refine DT.next (by kernel_rfl) ?_
  refine DA.ph 8 10 ?_
  refine DT.tn 8 ?_
  refine DT.tn 9 ?_
  refine DT.next (by kernel_rfl) ?_
  refine DA.ph 10 11 ?_
  refine DT.tn 10 ?_
  refine DT.next (by kernel_rfl) ?_
  refine DA.ph 11 12 ?_
  refine DT.tn 11 ?_
  refine DT.next (by kernel_rfl) ?_
  refine DA.one 12 rfl (by kernel_rfl) (go ?_)
  refine QE.atA ?_
  refine DA.one 13 rfl (by kernel_rfl) (go ?_)
  refine QE.atA ?_
  refine DA.done (by kernel_rfl) ?_
  exact QE.meet fun a w2 ha hw => ⟨true, ho, ha.sub sb, (St.selO [] rfl rfl hw)⟩
 have hg9 := (bf hc)
 clear hc
 refine DA.is (d := 18) (b := false) rfl hg9 ?_
 refine DA.one 6 rfl (by kernel_rfl) (go ?_)
 refine QE.atA ?_
 refine DA.one 7 rfl (by kernel_rfl) (go ?_)
 refine QE.atA ?_
 rcases if_some ho with ⟨hc, ho⟩ | ⟨hc, ho⟩
 ·have hg10 := hc
  clear hc
  refine DA.ph 8 10 ?_
  refine DT.is (d := 20) (b := true) rfl hg10 ?_
  refine DT.tv 8 rfl (Val.loadA 1 rfl Tryz.underlying100 rfl sz100 rfl rfl rfl) ?_
  refine DT.tv 9 rfl (Val.loadA 0 rfl Tryz.underlying100 rfl sz100 rfl rfl rfl) ?_
  refine DT.next (by kernel_rfl) ?_
  refine DA.one 10 rfl (by kernel_rfl) ?_
  refine SP.val (Val.eqlA (by kernel_rfl) (fun w2 => eqA100 9998 w2 v_0.Kind t3.1.Kind v_0.A t3.1.A v_0.B t3.1.B) rfl rfl) rfl rfl rfl (go ?_)
  refine QE.atA ?_
  refine DA.one 11 rfl (by kernel_rfl) (go ?_)
  refine QE.atA ?_
  refine DA.one 12 rfl (by kernel_rfl) (go ?_)
  refine QE.atA ?_
  refine DA.one 13 rfl (by kernel_rfl) (go ?_)
  refine QE.atA ?_
  refine DA.done (by kernel_rfl) ?_
  exact QE.meet fun a w2 ha hw => ⟨(v_0.Kind == t3.1.Kind && (v_0.A == t3.1.A && (v_0.B == t3.1.B))), ho, ha.sub sb, (St.selO [] rfl rfl hw)⟩
 have hg11 := (bf hc)
 clear hc
 refine DA.ph 8 10 ?_
 refine DT.is (d := 20) (b := false) rfl hg11 ?_
 refine DT.tn 8 ?_
 refine DT.tn 9 ?_
 refine DT.next (by kernel_rfl) ?_
 refine DA.ph 10 11 ?_
 refine DT.tn 10 ?_
 refine DT.next (by kernel_rfl) ?_
 refine DA.one 11 rfl (by kernel_rfl) (go ?_)
 refine QE.atA ?_
 refine DA.one 12 rfl (by kernel_rfl) (go ?_)
 refine QE.atA ?_
 refine DA.one 13 rfl (by kernel_rfl) (go ?_)
 refine QE.atA ?_
 refine DA.done (by kernel_rfl) ?_
 exact QE.meet fun a w2 ha hw => ⟨false, ho, ha.sub sb, (St.selO [] rfl rfl hw)⟩
def pool_May_1.f (v_0 : api_Value) : Option Bool :=
  (value_May.f v_0).bind fun t3 => some (!t3)
theorem pool_May_1.ok (v_0 : api_Value)  (r : Bool) (H : pool_May_1.f v_0 = some r) (w : World) (hV : Hp) (sV : Sub hV (hp w))  :
    Trip Tryz.prog 230 [.agg #[.int .u8 v_0.Kind, .int .i64 v_0.A, .int .i64 v_0.B]].toArray em hV w (fun v => HO.pure (v = .bool r)) := by
 refine Trip.go 6 Tryz.func230 sV (All.nil _) fun see => ?_
 have ho := H
 refine go ?_
 refine SP.box rfl rfl rfl rfl fun b1 => go ?_
 refine SP.val (Val.loadA 0 rfl Tryz.underlying100 rfl sz100 rfl rfl rfl) rfl rfl rfl ?_
 obtain ⟨t3, hc, ho⟩ := bind_some ho
 refine SP.callV see (caps := []) (.bool t3) fn231 rfl rfl rfl rfl (fun w2 hP hs sub ap => value_May.ok _  _ hc w2 hP sub ) ?_
 clear hc
 refine go ?_
 obtain rfl := Option.some.inj ho
 exact QE.rt (fun _ h => h)
inductive slices_IndexFunc_api_Value_api_Value_s1.S where
  | start
  | l1 (x7 : Int)
def slices_IndexFunc_api_Value_api_Value_s1.F (s_0 : (List api_Value)) : slices_IndexFunc_api_Value_api_Value_s1.S → Option (slices_IndexFunc_api_Value_api_Value_s1.S ⊕ Int)
  | .start => some (.inl (.l1 0))
  | .l1 x7 => if x7 < (s_0.length : Int) then ((elt s_0 x7).bind fun x11 => (pool_May_1.f x11).bind fun t12 => if t12 = true then (some (.inr x7)) else (some (.inl (.l1 (IntKind.i64.wrap (x7 + 1)))))) else (some (.inr (-1)))
def slices_IndexFunc_api_Value_api_Value_s1.f (s_0 : (List api_Value)) : Option Int := runF (slices_IndexFunc_api_Value_api_Value_s1.F s_0) .start
theorem slices_IndexFunc_api_Value_api_Value_s1.ok (s_0 : (List api_Value)) (v_s_0 : Value) (r : Int) (H : slices_IndexFunc_api_Value_api_Value_s1.f s_0 = some r) (w : World) (hV : Hp) (sV : Sub hV (hp w)) (h0 : slR k_api_Value hV v_s_0 s_0) :
    Trip Tryz.prog 251 [v_s_0, .func (.func 230) #[] #[]].toArray em hV w (fun v => HO.pure (v = .int .i64 r)) := by
 refine Trip.go 19 Tryz.func251 sV (aS h0 (All.nil _)) fun see => ?_
 obtain ⟨n0, hi⟩ := runF_iff.1 H
 obtain ⟨m0, o, hm0, ho, hr⟩ := iter_some hi
 clear hi
 refine go ?_
 refine CP.seq (go ?_)
 obtain rfl := Option.some.inj ho
 refine CP.loop (fun cl1 a w2 => ∃ x7 : Int, cl1 ≤ m0 ∧ iter (slices_IndexFunc_api_Value_api_Value_s1.F s_0) cl1 (.l1 x7) = some r ∧ Env ⟨19, []⟩ [(0, v_s_0), (1, .func (.func 230) #[] #[]), (7, .int .i64 (s_0.length : Int)), (8, .int .i64 x7)] a ∧ St w em hV [slP k_api_Value v_s_0 s_0] [] w2) m0 (fun a w2 ha hw => ⟨0, Nat.le_refl _, hr, ha.sub sb, hw⟩) ?_
 clear hr
 rintro cl1 a w2 ⟨x7, hc_l1, hi, ha, hw⟩
 obtain ⟨m8, o, hm_m8, ho, hr⟩ := iter_some hi
 refine CP.app ha hw ?_
 clear ha hw a w2 hi
 refine go ?_
 refine CP.seq ?_
 refine CP.ci ho (fun ho => ?_) fun ho => ?_
 ·refine go ?_
  refine CP.seq (go ?_)
  obtain ⟨x11, hx, ho⟩ := elt_bind ho
  refine SP.indexP see 0 rfl Tryz.underlying22 sz100 hx.1 hx.2 rfl rfl rfl rfl (fun p9 => ?_)
  clear hx
  refine k_api_Value.load see 0 rfl Tryz.underlying100 rfl sz100 rfl rfl rfl ?_
  obtain ⟨t12, hc, ho⟩ := bind_some ho
  refine SP.callV see (caps := []) (.bool t12) fn230 rfl rfl rfl rfl (fun w2 hP hs sub ap => pool_May_1.ok _  _ hc w2 hP sub ) ?_
  clear hc
  refine go ?_
  refine CP.cb ho (fun ho => ?_) fun ho => ?_
  ·refine go ?_
   obtain rfl := fin ho hr
   exact QE.rt (fun _ h => h)
  refine go ?_
  obtain rfl := Option.some.inj ho
  exact QE.lower m8 (by omega) fun a w2 ha hw => ⟨(IntKind.i64.wrap (x7 + 1)), (by omega), hr, ha.sub sb, (St.selP [1] rfl hw)⟩
 refine go ?_
 obtain rfl := fin ho hr
 exact QE.rt (fun _ h => h)
def slices_ContainsFunc_api_Value_api_Value_s1.f (s_0 : (List api_Value)) : Option Bool :=
  (slices_IndexFunc_api_Value_api_Value_s1.f s_0).bind fun t2 => some (decide (t2 ≥ 0))
theorem slices_ContainsFunc_api_Value_api_Value_s1.ok (s_0 : (List api_Value)) (v_s_0 : Value) (r : Bool) (H : slices_ContainsFunc_api_Value_api_Value_s1.f s_0 = some r) (w : World) (hV : Hp) (sV : Sub hV (hp w)) (h0 : slR k_api_Value hV v_s_0 s_0) :
    Trip Tryz.prog 229 [v_s_0, .func (.func 230) #[] #[]].toArray em hV w (fun v => HO.pure (v = .bool r)) := by
 refine Trip.go 9 Tryz.func229 sV (aS h0 (All.nil _)) fun see => ?_
 have ho := H
 refine go ?_
 obtain ⟨t2, hc, ho⟩ := bind_some ho
 refine SP.callV see (caps := []) (.int .i64 t2) fn251 rfl rfl rfl rfl (fun w2 hP hs sub ap => slices_IndexFunc_api_Value_api_Value_s1.ok _ _ _ hc w2 hP sub (ap.get 0 rfl)) ?_
 clear hc
 refine go ?_
 obtain rfl := Option.some.inj ho
 exact QE.rt (fun _ h => h)
def pool_May.f (l_0 : (List api_Value)) : Option Bool :=
  (if (l_0.length : Int) ≤ 32 then ((slices_ContainsFunc_api_Value_api_Value_s1.f l_0).bind fun t4 => some (!t4)) else (some false)).bind fun t5 => some t5
theorem pool_May.ok (l_0 : (List api_Value)) (v_l_0 : Value) (r : Bool) (H : pool_May.f l_0 = some r) (w : World) (hV : Hp) (sV : Sub hV (hp w)) (h0 : slR k_api_Value hV v_l_0 l_0) :
    Trip Tryz.prog 182 [v_l_0].toArray em hV w (fun v => HO.pure (v = .bool r)) := by
 refine Trip.go 11 Tryz.func182 sV (aS h0 (All.nil _)) fun see => ?_
 have ho := H
 refine go ?_
 obtain ⟨t5, hg_t5, ho⟩ := bind_some ho
 refine SP.jn 4 [] 10 (.bool t5) ?_ ?_
 ·clear hg_t5
  refine go ?_
  obtain rfl := Option.some.inj ho
  exact QE.rt (fun _ h => h)
 refine SP.ci 6 hg_t5 (fun hq3 ho => ?_) fun hq3 ho => ?_
 ·refine go ?_
  obtain ⟨t4, hc, ho⟩ := bind_some ho
  refine SP.callV see (caps := []) (.bool t4) fn229 rfl rfl rfl rfl (fun w2 hP hs sub ap => slices_ContainsFunc_api_Value_api_Value_s1.ok _ _ _ hc w2 hP sub (ap.get 0 rfl)) ?_
  clear hc
  refine go ?_
  obtain rfl := Option.some.inj ho
  exact QE.jn fun w2 hw => hw
 refine go ?_
 obtain rfl := Option.some.inj ho
 exact QE.jn fun w2 hw => hw
inductive octet_spread_int64.S where
  | start
  | l1 (l6 : List Int) (x8 : Int)
def octet_spread_int64.F (n_0 : Int) (width_1 : Int) : octet_spread_int64.S → Option (octet_spread_int64.S ⊕ (List Int))
  | .start => if (0 : Int) ≤ width_1 ∧ (1 : Int) * width_1 ≤ 281474976710656 ∧ (width_1 : Int) ≤ 9223372036854775807 then (some (.inl (.l1 (List.replicate (width_1 : Int).toNat 0 : List Int) 0))) else none
  | .l1 l6 x8 => if x8 < ((List.replicate (width_1 : Int).toNat 0 : List Int).length : Int) then (if 0 ≤ (IntKind.i64.wrap (8 * x8)) then ((elt l6 x8).bind fun x11 => some (.inl (.l1 (l6.set x8.toNat (IntKind.u8.wrap (shrI .i64 n_0 (IntKind.i64.wrap (8 * x8))))) (IntKind.i64.wrap (x8 + 1))))) else none) else (some (.inr l6))
def octet_spread_int64.f (n_0 : Int) (width_1 : Int) : Option (List Int) := runF (octet_spread_int64.F n_0 width_1) .start
theorem octet_spread_int64.ok (n_0 width_1 : Int)  (r : (List Int)) (H : octet_spread_int64.f n_0 width_1 = some r) (w : World) (hV : Hp) (sV : Sub hV (hp w))  :
    Trip Tryz.prog 234 [.int .i64 n_0, .int .i64 width_1].toArray em hV w (fun v => HO.ex fun u0 : Value => HO.pand (v = u0) (HO.seps [slO (kInt .u8) 5 u0 r])) := by
 refine Trip.go 24 Tryz.func234 sV (All.nil _) fun see => ?_
 obtain ⟨n0, hi⟩ := runF_iff.1 H
 obtain ⟨m0, o, hm0, ho, hr⟩ := iter_some hi
 clear hi
 refine go ?_
 obtain ⟨hb, ho⟩ := must_some ho
 refine SP.makeO (k := (kInt .u8)) (z := 0) Tryz.underlying31 inf5 rfl (fun _ => rfl) rfl rfl rfl rfl hb (fun v1 => ?_)
 clear hb
 refine go ?_
 refine CP.seq (go ?_)
 refine SP.val (Val.lenW (fun w2 hw => slO.whole (St.own 0 rfl see.sub see.dj hw)) Tryz.underlying31 rfl) rfl rfl rfl (go ?_)
 obtain rfl := Option.some.inj ho
 refine CP.loop (fun cl1 a w2 => ∃ l6 : List Int, ∃ x8 : Int, ∃ v7 : Value, cl1 ≤ m0 ∧ iter (octet_spread_int64.F n_0 width_1) cl1 (.l1 l6 x8) = some r ∧ Env ⟨24, []⟩ [(0, .int .i64 n_0), (5, v7), (10, .int .i64 ((List.replicate (width_1 : Int).toNat 0 : List Int).length : Int)), (11, .int .i64 x8)] a ∧ St w em hV [] [slO (kInt .u8) 5 v7 l6] w2) m0 (fun a w2 ha hw => ⟨(List.replicate (width_1 : Int).toNat 0 : List Int), 0, v1, Nat.le_refl _, hr, ha.sub sb, hw⟩) ?_
 clear hr
 rintro cl1 a w2 ⟨l6, x8, v7, hc_l1, hi, ha, hw⟩
 obtain ⟨m9, o, hm_m9, ho, hr⟩ := iter_some hi
 refine CP.app ha hw ?_
 clear ha hw a w2 hi
 refine go ?_
 refine CP.seq ?_
 refine CP.ci ho (fun ho => ?_) fun ho => ?_
 ·refine go ?_
  refine CP.seq (go ?_)
  obtain ⟨hz, ho⟩ := must_some ho
  refine SP.val (Val.shr hz rfl rfl) rfl rfl rfl ?_
  clear hz
  refine SP.val (Val.conv (by rw [Tryz.underlying2]; rfl) Tryz.underlying5 rfl) rfl rfl rfl ?_
  obtain ⟨x11, hx_x11, ho⟩ := elt_bind ho
  refine SP.indexW (fun w2 hw => slO.whole (St.own 0 rfl see.sub see.dj hw)) Tryz.underlying31 sz5 hx_x11.1 hx_x11.2 rfl rfl rfl rfl (fun p10 h_p10 => ?_)
  refine SP.storeO (z0 := IntKind.u8.wrap (shrI .i64 n_0 (IntKind.i64.wrap (8 * x8)))) (off := 0) (vs := [.int .u8 (IntKind.u8.wrap (shrI .i64 n_0 (IntKind.i64.wrap (8 * x8))))]) see 0 rfl hx_x11.2 h_p10 rfl rfl sz5 rfl (fun a cs _ e => by subst e; rfl) rfl rfl rfl (go ?_)
  obtain rfl := Option.some.inj ho
  exact QE.lower m9 (by omega) fun a w2 ha hw => ⟨(l6.set x8.toNat (IntKind.u8.wrap (shrI .i64 n_0 (IntKind.i64.wrap (8 * x8))))), (IntKind.i64.wrap (x8 + 1)), v7, (by omega), hr, ha.sub sb, hw⟩
 refine go ?_
 obtain rfl := fin ho hr
 exact QE.rt (fun _ h => St.selO [0] rfl rfl h)
def octet_Signed.f (n_0 : Int) : Option (List Int) :=
  (octet_spread_int64.f n_0 8).bind fun t1 => some t1
theorem octet_Signed.ok (n_0 : Int)  (r : (List Int)) (H : octet_Signed.f n_0 = some r) (w : World) (hV : Hp) (sV : Sub hV (hp w))  :
    Trip Tryz.prog 232 [.int .i64 n_0].toArray em hV w (fun v => HO.ex fun u0 : Value => HO.pand (v = u0) (HO.seps [slO (kInt .u8) 5 u0 r])) := by
 refine Trip.go 5 Tryz.func232 sV (All.nil _) fun see => ?_
 have ho := H
 refine go ?_
 obtain ⟨t1, hc, ho⟩ := bind_some ho
 refine SP.callK see (caps := []) _ fn234 rfl rfl rfl rfl (fun w2 hP hs sub ap => octet_spread_int64.ok _ _  _ hc w2 hP sub ) (SP.k1 fun v2 => ?_)
 clear hc
 refine go ?_
 obtain rfl := Option.some.inj ho
 exact QE.rt (fun _ h => St.selO [0] rfl rfl h)
def octet_fits.f (width_0 : Int) (n_1 : Int) : Option Bool :=
  (if n_1 ≥ 0 then ((if width_0 = 8 then (some true) else (if 0 ≤ (IntKind.i64.wrap (8 * width_0)) then (some (decide ((shrI .i64 n_1 (IntKind.i64.wrap (8 * width_0))) = 0))) else none)).bind fun t5 => some t5) else (some false)).bind fun t6 => some t6
theorem octet_fits.ok (width_0 n_1 : Int)  (r : Bool) (H : octet_fits.f width_0 n_1 = some r) (w : World) (hV : Hp) (sV : Sub hV (hp w))  :
    Trip Tryz.prog 233 [.int .i64 width_0, .int .i64 n_1].toArray em hV w (fun v => HO.pure (v = .bool r)) := by
 refine Trip.go 18 Tryz.func233 sV (All.nil _) fun see => ?_
 have ho := H
 refine go ?_
 obtain ⟨t6, hg_t6, ho⟩ := bind_some ho
 refine SP.jn 10 [] 17 (.bool t6) ?_ ?_
 ·clear hg_t6
  refine go ?_
  obtain rfl := Option.some.inj ho
  exact QE.rt (fun _ h => h)
 refine SP.ci 7 hg_t6 (fun hq2 ho => ?_) fun hq2 ho => ?_
 ·refine go ?_
  obtain ⟨t5, hg_t5, ho⟩ := bind_some ho
  refine SP.jn 6 [7] 16 (.bool t5) ?_ ?_
  ·clear hg_t5
   refine go ?_
   obtain rfl := Option.some.inj ho
   exact QE.jn fun w2 hw => hw
  refine SP.ci 10 hg_t5 (fun hq4 ho => ?_) fun hq4 ho => ?_
  ·refine go ?_
   obtain rfl := Option.some.inj ho
   exact QE.jn fun w2 hw => hw
  refine go ?_
  obtain ⟨hz, ho⟩ := must_some ho
  refine SP.val (Val.shr hz rfl rfl) rfl rfl rfl ?_
  clear hz
  refine go ?_
  obtain rfl := Option.some.inj ho
  exact QE.jn fun w2 hw => hw
 refine go ?_
 obtain rfl := Option.some.inj ho
 exact QE.jn fun w2 hw => hw
def octet_Put.f (width_0 : Int) (n_1 : Int) : Option ((List Int) × Int) :=
  if ((decide (width_0 < 1)) || (decide (width_0 > 8))) = true then (some ([], 2)) else ((octet_fits.f width_0 n_1).bind fun t4 => if (!t4) = true then (some ([], 11)) else ((octet_spread_int64.f n_1 width_0).bind fun t6 => some (t6, 0)))
theorem octet_Put.ok (width_0 n_1 : Int)  (r : (List Int) × Int) (H : octet_Put.f width_0 n_1 = some r) (w : World) (hV : Hp) (sV : Sub hV (hp w))  :
    Trip Tryz.prog 184 [.int .i64 width_0, .int .i64 n_1].toArray em hV w (fun v => HO.ex fun u0 : Value => HO.pand (v = .tuple #[u0, .int .i64 r.2]) (HO.seps [slO (kInt .u8) 5 u0 r.1])) := by
 refine Trip.go 21 Tryz.func184 sV (All.nil _) fun see => ?_
 have ho := H
 refine go ?_
 refine CP.seq (go ?_)
 refine SP.jn 3 [0, 1] 12 (.bool ((decide (width_0 < 1)) || (decide (width_0 > 8)))) ?_ ?_
 ·refine go ?_
  refine CP.cb ho (fun ho => ?_) fun ho => ?_
  ·refine go ?_
   obtain rfl := Option.some.inj ho
   exact QE.rt (fun _ h => St.selO [0] rfl rfl (St.addO (slO.nil (kInt .u8) 5) h))
  refine go ?_
  obtain ⟨t4, hc, ho⟩ := bind_some ho
  refine SP.callV see (caps := []) (.bool t4) fn233 rfl rfl rfl rfl (fun w2 hP hs sub ap => octet_fits.ok _ _  _ hc w2 hP sub ) ?_
  clear hc
  refine go ?_
  refine CP.cb ho (fun ho => ?_) fun ho => ?_
  ·refine go ?_
   obtain rfl := Option.some.inj ho
   exact QE.rt (fun _ h => St.selO [0] rfl rfl (St.addO (slO.nil (kInt .u8) 5) h))
  refine go ?_
  obtain ⟨t6, hc, ho⟩ := bind_some ho
  refine SP.callK see (caps := []) _ fn234 rfl rfl rfl rfl (fun w2 hP hs sub ap => octet_spread_int64.ok _ _  _ hc w2 hP sub ) (SP.k1 fun v7 => ?_)
  clear hc
  refine go ?_
  obtain rfl := Option.some.inj ho
  exact QE.rt (fun _ h => St.selO [0] rfl rfl h)
 refine SP.bb 9 (fun hq2 => ?_) fun hq2 => ?_
 ·refine go ?_
  exact QE.jb (or_t hq2) fun w2 hw => hw
 refine go ?_
 exact QE.jb (or_f hq2 rfl) fun w2 hw => hw
def value_Bytes.f (v_0 : api_Value) : Option ((List Int) × Int) :=
  (value_May.f v_0).bind fun t3 => if (!t3) = true then (some ([], 30)) else (if v_0.Kind = 1 then ((octet_Signed.f v_0.A).bind fun t7 => if ([v_0.Kind].length + t7.length) * 1 ≤ 140737488355328 then (some ([v_0.Kind] ++ t7, 0)) else none) else ((octet_Put.f 3 (IntKind.i64.wrap (v_0.A + 1048576))).bind fun t12 => if t12.2 ≠ 0 then (some ([], 30)) else (if ([v_0.Kind].length + t12.1.length) * 1 ≤ 140737488355328 then ((octet_Put.f 3 (IntKind.i64.wrap (v_0.B + 1048576))).bind fun t18 => if t18.2 ≠ 0 then (some ([], 30)) else (if (([v_0.Kind] ++ t12.1).length + t18.1.length) * 1 ≤ 140737488355328 then (some (([v_0.Kind] ++ t12.1) ++ t18.1, 0)) else none)) else none)))
theorem value_Bytes.ok (v_0 : api_Value)  (r : (List Int) × Int) (H : value_Bytes.f v_0 = some r) (w : World) (hV : Hp) (sV : Sub hV (hp w))  :
    Trip Tryz.prog 183 [.agg #[.int .u8 v_0.Kind, .int .i64 v_0.A, .int .i64 v_0.B]].toArray em hV w (fun v => HO.ex fun u0 : Value => HO.pand (v = .tuple #[u0, .int .i64 r.2]) (HO.seps [slO (kInt .u8) 5 u0 r.1])) := by
 refine Trip.go 44 Tryz.func183 sV (All.nil _) fun see => ?_
 have ho := H
 refine go ?_
 refine SP.box rfl rfl rfl rfl fun b1 => go ?_
 refine CP.seq (go ?_)
 refine SP.val (Val.loadA 0 rfl Tryz.underlying100 rfl sz100 rfl rfl rfl) rfl rfl rfl ?_
 obtain ⟨t3, hc, ho⟩ := bind_some ho
 refine SP.callV see (caps := []) (.bool t3) fn231 rfl rfl rfl rfl (fun w2 hP hs sub ap => value_May.ok _  _ hc w2 hP sub ) ?_
 clear hc
 refine go ?_
 refine CP.cb ho (fun ho => ?_) fun ho => ?_
 ·refine go ?_
  obtain rfl := Option.some.inj ho
  exact QE.rt (fun _ h => St.selO [0] rfl rfl (St.addO (slO.nil (kInt .u8) 5) h))
 refine go ?_
 refine SP.lit (k := (kInt .u8)) (xs := [v_0.Kind]) (vs := [.int .u8 v_0.Kind]) (cells := [.int .u8 v_0.Kind]) Tryz.underlying31 inf5 rfl rfl rfl rfl rfl rfl rfl rfl (fun _ ap => ⟨[.int .u8 v_0.Kind], _, rfl, rfl, rfl⟩) rfl rfl rfl (fun v5 => go ?_)
 refine CP.seq (go ?_)
 refine CP.ci ho (fun ho => ?_) fun ho => ?_
 ·refine go ?_
  obtain ⟨t7, hc, ho⟩ := bind_some ho
  refine SP.callK see (caps := []) _ fn232 rfl rfl rfl rfl (fun w2 hP hs sub ap => octet_Signed.ok _  _ hc w2 hP sub ) (SP.k1 fun v8 => ?_)
  clear hc
  refine SP.freezeS see 0 rfl ?_
  obtain ⟨hb, ho⟩ := must_some ho
  refine SP.append see 0 rfl 0 rfl Tryz.underlying31 inf5 rfl rfl hb rfl rfl rfl rfl rfl (fun v10 => ?_)
  clear hb
  refine go ?_
  obtain rfl := Option.some.inj ho
  exact QE.rt (fun _ h => St.selO [0] rfl rfl h)
 refine go ?_
 refine CP.seq (go ?_)
 refine SP.val (Val.buildC (us := [(0, .int .i64 v_0.A), (1, .int .i64 v_0.B)]) (ucs := [(0, [.int .i64 v_0.A]), (1, [.int .i64 v_0.B])]) (cs := [.int .i64 v_0.A, .int .i64 v_0.B]) bt297 rfl rfl ⟨rfl, rfl, ⟨rfl, rfl, trivial⟩⟩ (by rfl)) rfl rfl rfl (go ?_)
 refine CP.rounds 4 ?_
 refine LP.step ?_
 refine CP.seq ?_
 refine CP.region ?_
 refine SP.val (Val.cast (v := .bool true) (Val.lss rfl rfl) rfl) rfl rfl rfl (go ?_)
 refine CP.seq ?_
 refine CP.condT rfl rfl (go ?_)
 refine CP.seq (go ?_)
 refine SP.val (Val.indexC1 0 Tryz.underlying297 Tryz.underlying2 rfl sz2 rfl rfl rfl rfl) rfl rfl rfl (go ?_)
 obtain ⟨t12, hc, ho⟩ := bind_some ho
 refine SP.callK see (caps := []) _ fn184 rfl rfl rfl rfl (fun w2 hP hs sub ap => octet_Put.ok _ _  _ hc w2 hP sub ) (SP.k1 fun v13 => ?_)
 clear hc
 refine go ?_
 refine CP.seq (go ?_)
 refine CP.ci ho (fun ho => ?_) fun ho => ?_
 ·refine go ?_
  obtain rfl := Option.some.inj ho
  exact QE.rt (fun _ h => St.selO [0] rfl rfl (St.addO (slO.nil (kInt .u8) 5) h))
 refine go ?_
 refine SP.freezeS see 0 rfl ?_
 obtain ⟨hb, ho⟩ := must_some ho
 refine SP.append see 0 rfl 0 rfl Tryz.underlying31 inf5 rfl rfl hb rfl rfl rfl rfl rfl (fun v16 => ?_)
 clear hb
 refine SP.val (Val.assign rfl) rfl rfl rfl ?_
 refine SP.nil ?_
 refine QE.blockN ?_
 refine QE.then ?_
 refine CP.region ?_
 refine SP.val (Val.cast (v := .int .i64 1) (Val.add rfl rfl) rfl) rfl rfl rfl (go ?_)
 refine QE.round ?_
 refine LP.step ?_
 refine CP.seq ?_
 refine CP.region ?_
 refine SP.val (Val.cast (v := .bool true) (Val.lss rfl rfl) rfl) rfl rfl rfl (go ?_)
 refine CP.seq ?_
 refine CP.condT rfl rfl (go ?_)
 refine CP.seq (go ?_)
 refine SP.val (Val.indexC1 1 Tryz.underlying297 Tryz.underlying2 rfl sz2 rfl rfl rfl rfl) rfl rfl rfl (go ?_)
 obtain ⟨t18, hc, ho⟩ := bind_some ho
 refine SP.callK see (caps := []) _ fn184 rfl rfl rfl rfl (fun w2 hP hs sub ap => octet_Put.ok _ _  _ hc w2 hP sub ) (SP.k1 fun v19 => ?_)
 clear hc
 refine go ?_
 refine CP.seq (go ?_)
 refine CP.ci ho (fun ho => ?_) fun ho => ?_
 ·refine go ?_
  obtain rfl := Option.some.inj ho
  exact QE.rt (fun _ h => St.selO [0] rfl rfl (St.addO (slO.nil (kInt .u8) 5) h))
 refine go ?_
 refine SP.freezeS see 0 rfl ?_
 obtain ⟨hb, ho⟩ := must_some ho
 refine SP.append see 0 rfl 0 rfl Tryz.underlying31 inf5 rfl rfl hb rfl rfl rfl rfl rfl (fun v22 => ?_)
 clear hb
 refine SP.val (Val.assign rfl) rfl rfl rfl ?_
 refine SP.nil ?_
 refine QE.blockN ?_
 refine QE.then ?_
 refine CP.region ?_
 refine SP.val (Val.cast (v := .int .i64 2) (Val.add rfl rfl) rfl) rfl rfl rfl (go ?_)
 refine QE.round ?_
 refine LP.step ?_
 refine CP.seq ?_
 refine CP.region ?_
 refine SP.val (Val.cast (v := .bool false) (Val.lss rfl rfl) rfl) rfl rfl rfl (go ?_)
 refine CP.seq ?_
 refine CP.condF rfl rfl (go ?_)
 obtain rfl := Option.some.inj ho
 exact QE.rt (fun _ h => St.selO [0] rfl rfl h)
inductive pool_Bytes.S where
  | start
  | l1 (l19 : List Int) (x21 : Int)
def pool_Bytes.F (l_0 : (List api_Value)) : pool_Bytes.S → Option (pool_Bytes.S ⊕ ((List Int) × Int))
  | .start => (pool_May.f l_0).bind fun t2 => if (!t2) = true then (some (.inr ([], 60))) else (some (.inl (.l1 [IntKind.u8.wrap (l_0.length : Int)] 0)))
  | .l1 l19 x21 => if x21 < (l_0.length : Int) then ((elt l_0 x21).bind fun x25 => (value_Bytes.f x25).bind fun t28 => if t28.2 ≠ 0 then (some (.inr ([], 60))) else (if (l19.length + t28.1.length) * 1 ≤ 140737488355328 then (some (.inl (.l1 (l19 ++ t28.1) (IntKind.i64.wrap (x21 + 1))))) else none)) else (some (.inr (l19, 0)))
def pool_Bytes.f (l_0 : (List api_Value)) : Option ((List Int) × Int) := runF (pool_Bytes.F l_0) .start
theorem pool_Bytes.ok (l_0 : (List api_Value)) (v_l_0 : Value) (r : (List Int) × Int) (H : pool_Bytes.f l_0 = some r) (w : World) (hV : Hp) (sV : Sub hV (hp w)) (h0 : slR k_api_Value hV v_l_0 l_0) :
    Trip Tryz.prog 124 [v_l_0].toArray em hV w (fun v => HO.ex fun u0 : Value => HO.pand (v = .tuple #[u0, .int .i64 r.2]) (HO.seps [slO (kInt .u8) 5 u0 r.1])) := by
 refine Trip.go 34 Tryz.func124 sV (aS h0 (All.nil _)) fun see => ?_
 obtain ⟨n0, hi⟩ := runF_iff.1 H
 obtain ⟨m0, o, hm0, ho, hr⟩ := iter_some hi
 clear hi
 refine go ?_
 refine CP.seq (go ?_)
 obtain ⟨t2, hc, ho⟩ := bind_some ho
 refine SP.callV see (caps := []) (.bool t2) fn182 rfl rfl rfl rfl (fun w2 hP hs sub ap => pool_May.ok _ _ _ hc w2 hP sub (ap.get 0 rfl)) ?_
 clear hc
 refine go ?_
 refine CP.cb ho (fun ho => ?_) fun ho => ?_
 ·refine go ?_
  obtain rfl := fin ho hr
  exact QE.rt (fun _ h => St.selO [0] rfl rfl (St.addO (slO.nil (kInt .u8) 5) h))
 refine go ?_
 refine SP.val (Val.conv (by rw [Tryz.underlying3]; rfl) Tryz.underlying5 rfl) rfl rfl rfl ?_
 refine SP.lit (k := (kInt .u8)) (xs := [IntKind.u8.wrap (l_0.length : Int)]) (vs := [.int .u8 (IntKind.u8.wrap (l_0.length : Int))]) (cells := [.int .u8 (IntKind.u8.wrap (l_0.length : Int))]) Tryz.underlying31 inf5 rfl rfl rfl rfl rfl rfl rfl rfl (fun _ ap => ⟨[.int .u8 (IntKind.u8.wrap (l_0.length : Int))], _, rfl, rfl, rfl⟩) rfl rfl rfl (fun v4 => go ?_)
 refine CP.seq (go ?_)
 obtain rfl := Option.some.inj ho
 refine CP.loop (fun cl1 a w2 => ∃ l19 : List Int, ∃ x21 : Int, ∃ v20 : Value, cl1 ≤ m0 ∧ iter (pool_Bytes.F l_0) cl1 (.l1 l19 x21) = some r ∧ Env ⟨34, []⟩ [(4, v20), (16, v_l_0), (17, .int .i64 (l_0.length : Int)), (18, .int .i64 x21)] a ∧ St w em hV [slP k_api_Value v_l_0 l_0] [slO (kInt .u8) 5 v20 l19] w2) m0 (fun a w2 ha hw => ⟨[IntKind.u8.wrap (l_0.length : Int)], 0, v4, Nat.le_refl _, hr, ha.sub sb, hw⟩) ?_
 clear hr
 rintro cl1 a w2 ⟨l19, x21, v20, hc_l1, hi, ha, hw⟩
 obtain ⟨m22, o, hm_m22, ho, hr⟩ := iter_some hi
 refine CP.app ha hw ?_
 clear ha hw a w2 hi
 refine go ?_
 refine CP.seq ?_
 refine CP.ci ho (fun ho => ?_) fun ho => ?_
 ·refine go ?_
  refine CP.seq (go ?_)
  obtain ⟨x25, hx, ho⟩ := elt_bind ho
  refine SP.indexP see 0 rfl Tryz.underlying22 sz100 hx.1 hx.2 rfl rfl rfl rfl (fun p23 => ?_)
  clear hx
  refine k_api_Value.load see 0 rfl Tryz.underlying100 rfl sz100 rfl rfl rfl ?_
  refine SP.alloc (cs := [.int .u8 0, .int .i64 0, .int .i64 0]) inf100 rfl rfl (fun b26 => ?_)
  refine SP.store (v := .agg #[.int .u8 x25.Kind, .int .i64 x25.A, .int .i64 x25.B]) (vs := [.int .u8 x25.Kind, .int .i64 x25.A, .int .i64 x25.B]) 0 (by rfl) sz100 (by rfl) (by rfl) (by rfl) (by rfl) (by rfl) (by rfl) (go ?_)
  refine SP.val (Val.loadA 0 rfl Tryz.underlying100 rfl sz100 rfl rfl rfl) rfl rfl rfl ?_
  obtain ⟨t28, hc, ho⟩ := bind_some ho
  refine SP.callK see (caps := []) _ fn183 rfl rfl rfl rfl (fun w2 hP hs sub ap => value_Bytes.ok _  _ hc w2 hP sub ) (SP.k1 fun v29 => ?_)
  clear hc
  refine go ?_
  refine CP.seq (go ?_)
  refine CP.ci ho (fun ho => ?_) fun ho => ?_
  ·refine go ?_
   obtain rfl := fin ho hr
   exact QE.rt (fun _ h => St.selO [0] rfl rfl (St.addO (slO.nil (kInt .u8) 5) h))
  refine go ?_
  refine SP.freezeS see 0 rfl ?_
  obtain ⟨hb, ho⟩ := must_some ho
  refine SP.append see 1 rfl 0 rfl Tryz.underlying31 inf5 rfl rfl hb rfl rfl rfl rfl rfl (fun v32 => ?_)
  clear hb
  refine go ?_
  obtain rfl := Option.some.inj ho
  exact QE.lower m22 (by omega) fun a w2 ha hw => ⟨(l19 ++ t28.1), (IntKind.i64.wrap (x21 + 1)), v32, (by omega), hr, ha.sub sb, (St.selP [2] rfl (St.selO [1] rfl rfl hw))⟩
 refine go ?_
 obtain rfl := fin ho hr
 exact QE.rt (fun _ h => St.selO [0] rfl rfl h)
shelf_lay_g Lays8.n4 Nm8 4 at Tryz 135 as Tryz.grow135
theorem grow135_trip {n : Int} (h0 : 0 ≤ n) (hb : n * 1 ≤ 140737488355328) (w : World) (hV : Hp) :
    Trip Tryz.prog 135 #[.slice none 0 0, .int .i64 n] em hV w (fun r => HO.ex fun u : Value => HO.pand (r = u) (HO.seps [slO (kInt .u8) 5 u []])) := by
  obtain ⟨m, rfl⟩ := Int.eq_ofNat_of_zero_le h0
  obtain ⟨i0, z, hi0, hz0, hsz, hbt, hzl⟩ := growInfo (P := Tryz.prog) inf5
  by_cases hm : m = 0
  · subst hm
    exact (Any8.slices_Grow_room Tryz.grow135 none 0 0 0 w (by omega) (by omega) (by omega) (by omega)).mono fun e w' ⟨he, hw⟩ => by
      subst hw
      exact ⟨_, he, Met.refl _, fun _ _ e _ => e, em, em, fun _ _ _ => rfl, fun _ _ _ => rfl, Dj.em_left _, Sub.em _, Sub.em _, _, rfl, em, em, Dj.em_left _, Sub.em _, Sub.em _, slO.nil _ _ _, trivial⟩
  · have h := Any8.slices_Grow_grow Tryz.grow135 i0 z hi0 hz0 (by omega) none 0 0 m [] w (by omega) (by omega) (by rw [hbt]; omega) (by omega) (by simp) (fun _ => rfl) (fun a ha => by cases ha)
    exact h.mono fun e w' ⟨he, hw⟩ => grown_trip he hw (grownCap_le_maxLen _ _ _ _ (by simp only [maxLen]; omega)) (zeros_size (by have := grownCap_ge w (0 + m) 0 5; rw [Nat.zero_add] at this ⊢; exact this) hzl)
inductive slices_Concat_uint8_uint8.S where
  | start
  | l1 (x36 : Int) (x37 : Int)
  | l2 (l57 : List Int) (x59 : Int)
def slices_Concat_uint8_uint8.j1 (slices_0 : (List (List Int))) (x36 : Int) (x37 : Int) (x41 : (List Int)) : Option (slices_Concat_uint8_uint8.S ⊕ (List Int)) :=
  some (.inl (.l1 (IntKind.i64.wrap (x36 + (x41.length : Int))) (IntKind.i64.wrap (x37 + 1))))
def slices_Concat_uint8_uint8.F (slices_0 : (List (List Int))) : slices_Concat_uint8_uint8.S → Option (slices_Concat_uint8_uint8.S ⊕ (List Int))
  | .start => some (.inl (.l1 0 0))
  | .l1 x36 x37 => if x37 < (slices_0.length : Int) then ((elt slices_0 x37).bind fun x41 => if (IntKind.i64.wrap (x36 + (x41.length : Int))) < 0 then (none) else (slices_Concat_uint8_uint8.j1 slices_0 x36 x37 x41)) else (if 0 ≤ x36 ∧ x36 * 1 ≤ 140737488355328 then (some (.inl (.l2 ([] : List Int) 0))) else none)
  | .l2 l57 x59 => if x59 < (slices_0.length : Int) then ((elt slices_0 x59).bind fun x63 => if (l57.length + x63.length) * 1 ≤ 140737488355328 then (some (.inl (.l2 (l57 ++ x63) (IntKind.i64.wrap (x59 + 1))))) else none) else (some (.inr l57))
def slices_Concat_uint8_uint8.f (slices_0 : (List (List Int))) : Option (List Int) := runF (slices_Concat_uint8_uint8.F slices_0) .start
theorem slices_Concat_uint8_uint8.ok (slices_0 : (List (List Int))) (v_slices_0 : Value) (r : (List Int)) (H : slices_Concat_uint8_uint8.f slices_0 = some r) (w : World) (hV : Hp) (sV : Sub hV (hp w)) (h0 : slR (kSl (kInt .u8)) hV v_slices_0 slices_0) :
    Trip Tryz.prog 76 [v_slices_0].toArray em hV w (fun v => HO.ex fun u0 : Value => HO.pand (v = u0) (HO.seps [slO (kInt .u8) 5 u0 r])) := by
 refine Trip.go 36 Tryz.func76 sV (aS h0 (All.nil _)) fun see => ?_
 obtain ⟨n0, hi⟩ := runF_iff.1 H
 obtain ⟨m0, o, hm0, ho, hr⟩ := iter_some hi
 clear hi
 refine go ?_
 refine CP.seq (go ?_)
 obtain rfl := Option.some.inj ho
 refine CP.loop (fun cl1 a w2 => ∃ x36 : Int, ∃ x37 : Int, cl1 ≤ m0 ∧ iter (slices_Concat_uint8_uint8.F slices_0) cl1 (.l1 x36 x37) = some r ∧ Env ⟨36, []⟩ [(0, v_slices_0), (3, .int .i64 x36), (9, v_slices_0), (10, .int .i64 (slices_0.length : Int)), (11, .int .i64 x37)] a ∧ St w em hV [slP (kSl (kInt .u8)) v_slices_0 slices_0] [] w2) m0 (fun a w2 ha hw => ⟨0, 0, Nat.le_refl _, hr, ha.sub sb, hw⟩) ?_
 clear hr
 rintro cl1 a w2 ⟨x36, x37, hc_l1, hi, ha, hw⟩
 obtain ⟨m38, o, hm_m38, ho, hr⟩ := iter_some hi
 refine CP.app ha hw ?_
 clear ha hw a w2 hi
 refine go ?_
 refine CP.seq ?_
 refine CP.ci ho (fun ho => ?_) fun ho => ?_
 ·refine go ?_
  refine CP.join (fun a w2 => ∃ x41 : (List Int), ∃ (m44 : Nat) (o : (slices_Concat_uint8_uint8.S ⊕ (List Int))), m44 ≤ m38 ∧ slices_Concat_uint8_uint8.j1 slices_0 x36 x37 x41 = some o ∧ next (slices_Concat_uint8_uint8.F slices_0) m44 o = some r ∧ Env ⟨36, []⟩ [(0, v_slices_0), (3, .int .i64 (IntKind.i64.wrap (x36 + (x41.length : Int)))), (9, v_slices_0), (10, .int .i64 (slices_0.length : Int)), (11, .int .i64 x37)] a ∧ St w em hV [slP (kSl (kInt .u8)) v_slices_0 slices_0] [] w2) ?_ ?_
  ·rintro a w2 ⟨x41, m44, o, hm_m44, ho, hr, ha, hw⟩
   refine CP.app ha hw ?_
   clear ha hw a w2
   refine go ?_
   obtain rfl := Option.some.inj ho
   exact QE.lower m44 (by omega) fun a w2 ha hw => ⟨(IntKind.i64.wrap (x36 + (x41.length : Int))), (IntKind.i64.wrap (x37 + 1)), (by omega), hr, ha.sub sb, hw⟩
  refine go ?_
  obtain ⟨x41, hx, ho⟩ := elt_bind ho
  refine SP.indexP see 0 rfl Tryz.underlying191 sz31 hx.1 hx.2 rfl rfl rfl rfl (fun p39 => ?_)
  clear hx
  refine SP.loadPS see 0 rfl Tryz.underlying31 rfl rfl rfl (fun v42 => go ?_)
  refine CP.ci ho (fun ho => ?_) fun ho => ?_
  ·cases ho
  refine go ?_
  exact QE.meet fun a w2 ha hw => ⟨x41, m38, _, (by omega), ho, hr, ha.sub sb, (St.selP [2] rfl hw)⟩
 refine go ?_
 obtain ⟨hb, ho⟩ := must_some ho
 refine SP.callK see (caps := []) _ fn135 rfl rfl rfl rfl (fun w2 hP hs sub ap => grow135_trip hb.1 hb.2 w2 hP) (SP.k1 fun v46 => ?_)
 clear hb
 refine go ?_
 refine CP.seq (go ?_)
 obtain rfl := Option.some.inj ho
 refine CP.loop (fun cl2 a w2 => ∃ l57 : List Int, ∃ x59 : Int, ∃ v58 : Value, cl2 ≤ m38 ∧ iter (slices_Concat_uint8_uint8.F slices_0) cl2 (.l2 l57 x59) = some r ∧ Env ⟨36, []⟩ [(6, v58), (25, v_slices_0), (26, .int .i64 (slices_0.length : Int)), (27, .int .i64 x59)] a ∧ St w em hV [slP (kSl (kInt .u8)) v_slices_0 slices_0] [slO (kInt .u8) 5 v58 l57] w2) m38 (fun a w2 ha hw => ⟨([] : List Int), 0, v46, Nat.le_refl _, hr, ha.sub sb, hw⟩) ?_
 clear hr
 rintro cl2 a w2 ⟨l57, x59, v58, hc_l2, hi, ha, hw⟩
 obtain ⟨m60, o, hm_m60, ho, hr⟩ := iter_some hi
 refine CP.app ha hw ?_
 clear ha hw a w2 hi
 refine go ?_
 refine CP.seq ?_
 refine CP.ci ho (fun ho => ?_) fun ho => ?_
 ·refine go ?_
  refine CP.seq (go ?_)
  obtain ⟨x63, hx, ho⟩ := elt_bind ho
  refine SP.indexP see 0 rfl Tryz.underlying191 sz31 hx.1 hx.2 rfl rfl rfl rfl (fun p61 => ?_)
  clear hx
  refine SP.loadPS see 0 rfl Tryz.underlying31 rfl rfl rfl (fun v64 => go ?_)
  obtain ⟨hb, ho⟩ := must_some ho
  refine SP.append see 0 rfl 0 rfl Tryz.underlying31 inf5 rfl rfl hb rfl rfl rfl rfl rfl (fun v66 => ?_)
  clear hb
  refine go ?_
  obtain rfl := Option.some.inj ho
  exact QE.lower m60 (by omega) fun a w2 ha hw => ⟨(l57 ++ x63), (IntKind.i64.wrap (x59 + 1)), v66, (by omega), hr, ha.sub sb, (St.selP [2] rfl hw)⟩
 refine go ?_
 obtain rfl := fin ho hr
 exact QE.rt (fun _ h => St.selO [0] rfl rfl h)
def method_Kinds.f (m_0 : api_Method) : Option (List Int) :=
  (slices_Concat_uint8_uint8.f [m_0.Args, m_0.Locals]).bind fun t8 => some t8
theorem method_Kinds.ok (m_0 : api_Method) (v_m_0_Args v_m_0_Locals v_m_0_Code : Value) (r : (List Int)) (H : method_Kinds.f m_0 = some r) (w : World) (hV : Hp) (sV : Sub hV (hp w)) (h0 : slR (kInt .u8) hV v_m_0_Args m_0.Args) (h1 : slR (kInt .u8) hV v_m_0_Locals m_0.Locals) (h2 : slR k_api_Instr hV v_m_0_Code m_0.Code) :
    Trip Tryz.prog 62 [.agg #[v_m_0_Args, v_m_0_Locals, .int .u8 m_0.Result, .bool m_0.Reads, .int .i64 m_0.Fuel, .int .i64 m_0.Stack, .int .i64 m_0.Heap, v_m_0_Code]].toArray em hV w (fun v => HO.ex fun u0 : Value => HO.pand (v = u0) (HO.seps [slO (kInt .u8) 5 u0 r])) := by
 refine Trip.go 9 Tryz.func62 sV (aS h0 (aS h1 (aS h2 (All.nil _)))) fun see => ?_
 have ho := H
 refine go ?_
 refine SP.box rfl rfl rfl rfl fun b4 => go ?_
 refine SP.litS (k := (kSl (kInt .u8))) (xs := [m_0.Args, m_0.Locals]) (vs := [v_m_0_Args, v_m_0_Locals]) Tryz.underlying191 inf31 rfl rfl rfl rfl rfl rfl (fun _ ap => ⟨slR.cells1 (ap.get 0 rfl), slR.cells1 (ap.get 1 rfl), trivial⟩) (fun _ ap => ⟨[v_m_0_Args], _, rfl, ⟨_, rfl, ap.get 0 rfl⟩, ⟨[v_m_0_Locals], _, rfl, ⟨_, rfl, ap.get 1 rfl⟩, rfl⟩⟩) rfl rfl rfl (fun v6 => ?_)
 obtain ⟨t8, hc, ho⟩ := bind_some ho
 refine SP.callKO see (caps := []) _ fn76 rfl rfl rfl rfl (fun w2 hs => slices_Concat_uint8_uint8.ok _ _ _ hc w2 (hp w2) (Sub.refl _) (slO.read (St.own 0 rfl see.sub see.dj hs) (Sub.refl _) (Sub.refl _))) (fun v a a2 b ⟨v9, e, h⟩ => ⟨v9, e, (Sep.fcons (fun _ => slO.flip (fun _ _ _ _ h => h)) (fun _ => Sep.fnil)) h⟩) (SP.k1 fun v9 => ?_)
 clear hc
 refine go ?_
 obtain rfl := Option.some.inj ho
 exact QE.rt (fun _ h => St.selO [0] rfl rfl h)
def value_Inside.f (v_0 : api_Value) : Option Bool :=
  (value_May.f v_0).bind fun t3 => some (t3 || (v_0.Kind == 3 && (v_0.A == (if 0 > v_0.A then 0 else v_0.A) && (v_0.B == 0))))
theorem value_Inside.ok (v_0 : api_Value)  (r : Bool) (H : value_Inside.f v_0 = some r) (w : World) (hV : Hp) (sV : Sub hV (hp w))  :
    Trip Tryz.prog 187 [.agg #[.int .u8 v_0.Kind, .int .i64 v_0.A, .int .i64 v_0.B]].toArray em hV w (fun v => HO.pure (v = .bool r)) := by
 refine Trip.go 13 Tryz.func187 sV (All.nil _) fun see => ?_
 have ho := H
 refine go ?_
 refine SP.box rfl rfl rfl rfl fun b1 => go ?_
 refine SP.val (Val.loadA 0 rfl Tryz.underlying100 rfl sz100 rfl rfl rfl) rfl rfl rfl ?_
 obtain ⟨t3, hc, ho⟩ := bind_some ho
 refine SP.callV see (caps := []) (.bool t3) fn231 rfl rfl rfl rfl (fun w2 hP hs sub ap => value_May.ok _  _ hc w2 hP sub ) ?_
 clear hc
 refine go ?_
 refine SP.jn 7 [] 12 (.bool (t3 || (v_0.Kind == 3 && (v_0.A == (if 0 > v_0.A then 0 else v_0.A) && (v_0.B == 0))))) ?_ ?_
 ·refine go ?_
  obtain rfl := Option.some.inj ho
  exact QE.rt (fun _ h => h)
 refine SP.bb 5 (fun hq5 => ?_) fun hq5 => ?_
 ·refine go ?_
  exact QE.jb (or_t hq5) fun w2 hw => hw
 refine SP.val (Val.loadA 0 rfl Tryz.underlying100 rfl sz100 rfl rfl rfl) rfl rfl rfl (go ?_)
 refine SP.val (Val.max2 rfl rfl) rfl rfl rfl ?_
 refine SP.val (Val.buildC (us := [(0, .int .u8 3), (1, .int .i64 (if 0 > v_0.A then 0 else v_0.A))]) (ucs := [(0, [.int .u8 3]), (1, [.int .i64 (if 0 > v_0.A then 0 else v_0.A)])]) (cs := [.int .u8 3, .int .i64 (if 0 > v_0.A then 0 else v_0.A), .int .i64 0]) bt100 rfl rfl ⟨rfl, rfl, ⟨rfl, rfl, trivial⟩⟩ (by rfl)) rfl rfl rfl ?_
 refine SP.val (Val.eqlA (by kernel_rfl) (fun w2 => eqA100 9998 w2 v_0.Kind 3 v_0.A (if 0 > v_0.A then 0 else v_0.A) v_0.B 0) rfl rfl) rfl rfl rfl (go ?_)
 exact QE.jb (or_f hq5 rfl) fun w2 hw => hw
def value_Zero.f (kind_0 : Int) : Option (api_Value × Bool) :=
  (value_Inside.f (⟨kind_0, 0, 0⟩ : api_Value)).bind fun t5 => if (!t5) = true then (some ((⟨0, 0, 0⟩ : api_Value), false)) else (some ((⟨kind_0, 0, 0⟩ : api_Value), true))
theorem value_Zero.ok (kind_0 : Int)  (r : api_Value × Bool) (H : value_Zero.f kind_0 = some r) (w : World) (hV : Hp) (sV : Sub hV (hp w))  :
    Trip Tryz.prog 127 [.int .u8 kind_0].toArray em hV w (fun v => HO.pure (v = .tuple #[.agg #[.int .u8 r.1.Kind, .int .i64 r.1.A, .int .i64 r.1.B], .bool r.2])) := by
 refine Trip.go 12 Tryz.func127 sV (All.nil _) fun see => ?_
 have ho := H
 refine go ?_
 refine SP.alloc (cs := [.int .u8 0, .int .i64 0, .int .i64 0]) inf100 rfl rfl (fun b1 => go ?_)
 refine SP.val (Val.buildC (us := [(0, .int .u8 kind_0)]) (ucs := [(0, [.int .u8 kind_0])]) (cs := [.int .u8 kind_0, .int .i64 0, .int .i64 0]) bt100 rfl rfl ⟨rfl, rfl, trivial⟩ (by rfl)) rfl rfl rfl ?_
 refine SP.alloc (cs := [.int .u8 0, .int .i64 0, .int .i64 0]) inf100 rfl rfl (fun b3 => ?_)
 refine SP.store (v := .agg #[.int .u8 kind_0, .int .i64 0, .int .i64 0]) (vs := [.int .u8 kind_0, .int .i64 0, .int .i64 0]) 0 (by rfl) sz100 (by rfl) (by rfl) (by rfl) (by rfl) (by rfl) (by rfl) (go ?_)
 refine CP.seq (go ?_)
 refine SP.val (Val.loadA 0 rfl Tryz.underlying100 rfl sz100 rfl rfl rfl) rfl rfl rfl ?_
 obtain ⟨t5, hc, ho⟩ := bind_some ho
 refine SP.callV see (caps := []) (.bool t5) fn187 rfl rfl rfl rfl (fun w2 hP hs sub ap => value_Inside.ok _  _ hc w2 hP sub ) ?_
 clear hc
 refine go ?_
 refine CP.cb ho (fun ho => ?_) fun ho => ?_
 ·refine go ?_
  refine SP.val (Val.buildC (us := []) (ucs := []) (cs := [.int .u8 0, .int .i64 0, .int .i64 0]) bt100 rfl rfl trivial (by rfl)) rfl rfl rfl ?_
  refine SP.store (v := .agg #[.int .u8 0, .int .i64 0, .int .i64 0]) (vs := [.int .u8 0, .int .i64 0, .int .i64 0]) 1 (by rfl) sz100 (by rfl) (by rfl) (by rfl) (by rfl) (by rfl) (by rfl) (go ?_)
  obtain rfl := Option.some.inj ho
  exact QE.rt (fun _ h => h) (rs := [.cell 2 100, .tmp 3]) (vs := [.agg #[.int .u8 0, .int .i64 0, .int .i64 0], .bool false]) (hv := ⟨RVs.cellA 1 rfl rfl Tryz.underlying100 rfl sz100, RVs.tmp rfl, trivial⟩)
 refine go ?_
 refine SP.val (Val.loadA 0 rfl Tryz.underlying100 rfl sz100 rfl rfl rfl) rfl rfl rfl ?_
 refine SP.store (v := .agg #[.int .u8 kind_0, .int .i64 0, .int .i64 0]) (vs := [.int .u8 kind_0, .int .i64 0, .int .i64 0]) 1 (by rfl) sz100 (by rfl) (by rfl) (by rfl) (by rfl) (by rfl) (by rfl) (go ?_)
 obtain rfl := Option.some.inj ho
 exact QE.rt (fun _ h => h) (rs := [.cell 2 100, .tmp 3]) (vs := [.agg #[.int .u8 kind_0, .int .i64 0, .int .i64 0], .bool true]) (hv := ⟨RVs.cellA 1 rfl rfl Tryz.underlying100 rfl sz100, RVs.tmp rfl, trivial⟩)
def method_local.f (kind_0 : Int) : Option Bool :=
  (value_Zero.f kind_0).bind fun t1 => some t1.2
theorem method_local.ok (kind_0 : Int)  (r : Bool) (H : method_local.f kind_0 = some r) (w : World) (hV : Hp) (sV : Sub hV (hp w))  :
    Trip Tryz.prog 63 [.int .u8 kind_0].toArray em hV w (fun v => HO.pure (v = .bool r)) := by
 refine Trip.go 11 Tryz.func63 sV (All.nil _) fun see => ?_
 have ho := H
 refine go ?_
 obtain ⟨t1, hc, ho⟩ := bind_some ho
 refine SP.callV see (caps := []) (.tuple #[.agg #[.int .u8 t1.1.Kind, .int .i64 t1.1.A, .int .i64 t1.1.B], .bool t1.2]) fn127 rfl rfl rfl rfl (fun w2 hP hs sub ap => value_Zero.ok _  _ hc w2 hP sub ) ?_
 clear hc
 refine go ?_
 refine SP.alloc (cs := [.int .u8 0, .int .i64 0, .int .i64 0]) inf100 rfl rfl (fun b2 => ?_)
 refine SP.store (v := .agg #[.int .u8 t1.1.Kind, .int .i64 t1.1.A, .int .i64 t1.1.B]) (vs := [.int .u8 t1.1.Kind, .int .i64 t1.1.A, .int .i64 t1.1.B]) 0 (by rfl) sz100 (by rfl) (by rfl) (by rfl) (by rfl) (by rfl) (by rfl) (go ?_)
 obtain rfl := Option.some.inj ho
 exact QE.rt (fun _ h => h)
def method_within.f (n_0 : Int) (most_1 : Int) : Option Bool :=
  some ((decide (n_0 ≥ 0)) && (decide (n_0 ≤ most_1)))
theorem method_within.ok (n_0 most_1 : Int)  (r : Bool) (H : method_within.f n_0 most_1 = some r) (w : World) (hV : Hp) (sV : Sub hV (hp w))  :
    Trip Tryz.prog 64 [.int .i64 n_0, .int .i64 most_1].toArray em hV w (fun v => HO.pure (v = .bool r)) := by
 refine Trip.go 12 Tryz.func64 sV (All.nil _) fun see => ?_
 have ho := H
 refine go ?_
 refine SP.jn 4 [] 11 (.bool ((decide (n_0 ≥ 0)) && (decide (n_0 ≤ most_1)))) ?_ ?_
 ·refine go ?_
  obtain rfl := Option.some.inj ho
  exact QE.rt (fun _ h => h)
 refine SP.bb 7 (fun hq2 => ?_) fun hq2 => ?_
 ·refine go ?_
  exact QE.jb (and_t hq2 rfl) fun w2 hw => hw
 refine go ?_
 exact QE.jb (and_f hq2) fun w2 hw => hw
inductive method_May.S where
  | start
  | l1 (t12 : (List Int)) (x28 : Int)
def method_May.F (m_0 : api_Method) : method_May.S → Option (method_May.S ⊕ Bool)
  | .start => if (((decide ((m_0.Args.length : Int) > 4)) || (decide ((IntKind.i64.wrap ((m_0.Args.length : Int) + (m_0.Locals.length : Int))) > 16))) || ((decide (m_0.Result ≠ 1)) && (decide (m_0.Result ≠ 2)))) = true then (some (.inr false)) else ((method_Kinds.f m_0).bind fun t12 => some (.inl (.l1 t12 0)))
  | .l1 t12 x28 => if x28 < (t12.length : Int) then ((elt t12 x28).bind fun x31 => (method_local.f x31).bind fun t32 => if (!t32) = true then (some (.inr false)) else (some (.inl (.l1 t12 (IntKind.i64.wrap (x28 + 1)))))) else ((method_within.f m_0.Fuel 1048576).bind fun t33 => (if t33 = true then ((method_within.f m_0.Stack 256).bind fun t36 => some t36) else (some false)).bind fun t37 => (if t37 = true then ((method_within.f m_0.Heap 1024).bind fun t40 => some t40) else (some false)).bind fun t41 => some (.inr t41))
def method_May.f (m_0 : api_Method) : Option Bool := runF (method_May.F m_0) .start
theorem method_May.ok (m_0 : api_Method) (v_m_0_Args v_m_0_Locals v_m_0_Code : Value) (r : Bool) (H : method_May.f m_0 = some r) (w : World) (hV : Hp) (sV : Sub hV (hp w)) (h0 : slR (kInt .u8) hV v_m_0_Args m_0.Args) (h1 : slR (kInt .u8) hV v_m_0_Locals m_0.Locals) (h2 : slR k_api_Instr hV v_m_0_Code m_0.Code) :
    Trip Tryz.prog 32 [.agg #[v_m_0_Args, v_m_0_Locals, .int .u8 m_0.Result, .bool m_0.Reads, .int .i64 m_0.Fuel, .int .i64 m_0.Stack, .int .i64 m_0.Heap, v_m_0_Code]].toArray em hV w (fun v => HO.pure (v = .bool r)) := by
 refine Trip.go 53 Tryz.func32 sV (aS h0 (aS h1 (aS h2 (All.nil _)))) fun see => ?_
 obtain ⟨n0, hi⟩ := runF_iff.1 H
 obtain ⟨m0, o, hm0, ho, hr⟩ := iter_some hi
 clear hi
 refine go ?_
 refine SP.box rfl rfl rfl rfl fun b4 => go ?_
 refine CP.seq (go ?_)
 refine SP.jn 9 [1] 18 (.bool ((decide ((m_0.Args.length : Int) > 4)) || (decide ((IntKind.i64.wrap ((m_0.Args.length : Int) + (m_0.Locals.length : Int))) > 16)))) ?_ ?_
 ·refine go ?_
  refine SP.jn 9 [1] 28 (.bool (((decide ((m_0.Args.length : Int) > 4)) || (decide ((IntKind.i64.wrap ((m_0.Args.length : Int) + (m_0.Locals.length : Int))) > 16))) || ((decide (m_0.Result ≠ 1)) && (decide (m_0.Result ≠ 2))))) ?_ ?_
  ·refine go ?_
   refine CP.cb ho (fun ho => ?_) fun ho => ?_
   ·refine go ?_
    obtain rfl := fin ho hr
    exact QE.rt (fun _ h => h)
   refine go ?_
   refine CP.seq (go ?_)
   refine SP.val (Val.loadA 0 rfl Tryz.underlying34 rfl sz34 rfl rfl rfl) rfl rfl rfl ?_
   obtain ⟨t12, hc, ho⟩ := bind_some ho
   refine SP.callK see (caps := []) _ fn62 rfl rfl rfl rfl (fun w2 hP hs sub ap => method_Kinds.ok _ _ _ _ _ hc w2 hP sub (ap.get 0 rfl) (ap.get 1 rfl) (ap.get 2 rfl)) (SP.k1 fun v13 => ?_)
   clear hc
   refine SP.val (Val.lenW (fun w2 hw => slO.whole (St.own 0 rfl see.sub see.dj hw)) Tryz.underlying31 rfl) rfl rfl rfl (go ?_)
   obtain rfl := Option.some.inj ho
   refine CP.loop (fun cl1 a w2 => ∃ x28 : Int, cl1 ≤ m0 ∧ iter (method_May.F m_0) cl1 (.l1 t12 x28) = some r ∧ Env ⟨53, []⟩ [(1, .pointer (some ⟨b4, 0, none⟩)), (30, v13), (31, .int .i64 (t12.length : Int)), (32, .int .i64 x28)] a ∧ St w em hV [slP (kInt .u8) v_m_0_Args m_0.Args, slP (kInt .u8) v_m_0_Locals m_0.Locals, slP k_api_Instr v_m_0_Code m_0.Code] [slO (kInt .u8) 5 v13 t12, boxO b4 [v_m_0_Args, v_m_0_Locals, .int .u8 m_0.Result, .bool m_0.Reads, .int .i64 m_0.Fuel, .int .i64 m_0.Stack, .int .i64 m_0.Heap, v_m_0_Code] 34] w2) m0 (fun a w2 ha hw => ⟨0, Nat.le_refl _, hr, ha.sub sb, hw⟩) ?_
   clear hr
   rintro cl1 a w2 ⟨x28, hc_l1, hi, ha, hw⟩
   obtain ⟨m29, o, hm_m29, ho, hr⟩ := iter_some hi
   refine CP.app ha hw ?_
   clear ha hw a w2 hi
   refine go ?_
   refine CP.seq ?_
   refine CP.ci ho (fun ho => ?_) fun ho => ?_
   ·refine go ?_
    refine CP.seq (go ?_)
    obtain ⟨x31, hx_x31, ho⟩ := elt_bind ho
    refine SP.indexW (fun w2 hw => slO.whole (St.own 0 rfl see.sub see.dj hw)) Tryz.underlying31 sz5 hx_x31.1 hx_x31.2 rfl rfl rfl rfl (fun p30 h_p30 => ?_)
    refine SP.val (Val.loadW1 (off := 0) (k := (kInt .u8)) (fun w2 hw => slO.whole (St.own 0 rfl see.sub see.dj hw)) hx_x31.2 h_p30 (fun _ _ e => by subst e; rfl) Tryz.underlying5 rfl rfl) rfl rfl rfl (go ?_)
    obtain ⟨t32, hc, ho⟩ := bind_some ho
    refine SP.callV see (caps := []) (.bool t32) fn63 rfl rfl rfl rfl (fun w2 hP hs sub ap => method_local.ok _  _ hc w2 hP sub ) ?_
    clear hc
    refine go ?_
    refine CP.cb ho (fun ho => ?_) fun ho => ?_
    ·refine go ?_
     obtain rfl := fin ho hr
     exact QE.rt (fun _ h => h)
    refine go ?_
    obtain rfl := Option.some.inj ho
    exact QE.lower m29 (by omega) fun a w2 ha hw => ⟨(IntKind.i64.wrap (x28 + 1)), (by omega), hr, ha.sub sb, hw⟩
   refine go ?_
   obtain ⟨t33, hc, ho⟩ := bind_some ho
   refine SP.callV see (caps := []) (.bool t33) fn64 rfl rfl rfl rfl (fun w2 hP hs sub ap => method_within.ok _ _  _ hc w2 hP sub ) ?_
   clear hc
   refine go ?_
   obtain ⟨t37, hg_t37, ho⟩ := bind_some ho
   refine SP.jn 4 [1] 47 (.bool t37) ?_ ?_
   ·clear hg_t37
    refine go ?_
    obtain ⟨t41, hg_t41, ho⟩ := bind_some ho
    refine SP.jn 4 [] 52 (.bool t41) ?_ ?_
    ·clear hg_t41
     refine go ?_
     obtain rfl := fin ho hr
     exact QE.rt (fun _ h => h)
    refine SP.cb 48 hg_t41 (fun hq39 ho => ?_) fun hq39 ho => ?_
    ·refine go ?_
     obtain ⟨t40, hc, ho⟩ := bind_some ho
     refine SP.callV see (caps := []) (.bool t40) fn64 rfl rfl rfl rfl (fun w2 hP hs sub ap => method_within.ok _ _  _ hc w2 hP sub ) ?_
     clear hc
     refine go ?_
     obtain rfl := Option.some.inj ho
     exact QE.jn fun w2 hw => hw
    refine go ?_
    obtain rfl := Option.some.inj ho
    exact QE.jn fun w2 hw => hw
   refine SP.cb 43 hg_t37 (fun hq35 ho => ?_) fun hq35 ho => ?_
   ·refine go ?_
    obtain ⟨t36, hc, ho⟩ := bind_some ho
    refine SP.callV see (caps := []) (.bool t36) fn64 rfl rfl rfl rfl (fun w2 hP hs sub ap => method_within.ok _ _  _ hc w2 hP sub ) ?_
    clear hc
    refine go ?_
    obtain rfl := Option.some.inj ho
    exact QE.jn fun w2 hw => hw
   refine go ?_
   obtain rfl := Option.some.inj ho
   exact QE.jn fun w2 hw => hw
  refine SP.bb 19 (fun hq9 => ?_) fun hq9 => ?_
  ·refine go ?_
   exact QE.jb (or_t hq9) fun w2 hw => hw
  refine go ?_
  refine SP.jn 4 [1, 19] 27 (.bool ((decide (m_0.Result ≠ 1)) && (decide (m_0.Result ≠ 2)))) ?_ ?_
  ·refine go ?_
   exact QE.jb (or_f hq9 rfl) fun w2 hw => hw
  refine SP.bb 23 (fun hq11 => ?_) fun hq11 => ?_
  ·refine go ?_
   exact QE.jb (and_t hq11 rfl) fun w2 hw => hw
  refine go ?_
  exact QE.jb (and_f hq11) fun w2 hw => hw
 refine SP.bb 9 (fun hq7 => ?_) fun hq7 => ?_
 ·refine go ?_
  exact QE.jb (or_t hq7) fun w2 hw => hw
 refine go ?_
 exact QE.jb (or_f hq7 rfl) fun w2 hw => hw
def method_Bytes.j1 (m_0 : api_Method) (l32 : List Int) : Option ((List Int) × Int) :=
  (octet_Put.f 3 m_0.Fuel).bind fun t36 => if t36.2 ≠ 0 then (some ([], 70)) else (if (l32.length + t36.1.length) * 1 ≤ 140737488355328 then ((octet_Put.f 2 m_0.Stack).bind fun t44 => if t44.2 ≠ 0 then (some ([], 70)) else (if ((l32 ++ t36.1).length + t44.1.length) * 1 ≤ 140737488355328 then ((octet_Put.f 2 m_0.Heap).bind fun t52 => if t52.2 ≠ 0 then (some ([], 70)) else (if (((l32 ++ t36.1) ++ t44.1).length + t52.1.length) * 1 ≤ 140737488355328 then (some (((l32 ++ t36.1) ++ t44.1) ++ t52.1, 0)) else none)) else none)) else none)
def method_Bytes.f (m_0 : api_Method) : Option ((List Int) × Int) :=
  (method_May.f m_0).bind fun t6 => if (!t6) = true then (some ([], 70)) else (if ([IntKind.u8.wrap (m_0.Args.length : Int)].length + m_0.Args.length) * 1 ≤ 140737488355328 then (if (([IntKind.u8.wrap (m_0.Args.length : Int)] ++ m_0.Args).length + [IntKind.u8.wrap (m_0.Locals.length : Int)].length) * 1 ≤ 140737488355328 then (if ((([IntKind.u8.wrap (m_0.Args.length : Int)] ++ m_0.Args) ++ [IntKind.u8.wrap (m_0.Locals.length : Int)]).length + m_0.Locals.length) * 1 ≤ 140737488355328 then (if (((([IntKind.u8.wrap (m_0.Args.length : Int)] ++ m_0.Args) ++ [IntKind.u8.wrap (m_0.Locals.length : Int)]) ++ m_0.Locals).length + [m_0.Result, 0].length) * 1 ≤ 140737488355328 then (if m_0.Reads = true then ((elt (((([IntKind.u8.wrap (m_0.Args.length : Int)] ++ m_0.Args) ++ [IntKind.u8.wrap (m_0.Locals.length : Int)]) ++ m_0.Locals) ++ [m_0.Result, 0]) (IntKind.i64.wrap (((((([IntKind.u8.wrap (m_0.Args.length : Int)] ++ m_0.Args) ++ [IntKind.u8.wrap (m_0.Locals.length : Int)]) ++ m_0.Locals) ++ [m_0.Result, 0]).length : Int) - 1))).bind fun x31 => method_Bytes.j1 m_0 ((((([IntKind.u8.wrap (m_0.Args.length : Int)] ++ m_0.Args) ++ [IntKind.u8.wrap (m_0.Locals.length : Int)]) ++ m_0.Locals) ++ [m_0.Result, 0]).set (IntKind.i64.wrap (((((([IntKind.u8.wrap (m_0.Args.length : Int)] ++ m_0.Args) ++ [IntKind.u8.wrap (m_0.Locals.length : Int)]) ++ m_0.Locals) ++ [m_0.Result, 0]).length : Int) - 1)).toNat 1)) else (method_Bytes.j1 m_0 (((([IntKind.u8.wrap (m_0.Args.length : Int)] ++ m_0.Args) ++ [IntKind.u8.wrap (m_0.Locals.length : Int)]) ++ m_0.Locals) ++ [m_0.Result, 0]))) else none) else none) else none) else none)
theorem method_Bytes.ok (m_0 : api_Method) (v_m_0_Args v_m_0_Locals v_m_0_Code : Value) (r : (List Int) × Int) (H : method_Bytes.f m_0 = some r) (w : World) (hV : Hp) (sV : Sub hV (hp w)) (h0 : slR (kInt .u8) hV v_m_0_Args m_0.Args) (h1 : slR (kInt .u8) hV v_m_0_Locals m_0.Locals) (h2 : slR k_api_Instr hV v_m_0_Code m_0.Code) :
    Trip Tryz.prog 125 [.agg #[v_m_0_Args, v_m_0_Locals, .int .u8 m_0.Result, .bool m_0.Reads, .int .i64 m_0.Fuel, .int .i64 m_0.Stack, .int .i64 m_0.Heap, v_m_0_Code]].toArray em hV w (fun v => HO.ex fun u0 : Value => HO.pand (v = .tuple #[u0, .int .i64 r.2]) (HO.seps [slO (kInt .u8) 5 u0 r.1])) := by
 refine Trip.go 70 Tryz.func125 sV (aS h0 (aS h1 (aS h2 (All.nil _)))) fun see => ?_
 have ho := H
 refine go ?_
 refine SP.box rfl rfl rfl rfl fun b4 => go ?_
 refine CP.seq (go ?_)
 refine SP.val (Val.loadA 0 rfl Tryz.underlying34 rfl sz34 rfl rfl rfl) rfl rfl rfl ?_
 obtain ⟨t6, hc, ho⟩ := bind_some ho
 refine SP.callV see (caps := []) (.bool t6) fn32 rfl rfl rfl rfl (fun w2 hP hs sub ap => method_May.ok _ _ _ _ _ hc w2 hP sub (ap.get 0 rfl) (ap.get 1 rfl) (ap.get 2 rfl)) ?_
 clear hc
 refine go ?_
 refine CP.cb ho (fun ho => ?_) fun ho => ?_
 ·refine go ?_
  obtain rfl := Option.some.inj ho
  exact QE.rt (fun _ h => St.selO [0] rfl rfl (St.addO (slO.nil (kInt .u8) 5) h))
 refine go ?_
 refine SP.val (Val.conv (by rw [Tryz.underlying3]; rfl) Tryz.underlying5 rfl) rfl rfl rfl ?_
 refine SP.lit (k := (kInt .u8)) (xs := [IntKind.u8.wrap (m_0.Args.length : Int)]) (vs := [.int .u8 (IntKind.u8.wrap (m_0.Args.length : Int))]) (cells := [.int .u8 (IntKind.u8.wrap (m_0.Args.length : Int))]) Tryz.underlying31 inf5 rfl rfl rfl rfl rfl rfl rfl rfl (fun _ ap => ⟨[.int .u8 (IntKind.u8.wrap (m_0.Args.length : Int))], _, rfl, rfl, rfl⟩) rfl rfl rfl (fun v8 => go ?_)
 obtain ⟨hb, ho⟩ := must_some ho
 refine SP.append see 0 rfl 0 rfl Tryz.underlying31 inf5 rfl rfl hb rfl rfl rfl rfl rfl (fun v10 => ?_)
 clear hb
 refine go ?_
 refine CP.seq ?_
 refine CP.drawA (by kernel_rfl) (fun w2 k h => h.drawn k) ?_
 refine (DA.phase (fun i => Nat.ble 0 i && Nat.blt i 9) (fun w2 => St w em hV [slP (kInt .u8) v_m_0_Args m_0.Args, slP (kInt .u8) v_m_0_Locals m_0.Locals, slP k_api_Instr v_m_0_Code m_0.Code] [boxO b4 [v_m_0_Args, v_m_0_Locals, .int .u8 m_0.Result, .bool m_0.Reads, .int .i64 m_0.Fuel, .int .i64 m_0.Stack, .int .i64 m_0.Heap, v_m_0_Code] 34] w2) ?_)
 refine DT.ts 0 rfl (Val.move rfl) (fun w2 hw => (St.selO [1] rfl rfl hw)) ?_
 refine DT.ts 1 rfl (Val.fieldAddr Tryz.underlying34 rfl sz31 rfl) (fun w2 hw => (St.selO [1] rfl rfl hw)) ?_
 refine DT.ts 2 rfl (Val.load1 0 rfl Tryz.underlying31 rfl rfl rfl) (fun w2 hw => (St.selO [1] rfl rfl hw)) ?_
 refine DT.ts 3 rfl (Val.lenP see 1 rfl Tryz.underlying31 rfl) (fun w2 hw => (St.selO [1] rfl rfl hw)) ?_
 refine DT.ts 4 rfl (Val.conv (by rw [Tryz.underlying3]; rfl) Tryz.underlying5 rfl) (fun w2 hw => (St.selO [1] rfl rfl hw)) ?_
 refine DT.ts 7 rfl (Val.fieldAddr Tryz.underlying34 rfl sz31 rfl) (fun w2 hw => (St.selO [1] rfl rfl hw)) ?_
 refine DT.ts 8 rfl (Val.load1 0 rfl Tryz.underlying31 rfl rfl rfl) (fun w2 hw => (St.selO [1] rfl rfl hw)) ?_
 refine DT.one 5 rfl (by kernel_rfl) rfl ?_
 refine SP.lit (k := (kInt .u8)) (xs := [IntKind.u8.wrap (m_0.Locals.length : Int)]) (vs := [.int .u8 (IntKind.u8.wrap (m_0.Locals.length : Int))]) (cells := [.int .u8 (IntKind.u8.wrap (m_0.Locals.length : Int))]) Tryz.underlying31 inf5 rfl rfl rfl rfl rfl rfl rfl rfl (fun _ ap => ⟨[.int .u8 (IntKind.u8.wrap (m_0.Locals.length : Int))], _, rfl, rfl, rfl⟩) rfl rfl rfl (fun v20 => go ?_)
 refine QE.atT (fun w2 hw => (St.selO [2] rfl rfl hw)) ?_
 refine DT.one 6 rfl (by kernel_rfl) rfl ?_
 refine SP.freezeS see 0 rfl ?_
 obtain ⟨hb, ho⟩ := must_some ho
 refine SP.append see 0 rfl 0 rfl Tryz.underlying31 inf5 rfl rfl hb rfl rfl rfl rfl rfl (fun v22 => ?_)
 clear hb
 refine go ?_
 refine QE.atT (fun w2 hw => (St.selP [1, 2, 3] rfl (St.selO [1] rfl rfl hw))) ?_
 refine DT.next (by kernel_rfl) ?_
 refine DA.one 9 rfl (by kernel_rfl) ?_
 obtain ⟨hb, ho⟩ := must_some ho
 refine SP.append see 0 rfl 2 rfl Tryz.underlying31 inf5 rfl rfl hb rfl rfl rfl rfl rfl (fun v24 => ?_)
 clear hb
 refine go ?_
 refine QE.atA ?_
 refine DA.one 10 rfl (by kernel_rfl) (go ?_)
 refine QE.atA ?_
 refine DA.done (by kernel_rfl) (go ?_)
 refine SP.lit (k := (kInt .u8)) (xs := [m_0.Result, 0]) (vs := [.int .u8 m_0.Result, .int .u8 0]) (cells := [.int .u8 m_0.Result, .int .u8 0]) Tryz.underlying31 inf5 rfl rfl rfl rfl rfl rfl rfl rfl (fun _ ap => ⟨[.int .u8 m_0.Result], _, rfl, rfl, ⟨[.int .u8 0], _, rfl, rfl, rfl⟩⟩) rfl rfl rfl (fun v26 => ?_)
 refine SP.freezeS see 0 rfl ?_
 obtain ⟨hb, ho⟩ := must_some ho
 refine SP.append see 0 rfl 0 rfl Tryz.underlying31 inf5 rfl rfl hb rfl rfl rfl rfl rfl (fun v28 => ?_)
 clear hb
 refine go ?_
 refine CP.join (fun a w2 => ∃ l32 : List Int, ∃ v33 : Value, method_Bytes.j1 m_0 l32 = some r ∧ Env ⟨70, []⟩ [(1, .pointer (some ⟨b4, 0, none⟩)), (4, v33)] a ∧ St w em hV [slP (kInt .u8) v_m_0_Args m_0.Args, slP (kInt .u8) v_m_0_Locals m_0.Locals, slP k_api_Instr v_m_0_Code m_0.Code] [slO (kInt .u8) 5 v33 l32, boxO b4 [v_m_0_Args, v_m_0_Locals, .int .u8 m_0.Result, .bool m_0.Reads, .int .i64 m_0.Fuel, .int .i64 m_0.Stack, .int .i64 m_0.Heap, v_m_0_Code] 34] w2) ?_ ?_
 ·rintro a w2 ⟨l32, v33, ho, ha, hw⟩
  refine CP.app ha hw ?_
  clear ha hw a w2
  refine CP.seq (go ?_)
  refine SP.val (Val.buildC (us := [(0, .int .i64 3), (1, .int .i64 m_0.Fuel)]) (ucs := [(0, [.int .i64 3]), (1, [.int .i64 m_0.Fuel])]) (cs := [.int .i64 3, .int .i64 m_0.Fuel]) bt240 rfl rfl ⟨rfl, rfl, ⟨rfl, rfl, trivial⟩⟩ (by rfl)) rfl rfl rfl (go ?_)
  refine SP.val (Val.buildC (us := [(0, .int .i64 2), (1, .int .i64 m_0.Stack)]) (ucs := [(0, [.int .i64 2]), (1, [.int .i64 m_0.Stack])]) (cs := [.int .i64 2, .int .i64 m_0.Stack]) bt240 rfl rfl ⟨rfl, rfl, ⟨rfl, rfl, trivial⟩⟩ (by rfl)) rfl rfl rfl (go ?_)
  refine SP.val (Val.buildC (us := [(0, .int .i64 2), (1, .int .i64 m_0.Heap)]) (ucs := [(0, [.int .i64 2]), (1, [.int .i64 m_0.Heap])]) (cs := [.int .i64 2, .int .i64 m_0.Heap]) bt240 rfl rfl ⟨rfl, rfl, ⟨rfl, rfl, trivial⟩⟩ (by rfl)) rfl rfl rfl ?_
  refine SP.val (Val.buildC (us := [(0, .agg #[.int .i64 3, .int .i64 m_0.Fuel]), (1, .agg #[.int .i64 2, .int .i64 m_0.Stack]), (2, .agg #[.int .i64 2, .int .i64 m_0.Heap])]) (ucs := [(0, [.int .i64 3, .int .i64 m_0.Fuel]), (1, [.int .i64 2, .int .i64 m_0.Stack]), (2, [.int .i64 2, .int .i64 m_0.Heap])]) (cs := [.int .i64 3, .int .i64 m_0.Fuel, .int .i64 2, .int .i64 m_0.Stack, .int .i64 2, .int .i64 m_0.Heap]) bt241 rfl rfl ⟨rfl, rfl, ⟨rfl, rfl, ⟨rfl, rfl, trivial⟩⟩⟩ (by rfl)) rfl rfl rfl (go ?_)
  refine CP.rounds 5 ?_
  refine LP.step ?_
  refine CP.seq ?_
  refine CP.region ?_
  refine SP.val (Val.cast (v := .bool true) (Val.lss rfl rfl) rfl) rfl rfl rfl (go ?_)
  refine CP.seq ?_
  refine CP.condT rfl rfl (go ?_)
  refine CP.seq (go ?_)
  refine SP.val (Val.indexCA (c := [.int .i64 3, .int .i64 m_0.Fuel]) 0 Tryz.underlying241 Tryz.underlying240 rfl sz240 rfl rfl rfl rfl) rfl rfl rfl ?_
  refine SP.alloc (cs := [.int .i64 0, .int .i64 0]) inf240 rfl rfl (fun b34 => ?_)
  refine SP.store (v := .agg #[.int .i64 3, .int .i64 m_0.Fuel]) (vs := [.int .i64 3, .int .i64 m_0.Fuel]) 0 (by rfl) sz240 (by rfl) (by rfl) (by rfl) (by rfl) (by rfl) (by rfl) (go ?_)
  obtain ⟨t36, hc, ho⟩ := bind_some ho
  refine SP.callK see (caps := []) _ fn184 rfl rfl rfl rfl (fun w2 hP hs sub ap => octet_Put.ok _ _  _ hc w2 hP sub ) (SP.k1 fun v37 => ?_)
  clear hc
  refine go ?_
  refine CP.seq (go ?_)
  refine CP.ci ho (fun ho => ?_) fun ho => ?_
  ·refine go ?_
   obtain rfl := Option.some.inj ho
   exact QE.rt (fun _ h => St.selO [0] rfl rfl (St.addO (slO.nil (kInt .u8) 5) h))
  refine go ?_
  refine SP.freezeS see 0 rfl ?_
  obtain ⟨hb, ho⟩ := must_some ho
  refine SP.append see 1 rfl 0 rfl Tryz.underlying31 inf5 rfl rfl hb rfl rfl rfl rfl rfl (fun v40 => ?_)
  clear hb
  refine SP.val (Val.assign rfl) rfl rfl rfl ?_
  refine SP.nil ?_
  refine QE.blockN ?_
  refine QE.then ?_
  refine CP.region ?_
  refine SP.val (Val.cast (v := .int .i64 1) (Val.add rfl rfl) rfl) rfl rfl rfl (go ?_)
  refine QE.round ?_
  refine LP.step ?_
  refine CP.seq ?_
  refine CP.region ?_
  refine SP.val (Val.cast (v := .bool true) (Val.lss rfl rfl) rfl) rfl rfl rfl (go ?_)
  refine CP.seq ?_
  refine CP.condT rfl rfl (go ?_)
  refine CP.seq (go ?_)
  refine SP.val (Val.indexCA (c := [.int .i64 2, .int .i64 m_0.Stack]) 1 Tryz.underlying241 Tryz.underlying240 rfl sz240 rfl rfl rfl rfl) rfl rfl rfl ?_
  refine SP.alloc (cs := [.int .i64 0, .int .i64 0]) inf240 rfl rfl (fun b42 => ?_)
  refine SP.store (v := .agg #[.int .i64 2, .int .i64 m_0.Stack]) (vs := [.int .i64 2, .int .i64 m_0.Stack]) 0 (by rfl) sz240 (by rfl) (by rfl) (by rfl) (by rfl) (by rfl) (by rfl) (go ?_)
  obtain ⟨t44, hc, ho⟩ := bind_some ho
  refine SP.callK see (caps := []) _ fn184 rfl rfl rfl rfl (fun w2 hP hs sub ap => octet_Put.ok _ _  _ hc w2 hP sub ) (SP.k1 fun v45 => ?_)
  clear hc
  refine go ?_
  refine CP.seq (go ?_)
  refine CP.ci ho (fun ho => ?_) fun ho => ?_
  ·refine go ?_
   obtain rfl := Option.some.inj ho
   exact QE.rt (fun _ h => St.selO [0] rfl rfl (St.addO (slO.nil (kInt .u8) 5) h))
  refine go ?_
  refine SP.freezeS see 0 rfl ?_
  obtain ⟨hb, ho⟩ := must_some ho
  refine SP.append see 2 rfl 0 rfl Tryz.underlying31 inf5 rfl rfl hb rfl rfl rfl rfl rfl (fun v48 => ?_)
  clear hb
  refine SP.val (Val.assign rfl) rfl rfl rfl ?_
  refine SP.nil ?_
  refine QE.blockN ?_
  refine QE.then ?_
  refine CP.region ?_
  refine SP.val (Val.cast (v := .int .i64 2) (Val.add rfl rfl) rfl) rfl rfl rfl (go ?_)
  refine QE.round ?_
  refine LP.step ?_
  refine CP.seq ?_
  refine CP.region ?_
  refine SP.val (Val.cast (v := .bool true) (Val.lss rfl rfl) rfl) rfl rfl rfl (go ?_)
  refine CP.seq ?_
  refine CP.condT rfl rfl (go ?_)
  refine CP.seq (go ?_)
  refine SP.val (Val.indexCA (c := [.int .i64 2, .int .i64 m_0.Heap]) 2 Tryz.underlying241 Tryz.underlying240 rfl sz240 rfl rfl rfl rfl) rfl rfl rfl ?_
  refine SP.alloc (cs := [.int .i64 0, .int .i64 0]) inf240 rfl rfl (fun b50 => ?_)
  refine SP.store (v := .agg #[.int .i64 2, .int .i64 m_0.Heap]) (vs := [.int .i64 2, .int .i64 m_0.Heap]) 0 (by rfl) sz240 (by rfl) (by rfl) (by rfl) (by rfl) (by rfl) (by rfl) (go ?_)
  obtain ⟨t52, hc, ho⟩ := bind_some ho
  refine SP.callK see (caps := []) _ fn184 rfl rfl rfl rfl (fun w2 hP hs sub ap => octet_Put.ok _ _  _ hc w2 hP sub ) (SP.k1 fun v53 => ?_)
  clear hc
  refine go ?_
  refine CP.seq (go ?_)
  refine CP.ci ho (fun ho => ?_) fun ho => ?_
  ·refine go ?_
   obtain rfl := Option.some.inj ho
   exact QE.rt (fun _ h => St.selO [0] rfl rfl (St.addO (slO.nil (kInt .u8) 5) h))
  refine go ?_
  refine SP.freezeS see 0 rfl ?_
  obtain ⟨hb, ho⟩ := must_some ho
  refine SP.append see 3 rfl 0 rfl Tryz.underlying31 inf5 rfl rfl hb rfl rfl rfl rfl rfl (fun v56 => ?_)
  clear hb
  refine SP.val (Val.assign rfl) rfl rfl rfl ?_
  refine SP.nil ?_
  refine QE.blockN ?_
  refine QE.then ?_
  refine CP.region ?_
  refine SP.val (Val.cast (v := .int .i64 3) (Val.add rfl rfl) rfl) rfl rfl rfl (go ?_)
  refine QE.round ?_
  refine LP.step ?_
  refine CP.seq ?_
  refine CP.region ?_
  refine SP.val (Val.cast (v := .bool false) (Val.lss rfl rfl) rfl) rfl rfl rfl (go ?_)
  refine CP.seq ?_
  refine CP.condF rfl rfl (go ?_)
  obtain rfl := Option.some.inj ho
  exact QE.rt (fun _ h => St.selO [3] rfl rfl h)
 refine go ?_
 refine CP.cb ho (fun ho => ?_) fun ho => ?_
 ·refine go ?_
  refine SP.val (Val.lenW (fun w2 hw => slO.whole (St.own 0 rfl see.sub see.dj hw)) Tryz.underlying31 rfl) rfl rfl rfl (go ?_)
  obtain ⟨x31, hx_x31, ho⟩ := elt_bind ho
  refine SP.indexW (fun w2 hw => slO.whole (St.own 0 rfl see.sub see.dj hw)) Tryz.underlying31 sz5 hx_x31.1 hx_x31.2 rfl rfl rfl rfl (fun p30 h_p30 => ?_)
  refine SP.storeO (z0 := 1) (off := 0) (vs := [.int .u8 1]) see 0 rfl hx_x31.2 h_p30 rfl rfl sz5 rfl (fun a cs _ e => by subst e; rfl) rfl rfl rfl (go ?_)
  exact QE.meet fun a w2 ha hw => ⟨((((([IntKind.u8.wrap (m_0.Args.length : Int)] ++ m_0.Args) ++ [IntKind.u8.wrap (m_0.Locals.length : Int)]) ++ m_0.Locals) ++ [m_0.Result, 0]).set (IntKind.i64.wrap (((((([IntKind.u8.wrap (m_0.Args.length : Int)] ++ m_0.Args) ++ [IntKind.u8.wrap (m_0.Locals.length : Int)]) ++ m_0.Locals) ++ [m_0.Result, 0]).length : Int) - 1)).toNat 1), v28, ho, ha.sub sb, (St.selP [2, 3, 4] rfl hw)⟩
 refine go ?_
 exact QE.meet fun a w2 ha hw => ⟨(((([IntKind.u8.wrap (m_0.Args.length : Int)] ++ m_0.Args) ++ [IntKind.u8.wrap (m_0.Locals.length : Int)]) ++ m_0.Locals) ++ [m_0.Result, 0]), v28, ho, ha.sub sb, (St.selP [2, 3, 4] rfl hw)⟩
def op_Known.f (op_0 : Int) : Option Bool :=
  some (decide ((IntKind.i64.wrap op_0) < 33))
theorem op_Known.ok (op_0 : Int)  (r : Bool) (H : op_Known.f op_0 = some r) (w : World) (hV : Hp) (sV : Sub hV (hp w))  :
    Trip Tryz.prog 188 [.int .u8 op_0].toArray em hV w (fun v => HO.pure (v = .bool r)) := by
 refine Trip.go 6 Tryz.func188 sV (All.nil _) fun see => ?_
 have ho := H
 refine go ?_
 refine SP.val (Val.conv (by rw [Tryz.underlying5]; rfl) Tryz.underlying3 rfl) rfl rfl rfl (go ?_)
 obtain rfl := Option.some.inj ho
 exact QE.rt (fun _ h => h)
def op_sign.j3 (op_0 : Int) (b3 : Bool) : Option Int :=
  if b3 = true then (some 5) else (if op_0 = 30 then (some 6) else (if op_0 = 32 then (some 7) else (if op_0 = 28 then (some 8) else (some 0))))
def op_sign.j2 (op_0 : Int) (b2 : Bool) : Option Int :=
  if b2 = true then (some 3) else (if op_0 = 22 then (some 4) else (if op_0 = 26 then (op_sign.j3 op_0 (decide (op_0 = 26))) else (if op_0 = 27 then (op_sign.j3 op_0 (decide (op_0 = 27))) else (op_sign.j3 op_0 (decide (op_0 = 29))))))
def op_sign.j1 (op_0 : Int) (b1 : Bool) : Option Int :=
  if b1 = true then (some 2) else (if op_0 = 4 then (op_sign.j2 op_0 (decide (op_0 = 4))) else (op_sign.j2 op_0 (decide (op_0 = 5))))
def op_sign.f (op_0 : Int) : Option Int :=
  if op_0 = 1 then (some 1) else (if op_0 = 2 then (op_sign.j1 op_0 (decide (op_0 = 2))) else (op_sign.j1 op_0 (decide (op_0 = 3))))
theorem op_sign.ok (op_0 r : Int) (H : op_sign.f op_0 = some r) (w : World) (hV : Hp) (sV : Sub hV (hp w))  :
    Trip Tryz.prog 189 [.int .u8 op_0].toArray em hV w (fun v => HO.pure (v = .int .i64 r)) := by
 refine Trip.go 24 Tryz.func189 sV (All.nil _) fun see => ?_
 have ho := H
 refine go ?_
 refine CP.seq (go ?_)
 refine CP.ci ho (fun ho => ?_) fun ho => ?_
 ·refine go ?_
  obtain rfl := Option.some.inj ho
  exact QE.rt (fun _ h => h)
 refine CP.join (fun a w2 => ∃ b1 : Bool, op_sign.j1 op_0 b1 = some r ∧ Env ⟨24, []⟩ [(3, .int .u8 op_0), (6, .bool b1)] a ∧ St w em hV [] [] w2) ?_ ?_
 ·rintro a w2 ⟨b1, ho, ha, hw⟩
  refine CP.app ha hw ?_
  clear ha hw a w2
  refine CP.cb ho (fun ho => ?_) fun ho => ?_
  ·refine go ?_
   obtain rfl := Option.some.inj ho
   exact QE.rt (fun _ h => h)
  refine CP.join (fun a w2 => ∃ b2 : Bool, op_sign.j2 op_0 b2 = some r ∧ Env ⟨24, []⟩ [(3, .int .u8 op_0), (9, .bool b2)] a ∧ St w em hV [] [] w2) ?_ ?_
  ·rintro a w2 ⟨b2, ho, ha, hw⟩
   refine CP.app ha hw ?_
   clear ha hw a w2
   refine CP.cb ho (fun ho => ?_) fun ho => ?_
   ·refine go ?_
    obtain rfl := Option.some.inj ho
    exact QE.rt (fun _ h => h)
   refine go ?_
   refine CP.ci ho (fun ho => ?_) fun ho => ?_
   ·refine go ?_
    obtain rfl := Option.some.inj ho
    exact QE.rt (fun _ h => h)
   refine CP.join (fun a w2 => ∃ b3 : Bool, op_sign.j3 op_0 b3 = some r ∧ Env ⟨24, []⟩ [(3, .int .u8 op_0), (14, .bool b3)] a ∧ St w em hV [] [] w2) ?_ ?_
   ·rintro a w2 ⟨b3, ho, ha, hw⟩
    refine CP.app ha hw ?_
    clear ha hw a w2
    refine CP.cb ho (fun ho => ?_) fun ho => ?_
    ·refine go ?_
     obtain rfl := Option.some.inj ho
     exact QE.rt (fun _ h => h)
    refine go ?_
    refine CP.ci ho (fun ho => ?_) fun ho => ?_
    ·refine go ?_
     obtain rfl := Option.some.inj ho
     exact QE.rt (fun _ h => h)
    refine go ?_
    refine CP.ci ho (fun ho => ?_) fun ho => ?_
    ·refine go ?_
     obtain rfl := Option.some.inj ho
     exact QE.rt (fun _ h => h)
    refine go ?_
    refine CP.ci ho (fun ho => ?_) fun ho => ?_
    ·refine go ?_
     obtain rfl := Option.some.inj ho
     exact QE.rt (fun _ h => h)
    refine go ?_
    obtain rfl := Option.some.inj ho
    exact QE.rt (fun _ h => h)
   refine go ?_
   refine CP.ci ho (fun ho => ?_) fun ho => ?_
   ·refine go ?_
    exact QE.meet fun a w2 ha hw => ⟨(decide (op_0 = 26)), ho, ha.sub sb, hw⟩
   refine go ?_
   refine CP.ci ho (fun ho => ?_) fun ho => ?_
   ·refine go ?_
    exact QE.meet fun a w2 ha hw => ⟨(decide (op_0 = 27)), ho, ha.sub sb, hw⟩
   refine go ?_
   exact QE.meet fun a w2 ha hw => ⟨(decide (op_0 = 29)), ho, ha.sub sb, hw⟩
  refine go ?_
  refine CP.ci ho (fun ho => ?_) fun ho => ?_
  ·refine go ?_
   exact QE.meet fun a w2 ha hw => ⟨(decide (op_0 = 4)), ho, ha.sub sb, hw⟩
  refine go ?_
  exact QE.meet fun a w2 ha hw => ⟨(decide (op_0 = 5)), ho, ha.sub sb, hw⟩
 refine go ?_
 refine CP.ci ho (fun ho => ?_) fun ho => ?_
 ·refine go ?_
  exact QE.meet fun a w2 ha hw => ⟨(decide (op_0 = 2)), ho, ha.sub sb, hw⟩
 refine go ?_
 exact QE.meet fun a w2 ha hw => ⟨(decide (op_0 = 3)), ho, ha.sub sb, hw⟩
def op_Bounds.f (op_0 : Int) : Option (Int × Int) :=
  (op_Known.f op_0).bind fun t1 => if (!t1) = true then (some (0, (-1))) else ((op_sign.f op_0).bind fun t2 => (elt tab0 t2).bind fun x5 => some (x5.e0, x5.e1))
theorem op_Bounds.ok (op_0 : Int)  (r : Int × Int) (H : op_Bounds.f op_0 = some r) (w : World) (hV : Hp) (sV : Sub hV (hp w)) (h0 : (arrP k_arr245 0 tab0).p hV) :
    Trip Tryz.prog 129 [.int .u8 op_0].toArray em hV w (fun v => HO.pure (v = .tuple #[.int .i64 r.1, .int .i64 r.2])) := by
 refine Trip.go 16 Tryz.func129 sV (All.cons (x := arrP k_arr245 0 tab0) h0 (All.nil _)) fun see => ?_
 have ho := H
 refine go ?_
 refine CP.seq (go ?_)
 obtain ⟨t1, hc, ho⟩ := bind_some ho
 refine SP.callV see (caps := []) (.bool t1) fn188 rfl rfl rfl rfl (fun w2 hP hs sub ap => op_Known.ok _  _ hc w2 hP sub ) ?_
 clear hc
 refine go ?_
 refine CP.cb ho (fun ho => ?_) fun ho => ?_
 ·refine go ?_
  obtain rfl := Option.some.inj ho
  exact QE.rt (fun _ h => h)
 refine go ?_
 obtain ⟨t2, hc, ho⟩ := bind_some ho
 refine SP.callV see (caps := []) (.int .i64 t2) fn189 rfl rfl rfl rfl (fun w2 hP hs sub ap => op_sign.ok _  _ hc w2 hP sub ) ?_
 clear hc
 obtain ⟨x5, hx, ho⟩ := elt_bind ho
 refine SP.indexG see 0 rfl Tryz.underlying246 rfl sz245 hx.1 hx.2 rfl rfl rfl rfl (fun p3 => ?_)
 clear hx
 refine k_arr245.load see 0 rfl Tryz.underlying245 rfl sz245 rfl rfl rfl ?_
 refine SP.alloc (cs := [.int .i64 0, .int .i64 0]) inf245 rfl rfl (fun b6 => ?_)
 refine SP.store (v := .agg #[.int .i64 x5.e0, .int .i64 x5.e1]) (vs := [.int .i64 x5.e0, .int .i64 x5.e1]) 0 (by rfl) sz245 (by rfl) (by rfl) (by rfl) (by rfl) (by rfl) (by rfl) (go ?_)
 refine CP.seq ?_
 refine CP.drawA (by kernel_rfl) (fun w2 k h => h.drawn k) ?_
 refine DA.ph 0 5 ?_
 refine DT.tv 0 rfl (Val.indexC (off2 := 0) Tryz.underlying245 sz3 (by decide) rfl rfl rfl) ?_
 refine DT.tk 1 ?_
 refine DT.tv 2 rfl (Val.indexC (off2 := 1) Tryz.underlying245 sz3 (by decide) rfl rfl rfl) ?_
 refine DT.tk 3 ?_
 refine DT.tk 4 ?_
 refine DT.next (by kernel_rfl) ?_
 refine DA.one 5 rfl (by kernel_rfl) (go ?_)
 refine QE.atA ?_
 refine DA.done (by kernel_rfl) (go ?_)
 obtain rfl := Option.some.inj ho
 exact QE.rt (fun _ h => h)
def op_May.f (i_0 : api_Instr) : Option Bool :=
  (op_Bounds.f i_0.Op).bind fun t3 => some (((decide (i_0.A ≥ t3.1)) && (decide (i_0.A ≤ t3.2))) && (decide (i_0.B = 0)))
theorem op_May.ok (i_0 : api_Instr)  (r : Bool) (H : op_May.f i_0 = some r) (w : World) (hV : Hp) (sV : Sub hV (hp w)) (h0 : (arrP k_arr245 0 tab0).p hV) :
    Trip Tryz.prog 68 [.agg #[.int .u8 i_0.Op, .int .i64 i_0.A, .int .i64 i_0.B]].toArray em hV w (fun v => HO.pure (v = .bool r)) := by
 refine Trip.go 26 Tryz.func68 sV (All.cons (x := arrP k_arr245 0 tab0) h0 (All.nil _)) fun see => ?_
 have ho := H
 refine go ?_
 refine SP.box rfl rfl rfl rfl fun b1 => go ?_
 obtain ⟨t3, hc, ho⟩ := bind_some ho
 refine SP.callV see (caps := []) (.tuple #[.int .i64 t3.1, .int .i64 t3.2]) fn129 rfl rfl rfl rfl (fun w2 hP hs sub ap => op_Bounds.ok _  _ hc w2 hP sub (ap.get 0 rfl)) ?_
 clear hc
 refine go ?_
 refine SP.jn 5 [1] 20 (.bool ((decide (i_0.A ≥ t3.1)) && (decide (i_0.A ≤ t3.2)))) ?_ ?_
 ·refine go ?_
  refine SP.jn 4 [] 25 (.bool (((decide (i_0.A ≥ t3.1)) && (decide (i_0.A ≤ t3.2))) && (decide (i_0.B = 0)))) ?_ ?_
  ·refine go ?_
   obtain rfl := Option.some.inj ho
   exact QE.rt (fun _ h => h)
  refine SP.bb 21 (fun hq7 => ?_) fun hq7 => ?_
  ·refine go ?_
   exact QE.jb (and_t hq7 rfl) fun w2 hw => hw
  refine go ?_
  exact QE.jb (and_f hq7) fun w2 hw => hw
 refine SP.bb 15 (fun hq5 => ?_) fun hq5 => ?_
 ·refine go ?_
  exact QE.jb (and_t hq5 rfl) fun w2 hw => hw
 refine go ?_
 exact QE.jb (and_f hq5) fun w2 hw => hw
def code_May_1.f (i_0 : api_Instr) : Option Bool :=
  (op_May.f i_0).bind fun t3 => some (!t3)
theorem code_May_1.ok (i_0 : api_Instr)  (r : Bool) (H : code_May_1.f i_0 = some r) (w : World) (hV : Hp) (sV : Sub hV (hp w)) (h0 : (arrP k_arr245 0 tab0).p hV) :
    Trip Tryz.prog 235 [.agg #[.int .u8 i_0.Op, .int .i64 i_0.A, .int .i64 i_0.B]].toArray em hV w (fun v => HO.pure (v = .bool r)) := by
 refine Trip.go 6 Tryz.func235 sV (All.cons (x := arrP k_arr245 0 tab0) h0 (All.nil _)) fun see => ?_
 have ho := H
 refine go ?_
 refine SP.box rfl rfl rfl rfl fun b1 => go ?_
 refine SP.val (Val.loadA 0 rfl Tryz.underlying43 rfl sz43 rfl rfl rfl) rfl rfl rfl ?_
 obtain ⟨t3, hc, ho⟩ := bind_some ho
 refine SP.callV see (caps := []) (.bool t3) fn68 rfl rfl rfl rfl (fun w2 hP hs sub ap => op_May.ok _  _ hc w2 hP sub (ap.get 0 rfl)) ?_
 clear hc
 refine go ?_
 obtain rfl := Option.some.inj ho
 exact QE.rt (fun _ h => h)
inductive slices_IndexFunc_api_Instr_api_Instr_s1.S where
  | start
  | l1 (x7 : Int)
def slices_IndexFunc_api_Instr_api_Instr_s1.F (s_0 : (List api_Instr)) : slices_IndexFunc_api_Instr_api_Instr_s1.S → Option (slices_IndexFunc_api_Instr_api_Instr_s1.S ⊕ Int)
  | .start => some (.inl (.l1 0))
  | .l1 x7 => if x7 < (s_0.length : Int) then ((elt s_0 x7).bind fun x11 => (code_May_1.f x11).bind fun t12 => if t12 = true then (some (.inr x7)) else (some (.inl (.l1 (IntKind.i64.wrap (x7 + 1)))))) else (some (.inr (-1)))
def slices_IndexFunc_api_Instr_api_Instr_s1.f (s_0 : (List api_Instr)) : Option Int := runF (slices_IndexFunc_api_Instr_api_Instr_s1.F s_0) .start
theorem slices_IndexFunc_api_Instr_api_Instr_s1.ok (s_0 : (List api_Instr)) (v_s_0 : Value)  (r : Int) (H : slices_IndexFunc_api_Instr_api_Instr_s1.f s_0 = some r) (w : World) (hV : Hp) (sV : Sub hV (hp w)) (h0 : slR k_api_Instr hV v_s_0 s_0) (h1 : (arrP k_arr245 0 tab0).p hV) :
    Trip Tryz.prog 128 [v_s_0, .func (.func 235) #[] #[]].toArray em hV w (fun v => HO.pure (v = .int .i64 r)) := by
 refine Trip.go 19 Tryz.func128 sV (aS h0 (All.cons (x := arrP k_arr245 0 tab0) h1 (All.nil _))) fun see => ?_
 obtain ⟨n0, hi⟩ := runF_iff.1 H
 obtain ⟨m0, o, hm0, ho, hr⟩ := iter_some hi
 clear hi
 refine go ?_
 refine CP.seq (go ?_)
 obtain rfl := Option.some.inj ho
 refine CP.loop (fun cl1 a w2 => ∃ x7 : Int, cl1 ≤ m0 ∧ iter (slices_IndexFunc_api_Instr_api_Instr_s1.F s_0) cl1 (.l1 x7) = some r ∧ Env ⟨19, []⟩ [(0, v_s_0), (1, .func (.func 235) #[] #[]), (7, .int .i64 (s_0.length : Int)), (8, .int .i64 x7)] a ∧ St w em hV [slP k_api_Instr v_s_0 s_0, arrP k_arr245 0 tab0] [] w2) m0 (fun a w2 ha hw => ⟨0, Nat.le_refl _, hr, ha.sub sb, hw⟩) ?_
 clear hr
 rintro cl1 a w2 ⟨x7, hc_l1, hi, ha, hw⟩
 obtain ⟨m8, o, hm_m8, ho, hr⟩ := iter_some hi
 refine CP.app ha hw ?_
 clear ha hw a w2 hi
 refine go ?_
 refine CP.seq ?_
 refine CP.ci ho (fun ho => ?_) fun ho => ?_
 ·refine go ?_
  refine CP.seq (go ?_)
  obtain ⟨x11, hx, ho⟩ := elt_bind ho
  refine SP.indexP see 0 rfl Tryz.underlying32 sz43 hx.1 hx.2 rfl rfl rfl rfl (fun p9 => ?_)
  clear hx
  refine k_api_Instr.load see 0 rfl Tryz.underlying43 rfl sz43 rfl rfl rfl ?_
  obtain ⟨t12, hc, ho⟩ := bind_some ho
  refine SP.callV see (caps := []) (.bool t12) fn235 rfl rfl rfl rfl (fun w2 hP hs sub ap => code_May_1.ok _  _ hc w2 hP sub (ap.get 2 rfl)) ?_
  clear hc
  refine go ?_
  refine CP.cb ho (fun ho => ?_) fun ho => ?_
  ·refine go ?_
   obtain rfl := fin ho hr
   exact QE.rt (fun _ h => h)
  refine go ?_
  obtain rfl := Option.some.inj ho
  exact QE.lower m8 (by omega) fun a w2 ha hw => ⟨(IntKind.i64.wrap (x7 + 1)), (by omega), hr, ha.sub sb, (St.selP [1, 2] rfl hw)⟩
 refine go ?_
 obtain rfl := fin ho hr
 exact QE.rt (fun _ h => h)
def slices_ContainsFunc_api_Instr_api_Instr_s1.f (s_0 : (List api_Instr)) : Option Bool :=
  (slices_IndexFunc_api_Instr_api_Instr_s1.f s_0).bind fun t2 => some (decide (t2 ≥ 0))
theorem slices_ContainsFunc_api_Instr_api_Instr_s1.ok (s_0 : (List api_Instr)) (v_s_0 : Value)  (r : Bool) (H : slices_ContainsFunc_api_Instr_api_Instr_s1.f s_0 = some r) (w : World) (hV : Hp) (sV : Sub hV (hp w)) (h0 : slR k_api_Instr hV v_s_0 s_0) (h1 : (arrP k_arr245 0 tab0).p hV) :
    Trip Tryz.prog 66 [v_s_0, .func (.func 235) #[] #[]].toArray em hV w (fun v => HO.pure (v = .bool r)) := by
 refine Trip.go 9 Tryz.func66 sV (aS h0 (All.cons (x := arrP k_arr245 0 tab0) h1 (All.nil _))) fun see => ?_
 have ho := H
 refine go ?_
 obtain ⟨t2, hc, ho⟩ := bind_some ho
 refine SP.callV see (caps := []) (.int .i64 t2) fn128 rfl rfl rfl rfl (fun w2 hP hs sub ap => slices_IndexFunc_api_Instr_api_Instr_s1.ok _ _ _ hc w2 hP sub (ap.get 0 rfl) (ap.get 1 rfl)) ?_
 clear hc
 refine go ?_
 obtain rfl := Option.some.inj ho
 exact QE.rt (fun _ h => h)
def code_May.f (l_0 : (List api_Instr)) : Option Bool :=
  (if ((decide ((l_0.length : Int) > 0)) && (decide ((l_0.length : Int) ≤ 200))) = true then ((slices_ContainsFunc_api_Instr_api_Instr_s1.f l_0).bind fun t6 => some (!t6)) else (some false)).bind fun t7 => some t7
theorem code_May.ok (l_0 : (List api_Instr)) (v_l_0 : Value)  (r : Bool) (H : code_May.f l_0 = some r) (w : World) (hV : Hp) (sV : Sub hV (hp w)) (h0 : slR k_api_Instr hV v_l_0 l_0) (h1 : (arrP k_arr245 0 tab0).p hV) :
    Trip Tryz.prog 185 [v_l_0].toArray em hV w (fun v => HO.pure (v = .bool r)) := by
 refine Trip.go 16 Tryz.func185 sV (aS h0 (All.cons (x := arrP k_arr245 0 tab0) h1 (All.nil _))) fun see => ?_
 have ho := H
 refine go ?_
 refine SP.jn 4 [0] 10 (.bool ((decide ((l_0.length : Int) > 0)) && (decide ((l_0.length : Int) ≤ 200)))) ?_ ?_
 ·refine go ?_
  obtain ⟨t7, hg_t7, ho⟩ := bind_some ho
  refine SP.jn 4 [] 15 (.bool t7) ?_ ?_
  ·clear hg_t7
   refine go ?_
   obtain rfl := Option.some.inj ho
   exact QE.rt (fun _ h => h)
  refine SP.cb 11 hg_t7 (fun hq5 ho => ?_) fun hq5 ho => ?_
  ·refine go ?_
   obtain ⟨t6, hc, ho⟩ := bind_some ho
   refine SP.callV see (caps := []) (.bool t6) fn66 rfl rfl rfl rfl (fun w2 hP hs sub ap => slices_ContainsFunc_api_Instr_api_Instr_s1.ok _ _ _ hc w2 hP sub (ap.get 0 rfl) (ap.get 1 rfl)) ?_
   clear hc
   refine go ?_
   obtain rfl := Option.some.inj ho
   exact QE.jn fun w2 hw => hw
  refine go ?_
  obtain rfl := Option.some.inj ho
  exact QE.jn fun w2 hw => hw
 refine SP.bb 6 (fun hq3 => ?_) fun hq3 => ?_
 ·refine go ?_
  exact QE.jb (and_t hq3 rfl) fun w2 hw => hw
 refine go ?_
 exact QE.jb (and_f hq3) fun w2 hw => hw
def code_wide.f (n_0 : Int) : Option Bool :=
  (op_Bounds.f n_0).bind fun t1 => some (decide (t1.2 > 0))
theorem code_wide.ok (n_0 : Int)  (r : Bool) (H : code_wide.f n_0 = some r) (w : World) (hV : Hp) (sV : Sub hV (hp w)) (h0 : (arrP k_arr245 0 tab0).p hV) :
    Trip Tryz.prog 186 [.int .u8 n_0].toArray em hV w (fun v => HO.pure (v = .bool r)) := by
 refine Trip.go 12 Tryz.func186 sV (All.cons (x := arrP k_arr245 0 tab0) h0 (All.nil _)) fun see => ?_
 have ho := H
 refine go ?_
 obtain ⟨t1, hc, ho⟩ := bind_some ho
 refine SP.callV see (caps := []) (.tuple #[.int .i64 t1.1, .int .i64 t1.2]) fn129 rfl rfl rfl rfl (fun w2 hP hs sub ap => op_Bounds.ok _  _ hc w2 hP sub (ap.get 0 rfl)) ?_
 clear hc
 refine go ?_
 obtain rfl := Option.some.inj ho
 exact QE.rt (fun _ h => h)
inductive code_Bytes.S where
  | start
  | l1 (l28 : List Int) (x30 : Int)
def code_Bytes.j1 (l_0 : (List api_Instr)) (x30 : Int) (l49 : List Int) : Option (code_Bytes.S ⊕ ((List Int) × Int)) :=
  some (.inl (.l1 l49 (IntKind.i64.wrap (x30 + 1))))
def code_Bytes.F (l_0 : (List api_Instr)) : code_Bytes.S → Option (code_Bytes.S ⊕ ((List Int) × Int))
  | .start => (code_May.f l_0).bind fun t2 => if (!t2) = true then (some (.inr ([], 40))) else (some (.inl (.l1 [IntKind.u8.wrap (l_0.length : Int)] 0)))
  | .l1 l28 x30 => if x30 < (l_0.length : Int) then ((elt l_0 x30).bind fun x34 => if (l28.length + [x34.Op].length) * 1 ≤ 140737488355328 then ((code_wide.f x34.Op).bind fun t41 => if (!t41) = true then (code_Bytes.j1 l_0 x30 (l28 ++ [x34.Op])) else ((octet_Put.f 2 x34.A).bind fun t42 => if t42.2 ≠ 0 then (some (.inr ([], 40))) else (if ((l28 ++ [x34.Op]).length + t42.1.length) * 1 ≤ 140737488355328 then (code_Bytes.j1 l_0 x30 ((l28 ++ [x34.Op]) ++ t42.1)) else none))) else none) else (some (.inr (l28, 0)))
def code_Bytes.f (l_0 : (List api_Instr)) : Option ((List Int) × Int) := runF (code_Bytes.F l_0) .start
theorem code_Bytes.ok (l_0 : (List api_Instr)) (v_l_0 : Value)  (r : (List Int) × Int) (H : code_Bytes.f l_0 = some r) (w : World) (hV : Hp) (sV : Sub hV (hp w)) (h0 : slR k_api_Instr hV v_l_0 l_0) (h1 : (arrP k_arr245 0 tab0).p hV) :
    Trip Tryz.prog 126 [v_l_0].toArray em hV w (fun v => HO.ex fun u0 : Value => HO.pand (v = .tuple #[u0, .int .i64 r.2]) (HO.seps [slO (kInt .u8) 5 u0 r.1])) := by
 refine Trip.go 44 Tryz.func126 sV (aS h0 (All.cons (x := arrP k_arr245 0 tab0) h1 (All.nil _))) fun see => ?_
 obtain ⟨n0, hi⟩ := runF_iff.1 H
 obtain ⟨m0, o, hm0, ho, hr⟩ := iter_some hi
 clear hi
 refine go ?_
 refine CP.seq (go ?_)
 obtain ⟨t2, hc, ho⟩ := bind_some ho
 refine SP.callV see (caps := []) (.bool t2) fn185 rfl rfl rfl rfl (fun w2 hP hs sub ap => code_May.ok _ _ _ hc w2 hP sub (ap.get 0 rfl) (ap.get 1 rfl)) ?_
 clear hc
 refine go ?_
 refine CP.cb ho (fun ho => ?_) fun ho => ?_
 ·refine go ?_
  obtain rfl := fin ho hr
  exact QE.rt (fun _ h => St.selO [0] rfl rfl (St.addO (slO.nil (kInt .u8) 5) h))
 refine go ?_
 refine SP.val (Val.conv (by rw [Tryz.underlying3]; rfl) Tryz.underlying5 rfl) rfl rfl rfl ?_
 refine SP.lit (k := (kInt .u8)) (xs := [IntKind.u8.wrap (l_0.length : Int)]) (vs := [.int .u8 (IntKind.u8.wrap (l_0.length : Int))]) (cells := [.int .u8 (IntKind.u8.wrap (l_0.length : Int))]) Tryz.underlying31 inf5 rfl rfl rfl rfl rfl rfl rfl rfl (fun _ ap => ⟨[.int .u8 (IntKind.u8.wrap (l_0.length : Int))], _, rfl, rfl, rfl⟩) rfl rfl rfl (fun v4 => go ?_)
 refine CP.seq (go ?_)
 obtain rfl := Option.some.inj ho
 refine CP.loop (fun cl1 a w2 => ∃ l28 : List Int, ∃ x30 : Int, ∃ v29 : Value, cl1 ≤ m0 ∧ iter (code_Bytes.F l_0) cl1 (.l1 l28 x30) = some r ∧ Env ⟨44, []⟩ [(4, v29), (16, v_l_0), (17, .int .i64 (l_0.length : Int)), (18, .int .i64 x30)] a ∧ St w em hV [slP k_api_Instr v_l_0 l_0, arrP k_arr245 0 tab0] [slO (kInt .u8) 5 v29 l28] w2) m0 (fun a w2 ha hw => ⟨[IntKind.u8.wrap (l_0.length : Int)], 0, v4, Nat.le_refl _, hr, ha.sub sb, hw⟩) ?_
 clear hr
 rintro cl1 a w2 ⟨l28, x30, v29, hc_l1, hi, ha, hw⟩
 obtain ⟨m31, o, hm_m31, ho, hr⟩ := iter_some hi
 refine CP.app ha hw ?_
 clear ha hw a w2 hi
 refine go ?_
 refine CP.seq ?_
 refine CP.ci ho (fun ho => ?_) fun ho => ?_
 ·refine go ?_
  refine CP.join (fun a w2 => ∃ l49 : List Int, ∃ v50 : Value, ∃ (m51 : Nat) (o : (code_Bytes.S ⊕ ((List Int) × Int))), m51 ≤ m31 ∧ code_Bytes.j1 l_0 x30 l49 = some o ∧ next (code_Bytes.F l_0) m51 o = some r ∧ Env ⟨44, []⟩ [(4, v50), (16, v_l_0), (17, .int .i64 (l_0.length : Int)), (18, .int .i64 x30)] a ∧ St w em hV [slP k_api_Instr v_l_0 l_0, arrP k_arr245 0 tab0] [slO (kInt .u8) 5 v50 l49] w2) ?_ ?_
  ·rintro a w2 ⟨l49, v50, m51, o, hm_m51, ho, hr, ha, hw⟩
   refine CP.app ha hw ?_
   clear ha hw a w2
   refine go ?_
   obtain rfl := Option.some.inj ho
   exact QE.lower m51 (by omega) fun a w2 ha hw => ⟨l49, (IntKind.i64.wrap (x30 + 1)), v50, (by omega), hr, ha.sub sb, hw⟩
  refine go ?_
  obtain ⟨x34, hx, ho⟩ := elt_bind ho
  refine SP.indexP see 0 rfl Tryz.underlying32 sz43 hx.1 hx.2 rfl rfl rfl rfl (fun p32 => ?_)
  clear hx
  refine k_api_Instr.load see 0 rfl Tryz.underlying43 rfl sz43 rfl rfl rfl ?_
  refine SP.alloc (cs := [.int .u8 0, .int .i64 0, .int .i64 0]) inf43 rfl rfl (fun b35 => ?_)
  refine SP.store (v := .agg #[.int .u8 x34.Op, .int .i64 x34.A, .int .i64 x34.B]) (vs := [.int .u8 x34.Op, .int .i64 x34.A, .int .i64 x34.B]) 0 (by rfl) sz43 (by rfl) (by rfl) (by rfl) (by rfl) (by rfl) (by rfl) (go ?_)
  refine SP.lit (k := (kInt .u8)) (xs := [x34.Op]) (vs := [.int .u8 x34.Op]) (cells := [.int .u8 x34.Op]) Tryz.underlying31 inf5 rfl rfl rfl rfl rfl rfl rfl rfl (fun _ ap => ⟨[.int .u8 x34.Op], _, rfl, rfl, rfl⟩) rfl rfl rfl (fun v37 => ?_)
  refine SP.freezeS see 0 rfl ?_
  obtain ⟨hb, ho⟩ := must_some ho
  refine SP.append see 1 rfl 0 rfl Tryz.underlying31 inf5 rfl rfl hb rfl rfl rfl rfl rfl (fun v39 => ?_)
  clear hb
  refine go ?_
  refine CP.seq (go ?_)
  obtain ⟨t41, hc, ho⟩ := bind_some ho
  refine SP.callV see (caps := []) (.bool t41) fn186 rfl rfl rfl rfl (fun w2 hP hs sub ap => code_wide.ok _  _ hc w2 hP sub (ap.get 3 rfl)) ?_
  clear hc
  refine go ?_
  refine CP.cb ho (fun ho => ?_) fun ho => ?_
  ·refine go ?_
   exact QE.meet fun a w2 ha hw => ⟨(l28 ++ [x34.Op]), v39, m31, _, (by omega), ho, hr, ha.sub sb, (St.selP [2, 3] rfl (St.selO [1] rfl rfl hw))⟩
  refine go ?_
  obtain ⟨t42, hc, ho⟩ := bind_some ho
  refine SP.callK see (caps := []) _ fn184 rfl rfl rfl rfl (fun w2 hP hs sub ap => octet_Put.ok _ _  _ hc w2 hP sub ) (SP.k1 fun v43 => ?_)
  clear hc
  refine go ?_
  refine CP.seq (go ?_)
  refine CP.ci ho (fun ho => ?_) fun ho => ?_
  ·refine go ?_
   obtain rfl := fin ho hr
   exact QE.rt (fun _ h => St.selO [0] rfl rfl (St.addO (slO.nil (kInt .u8) 5) h))
  refine go ?_
  refine SP.freezeS see 0 rfl ?_
  obtain ⟨hb, ho⟩ := must_some ho
  refine SP.append see 1 rfl 0 rfl Tryz.underlying31 inf5 rfl rfl hb rfl rfl rfl rfl rfl (fun v46 => ?_)
  clear hb
  refine go ?_
  exact QE.meet fun a w2 ha hw => ⟨((l28 ++ [x34.Op]) ++ t42.1), v46, m31, _, (by omega), ho, hr, ha.sub sb, (St.selP [3, 4] rfl (St.selO [1] rfl rfl hw))⟩
 refine go ?_
 obtain rfl := fin ho hr
 exact QE.rt (fun _ h => St.selO [0] rfl rfl h)
inductive module_whole.S where
  | start
  | l1 (l2277 : List Int) (x2279 : Int)
def module_whole.j1 (m_0 : api_Module) (l2277 : List Int) (x2304 : Int) : Option (module_whole.S ⊕ ((List Int) × Int)) :=
  if (l2277.length + [x2304].length) * 1 ≤ 140737488355328 then (some (.inr (l2277 ++ [x2304], 0))) else none
def module_whole.F (m_0 : api_Module) : module_whole.S → Option (module_whole.S ⊕ ((List Int) × Int))
  | .start => if ((((decide ((m_0.Globals.length : Int) > 4)) || (decide ((m_0.Methods.length : Int) > 16))) || (decide (m_0.Migrate < (-1)))) || (decide (m_0.Migrate ≥ (m_0.Methods.length : Int)))) = true then (some (.inr ([], 80))) else ((pool_Bytes.f m_0.Globals).bind fun t13 => if t13.2 ≠ 0 then (some (.inr ([], t13.2))) else ((pool_Bytes.f m_0.Pool).bind fun t17 => if t17.2 ≠ 0 then (some (.inr ([], t17.2))) else (if (t13.1.length + t17.1.length) * 1 ≤ 140737488355328 then (if ((t13.1 ++ t17.1).length + [IntKind.u8.wrap (m_0.Methods.length : Int)].length) * 1 ≤ 140737488355328 then (some (.inl (.l1 ((t13.1 ++ t17.1) ++ [IntKind.u8.wrap (m_0.Methods.length : Int)]) 0))) else none) else none)))
  | .l1 l2277 x2279 => if x2279 < (m_0.Methods.length : Int) then ((elt m_0.Methods x2279).bind fun x2283 => (method_Bytes.f x2283).bind fun t2292 => if t2292.2 ≠ 0 then (some (.inr ([], t2292.2))) else ((code_Bytes.f x2283.Code).bind fun t2296 => if t2296.2 ≠ 0 then (some (.inr ([], t2296.2))) else (if (l2277.length + t2292.1.length) * 1 ≤ 140737488355328 then (if ((l2277 ++ t2292.1).length + t2296.1.length) * 1 ≤ 140737488355328 then (some (.inl (.l1 ((l2277 ++ t2292.1) ++ t2296.1) (IntKind.i64.wrap (x2279 + 1))))) else none) else none))) else (if m_0.Migrate ≥ 0 then (module_whole.j1 m_0 l2277 (IntKind.u8.wrap m_0.Migrate)) else (module_whole.j1 m_0 l2277 255))
def module_whole.f (m_0 : api_Module) : Option ((List Int) × Int) := runF (module_whole.F m_0) .start
theorem module_whole.ok (m_0 : api_Module) (v_m_0_Globals v_m_0_Pool v_m_0_Methods : Value)  (r : (List Int) × Int) (H : module_whole.f m_0 = some r) (w : World) (hV : Hp) (sV : Sub hV (hp w)) (h0 : slR k_api_Value hV v_m_0_Globals m_0.Globals) (h1 : slR k_api_Value hV v_m_0_Pool m_0.Pool) (h2 : slR k_api_Method hV v_m_0_Methods m_0.Methods) (h3 : (arrP k_arr245 0 tab0).p hV) :
    Trip Tryz.prog 61 [.agg #[v_m_0_Globals, v_m_0_Pool, v_m_0_Methods, .int .i64 m_0.Migrate]].toArray em hV w (fun v => HO.ex fun u0 : Value => HO.pand (v = .tuple #[u0, .int .i64 r.2]) (HO.seps [slO (kInt .u8) 5 u0 r.1])) := by
 refine Trip.go 103 Tryz.func61 sV (aS h0 (aS h1 (aS h2 (All.cons (x := arrP k_arr245 0 tab0) h3 (All.nil _))))) fun see => ?_
 obtain ⟨n0, hi⟩ := runF_iff.1 H
 obtain ⟨m0, o, hm0, ho, hr⟩ := iter_some hi
 clear hi
 refine go ?_
 refine SP.box rfl rfl rfl rfl fun b4 => go ?_
 refine CP.seq (go ?_)
 refine SP.jn 5 [1] 22 (.bool ((decide ((m_0.Globals.length : Int) > 4)) || (decide ((m_0.Methods.length : Int) > 16)))) ?_ ?_
 ·refine go ?_
  refine SP.jn 4 [1] 27 (.bool (((decide ((m_0.Globals.length : Int) > 4)) || (decide ((m_0.Methods.length : Int) > 16))) || (decide (m_0.Migrate < (-1))))) ?_ ?_
  ·refine go ?_
   refine SP.jn 7 [1] 35 (.bool ((((decide ((m_0.Globals.length : Int) > 4)) || (decide ((m_0.Methods.length : Int) > 16))) || (decide (m_0.Migrate < (-1)))) || (decide (m_0.Migrate ≥ (m_0.Methods.length : Int))))) ?_ ?_
   ·refine go ?_
    refine CP.cb ho (fun ho => ?_) fun ho => ?_
    ·refine go ?_
     obtain rfl := fin ho hr
     exact QE.rt (fun _ h => St.selO [0] rfl rfl (St.addO (slO.nil (kInt .u8) 5) h))
    refine go ?_
    obtain ⟨t13, hc, ho⟩ := bind_some ho
    refine SP.callK see (caps := []) _ fn124 rfl rfl rfl rfl (fun w2 hP hs sub ap => pool_Bytes.ok _ _ _ hc w2 hP sub (ap.get 0 rfl)) (SP.k1 fun v14 => ?_)
    clear hc
    refine go ?_
    refine CP.seq (go ?_)
    refine CP.ci ho (fun ho => ?_) fun ho => ?_
    ·refine go ?_
     obtain rfl := fin ho hr
     exact QE.rt (fun _ h => St.selO [0] rfl rfl (St.addO (slO.nil (kInt .u8) 5) h))
    refine go ?_
    obtain ⟨t17, hc, ho⟩ := bind_some ho
    refine SP.callK see (caps := []) _ fn124 rfl rfl rfl rfl (fun w2 hP hs sub ap => pool_Bytes.ok _ _ _ hc w2 hP sub (ap.get 1 rfl)) (SP.k1 fun v18 => ?_)
    clear hc
    refine go ?_
    refine CP.seq (go ?_)
    refine CP.ci ho (fun ho => ?_) fun ho => ?_
    ·refine go ?_
     obtain rfl := fin ho hr
     exact QE.rt (fun _ h => St.selO [0] rfl rfl (St.addO (slO.nil (kInt .u8) 5) h))
    refine go ?_
    refine CP.seq ?_
    refine CP.drawA (by kernel_rfl) (fun w2 k h => h.drawn k) ?_
    refine (DA.phase (fun i => Nat.ble 0 i && Nat.blt i 8) (fun w2 => St w em hV [slP k_api_Value v_m_0_Globals m_0.Globals, slP k_api_Value v_m_0_Pool m_0.Pool, slP k_api_Method v_m_0_Methods m_0.Methods, arrP k_arr245 0 tab0] [boxO b4 [v_m_0_Globals, v_m_0_Pool, v_m_0_Methods, .int .i64 m_0.Migrate] 25] w2) ?_)
    refine DT.ts 0 rfl (Val.move rfl) (fun w2 hw => (St.selO [2] rfl rfl hw)) ?_
    refine DT.ts 1 rfl (Val.move rfl) (fun w2 hw => (St.selO [2] rfl rfl hw)) ?_
    refine DT.ts 3 rfl (Val.fieldAddr Tryz.underlying25 rfl sz23 rfl) (fun w2 hw => (St.selO [2] rfl rfl hw)) ?_
    refine DT.ts 4 rfl (Val.load1 0 rfl Tryz.underlying23 rfl rfl rfl) (fun w2 hw => (St.selO [2] rfl rfl hw)) ?_
    refine DT.ts 5 rfl (Val.lenP see 2 rfl Tryz.underlying23 rfl) (fun w2 hw => (St.selO [2] rfl rfl hw)) ?_
    refine DT.ts 6 rfl (Val.conv (by rw [Tryz.underlying3]; rfl) Tryz.underlying5 rfl) (fun w2 hw => (St.selO [2] rfl rfl hw)) ?_
    obtain ⟨hb_626, ho⟩ := must_some ho
    refine DT.list (l2 := #[true, true, false, true, true, true, true, false, false, false]) (by kernel_rfl) ?_
    refine DT.cut (ι := Value × Value) (fun z => [(1, .pointer (some ⟨b4, 0, none⟩)), (4, v14), (56, z.1), (61, z.2)]) (fun z w2 => St w em hV [slP (kInt .u8) v18 t17.1, slP k_api_Value v_m_0_Globals m_0.Globals, slP k_api_Value v_m_0_Pool m_0.Pool, slP k_api_Method v_m_0_Methods m_0.Methods, arrP k_arr245 0 tab0] [slO (kInt .u8) 5 z.2 [IntKind.u8.wrap (m_0.Methods.length : Int)], slO (kInt .u8) 5 z.1 (t13.1 ++ t17.1), boxO b4 [v_m_0_Globals, v_m_0_Pool, v_m_0_Methods, .int .i64 m_0.Migrate] 25] w2) 2 #[true, true, true, true, true, true, true, true, false, false] (fun z => ?_) (fun J2243 => ?_)
    ·obtain ⟨v627, v1627⟩ := z
     refine DT.next (by kernel_rfl) ?_
     refine DA.one 8 rfl (by kernel_rfl) ?_
     refine SP.freezeS see 0 rfl ?_
     obtain ⟨hb, ho⟩ := must_some ho
     refine SP.append see 0 rfl 0 rfl Tryz.underlying31 inf5 rfl rfl hb rfl rfl rfl rfl rfl (fun v2244 => ?_)
     clear hb
     refine go ?_
     refine QE.atA ?_
     refine DA.one 9 rfl (by kernel_rfl) (go ?_)
     refine QE.atA ?_
     refine DA.done (by kernel_rfl) (go ?_)
     refine CP.seq (go ?_)
     obtain rfl := Option.some.inj ho
     refine CP.loop (fun cl1 a w2 => ∃ l2277 : List Int, ∃ x2279 : Int, ∃ v2278 : Value, cl1 ≤ m0 ∧ iter (module_whole.F m_0) cl1 (.l1 l2277 x2279) = some r ∧ Env ⟨103, []⟩ [(1, .pointer (some ⟨b4, 0, none⟩)), (4, v2278), (64, v_m_0_Methods), (65, .int .i64 (m_0.Methods.length : Int)), (66, .int .i64 x2279)] a ∧ St w em hV [slP k_api_Value v_m_0_Globals m_0.Globals, slP k_api_Value v_m_0_Pool m_0.Pool, slP k_api_Method v_m_0_Methods m_0.Methods, arrP k_arr245 0 tab0] [slO (kInt .u8) 5 v2278 l2277, boxO b4 [v_m_0_Globals, v_m_0_Pool, v_m_0_Methods, .int .i64 m_0.Migrate] 25] w2) m0 (fun a w2 ha hw => ⟨((t13.1 ++ t17.1) ++ [IntKind.u8.wrap (m_0.Methods.length : Int)]), 0, v2244, Nat.le_refl _, hr, ha.sub sb, (St.selP [2, 3, 4, 5] rfl hw)⟩) ?_
     clear hr
     rintro cl1 a w2 ⟨l2277, x2279, v2278, hc_l1, hi, ha, hw⟩
     obtain ⟨m2280, o, hm_m2280, ho, hr⟩ := iter_some hi
     refine CP.app ha hw ?_
     clear ha hw a w2 hi
     refine go ?_
     refine CP.seq ?_
     refine CP.ci ho (fun ho => ?_) fun ho => ?_
     ·refine go ?_
      refine CP.seq (go ?_)
      obtain ⟨x2283, hx, ho⟩ := elt_bind ho
      refine SP.indexP see 2 rfl Tryz.underlying23 sz34 hx.1 hx.2 rfl rfl rfl rfl (fun p2281 => ?_)
      clear hx
      refine k_api_Method.load see 0 rfl Tryz.underlying34 rfl sz34 rfl rfl rfl (fun v2284 v2286 v2288 => ?_)
      refine SP.alloc (cs := [(.slice none 0 0), (.slice none 0 0), .int .u8 0, .bool false, .int .i64 0, .int .i64 0, .int .i64 0, (.slice none 0 0)]) inf34 rfl rfl (fun b2290 => ?_)
      refine SP.have (fun w2 hw => slR.shape (St.pers 0 rfl see.sub see.dj hw)) (fun hs_v2284 => ?_)
      refine SP.have (fun w2 hw => slR.shape (St.pers 1 rfl see.sub see.dj hw)) (fun hs_v2286 => ?_)
      refine SP.have (fun w2 hw => slR.shape (St.pers 2 rfl see.sub see.dj hw)) (fun hs_v2288 => ?_)
      refine SP.store (v := .agg #[v2284, v2286, .int .u8 x2283.Result, .bool x2283.Reads, .int .i64 x2283.Fuel, .int .i64 x2283.Stack, .int .i64 x2283.Heap, v2288]) (vs := [v2284, v2286, .int .u8 x2283.Result, .bool x2283.Reads, .int .i64 x2283.Fuel, .int .i64 x2283.Stack, .int .i64 x2283.Heap, v2288]) 0 (by rfl) sz34 (by rfl) (by rfl) (by rfl) (by rfl) (one_cons hs_v2284 (one_cons hs_v2286 (one_cons rfl (one_cons rfl (one_cons rfl (one_cons rfl (one_cons rfl (one_cons hs_v2288 (rfl))))))))) (by rfl) (go ?_)
      refine SP.val (Val.loadA 0 rfl Tryz.underlying34 rfl sz34 rfl rfl rfl) rfl rfl rfl ?_
      obtain ⟨t2292, hc, ho⟩ := bind_some ho
      refine SP.callK see (caps := []) _ fn125 rfl rfl rfl rfl (fun w2 hP hs sub ap => method_Bytes.ok _ _ _ _ _ hc w2 hP sub (ap.get 0 rfl) (ap.get 1 rfl) (ap.get 2 rfl)) (SP.k1 fun v2293 => ?_)
      clear hc
      refine go ?_
      refine CP.seq (go ?_)
      refine CP.ci ho (fun ho => ?_) fun ho => ?_
      ·refine go ?_
       obtain rfl := fin ho hr
       exact QE.rt (fun _ h => St.selO [0] rfl rfl (St.addO (slO.nil (kInt .u8) 5) h))
      refine go ?_
      obtain ⟨t2296, hc, ho⟩ := bind_some ho
      refine SP.callK see (caps := []) _ fn126 rfl rfl rfl rfl (fun w2 hP hs sub ap => code_Bytes.ok _ _ _ hc w2 hP sub (ap.get 2 rfl) (ap.get 7 rfl)) (SP.k1 fun v2297 => ?_)
      clear hc
      refine go ?_
      refine CP.seq (go ?_)
      refine CP.ci ho (fun ho => ?_) fun ho => ?_
      ·refine go ?_
       obtain rfl := fin ho hr
       exact QE.rt (fun _ h => St.selO [0] rfl rfl (St.addO (slO.nil (kInt .u8) 5) h))
      refine go ?_
      refine SP.freezeS see 1 rfl ?_
      obtain ⟨hb, ho⟩ := must_some ho
      refine SP.append see 2 rfl 0 rfl Tryz.underlying31 inf5 rfl rfl hb rfl rfl rfl rfl rfl (fun v2300 => ?_)
      clear hb
      refine go ?_
      refine SP.freezeS see 0 rfl ?_
      obtain ⟨hb, ho⟩ := must_some ho
      refine SP.append see 1 rfl 0 rfl Tryz.underlying31 inf5 rfl rfl hb rfl rfl rfl rfl rfl (fun v2302 => ?_)
      clear hb
      refine go ?_
      obtain rfl := Option.some.inj ho
      exact QE.lower m2280 (by omega) fun a w2 ha hw => ⟨((l2277 ++ t2292.1) ++ t2296.1), (IntKind.i64.wrap (x2279 + 1)), v2302, (by omega), hr, ha.sub sb, (St.selP [6, 7, 8, 9] rfl (St.selO [1, 2] rfl rfl hw))⟩
     refine go ?_
     refine CP.join (fun a w2 => ∃ x2304 : Int, ∃ (m2305 : Nat) (o : (module_whole.S ⊕ ((List Int) × Int))), m2305 ≤ m2280 ∧ module_whole.j1 m_0 l2277 x2304 = some o ∧ next (module_whole.F m_0) m2305 o = some r ∧ Env ⟨103, []⟩ [(4, v2278), (12, .int .u8 x2304)] a ∧ St w em hV [arrP k_arr245 0 tab0] [slO (kInt .u8) 5 v2278 l2277] w2) ?_ ?_
     ·rintro a w2 ⟨x2304, m2305, o, hm_m2305, ho, hr, ha, hw⟩
      refine CP.app ha hw ?_
      clear ha hw a w2
      refine go ?_
      refine SP.lit (k := (kInt .u8)) (xs := [x2304]) (vs := [.int .u8 x2304]) (cells := [.int .u8 x2304]) Tryz.underlying31 inf5 rfl rfl rfl rfl rfl rfl rfl rfl (fun _ ap => ⟨[.int .u8 x2304], _, rfl, rfl, rfl⟩) rfl rfl rfl (fun v2306 => ?_)
      refine SP.freezeS see 0 rfl ?_
      obtain ⟨hb, ho⟩ := must_some ho
      refine SP.append see 0 rfl 0 rfl Tryz.underlying31 inf5 rfl rfl hb rfl rfl rfl rfl rfl (fun v2308 => ?_)
      clear hb
      refine go ?_
      obtain rfl := fin ho hr
      exact QE.rt (fun _ h => St.selO [0] rfl rfl h)
     refine go ?_
     refine CP.ci ho (fun ho => ?_) fun ho => ?_
     ·refine go ?_
      refine SP.val (Val.conv (by rw [Tryz.underlying3]; rfl) Tryz.underlying5 rfl) rfl rfl rfl (go ?_)
      exact QE.meet fun a w2 ha hw => ⟨(IntKind.u8.wrap m_0.Migrate), m2280, _, (by omega), ho, hr, ha.sub sb, (St.selP [3] rfl (St.selO [0] rfl rfl hw))⟩
     refine go ?_
     exact QE.meet fun a w2 ha hw => ⟨255, m2280, _, (by omega), ho, hr, ha.sub sb, (St.selP [3] rfl (St.selO [0] rfl rfl hw))⟩
    refine DT.cut (ι := Value) (fun z => [(1, .pointer (some ⟨b4, 0, none⟩)), (4, v14), (56, z), (60, .int .u8 (IntKind.u8.wrap (m_0.Methods.length : Int)))]) (fun z w2 => St w em hV [slP (kInt .u8) v18 t17.1, slP k_api_Value v_m_0_Globals m_0.Globals, slP k_api_Value v_m_0_Pool m_0.Pool, slP k_api_Method v_m_0_Methods m_0.Methods, arrP k_arr245 0 tab0] [slO (kInt .u8) 5 z (t13.1 ++ t17.1), boxO b4 [v_m_0_Globals, v_m_0_Pool, v_m_0_Methods, .int .i64 m_0.Migrate] 25] w2) 3 #[true, true, true, true, true, true, true, false, false, false] (fun z => ?_) (fun J2314 => ?_)
    ·rename Value => v627
     refine DT.one 7 rfl (by kernel_rfl) rfl ?_
     refine SP.lit (k := (kInt .u8)) (xs := [IntKind.u8.wrap (m_0.Methods.length : Int)]) (vs := [.int .u8 (IntKind.u8.wrap (m_0.Methods.length : Int))]) (cells := [.int .u8 (IntKind.u8.wrap (m_0.Methods.length : Int))]) Tryz.underlying31 inf5 rfl rfl rfl rfl rfl rfl rfl rfl (fun _ ap => ⟨[.int .u8 (IntKind.u8.wrap (m_0.Methods.length : Int))], _, rfl, rfl, rfl⟩) rfl rfl rfl (fun v1627 => go ?_)
     refine QE.atT (fun w2 hw => (St.selP [1, 2, 3, 4] rfl (St.selO [2] rfl rfl hw))) ?_
     refine DT.list (l2 := #[true, true, true, true, true, true, true, true, false, false]) (by kernel_rfl) ?_
     exact DT.weak (by exact ⟨rfl, rfl, rfl, rfl, trivial⟩) (by exact fun w2 hw => hw) (J2243 (v627, v1627))
    refine DT.cut (ι := Value) (fun z => [(1, .pointer (some ⟨b4, 0, none⟩)), (4, v14), (54, v14), (55, v18), (61, z)]) (fun z w2 => St w em hV [slP k_api_Value v_m_0_Globals m_0.Globals, slP k_api_Value v_m_0_Pool m_0.Pool, slP k_api_Method v_m_0_Methods m_0.Methods, arrP k_arr245 0 tab0] [slO (kInt .u8) 5 z [IntKind.u8.wrap (m_0.Methods.length : Int)], slO (kInt .u8) 5 v18 t17.1, slO (kInt .u8) 5 v14 t13.1, boxO b4 [v_m_0_Globals, v_m_0_Pool, v_m_0_Methods, .int .i64 m_0.Migrate] 25] w2) 3 #[true, true, false, true, true, true, true, true, false, false] (fun z => ?_) (fun J2315 => ?_)
    ·rename Value => v1627
     refine DT.one 2 rfl (by kernel_rfl) rfl ?_
     refine SP.freezeS see 1 rfl ?_
     refine SP.append see 1 rfl 0 rfl Tryz.underlying31 inf5 rfl rfl hb_626 rfl rfl rfl rfl rfl (fun v627 => go ?_)
     refine QE.atT (fun w2 hw => (St.selP [1, 2, 3, 4] rfl (St.selO [2] rfl rfl hw))) ?_
     refine DT.list (l2 := #[true, true, true, true, true, true, true, true, false, false]) (by kernel_rfl) ?_
     exact DT.weak (by exact ⟨rfl, rfl, rfl, rfl, trivial⟩) (by exact fun w2 hw => hw) (J2243 (v627, v1627))
    refine DT.any 2 [7] (by kernel_rfl) ⟨⟨_, rfl, rfl, ?_⟩, ⟨_, rfl, rfl, ?_⟩, trivial⟩
    ·refine SP.freezeS see 0 rfl ?_
     refine SP.append see 0 rfl 0 rfl Tryz.underlying31 inf5 rfl rfl hb_626 rfl rfl rfl rfl rfl (fun v627 => go ?_)
     refine QE.atT (fun w2 hw => (St.selP [1, 2, 3, 4] rfl (St.selO [1] rfl rfl hw))) ?_
     refine DT.list (l2 := #[true, true, true, true, true, true, true, false, false, false]) (by kernel_rfl) ?_
     exact DT.weak (by exact ⟨rfl, rfl, rfl, rfl, trivial⟩) (by exact fun w2 hw => hw) (J2314 v627)
    refine SP.lit (k := (kInt .u8)) (xs := [IntKind.u8.wrap (m_0.Methods.length : Int)]) (vs := [.int .u8 (IntKind.u8.wrap (m_0.Methods.length : Int))]) (cells := [.int .u8 (IntKind.u8.wrap (m_0.Methods.length : Int))]) Tryz.underlying31 inf5 rfl rfl rfl rfl rfl rfl rfl rfl (fun _ ap => ⟨[.int .u8 (IntKind.u8.wrap (m_0.Methods.length : Int))], _, rfl, rfl, rfl⟩) rfl rfl rfl (fun v1627 => go ?_)
    refine QE.atT (fun w2 hw => (St.selO [3] rfl rfl hw)) ?_
    refine DT.list (l2 := #[true, true, false, true, true, true, true, true, false, false]) (by kernel_rfl) ?_
    exact DT.weak (by exact ⟨rfl, rfl, rfl, rfl, rfl, trivial⟩) (by exact fun w2 hw => hw) (J2315 v1627)
   refine SP.bb 28 (fun hq11 => ?_) fun hq11 => ?_
   ·refine go ?_
    exact QE.jb (or_t hq11) fun w2 hw => hw
   refine go ?_
   exact QE.jb (or_f hq11 rfl) fun w2 hw => hw
  refine SP.bb 23 (fun hq9 => ?_) fun hq9 => ?_
  ·refine go ?_
   exact QE.jb (or_t hq9) fun w2 hw => hw
  refine go ?_
  exact QE.jb (or_f hq9 rfl) fun w2 hw => hw
 refine SP.bb 17 (fun hq7 => ?_) fun hq7 => ?_
 ·refine go ?_
  exact QE.jb (or_t hq7) fun w2 hw => hw
 refine go ?_
 exact QE.jb (or_f hq7 rfl) fun w2 hw => hw
def module_Bytes.f (m_0 : api_Module) : Option ((List Int) × Int) :=
  (module_whole.f m_0).bind fun t6 => if t6.2 ≠ 0 then (some ([], t6.2)) else (if (t6.1.length : Int) > 2000 then (some ([], 3)) else (some (t6.1, 0)))
theorem module_Bytes.ok (m_0 : api_Module) (v_m_0_Globals v_m_0_Pool v_m_0_Methods : Value)  (r : (List Int) × Int) (H : module_Bytes.f m_0 = some r) (w : World) (hV : Hp) (sV : Sub hV (hp w)) (h0 : slR k_api_Value hV v_m_0_Globals m_0.Globals) (h1 : slR k_api_Value hV v_m_0_Pool m_0.Pool) (h2 : slR k_api_Method hV v_m_0_Methods m_0.Methods) (h3 : (arrP k_arr245 0 tab0).p hV) :
    Trip Tryz.prog 31 [.agg #[v_m_0_Globals, v_m_0_Pool, v_m_0_Methods, .int .i64 m_0.Migrate]].toArray em hV w (fun v => HO.ex fun u0 : Value => HO.pand (v = .tuple #[u0, .int .i64 r.2]) (HO.seps [slO (kInt .u8) 5 u0 r.1])) := by
 refine Trip.go 20 Tryz.func31 sV (aS h0 (aS h1 (aS h2 (All.cons (x := arrP k_arr245 0 tab0) h3 (All.nil _))))) fun see => ?_
 have ho := H
 refine go ?_
 refine SP.box rfl rfl rfl rfl fun b4 => go ?_
 refine SP.val (Val.loadA 0 rfl Tryz.underlying25 rfl sz25 rfl rfl rfl) rfl rfl rfl ?_
 obtain ⟨t6, hc, ho⟩ := bind_some ho
 refine SP.callK see (caps := []) _ fn61 rfl rfl rfl rfl (fun w2 hP hs sub ap => module_whole.ok _ _ _ _ _ hc w2 hP sub (ap.get 0 rfl) (ap.get 1 rfl) (ap.get 2 rfl) (ap.get 3 rfl)) (SP.k1 fun v7 => ?_)
 clear hc
 refine go ?_
 refine CP.seq (go ?_)
 refine CP.ci ho (fun ho => ?_) fun ho => ?_
 ·refine go ?_
  obtain rfl := Option.some.inj ho
  exact QE.rt (fun _ h => St.selO [0] rfl rfl (St.addO (slO.nil (kInt .u8) 5) h))
 refine go ?_
 refine SP.val (Val.lenW (fun w2 hw => slO.whole (St.own 0 rfl see.sub see.dj hw)) Tryz.underlying31 rfl) rfl rfl rfl (go ?_)
 refine CP.ci ho (fun ho => ?_) fun ho => ?_
 ·refine go ?_
  obtain rfl := Option.some.inj ho
  exact QE.rt (fun _ h => St.selO [0] rfl rfl (St.addO (slO.nil (kInt .u8) 5) h))
 refine go ?_
 obtain rfl := Option.some.inj ho
 exact QE.rt (fun _ h => St.selO [0] rfl rfl h)
def module_May.f (m_0 : api_Module) : Option Int :=
  (module_Bytes.f m_0).bind fun t6 => some t6.2
theorem module_May.ok (m_0 : api_Module) (v_m_0_Globals v_m_0_Pool v_m_0_Methods : Value)  (r : Int) (H : module_May.f m_0 = some r) (w : World) (hV : Hp) (sV : Sub hV (hp w)) (h0 : slR k_api_Value hV v_m_0_Globals m_0.Globals) (h1 : slR k_api_Value hV v_m_0_Pool m_0.Pool) (h2 : slR k_api_Method hV v_m_0_Methods m_0.Methods) (h3 : (arrP k_arr245 0 tab0).p hV) :
    Trip Tryz.prog 10 [.agg #[v_m_0_Globals, v_m_0_Pool, v_m_0_Methods, .int .i64 m_0.Migrate]].toArray em hV w (fun v => HO.pure (v = .int .i64 r)) := by
 refine Trip.go 11 Tryz.func10 sV (aS h0 (aS h1 (aS h2 (All.cons (x := arrP k_arr245 0 tab0) h3 (All.nil _))))) fun see => ?_
 have ho := H
 refine go ?_
 refine SP.box rfl rfl rfl rfl fun b4 => go ?_
 refine SP.val (Val.loadA 0 rfl Tryz.underlying25 rfl sz25 rfl rfl rfl) rfl rfl rfl ?_
 obtain ⟨t6, hc, ho⟩ := bind_some ho
 refine SP.callK see (caps := []) _ fn31 rfl rfl rfl rfl (fun w2 hP hs sub ap => module_Bytes.ok _ _ _ _ _ hc w2 hP sub (ap.get 0 rfl) (ap.get 1 rfl) (ap.get 2 rfl) (ap.get 3 rfl)) (SP.k1 fun v7 => ?_)
 clear hc
 refine go ?_
 obtain rfl := Option.some.inj ho
 exact QE.rt (fun _ h => h)
inductive slices_Index_uint8_uint8.S where
  | start
  | l1 (x6 : Int)
def slices_Index_uint8_uint8.F (s_0 : (List Int)) (v_1 : Int) : slices_Index_uint8_uint8.S → Option (slices_Index_uint8_uint8.S ⊕ Int)
  | .start => some (.inl (.l1 0))
  | .l1 x6 => if x6 < (s_0.length : Int) then ((elt s_0 x6).bind fun x10 => if v_1 = x10 then (some (.inr x6)) else (some (.inl (.l1 (IntKind.i64.wrap (x6 + 1)))))) else (some (.inr (-1)))
def slices_Index_uint8_uint8.f (s_0 : (List Int)) (v_1 : Int) : Option Int := runF (slices_Index_uint8_uint8.F s_0 v_1) .start
theorem slices_Index_uint8_uint8.ok (s_0 : (List Int)) (v_1 : Int) (v_s_0 : Value) (r : Int) (H : slices_Index_uint8_uint8.f s_0 v_1 = some r) (w : World) (hV : Hp) (sV : Sub hV (hp w)) (h0 : slR (kInt .u8) hV v_s_0 s_0) :
    Trip Tryz.prog 65 [v_s_0, .int .u8 v_1].toArray em hV w (fun v => HO.pure (v = .int .i64 r)) := by
 refine Trip.go 19 Tryz.func65 sV (aS h0 (All.nil _)) fun see => ?_
 obtain ⟨n0, hi⟩ := runF_iff.1 H
 obtain ⟨m0, o, hm0, ho, hr⟩ := iter_some hi
 clear hi
 refine go ?_
 refine CP.seq (go ?_)
 obtain rfl := Option.some.inj ho
 refine CP.loop (fun cl1 a w2 => ∃ x6 : Int, cl1 ≤ m0 ∧ iter (slices_Index_uint8_uint8.F s_0 v_1) cl1 (.l1 x6) = some r ∧ Env ⟨19, []⟩ [(0, v_s_0), (1, .int .u8 v_1), (7, .int .i64 (s_0.length : Int)), (8, .int .i64 x6)] a ∧ St w em hV [slP (kInt .u8) v_s_0 s_0] [] w2) m0 (fun a w2 ha hw => ⟨0, Nat.le_refl _, hr, ha.sub sb, hw⟩) ?_
 clear hr
 rintro cl1 a w2 ⟨x6, hc_l1, hi, ha, hw⟩
 obtain ⟨m7, o, hm_m7, ho, hr⟩ := iter_some hi
 refine CP.app ha hw ?_
 clear ha hw a w2 hi
 refine go ?_
 refine CP.seq ?_
 refine CP.ci ho (fun ho => ?_) fun ho => ?_
 ·refine go ?_
  refine CP.seq (go ?_)
  obtain ⟨x10, hx, ho⟩ := elt_bind ho
  refine SP.indexP see 0 rfl Tryz.underlying31 sz5 hx.1 hx.2 rfl rfl rfl rfl (fun p8 => ?_)
  clear hx
  refine SP.val (Val.loadP1 see 0 rfl (fun _ _ e => e) Tryz.underlying5 rfl rfl) rfl rfl rfl (go ?_)
  refine CP.ci ho (fun ho => ?_) fun ho => ?_
  ·refine go ?_
   obtain rfl := fin ho hr
   exact QE.rt (fun _ h => h)
  refine go ?_
  obtain rfl := Option.some.inj ho
  exact QE.lower m7 (by omega) fun a w2 ha hw => ⟨(IntKind.i64.wrap (x6 + 1)), (by omega), hr, ha.sub sb, (St.selP [1] rfl hw)⟩
 refine go ?_
 obtain rfl := fin ho hr
 exact QE.rt (fun _ h => h)
def slices_Contains_uint8_uint8.f (s_0 : (List Int)) (v_1 : Int) : Option Bool :=
  (slices_Index_uint8_uint8.f s_0 v_1).bind fun t2 => some (decide (t2 ≥ 0))
theorem slices_Contains_uint8_uint8.ok (s_0 : (List Int)) (v_1 : Int) (v_s_0 : Value) (r : Bool) (H : slices_Contains_uint8_uint8.f s_0 v_1 = some r) (w : World) (hV : Hp) (sV : Sub hV (hp w)) (h0 : slR (kInt .u8) hV v_s_0 s_0) :
    Trip Tryz.prog 33 [v_s_0, .int .u8 v_1].toArray em hV w (fun v => HO.pure (v = .bool r)) := by
 refine Trip.go 9 Tryz.func33 sV (aS h0 (All.nil _)) fun see => ?_
 have ho := H
 refine go ?_
 obtain ⟨t2, hc, ho⟩ := bind_some ho
 refine SP.callV see (caps := []) (.int .i64 t2) fn65 rfl rfl rfl rfl (fun w2 hP hs sub ap => slices_Index_uint8_uint8.ok _ _ _ _ hc w2 hP sub (ap.get 0 rfl)) ?_
 clear hc
 refine go ?_
 obtain rfl := Option.some.inj ho
 exact QE.rt (fun _ h => h)
def method_Migrates.f (m_0 : api_Method) : Option Bool :=
  (method_May.f m_0).bind fun t6 => (if t6 = true then ((slices_Contains_uint8_uint8.f m_0.Args 3).bind fun t9 => some (!t9)) else (some false)).bind fun t10 => some t10
theorem method_Migrates.ok (m_0 : api_Method) (v_m_0_Args v_m_0_Locals v_m_0_Code : Value) (r : Bool) (H : method_Migrates.f m_0 = some r) (w : World) (hV : Hp) (sV : Sub hV (hp w)) (h0 : slR (kInt .u8) hV v_m_0_Args m_0.Args) (h1 : slR (kInt .u8) hV v_m_0_Locals m_0.Locals) (h2 : slR k_api_Instr hV v_m_0_Code m_0.Code) :
    Trip Tryz.prog 11 [.agg #[v_m_0_Args, v_m_0_Locals, .int .u8 m_0.Result, .bool m_0.Reads, .int .i64 m_0.Fuel, .int .i64 m_0.Stack, .int .i64 m_0.Heap, v_m_0_Code]].toArray em hV w (fun v => HO.pure (v = .bool r)) := by
 refine Trip.go 11 Tryz.func11 sV (aS h0 (aS h1 (aS h2 (All.nil _)))) fun see => ?_
 have ho := H
 refine go ?_
 refine SP.box rfl rfl rfl rfl fun b4 => go ?_
 refine SP.val (Val.loadA 0 rfl Tryz.underlying34 rfl sz34 rfl rfl rfl) rfl rfl rfl ?_
 obtain ⟨t6, hc, ho⟩ := bind_some ho
 refine SP.callV see (caps := []) (.bool t6) fn32 rfl rfl rfl rfl (fun w2 hP hs sub ap => method_May.ok _ _ _ _ _ hc w2 hP sub (ap.get 0 rfl) (ap.get 1 rfl) (ap.get 2 rfl)) ?_
 clear hc
 refine go ?_
 obtain ⟨t10, hg_t10, ho⟩ := bind_some ho
 refine SP.jn 5 [] 10 (.bool t10) ?_ ?_
 ·clear hg_t10
  refine go ?_
  obtain rfl := Option.some.inj ho
  exact QE.rt (fun _ h => h)
 refine SP.cb 5 hg_t10 (fun hq8 ho => ?_) fun hq8 ho => ?_
 ·refine go ?_
  obtain ⟨t9, hc, ho⟩ := bind_some ho
  refine SP.callV see (caps := []) (.bool t9) fn33 rfl rfl rfl rfl (fun w2 hP hs sub ap => slices_Contains_uint8_uint8.ok _ _ _ _ hc w2 hP sub (ap.get 0 rfl)) ?_
  clear hc
  refine go ?_
  obtain rfl := Option.some.inj ho
  exact QE.jn fun w2 hw => hw
 refine go ?_
 obtain rfl := Option.some.inj ho
 exact QE.jn fun w2 hw => hw
def verify_moves.f (m_0 : api_Module) : Option Int :=
  (if m_0.Migrate ≥ 0 then ((elt m_0.Methods m_0.Migrate).bind fun x10 => (method_Migrates.f x10).bind fun t17 => some (!t17)) else (some false)).bind fun t18 => if t18 = true then (some 70) else (some 0)
theorem verify_moves.ok (m_0 : api_Module) (v_m_0_Globals v_m_0_Pool v_m_0_Methods : Value) (r : Int) (H : verify_moves.f m_0 = some r) (w : World) (hV : Hp) (sV : Sub hV (hp w)) (h0 : slR k_api_Value hV v_m_0_Globals m_0.Globals) (h1 : slR k_api_Value hV v_m_0_Pool m_0.Pool) (h2 : slR k_api_Method hV v_m_0_Methods m_0.Methods) :
    Trip Tryz.prog 142 [.agg #[v_m_0_Globals, v_m_0_Pool, v_m_0_Methods, .int .i64 m_0.Migrate]].toArray em hV w (fun v => HO.pure (v = .int .i64 r)) := by
 refine Trip.go 16 Tryz.func142 sV (aS h0 (aS h1 (aS h2 (All.nil _)))) fun see => ?_
 have ho := H
 refine go ?_
 refine SP.box rfl rfl rfl rfl fun b4 => go ?_
 refine CP.seq (go ?_)
 obtain ⟨t18, hg_t18, ho⟩ := bind_some ho
 refine SP.jn 9 [] 15 (.bool t18) ?_ ?_
 ·clear hg_t18
  refine go ?_
  refine CP.cb ho (fun ho => ?_) fun ho => ?_
  ·refine go ?_
   obtain rfl := Option.some.inj ho
   exact QE.rt (fun _ h => h)
  refine go ?_
  obtain rfl := Option.some.inj ho
  exact QE.rt (fun _ h => h)
 refine SP.ci 6 hg_t18 (fun hq7 ho => ?_) fun hq7 ho => ?_
 ·refine go ?_
  obtain ⟨x10, hx, ho⟩ := elt_bind ho
  refine SP.indexP see 2 rfl Tryz.underlying23 sz34 hx.1 hx.2 rfl rfl rfl rfl (fun p8 => ?_)
  clear hx
  refine k_api_Method.load see 0 rfl Tryz.underlying34 rfl sz34 rfl rfl rfl (fun v11 v13 v15 => ?_)
  obtain ⟨t17, hc, ho⟩ := bind_some ho
  refine SP.callV see (caps := []) (.bool t17) fn11 rfl rfl rfl rfl (fun w2 hP hs sub ap => method_Migrates.ok _ _ _ _ _ hc w2 hP sub (ap.get 0 rfl) (ap.get 1 rfl) (ap.get 2 rfl)) ?_
  clear hc
  refine go ?_
  obtain rfl := Option.some.inj ho
  exact QE.jn fun w2 hw => (St.selP [4, 5, 6] rfl hw)
 refine go ?_
 obtain rfl := Option.some.inj ho
 exact QE.jn fun w2 hw => hw
def flow_Loops_1.f (i_0 : api_Instr) : Option Bool :=
  (op_May.f i_0).bind fun t3 => some (!t3)
theorem flow_Loops_1.ok (i_0 : api_Instr)  (r : Bool) (H : flow_Loops_1.f i_0 = some r) (w : World) (hV : Hp) (sV : Sub hV (hp w)) (h0 : (arrP k_arr245 0 tab0).p hV) :
    Trip Tryz.prog 67 [.agg #[.int .u8 i_0.Op, .int .i64 i_0.A, .int .i64 i_0.B]].toArray em hV w (fun v => HO.pure (v = .bool r)) := by
 refine Trip.go 6 Tryz.func67 sV (All.cons (x := arrP k_arr245 0 tab0) h0 (All.nil _)) fun see => ?_
 have ho := H
 refine go ?_
 refine SP.box rfl rfl rfl rfl fun b1 => go ?_
 refine SP.val (Val.loadA 0 rfl Tryz.underlying43 rfl sz43 rfl rfl rfl) rfl rfl rfl ?_
 obtain ⟨t3, hc, ho⟩ := bind_some ho
 refine SP.callV see (caps := []) (.bool t3) fn68 rfl rfl rfl rfl (fun w2 hP hs sub ap => op_May.ok _  _ hc w2 hP sub (ap.get 0 rfl)) ?_
 clear hc
 refine go ?_
 obtain rfl := Option.some.inj ho
 exact QE.rt (fun _ h => h)
inductive slices_IndexFunc_api_Instr_api_Instr_s2.S where
  | start
  | l1 (x7 : Int)
def slices_IndexFunc_api_Instr_api_Instr_s2.F (s_0 : (List api_Instr)) : slices_IndexFunc_api_Instr_api_Instr_s2.S → Option (slices_IndexFunc_api_Instr_api_Instr_s2.S ⊕ Int)
  | .start => some (.inl (.l1 0))
  | .l1 x7 => if x7 < (s_0.length : Int) then ((elt s_0 x7).bind fun x11 => (flow_Loops_1.f x11).bind fun t12 => if t12 = true then (some (.inr x7)) else (some (.inl (.l1 (IntKind.i64.wrap (x7 + 1)))))) else (some (.inr (-1)))
def slices_IndexFunc_api_Instr_api_Instr_s2.f (s_0 : (List api_Instr)) : Option Int := runF (slices_IndexFunc_api_Instr_api_Instr_s2.F s_0) .start
theorem slices_IndexFunc_api_Instr_api_Instr_s2.ok (s_0 : (List api_Instr)) (v_s_0 : Value)  (r : Int) (H : slices_IndexFunc_api_Instr_api_Instr_s2.f s_0 = some r) (w : World) (hV : Hp) (sV : Sub hV (hp w)) (h0 : slR k_api_Instr hV v_s_0 s_0) (h1 : (arrP k_arr245 0 tab0).p hV) :
    Trip Tryz.prog 128 [v_s_0, .func (.func 67) #[] #[]].toArray em hV w (fun v => HO.pure (v = .int .i64 r)) := by
 refine Trip.go 19 Tryz.func128 sV (aS h0 (All.cons (x := arrP k_arr245 0 tab0) h1 (All.nil _))) fun see => ?_
 obtain ⟨n0, hi⟩ := runF_iff.1 H
 obtain ⟨m0, o, hm0, ho, hr⟩ := iter_some hi
 clear hi
 refine go ?_
 refine CP.seq (go ?_)
 obtain rfl := Option.some.inj ho
 refine CP.loop (fun cl1 a w2 => ∃ x7 : Int, cl1 ≤ m0 ∧ iter (slices_IndexFunc_api_Instr_api_Instr_s2.F s_0) cl1 (.l1 x7) = some r ∧ Env ⟨19, []⟩ [(0, v_s_0), (1, .func (.func 67) #[] #[]), (7, .int .i64 (s_0.length : Int)), (8, .int .i64 x7)] a ∧ St w em hV [slP k_api_Instr v_s_0 s_0, arrP k_arr245 0 tab0] [] w2) m0 (fun a w2 ha hw => ⟨0, Nat.le_refl _, hr, ha.sub sb, hw⟩) ?_
 clear hr
 rintro cl1 a w2 ⟨x7, hc_l1, hi, ha, hw⟩
 obtain ⟨m8, o, hm_m8, ho, hr⟩ := iter_some hi
 refine CP.app ha hw ?_
 clear ha hw a w2 hi
 refine go ?_
 refine CP.seq ?_
 refine CP.ci ho (fun ho => ?_) fun ho => ?_
 ·refine go ?_
  refine CP.seq (go ?_)
  obtain ⟨x11, hx, ho⟩ := elt_bind ho
  refine SP.indexP see 0 rfl Tryz.underlying32 sz43 hx.1 hx.2 rfl rfl rfl rfl (fun p9 => ?_)
  clear hx
  refine k_api_Instr.load see 0 rfl Tryz.underlying43 rfl sz43 rfl rfl rfl ?_
  obtain ⟨t12, hc, ho⟩ := bind_some ho
  refine SP.callV see (caps := []) (.bool t12) fn67 rfl rfl rfl rfl (fun w2 hP hs sub ap => flow_Loops_1.ok _  _ hc w2 hP sub (ap.get 2 rfl)) ?_
  clear hc
  refine go ?_
  refine CP.cb ho (fun ho => ?_) fun ho => ?_
  ·refine go ?_
   obtain rfl := fin ho hr
   exact QE.rt (fun _ h => h)
  refine go ?_
  obtain rfl := Option.some.inj ho
  exact QE.lower m8 (by omega) fun a w2 ha hw => ⟨(IntKind.i64.wrap (x7 + 1)), (by omega), hr, ha.sub sb, (St.selP [1, 2] rfl hw)⟩
 refine go ?_
 obtain rfl := fin ho hr
 exact QE.rt (fun _ h => h)
def slices_ContainsFunc_api_Instr_api_Instr_s2.f (s_0 : (List api_Instr)) : Option Bool :=
  (slices_IndexFunc_api_Instr_api_Instr_s2.f s_0).bind fun t2 => some (decide (t2 ≥ 0))
theorem slices_ContainsFunc_api_Instr_api_Instr_s2.ok (s_0 : (List api_Instr)) (v_s_0 : Value)  (r : Bool) (H : slices_ContainsFunc_api_Instr_api_Instr_s2.f s_0 = some r) (w : World) (hV : Hp) (sV : Sub hV (hp w)) (h0 : slR k_api_Instr hV v_s_0 s_0) (h1 : (arrP k_arr245 0 tab0).p hV) :
    Trip Tryz.prog 66 [v_s_0, .func (.func 67) #[] #[]].toArray em hV w (fun v => HO.pure (v = .bool r)) := by
 refine Trip.go 9 Tryz.func66 sV (aS h0 (All.cons (x := arrP k_arr245 0 tab0) h1 (All.nil _))) fun see => ?_
 have ho := H
 refine go ?_
 obtain ⟨t2, hc, ho⟩ := bind_some ho
 refine SP.callV see (caps := []) (.int .i64 t2) fn128 rfl rfl rfl rfl (fun w2 hP hs sub ap => slices_IndexFunc_api_Instr_api_Instr_s2.ok _ _ _ hc w2 hP sub (ap.get 0 rfl) (ap.get 1 rfl)) ?_
 clear hc
 refine go ?_
 obtain rfl := Option.some.inj ho
 exact QE.rt (fun _ h => h)
def flow_open_push_s2.f (l2 : List Int) (a0_3 : Int) (a1 : Int) : Option (Bool × (List Int) × Int) :=
  if a0_3 = 4 then (some (false, l2, a0_3)) else ((elt l2 a0_3).bind fun x4 => some (true, l2.set a0_3.toNat a1, IntKind.i64.wrap (a0_3 + 1)))
theorem flow_open_push_s2.ok (l2 : List Int) (a0_3 a1 : Int)  (r : Bool × (List Int) × Int) (H : flow_open_push_s2.f l2 a0_3 a1 = some r) (w : World) (hV : Hp) (sV : Sub hV (hp w))  (b1 : Nat) (hA : Hp) (sA : Sub hA (hp w)) (dA : Dj hV hA) (hI : (arrO b1 [] (fun z : Int => Value.int .i64 z) 4 l2 [.int .i64 a0_3] 109).p hV hA) :
    Trip Tryz.prog 69 [.pointer (some ⟨b1, 0, none⟩), .int .i64 a1].toArray hA hV w (fun v => HO.pand (v = .bool r.1) (HO.seps [arrO b1 [] (fun z : Int => Value.int .i64 z) 4 r.2.1 [.int .i64 r.2.2] 109])) := by
 have see : Sees w hA hV := ⟨sV, dA⟩
 refine Trip.of (P := Tryz.prog) (n := ⟨26, []⟩) Tryz.func69 rfl ⟨rfl, rfl⟩ rfl (St.beginA (os := [arrO b1 [] (fun z : Int => Value.int .i64 z) 4 l2 [.int .i64 a0_3] 109]) sA (All.nil _) ⟨hA, em, Dj.em_right _, Sub.refl _, Sub.em _, hI, trivial⟩) ?_
 have ho := H
 refine go ?_
 refine CP.seq (go ?_)
 refine SP.val (Val.loadArrPost (k := 0) 0 rfl Tryz.underlying3 rfl rfl rfl rfl) rfl rfl rfl (go ?_)
 refine CP.ci ho (fun ho => ?_) fun ho => ?_
 ·refine go ?_
  obtain rfl := Option.some.inj ho
  exact QE.rt (fun _ h => St.selO [0] rfl rfl h)
 refine go ?_
 refine CP.seq ?_
 refine CP.drawA (by kernel_rfl) (fun w2 k h => h.drawn k) ?_
 refine DA.ph 0 8 ?_
 refine DT.tk 0 ?_
 refine DT.tk 1 ?_
 refine DT.tk 2 ?_
 refine DT.tk 3 ?_
 refine DT.tv 4 rfl (Val.loadArrPost (k := 0) 0 rfl Tryz.underlying3 rfl rfl rfl rfl) ?_
 refine DT.tk 5 ?_
 refine DT.tk 6 ?_
 refine DT.tk 7 ?_
 refine DT.next (by kernel_rfl) ?_
 refine DA.one 8 rfl (by kernel_rfl) ?_
 obtain ⟨x4, hx_x4, ho⟩ := elt_bind ho
 refine SP.val (Val.indexArr 0 rfl Tryz.underlying107 sz3 hx_x4.1 hx_x4.2 rfl rfl rfl) rfl rfl rfl (go ?_)
 refine QE.atA ?_
 refine DA.one 9 rfl (by kernel_rfl) ?_
 refine SP.storeArr 0 rfl sz3 rfl hx_x4.2 rfl rfl rfl (fun _ => rfl) (fun _ => rfl) (go ?_)
 refine QE.atA ?_
 refine DA.done (by kernel_rfl) (go ?_)
 refine SP.val (Val.loadArrPost (k := 0) 0 rfl Tryz.underlying3 rfl rfl rfl rfl) rfl rfl rfl (go ?_)
 refine SP.storeArrPost (k := 0) 0 rfl sz3 rfl rfl rfl rfl rfl rfl rfl (go ?_)
 obtain rfl := Option.some.inj ho
 exact QE.rt (fun _ h => St.selO [0] rfl rfl h)
def flow_open_pop_s2.j1 (l2 : List Int) (a0_3 : Int) (a1 : Int) (b10 : Bool) : Option (Bool × (List Int) × Int) :=
  if b10 = true then (some (false, l2, a0_3)) else (some (true, l2, IntKind.i64.wrap (a0_3 - 1)))
def flow_open_pop_s2.f (l2 : List Int) (a0_3 : Int) (a1 : Int) : Option (Bool × (List Int) × Int) :=
  if a0_3 = 0 then (flow_open_pop_s2.j1 l2 a0_3 a1 true) else ((elt l2 (IntKind.i64.wrap (a0_3 - 1))).bind fun x9 => flow_open_pop_s2.j1 l2 a0_3 a1 (decide (x9 ≠ a1)))
theorem flow_open_pop_s2.ok (l2 : List Int) (a0_3 a1 : Int)  (r : Bool × (List Int) × Int) (H : flow_open_pop_s2.f l2 a0_3 a1 = some r) (w : World) (hV : Hp) (sV : Sub hV (hp w))  (b1 : Nat) (hA : Hp) (sA : Sub hA (hp w)) (dA : Dj hV hA) (hI : (arrO b1 [] (fun z : Int => Value.int .i64 z) 4 l2 [.int .i64 a0_3] 109).p hV hA) :
    Trip Tryz.prog 70 [.pointer (some ⟨b1, 0, none⟩), .int .i64 a1].toArray hA hV w (fun v => HO.pand (v = .bool r.1) (HO.seps [arrO b1 [] (fun z : Int => Value.int .i64 z) 4 r.2.1 [.int .i64 r.2.2] 109])) := by
 have see : Sees w hA hV := ⟨sV, dA⟩
 refine Trip.of (P := Tryz.prog) (n := ⟨31, []⟩) Tryz.func70 rfl ⟨rfl, rfl⟩ rfl (St.beginA (os := [arrO b1 [] (fun z : Int => Value.int .i64 z) 4 l2 [.int .i64 a0_3] 109]) sA (All.nil _) ⟨hA, em, Dj.em_right _, Sub.refl _, Sub.em _, hI, trivial⟩) ?_
 have ho := H
 refine go ?_
 refine CP.seq ?_
 refine CP.join (fun a w2 => ∃ b10 : Bool, flow_open_pop_s2.j1 l2 a0_3 a1 b10 = some r ∧ Env ⟨31, []⟩ [(0, .pointer (some ⟨b1, 0, none⟩)), (23, .bool b10)] a ∧ St w hA hV [] [arrO b1 [] (fun z : Int => Value.int .i64 z) 4 l2 [.int .i64 a0_3] 109] w2) ?_ ?_
 ·rintro a w2 ⟨b10, ho, ha, hw⟩
  refine CP.app ha hw ?_
  clear ha hw a w2
  refine CP.cb ho (fun ho => ?_) fun ho => ?_
  ·refine go ?_
   obtain rfl := Option.some.inj ho
   exact QE.rt (fun _ h => St.selO [0] rfl rfl h)
  refine go ?_
  refine SP.val (Val.loadArrPost (k := 0) 0 rfl Tryz.underlying3 rfl rfl rfl rfl) rfl rfl rfl (go ?_)
  refine SP.storeArrPost (k := 0) 0 rfl sz3 rfl rfl rfl rfl rfl rfl rfl (go ?_)
  obtain rfl := Option.some.inj ho
  exact QE.rt (fun _ h => St.selO [0] rfl rfl h)
 refine CP.drawA (by kernel_rfl) (fun w2 k h => h.drawn k) ?_
 refine DA.one 0 rfl (by kernel_rfl) (go ?_)
 refine QE.atA ?_
 refine DA.one 1 rfl (by kernel_rfl) (go ?_)
 refine QE.atA ?_
 refine DA.one 2 rfl (by kernel_rfl) (go ?_)
 refine QE.atA ?_
 refine DA.one 3 rfl (by kernel_rfl) ?_
 refine SP.val (Val.loadArrPost (k := 0) 0 rfl Tryz.underlying3 rfl rfl rfl rfl) rfl rfl rfl (go ?_)
 refine QE.atA ?_
 refine DA.one 4 rfl (by kernel_rfl) (go ?_)
 refine QE.atA ?_
 refine DA.one 5 rfl (by kernel_rfl) (go ?_)
 refine QE.atA ?_
 rcases if_some ho with ⟨hc, ho⟩ | ⟨hc, ho⟩
 ·have hg4 := (decide_eq_true hc)
  clear hc
  refine DA.ph 6 17 ?_
  refine DT.is (d := 10) (b := true) rfl hg4 ?_
  refine DT.tn 6 ?_
  refine DT.tn 7 ?_
  refine DT.tn 8 ?_
  refine DT.tn 9 ?_
  refine DT.tn 10 ?_
  refine DT.tn 11 ?_
  refine DT.tn 12 ?_
  refine DT.tn 13 ?_
  refine DT.tn 14 ?_
  refine DT.tn 15 ?_
  refine DT.tn 16 ?_
  refine DT.next (by kernel_rfl) ?_
  refine DA.ph 17 18 ?_
  refine DT.tn 17 ?_
  refine DT.next (by kernel_rfl) ?_
  refine DA.one 18 rfl (by kernel_rfl) (go ?_)
  refine QE.atA ?_
  refine DA.done (by kernel_rfl) ?_
  exact QE.meet fun a w2 ha hw => ⟨true, ho, ha.sub sb, hw⟩
 have hg5 := (decide_eq_false hc)
 clear hc
 refine DA.ph 6 17 ?_
 refine DT.is (d := 10) (b := false) rfl hg5 ?_
 refine DT.tk 6 ?_
 refine DT.tk 7 ?_
 refine DT.tk 8 ?_
 refine DT.tk 9 ?_
 refine DT.tv 10 rfl (Val.loadArrPost (k := 0) 0 rfl Tryz.underlying3 rfl rfl rfl rfl) ?_
 refine DT.tk 11 ?_
 refine DT.tk 12 ?_
 refine DT.tk 13 ?_
 refine DT.tk 16 ?_
 refine DT.one 14 rfl (by kernel_rfl) rfl ?_
 obtain ⟨x9, hx_x9, ho⟩ := elt_bind ho
 refine SP.val (Val.indexArr 0 rfl Tryz.underlying107 sz3 hx_x9.1 hx_x9.2 rfl rfl rfl) rfl rfl rfl (go ?_)
 refine QE.atT (fun w2 hw => hw) ?_
 refine DT.tv 15 rfl (Val.loadArr 0 rfl Tryz.underlying3 rfl hx_x9.2 rfl rfl) ?_
 refine DT.next (by kernel_rfl) ?_
 refine DA.one 17 rfl (by kernel_rfl) (go ?_)
 refine QE.atA ?_
 refine DA.one 18 rfl (by kernel_rfl) (go ?_)
 refine QE.atA ?_
 refine DA.done (by kernel_rfl) ?_
 exact QE.meet fun a w2 ha hw => ⟨(decide (x9 ≠ a1)), ho, ha.sub sb, hw⟩
def flow_last.f (i_0 : api_Instr) : Option Bool :=
  some ((decide (i_0.Op = 31)) || (decide (i_0.Op = 32)))
theorem flow_last.ok (i_0 : api_Instr)  (r : Bool) (H : flow_last.f i_0 = some r) (w : World) (hV : Hp) (sV : Sub hV (hp w))  :
    Trip Tryz.prog 71 [.agg #[.int .u8 i_0.Op, .int .i64 i_0.A, .int .i64 i_0.B]].toArray em hV w (fun v => HO.pure (v = .bool r)) := by
 refine Trip.go 11 Tryz.func71 sV (All.nil _) fun see => ?_
 have ho := H
 refine go ?_
 refine SP.box rfl rfl rfl rfl fun b1 => go ?_
 refine SP.jn 4 [] 10 (.bool ((decide (i_0.Op = 31)) || (decide (i_0.Op = 32)))) ?_ ?_
 ·refine go ?_
  obtain rfl := Option.some.inj ho
  exact QE.rt (fun _ h => h)
 refine SP.bb 6 (fun hq4 => ?_) fun hq4 => ?_
 ·refine go ?_
  exact QE.jb (or_t hq4) fun w2 hw => hw
 refine go ?_
 exact QE.jb (or_f hq4 rfl) fun w2 hw => hw
def flow_Loop_has.f (x_0 : flow_Loop) (a1 : Int) : Option Bool :=
  some ((decide (a1 > x_0.From)) && (decide (a1 ≤ x_0.To)))
theorem flow_Loop_has.ok (x_0 : flow_Loop) (a1 : Int)  (r : Bool) (H : flow_Loop_has.f x_0 a1 = some r) (w : World) (hV : Hp) (sV : Sub hV (hp w))  :
    Trip Tryz.prog 131 [.agg #[.int .i64 x_0.From, .int .i64 x_0.To, .int .i64 x_0.Turns], .int .i64 a1].toArray em hV w (fun v => HO.pure (v = .bool r)) := by
 refine Trip.go 15 Tryz.func131 sV (All.nil _) fun see => ?_
 have ho := H
 refine go ?_
 refine SP.box rfl rfl rfl rfl fun b1 => go ?_
 refine SP.jn 5 [] 14 (.bool ((decide (a1 > x_0.From)) && (decide (a1 ≤ x_0.To)))) ?_ ?_
 ·refine go ?_
  obtain rfl := Option.some.inj ho
  exact QE.rt (fun _ h => h)
 refine SP.bb 9 (fun hq4 => ?_) fun hq4 => ?_
 ·refine go ?_
  exact QE.jb (and_t hq4 rfl) fun w2 hw => hw
 refine go ?_
 exact QE.jb (and_f hq4) fun w2 hw => hw
def flow_jumps_1_s1.f (x_0 : flow_Loop) (c0_1 : Int) (c0_2 : Int) (c0_3 : Int) (c1_6 : Int) : Option Bool :=
  (flow_Loop_has.f x_0 c0_2).bind fun t11 => (if t11 = true then ((flow_Loop_has.f x_0 c1_6).bind fun t14 => some (!t14)) else (some false)).bind fun t15 => some t15
theorem flow_jumps_1_s1.ok (x_0 : flow_Loop) (c0_1 c0_2 : Int) (c0_3 c1_6 : Int) (b4 : Nat) (b7 : Nat) (r : Bool) (H : flow_jumps_1_s1.f x_0 c0_1 c0_2 c0_3 c1_6 = some r) (w : World) (hV : Hp) (sV : Sub hV (hp w)) (h0 : (boxP b4 [.int .u8 c0_1, .int .i64 c0_2, .int .i64 c0_3] 43).p hV) (h1 : (boxP b7 [.int .i64 c1_6] 3).p hV) :
    Trip Tryz.prog 130 [.agg #[.int .i64 x_0.From, .int .i64 x_0.To, .int .i64 x_0.Turns], .pointer (some ⟨b4, 0, none⟩), .pointer (some ⟨b7, 0, none⟩)].toArray em hV w (fun v => HO.pure (v = .bool r)) := by
 refine Trip.go 15 Tryz.func130 sV (All.cons (x := boxP b4 [.int .u8 c0_1, .int .i64 c0_2, .int .i64 c0_3] 43) h0 (All.cons (x := boxP b7 [.int .i64 c1_6] 3) h1 (All.nil _))) fun see => ?_
 have ho := H
 refine go ?_
 refine SP.box rfl rfl rfl rfl fun b9 => go ?_
 refine SP.val (Val.loadA 0 rfl Tryz.underlying111 rfl sz111 rfl rfl rfl) rfl rfl rfl ?_
 refine SP.val (Val.fieldAddr Tryz.underlying43 rfl sz3 rfl) rfl rfl rfl ?_
 refine SP.val (Val.loadB1 see 0 rfl Tryz.underlying3 rfl rfl rfl) rfl rfl rfl ?_
 obtain ⟨t11, hc, ho⟩ := bind_some ho
 refine SP.callV see (caps := []) (.bool t11) fn131 rfl rfl rfl rfl (fun w2 hP hs sub ap => flow_Loop_has.ok _ _  _ hc w2 hP sub ) ?_
 clear hc
 refine go ?_
 obtain ⟨t15, hg_t15, ho⟩ := bind_some ho
 refine SP.jn 5 [] 14 (.bool t15) ?_ ?_
 ·clear hg_t15
  refine go ?_
  obtain rfl := Option.some.inj ho
  exact QE.rt (fun _ h => h)
 refine SP.cb 9 hg_t15 (fun hq13 ho => ?_) fun hq13 ho => ?_
 ·refine SP.val (Val.loadA 0 rfl Tryz.underlying111 rfl sz111 rfl rfl rfl) rfl rfl rfl ?_
  refine SP.val (Val.loadB1 see 1 rfl Tryz.underlying3 rfl rfl rfl) rfl rfl rfl ?_
  obtain ⟨t14, hc, ho⟩ := bind_some ho
  refine SP.callV see (caps := []) (.bool t14) fn131 rfl rfl rfl rfl (fun w2 hP hs sub ap => flow_Loop_has.ok _ _  _ hc w2 hP sub ) ?_
  clear hc
  refine go ?_
  obtain rfl := Option.some.inj ho
  exact QE.jn fun w2 hw => hw
 refine go ?_
 obtain rfl := Option.some.inj ho
 exact QE.jn fun w2 hw => hw
inductive slices_IndexFunc_flow_Loop_flow_Loop_s1.S where
  | start
  | l1 (x15 : Int)
def slices_IndexFunc_flow_Loop_flow_Loop_s1.F (s_0 : (List flow_Loop)) (f_1_2 : Int) (f_1_3 : Int) (f_1_4 : Int) (f_1_7 : Int) : slices_IndexFunc_flow_Loop_flow_Loop_s1.S → Option (slices_IndexFunc_flow_Loop_flow_Loop_s1.S ⊕ Int)
  | .start => some (.inl (.l1 0))
  | .l1 x15 => if x15 < (s_0.length : Int) then ((elt s_0 x15).bind fun x19 => (flow_jumps_1_s1.f x19 f_1_2 f_1_3 f_1_4 f_1_7).bind fun t20 => if t20 = true then (some (.inr x15)) else (some (.inl (.l1 (IntKind.i64.wrap (x15 + 1)))))) else (some (.inr (-1)))
def slices_IndexFunc_flow_Loop_flow_Loop_s1.f (s_0 : (List flow_Loop)) (f_1_2 : Int) (f_1_3 : Int) (f_1_4 : Int) (f_1_7 : Int) : Option Int := runF (slices_IndexFunc_flow_Loop_flow_Loop_s1.F s_0 f_1_2 f_1_3 f_1_4 f_1_7) .start
theorem slices_IndexFunc_flow_Loop_flow_Loop_s1.ok (s_0 : (List flow_Loop)) (f_1_2 f_1_3 : Int) (f_1_4 f_1_7 : Int) (v_s_0 : Value) (b5 : Nat) (b8 : Nat) (r : Int) (H : slices_IndexFunc_flow_Loop_flow_Loop_s1.f s_0 f_1_2 f_1_3 f_1_4 f_1_7 = some r) (w : World) (hV : Hp) (sV : Sub hV (hp w)) (h0 : slR k_flow_Loop hV v_s_0 s_0) (h1 : (boxP b5 [.int .u8 f_1_2, .int .i64 f_1_3, .int .i64 f_1_4] 43).p hV) (h2 : (boxP b8 [.int .i64 f_1_7] 3).p hV) :
    Trip Tryz.prog 190 [v_s_0, .func (.func 130) #[] #[.pointer (some ⟨b5, 0, none⟩), .pointer (some ⟨b8, 0, none⟩)]].toArray em hV w (fun v => HO.pure (v = .int .i64 r)) := by
 refine Trip.go 19 Tryz.func190 sV (aS h0 (All.cons (x := boxP b5 [.int .u8 f_1_2, .int .i64 f_1_3, .int .i64 f_1_4] 43) h1 (All.cons (x := boxP b8 [.int .i64 f_1_7] 3) h2 (All.nil _)))) fun see => ?_
 obtain ⟨n0, hi⟩ := runF_iff.1 H
 obtain ⟨m0, o, hm0, ho, hr⟩ := iter_some hi
 clear hi
 refine go ?_
 refine CP.seq (go ?_)
 obtain rfl := Option.some.inj ho
 refine CP.loop (fun cl1 a w2 => ∃ x15 : Int, cl1 ≤ m0 ∧ iter (slices_IndexFunc_flow_Loop_flow_Loop_s1.F s_0 f_1_2 f_1_3 f_1_4 f_1_7) cl1 (.l1 x15) = some r ∧ Env ⟨19, []⟩ [(0, v_s_0), (1, .func (.func 130) #[] #[.pointer (some ⟨b5, 0, none⟩), .pointer (some ⟨b8, 0, none⟩)]), (7, .int .i64 (s_0.length : Int)), (8, .int .i64 x15)] a ∧ St w em hV [slP k_flow_Loop v_s_0 s_0, boxP b5 [.int .u8 f_1_2, .int .i64 f_1_3, .int .i64 f_1_4] 43, boxP b8 [.int .i64 f_1_7] 3] [] w2) m0 (fun a w2 ha hw => ⟨0, Nat.le_refl _, hr, ha.sub sb, hw⟩) ?_
 clear hr
 rintro cl1 a w2 ⟨x15, hc_l1, hi, ha, hw⟩
 obtain ⟨m16, o, hm_m16, ho, hr⟩ := iter_some hi
 refine CP.app ha hw ?_
 clear ha hw a w2 hi
 refine go ?_
 refine CP.seq ?_
 refine CP.ci ho (fun ho => ?_) fun ho => ?_
 ·refine go ?_
  refine CP.seq (go ?_)
  obtain ⟨x19, hx, ho⟩ := elt_bind ho
  refine SP.indexP see 0 rfl Tryz.underlying64 sz111 hx.1 hx.2 rfl rfl rfl rfl (fun p17 => ?_)
  clear hx
  refine k_flow_Loop.load see 0 rfl Tryz.underlying111 rfl sz111 rfl rfl rfl ?_
  obtain ⟨t20, hc, ho⟩ := bind_some ho
  refine SP.callV see (caps := [.pointer (some ⟨b5, 0, none⟩), .pointer (some ⟨b8, 0, none⟩)]) (.bool t20) fn130 rfl rfl rfl rfl (fun w2 hP hs sub ap => flow_jumps_1_s1.ok _ _ _ _ _ _ _ _ hc w2 hP sub (ap.get 2 rfl) (ap.get 3 rfl)) ?_
  clear hc
  refine go ?_
  refine CP.cb ho (fun ho => ?_) fun ho => ?_
  ·refine go ?_
   obtain rfl := fin ho hr
   exact QE.rt (fun _ h => h)
  refine go ?_
  obtain rfl := Option.some.inj ho
  exact QE.lower m16 (by omega) fun a w2 ha hw => ⟨(IntKind.i64.wrap (x15 + 1)), (by omega), hr, ha.sub sb, (St.selP [1, 2, 3] rfl hw)⟩
 refine go ?_
 obtain rfl := fin ho hr
 exact QE.rt (fun _ h => h)
def slices_ContainsFunc_flow_Loop_flow_Loop_s1.f (s_0 : (List flow_Loop)) (f_1_2 : Int) (f_1_3 : Int) (f_1_4 : Int) (f_1_7 : Int) : Option Bool :=
  (slices_IndexFunc_flow_Loop_flow_Loop_s1.f s_0 f_1_2 f_1_3 f_1_4 f_1_7).bind fun t10 => some (decide (t10 ≥ 0))
theorem slices_ContainsFunc_flow_Loop_flow_Loop_s1.ok (s_0 : (List flow_Loop)) (f_1_2 f_1_3 : Int) (f_1_4 f_1_7 : Int) (v_s_0 : Value) (b5 : Nat) (b8 : Nat) (r : Bool) (H : slices_ContainsFunc_flow_Loop_flow_Loop_s1.f s_0 f_1_2 f_1_3 f_1_4 f_1_7 = some r) (w : World) (hV : Hp) (sV : Sub hV (hp w)) (h0 : slR k_flow_Loop hV v_s_0 s_0) (h1 : (boxP b5 [.int .u8 f_1_2, .int .i64 f_1_3, .int .i64 f_1_4] 43).p hV) (h2 : (boxP b8 [.int .i64 f_1_7] 3).p hV) :
    Trip Tryz.prog 132 [v_s_0, .func (.func 130) #[] #[.pointer (some ⟨b5, 0, none⟩), .pointer (some ⟨b8, 0, none⟩)]].toArray em hV w (fun v => HO.pure (v = .bool r)) := by
 refine Trip.go 9 Tryz.func132 sV (aS h0 (All.cons (x := boxP b5 [.int .u8 f_1_2, .int .i64 f_1_3, .int .i64 f_1_4] 43) h1 (All.cons (x := boxP b8 [.int .i64 f_1_7] 3) h2 (All.nil _)))) fun see => ?_
 have ho := H
 refine go ?_
 obtain ⟨t10, hc, ho⟩ := bind_some ho
 refine SP.callV see (caps := []) (.int .i64 t10) fn190 rfl rfl rfl rfl (fun w2 hP hs sub ap => slices_IndexFunc_flow_Loop_flow_Loop_s1.ok _ _ _ _ _ _ _ _ _ hc w2 hP sub (ap.get 0 rfl) (ap.get 1 rfl) (ap.get 2 rfl)) ?_
 clear hc
 refine go ?_
 obtain rfl := Option.some.inj ho
 exact QE.rt (fun _ h => h)
inductive flow_jumps.S where
  | start
  | l1 (x27 : Int)
def flow_jumps.j1 (l_0 : (List api_Instr)) (loops_1 : (List flow_Loop)) (x27 : Int) : Option (flow_jumps.S ⊕ Bool) :=
  some (.inl (.l1 (IntKind.i64.wrap (x27 + 1))))
def flow_jumps.F (l_0 : (List api_Instr)) (loops_1 : (List flow_Loop)) : flow_jumps.S → Option (flow_jumps.S ⊕ Bool)
  | .start => some (.inl (.l1 0))
  | .l1 x27 => if x27 < (l_0.length : Int) then ((elt l_0 x27).bind fun x31 => if ((decide (x31.Op ≠ 26)) && (decide (x31.Op ≠ 27))) = true then (flow_jumps.j1 l_0 loops_1 x27) else ((if ((decide (x31.A ≤ x27)) || (decide (x31.A ≥ (l_0.length : Int)))) = true then (some true) else ((slices_ContainsFunc_flow_Loop_flow_Loop_s1.f loops_1 x31.Op x31.A x31.B x27).bind fun t49 => some t49)).bind fun t50 => if t50 = true then (some (.inr false)) else (flow_jumps.j1 l_0 loops_1 x27))) else (some (.inr true))
def flow_jumps.f (l_0 : (List api_Instr)) (loops_1 : (List flow_Loop)) : Option Bool := runF (flow_jumps.F l_0 loops_1) .start
theorem flow_jumps.ok (l_0 : (List api_Instr)) (loops_1 : (List flow_Loop)) (v_l_0 v_loops_1 : Value) (r : Bool) (H : flow_jumps.f l_0 loops_1 = some r) (w : World) (hV : Hp) (sV : Sub hV (hp w)) (h0 : slR k_api_Instr hV v_l_0 l_0) (h1 : slR k_flow_Loop hV v_loops_1 loops_1) :
    Trip Tryz.prog 72 [v_l_0, v_loops_1].toArray em hV w (fun v => HO.pure (v = .bool r)) := by
 refine Trip.go 41 Tryz.func72 sV (aS h0 (aS h1 (All.nil _))) fun see => ?_
 obtain ⟨n0, hi⟩ := runF_iff.1 H
 obtain ⟨m0, o, hm0, ho, hr⟩ := iter_some hi
 clear hi
 refine go ?_
 refine CP.seq (go ?_)
 obtain rfl := Option.some.inj ho
 refine CP.loop (fun cl1 a w2 => ∃ x27 : Int, cl1 ≤ m0 ∧ iter (flow_jumps.F l_0 loops_1) cl1 (.l1 x27) = some r ∧ Env ⟨41, []⟩ [(0, v_l_0), (1, v_loops_1), (8, v_l_0), (9, .int .i64 (l_0.length : Int)), (10, .int .i64 x27)] a ∧ St w em hV [slP k_api_Instr v_l_0 l_0, slP k_flow_Loop v_loops_1 loops_1] [] w2) m0 (fun a w2 ha hw => ⟨0, Nat.le_refl _, hr, ha.sub sb, hw⟩) ?_
 clear hr
 rintro cl1 a w2 ⟨x27, hc_l1, hi, ha, hw⟩
 obtain ⟨m28, o, hm_m28, ho, hr⟩ := iter_some hi
 refine CP.app ha hw ?_
 clear ha hw a w2 hi
 refine go ?_
 refine CP.seq ?_
 refine CP.ci ho (fun ho => ?_) fun ho => ?_
 ·refine go ?_
  refine CP.join (fun a w2 => ∃ (m51 : Nat) (o : (flow_jumps.S ⊕ Bool)), m51 ≤ m28 ∧ flow_jumps.j1 l_0 loops_1 x27 = some o ∧ next (flow_jumps.F l_0 loops_1) m51 o = some r ∧ Env ⟨41, []⟩ [(0, v_l_0), (1, v_loops_1), (8, v_l_0), (9, .int .i64 (l_0.length : Int)), (10, .int .i64 x27)] a ∧ St w em hV [slP k_api_Instr v_l_0 l_0, slP k_flow_Loop v_loops_1 loops_1] [] w2) ?_ ?_
  ·rintro a w2 ⟨m51, o, hm_m51, ho, hr, ha, hw⟩
   refine CP.app ha hw ?_
   clear ha hw a w2
   refine go ?_
   obtain rfl := Option.some.inj ho
   exact QE.lower m51 (by omega) fun a w2 ha hw => ⟨(IntKind.i64.wrap (x27 + 1)), (by omega), hr, ha.sub sb, hw⟩
  refine go ?_
  obtain ⟨x31, hx, ho⟩ := elt_bind ho
  refine SP.indexP see 0 rfl Tryz.underlying32 sz43 hx.1 hx.2 rfl rfl rfl rfl (fun p29 => ?_)
  clear hx
  refine k_api_Instr.load see 0 rfl Tryz.underlying43 rfl sz43 rfl rfl rfl ?_
  refine SP.alloc (cs := [.int .i64 0]) inf3 rfl rfl (fun b32 => ?_)
  refine SP.alloc (cs := [.int .u8 0, .int .i64 0, .int .i64 0]) inf43 rfl rfl (fun b34 => ?_)
  refine SP.store (v := .int .i64 x27) (vs := [.int .i64 x27]) 1 (by rfl) sz3 (by rfl) (by rfl) (by rfl) (by rfl) (by rfl) (by rfl) ?_
  refine SP.store (v := .agg #[.int .u8 x31.Op, .int .i64 x31.A, .int .i64 x31.B]) (vs := [.int .u8 x31.Op, .int .i64 x31.A, .int .i64 x31.B]) 0 (by rfl) sz43 (by rfl) (by rfl) (by rfl) (by rfl) (by rfl) (by rfl) (go ?_)
  refine CP.seq (go ?_)
  refine SP.jn 4 [0, 1, 8, 9, 10, 5, 6] 22 (.bool ((decide (x31.Op ≠ 26)) && (decide (x31.Op ≠ 27)))) ?_ ?_
  ·refine go ?_
   refine CP.cb ho (fun ho => ?_) fun ho => ?_
   ·refine go ?_
    exact QE.meet fun a w2 ha hw => ⟨m28, _, (by omega), ho, hr, ha.sub sb, (St.selP [1, 2] rfl (St.selO [] rfl rfl hw))⟩
   refine go ?_
   refine SP.val (Val.makeFunc (us := []) (vs := [.pointer (some ⟨b34, 0, none⟩), .pointer (some ⟨b32, 0, none⟩)]) rfl rfl) rfl rfl rfl (go ?_)
   refine SP.jn 6 [0, 1, 8, 9, 10, 7] 34 (.bool ((decide (x31.A ≤ x27)) || (decide (x31.A ≥ (l_0.length : Int))))) ?_ ?_
   ·refine go ?_
    refine SP.freezeB see 0 rfl ?_
    refine SP.freezeB see 0 rfl ?_
    obtain ⟨t50, hg_t50, ho⟩ := bind_some ho
    refine SP.jn 4 [0, 1, 8, 9, 10] 39 (.bool t50) ?_ ?_
    ·clear hg_t50
     refine go ?_
     refine CP.cb ho (fun ho => ?_) fun ho => ?_
     ·refine go ?_
      obtain rfl := fin ho hr
      exact QE.rt (fun _ h => h)
     refine go ?_
     exact QE.meet fun a w2 ha hw => ⟨m28, _, (by omega), ho, hr, ha.sub sb, (St.selP [3, 4] rfl hw)⟩
    refine SP.cb 35 hg_t50 (fun hq48 ho => ?_) fun hq48 ho => ?_
    ·refine go ?_
     obtain rfl := Option.some.inj ho
     exact QE.jn fun w2 hw => hw
    refine go ?_
    obtain ⟨t49, hc, ho⟩ := bind_some ho
    refine SP.callV see (caps := []) (.bool t49) fn132 rfl rfl rfl rfl (fun w2 hP hs sub ap => slices_ContainsFunc_flow_Loop_flow_Loop_s1.ok _ _ _ _ _ _ _ _ _ hc w2 hP sub (ap.get 4 rfl) (ap.get 1 rfl) (ap.get 0 rfl)) ?_
    clear hc
    refine go ?_
    obtain rfl := Option.some.inj ho
    exact QE.jn fun w2 hw => hw
   refine SP.bb 28 (fun hq39 => ?_) fun hq39 => ?_
   ·refine go ?_
    exact QE.jb (or_t hq39) fun w2 hw => hw
   refine go ?_
   exact QE.jb (or_f hq39 rfl) fun w2 hw => hw
  refine SP.bb 18 (fun hq37 => ?_) fun hq37 => ?_
  ·refine go ?_
   exact QE.jb (and_t hq37 rfl) fun w2 hw => hw
  refine go ?_
  exact QE.jb (and_f hq37) fun w2 hw => hw
 refine go ?_
 obtain rfl := fin ho hr
 exact QE.rt (fun _ h => h)
end Go.Proofs.YtehjiiebjkkcmaaGreatDoor
end
