/- Functions of the program as plain functions, with the proof that the code computes them: printed by gen.py of this session. -/
import Derived.Test.YtikichjmjbbnbaaGreatDoorProg
import Derived.Test.YtikichjmjbbnbaaGreatDoorQ33xVerifyBack
import Derived.Test.YtikichjmjbbnbaaGreatDoorQ42xVerifyBack
import Derived.Ground.GgzProg
import Derived.Ground.Names8Prog
import Derived.Ground.NamesProg
import Derived.Ground.SlgcProg
import Derived.Ground.SlgmProg
import Derived.Ground.SlgnProg
import Derived.Ground.SlsfProg
import Derived.Shelf.Bits.Mul64
import Derived.Shelf.Lay
import Derived.Shelf.SlGeneric
import Derived.Shelf.SlIterI.Nil
import Derived.Shelf.SlSortCmp.WholeK
import Derived.Shelf.SlicesE.Reverse
import Derived.Shelf.SlicesG.Cmp
import Derived.Shelf.SlicesG.CompactI
import Derived.Shelf.Small.Bits
import Derived.Shelf.SortM.Plain
import Derived.Shelf.SortM.SortNone
import Derived.Shelf.Spec.SlicesGrow
set_option linter.unusedVariables false
set_option linter.unusedSimpArgs false
set_option maxRecDepth 20000
set_option maxHeartbeats 2000000
set_option linter.defProp false
set_option warn.classDefReducibility false
noncomputable section
namespace Go.Proofs.YtikichjmjbbnbaaGreatDoor
open Go.Q
structure api_Value where
  Kind : Int
  A : Int
  B : Int
def api_Value.zero : api_Value := ⟨0, 0, 0⟩
def k_api_Value : Kd api_Value := ⟨3, fun h cs x => cs = [.int .u8 x.Kind, .int .i64 x.A, .int .i64 x.B], fun _ _ _ _ _ h => h, fun _ _ _ h => by simp [h], fun _ _ _ h => by subst h; rfl⟩
theorem k_api_Value.part_Kind : Part k_api_Value 0 (kInt .u8) (fun x => x.Kind) := fun h cs x e => ⟨[.int .u8 x.Kind], rfl, by subst e; exact seg_get [.int .u8 x.Kind, .int .i64 x.A, .int .i64 x.B] 0 1⟩
theorem k_api_Value.load {P : Program} {n : Fr} {ρ : Option Nat} {σ : List (Nat × Value)} {w0 : World} {hA hV : Hp} {ps : List HP} {os : List HO} {L l : List Oper} {Q : Cont} {d : Nat} {t tr : TypeId} {x : Operand} {pos : String} {af : Array Edge} {g : Option (Nat × Bool)} {v : Value} (see : Sees w0 hA hV) (i : Nat) {x0 : api_Value} (hi : ps[i]? = some (elP k_api_Value v x0)) {dsc : TypeDesc} (hu : P.underlying t = some dsc) (hd : (match dsc with | .struct _ | .array _ _ => true | _ => false) = true) (hs : (P.info? t).map (·.size) = some 3) (hg : gd L σ g = some true) (hn : Nat.blt d n.n = true) (hx : ev σ x = some v)
    (h : SP P n ρ ((d, .agg [.int .u8 x0.Kind, .int .i64 x0.A, .int .i64 x0.B].toArray) :: σ) (St w0 hA hV (ps) os) L l Q) : SP P n ρ σ (St w0 hA hV ps os) L (⟨some d, .load t x, tr, pos, af, g⟩ :: l) Q :=
  SP.loadP see i hi hu hd hs hg hn hx fun cs a w ha hw => by
    obtain ⟨m, fr, hN, hO, n1, n2, dj, s1, s2, ap, s⟩ := hw
    obtain rfl := ap.get 0 rfl
    exact h a w ha ⟨m, fr, hN, hO, n1, n2, dj, s1, s2, (fun y hy => ap y (List.mem_cons_of_mem _ hy)), s⟩
structure api_Instr where
  Op : Int
  A : Int
  B : Int
def api_Instr.zero : api_Instr := ⟨0, 0, 0⟩
def k_api_Instr : Kd api_Instr := ⟨3, fun h cs x => cs = [.int .u8 x.Op, .int .i64 x.A, .int .i64 x.B], fun _ _ _ _ _ h => h, fun _ _ _ h => by simp [h], fun _ _ _ h => by subst h; rfl⟩
theorem k_api_Instr.part_A : Part k_api_Instr 1 (kInt .i64) (fun x => x.A) := fun h cs x e => ⟨[.int .i64 x.A], rfl, by subst e; exact seg_get [.int .u8 x.Op, .int .i64 x.A, .int .i64 x.B] 1 1⟩
theorem k_api_Instr.load {P : Program} {n : Fr} {ρ : Option Nat} {σ : List (Nat × Value)} {w0 : World} {hA hV : Hp} {ps : List HP} {os : List HO} {L l : List Oper} {Q : Cont} {d : Nat} {t tr : TypeId} {x : Operand} {pos : String} {af : Array Edge} {g : Option (Nat × Bool)} {v : Value} (see : Sees w0 hA hV) (i : Nat) {x0 : api_Instr} (hi : ps[i]? = some (elP k_api_Instr v x0)) {dsc : TypeDesc} (hu : P.underlying t = some dsc) (hd : (match dsc with | .struct _ | .array _ _ => true | _ => false) = true) (hs : (P.info? t).map (·.size) = some 3) (hg : gd L σ g = some true) (hn : Nat.blt d n.n = true) (hx : ev σ x = some v)
    (h : SP P n ρ ((d, .agg [.int .u8 x0.Op, .int .i64 x0.A, .int .i64 x0.B].toArray) :: σ) (St w0 hA hV (ps) os) L l Q) : SP P n ρ σ (St w0 hA hV ps os) L (⟨some d, .load t x, tr, pos, af, g⟩ :: l) Q :=
  SP.loadP see i hi hu hd hs hg hn hx fun cs a w ha hw => by
    obtain ⟨m, fr, hN, hO, n1, n2, dj, s1, s2, ap, s⟩ := hw
    obtain rfl := ap.get 0 rfl
    exact h a w ha ⟨m, fr, hN, hO, n1, n2, dj, s1, s2, (fun y hy => ap y (List.mem_cons_of_mem _ hy)), s⟩
structure api_Method where
  Args : (List Int)
  Locals : (List Int)
  Result : Int
  Reads : Bool
  Fuel : Int
  Stack : Int
  Heap : Int
  Code : (List api_Instr)
def api_Method.zero : api_Method := ⟨[], [], 0, false, 0, 0, 0, []⟩
def k_api_Method : Kd api_Method := ⟨8, fun h cs x => ∃ v0 v1 v2 : Value, cs = [v0, v1, .int .u8 x.Result, .bool x.Reads, .int .i64 x.Fuel, .int .i64 x.Stack, .int .i64 x.Heap, v2] ∧ slR (kInt .u8) h v0 x.Args ∧ slR (kInt .u8) h v1 x.Locals ∧ slR k_api_Instr h v2 x.Code,
  fun _ _ _ _ s ⟨v0, v1, v2, e, p0, p1, p2⟩ => ⟨v0, v1, v2, e, slR.mono s p0, slR.mono s p1, slR.mono s p2⟩, fun _ _ _ ⟨v0, v1, v2, e, p0, p1, p2⟩ => by simp [e],
  fun _ _ _ ⟨v0, v1, v2, e, p0, p1, p2⟩ => by subst e; obtain ⟨_, _, rfl, -⟩ := p0; obtain ⟨_, _, rfl, -⟩ := p1; obtain ⟨_, _, rfl, -⟩ := p2; rfl⟩
def o_api_Method : Ko api_Method := ⟨k_api_Method, fun cs x => HO.ex fun v0 : Value => HO.ex fun v1 : Value => HO.ex fun v2 : Value => HO.pand (cs = [v0, v1, .int .u8 x.Result, .bool x.Reads, .int .i64 x.Fuel, .int .i64 x.Stack, .int .i64 x.Heap, v2]) (HO.seps [slO (kInt .u8) 5 v0 x.Args, slO (kInt .u8) 5 v1 x.Locals, slO k_api_Instr 57 v2 x.Code]), fun ⟨v0, v1, v2, e, q⟩ sa sh => ⟨v0, v1, v2, e, slO.read (Sep.get 0 rfl q) sa sh, slO.read (Sep.get 1 rfl q) sa sh, slO.read (Sep.get 2 rfl q) sa sh⟩⟩
theorem k_api_Method.part_Args : Part k_api_Method 0 (kSl (kInt .u8)) (fun x => x.Args) := fun h cs x ⟨v0, v1, v2, e, p0, p1, p2⟩ => ⟨[v0], ⟨v0, rfl, p0⟩, by subst e; exact seg_get [v0, v1, .int .u8 x.Result, .bool x.Reads, .int .i64 x.Fuel, .int .i64 x.Stack, .int .i64 x.Heap, v2] 0 1⟩
theorem k_api_Method.part_Result : Part k_api_Method 2 (kInt .u8) (fun x => x.Result) := fun h cs x ⟨v0, v1, v2, e, p0, p1, p2⟩ => ⟨[.int .u8 x.Result], rfl, by subst e; exact seg_get [v0, v1, .int .u8 x.Result, .bool x.Reads, .int .i64 x.Fuel, .int .i64 x.Stack, .int .i64 x.Heap, v2] 2 1⟩
theorem k_api_Method.part_Reads : Part k_api_Method 3 kBool (fun x => x.Reads) := fun h cs x ⟨v0, v1, v2, e, p0, p1, p2⟩ => ⟨[.bool x.Reads], rfl, by subst e; exact seg_get [v0, v1, .int .u8 x.Result, .bool x.Reads, .int .i64 x.Fuel, .int .i64 x.Stack, .int .i64 x.Heap, v2] 3 1⟩
theorem k_api_Method.part_Code : Part k_api_Method 7 (kSl k_api_Instr) (fun x => x.Code) := fun h cs x ⟨v0, v1, v2, e, p0, p1, p2⟩ => ⟨[v2], ⟨v2, rfl, p2⟩, by subst e; exact seg_get [v0, v1, .int .u8 x.Result, .bool x.Reads, .int .i64 x.Fuel, .int .i64 x.Stack, .int .i64 x.Heap, v2] 7 1⟩
theorem k_api_Method.load {P : Program} {n : Fr} {ρ : Option Nat} {σ : List (Nat × Value)} {w0 : World} {hA hV : Hp} {ps : List HP} {os : List HO} {L l : List Oper} {Q : Cont} {d : Nat} {t tr : TypeId} {x : Operand} {pos : String} {af : Array Edge} {g : Option (Nat × Bool)} {v : Value} (see : Sees w0 hA hV) (i : Nat) {x0 : api_Method} (hi : ps[i]? = some (elP k_api_Method v x0)) {dsc : TypeDesc} (hu : P.underlying t = some dsc) (hd : (match dsc with | .struct _ | .array _ _ => true | _ => false) = true) (hs : (P.info? t).map (·.size) = some 8) (hg : gd L σ g = some true) (hn : Nat.blt d n.n = true) (hx : ev σ x = some v)
    (h : ∀ v0 v1 v2, SP P n ρ ((d, .agg [v0, v1, .int .u8 x0.Result, .bool x0.Reads, .int .i64 x0.Fuel, .int .i64 x0.Stack, .int .i64 x0.Heap, v2].toArray) :: σ) (St w0 hA hV (slP (kInt .u8) v0 x0.Args :: slP (kInt .u8) v1 x0.Locals :: slP k_api_Instr v2 x0.Code :: ps) os) L l Q) : SP P n ρ σ (St w0 hA hV ps os) L (⟨some d, .load t x, tr, pos, af, g⟩ :: l) Q :=
  SP.loadP see i hi hu hd hs hg hn hx fun cs a w ha hw => by
    obtain ⟨m, fr, hN, hO, n1, n2, dj, s1, s2, ap, s⟩ := hw
    obtain ⟨v0, v1, v2, e, p0, p1, p2⟩ := ap.get 0 rfl
    subst e
    exact h v0 v1 v2 a w ha ⟨m, fr, hN, hO, n1, n2, dj, s1, s2, All.cons p0 (All.cons p1 (All.cons p2 ((fun y hy => ap y (List.mem_cons_of_mem _ hy))))), s⟩
structure api_Module where
  Globals : (List api_Value)
  Pool : (List api_Value)
  Methods : (List api_Method)
  Migrate : Int
def api_Module.zero : api_Module := ⟨[], [], [], 0⟩
def k_api_Module : Kd api_Module := ⟨4, fun h cs x => ∃ v0 v1 v2 : Value, cs = [v0, v1, v2, .int .i64 x.Migrate] ∧ slR k_api_Value h v0 x.Globals ∧ slR k_api_Value h v1 x.Pool ∧ slR k_api_Method h v2 x.Methods,
  fun _ _ _ _ s ⟨v0, v1, v2, e, p0, p1, p2⟩ => ⟨v0, v1, v2, e, slR.mono s p0, slR.mono s p1, slR.mono s p2⟩, fun _ _ _ ⟨v0, v1, v2, e, p0, p1, p2⟩ => by simp [e],
  fun _ _ _ ⟨v0, v1, v2, e, p0, p1, p2⟩ => by subst e; obtain ⟨_, _, rfl, -⟩ := p0; obtain ⟨_, _, rfl, -⟩ := p1; obtain ⟨_, _, rfl, -⟩ := p2; rfl⟩
structure api_Cert where
  Fuel : Int
  Stack : Int
  Heap : Int
def api_Cert.zero : api_Cert := ⟨0, 0, 0⟩
def k_api_Cert : Kd api_Cert := ⟨3, fun h cs x => cs = [.int .i64 x.Fuel, .int .i64 x.Stack, .int .i64 x.Heap], fun _ _ _ _ _ h => h, fun _ _ _ h => by simp [h], fun _ _ _ h => by subst h; rfl⟩
structure gauss_Pair where
  e0 : Int
  e1 : Int
def gauss_Pair.zero : gauss_Pair := ⟨0, 0⟩
structure arr199 where
  e0 : Int
  e1 : Int
def arr199.zero : arr199 := ⟨0, 0⟩
def k_arr199 : Kd arr199 := ⟨2, fun h cs x => cs = [.int .i64 x.e0, .int .i64 x.e1], fun _ _ _ _ _ h => h, fun _ _ _ h => by simp [h], fun _ _ _ h => by subst h; rfl⟩
theorem k_arr199.load {P : Program} {n : Fr} {ρ : Option Nat} {σ : List (Nat × Value)} {w0 : World} {hA hV : Hp} {ps : List HP} {os : List HO} {L l : List Oper} {Q : Cont} {d : Nat} {t tr : TypeId} {x : Operand} {pos : String} {af : Array Edge} {g : Option (Nat × Bool)} {v : Value} (see : Sees w0 hA hV) (i : Nat) {x0 : arr199} (hi : ps[i]? = some (elP k_arr199 v x0)) {dsc : TypeDesc} (hu : P.underlying t = some dsc) (hd : (match dsc with | .struct _ | .array _ _ => true | _ => false) = true) (hs : (P.info? t).map (·.size) = some 2) (hg : gd L σ g = some true) (hn : Nat.blt d n.n = true) (hx : ev σ x = some v)
    (h : SP P n ρ ((d, .agg [.int .i64 x0.e0, .int .i64 x0.e1].toArray) :: σ) (St w0 hA hV (ps) os) L l Q) : SP P n ρ σ (St w0 hA hV ps os) L (⟨some d, .load t x, tr, pos, af, g⟩ :: l) Q :=
  SP.loadP see i hi hu hd hs hg hn hx fun cs a w ha hw => by
    obtain ⟨m, fr, hN, hO, n1, n2, dj, s1, s2, ap, s⟩ := hw
    obtain rfl := ap.get 0 rfl
    exact h a w ha ⟨m, fr, hN, hO, n1, n2, dj, s1, s2, (fun y hy => ap y (List.mem_cons_of_mem _ hy)), s⟩
structure types_Row where
  Reached : Bool
  Kinds : (List Int)
def types_Row.zero : types_Row := ⟨false, []⟩
def k_types_Row : Kd types_Row := ⟨2, fun h cs x => ∃ v0 : Value, cs = [.bool x.Reached, v0] ∧ slR (kInt .u8) h v0 x.Kinds,
  fun _ _ _ _ s ⟨v0, e, p0⟩ => ⟨v0, e, slR.mono s p0⟩, fun _ _ _ ⟨v0, e, p0⟩ => by simp [e],
  fun _ _ _ ⟨v0, e, p0⟩ => by subst e; obtain ⟨_, _, rfl, -⟩ := p0; rfl⟩
theorem k_types_Row.load {P : Program} {n : Fr} {ρ : Option Nat} {σ : List (Nat × Value)} {w0 : World} {hA hV : Hp} {ps : List HP} {os : List HO} {L l : List Oper} {Q : Cont} {d : Nat} {t tr : TypeId} {x : Operand} {pos : String} {af : Array Edge} {g : Option (Nat × Bool)} {v : Value} (see : Sees w0 hA hV) (i : Nat) {x0 : types_Row} (hi : ps[i]? = some (elP k_types_Row v x0)) {dsc : TypeDesc} (hu : P.underlying t = some dsc) (hd : (match dsc with | .struct _ | .array _ _ => true | _ => false) = true) (hs : (P.info? t).map (·.size) = some 2) (hg : gd L σ g = some true) (hn : Nat.blt d n.n = true) (hx : ev σ x = some v)
    (h : ∀ v0, SP P n ρ ((d, .agg [.bool x0.Reached, v0].toArray) :: σ) (St w0 hA hV (slP (kInt .u8) v0 x0.Kinds :: ps) os) L l Q) : SP P n ρ σ (St w0 hA hV ps os) L (⟨some d, .load t x, tr, pos, af, g⟩ :: l) Q :=
  SP.loadP see i hi hu hd hs hg hn hx fun cs a w ha hw => by
    obtain ⟨m, fr, hN, hO, n1, n2, dj, s1, s2, ap, s⟩ := hw
    obtain ⟨v0, e, p0⟩ := ap.get 0 rfl
    subst e
    exact h v0 a w ha ⟨m, fr, hN, hO, n1, n2, dj, s1, s2, All.cons p0 ((fun y hy => ap y (List.mem_cons_of_mem _ hy))), s⟩
structure flow_Loop where
  From : Int
  To : Int
  Turns : Int
def flow_Loop.zero : flow_Loop := ⟨0, 0, 0⟩
def k_flow_Loop : Kd flow_Loop := ⟨3, fun h cs x => cs = [.int .i64 x.From, .int .i64 x.To, .int .i64 x.Turns], fun _ _ _ _ _ h => h, fun _ _ _ h => by simp [h], fun _ _ _ h => by subst h; rfl⟩
theorem k_flow_Loop.load {P : Program} {n : Fr} {ρ : Option Nat} {σ : List (Nat × Value)} {w0 : World} {hA hV : Hp} {ps : List HP} {os : List HO} {L l : List Oper} {Q : Cont} {d : Nat} {t tr : TypeId} {x : Operand} {pos : String} {af : Array Edge} {g : Option (Nat × Bool)} {v : Value} (see : Sees w0 hA hV) (i : Nat) {x0 : flow_Loop} (hi : ps[i]? = some (elP k_flow_Loop v x0)) {dsc : TypeDesc} (hu : P.underlying t = some dsc) (hd : (match dsc with | .struct _ | .array _ _ => true | _ => false) = true) (hs : (P.info? t).map (·.size) = some 3) (hg : gd L σ g = some true) (hn : Nat.blt d n.n = true) (hx : ev σ x = some v)
    (h : SP P n ρ ((d, .agg [.int .i64 x0.From, .int .i64 x0.To, .int .i64 x0.Turns].toArray) :: σ) (St w0 hA hV (ps) os) L l Q) : SP P n ρ σ (St w0 hA hV ps os) L (⟨some d, .load t x, tr, pos, af, g⟩ :: l) Q :=
  SP.loadP see i hi hu hd hs hg hn hx fun cs a w ha hw => by
    obtain ⟨m, fr, hN, hO, n1, n2, dj, s1, s2, ap, s⟩ := hw
    obtain rfl := ap.get 0 rfl
    exact h a w ha ⟨m, fr, hN, hO, n1, n2, dj, s1, s2, (fun y hy => ap y (List.mem_cons_of_mem _ hy)), s⟩
structure op_Shape where
  Takes : (List Int)
  Gives : (List Int)
def op_Shape.zero : op_Shape := ⟨[], []⟩
instance sz1 : Siz Tryz.prog 1 1 := ⟨by kernel_rfl⟩
instance sz2 : Siz Tryz.prog 2 1 := ⟨by kernel_rfl⟩
instance sz3 : Siz Tryz.prog 3 1 := ⟨by kernel_rfl⟩
instance sz4 : Siz Tryz.prog 4 1 := ⟨by kernel_rfl⟩
instance sz5 : Siz Tryz.prog 5 1 := ⟨by kernel_rfl⟩
instance sz22 : Siz Tryz.prog 22 1 := ⟨by kernel_rfl⟩
instance sz23 : Siz Tryz.prog 23 1 := ⟨by kernel_rfl⟩
instance sz25 : Siz Tryz.prog 25 4 := ⟨by kernel_rfl⟩
instance sz26 : Siz Tryz.prog 26 1 := ⟨by kernel_rfl⟩
instance sz30 : Siz Tryz.prog 30 1 := ⟨by kernel_rfl⟩
instance sz41 : Siz Tryz.prog 41 1 := ⟨by kernel_rfl⟩
instance sz43 : Siz Tryz.prog 43 8 := ⟨by kernel_rfl⟩
instance sz45 : Siz Tryz.prog 45 3 := ⟨by kernel_rfl⟩
instance sz46 : Siz Tryz.prog 46 1 := ⟨by kernel_rfl⟩
instance sz55 : Siz Tryz.prog 55 3 := ⟨by kernel_rfl⟩
instance sz57 : Siz Tryz.prog 57 3 := ⟨by kernel_rfl⟩
instance sz60 : Siz Tryz.prog 60 1 := ⟨by kernel_rfl⟩
instance sz71 : Siz Tryz.prog 71 1 := ⟨by kernel_rfl⟩
instance sz72 : Siz Tryz.prog 72 1 := ⟨by kernel_rfl⟩
instance sz80 : Siz Tryz.prog 80 1 := ⟨by kernel_rfl⟩
instance sz81 : Siz Tryz.prog 81 6 := ⟨by kernel_rfl⟩
instance sz92 : Siz Tryz.prog 92 1 := ⟨by kernel_rfl⟩
instance sz98 : Siz Tryz.prog 98 3 := ⟨by kernel_rfl⟩
instance sz108 : Siz Tryz.prog 108 2 := ⟨by kernel_rfl⟩
instance sz125 : Siz Tryz.prog 125 1 := ⟨by kernel_rfl⟩
instance sz128 : Siz Tryz.prog 128 2 := ⟨by kernel_rfl⟩
instance sz129 : Siz Tryz.prog 129 400 := ⟨by kernel_rfl⟩
instance sz142 : Siz Tryz.prog 142 3 := ⟨by kernel_rfl⟩
instance sz169 : Siz Tryz.prog 169 1 := ⟨by kernel_rfl⟩
instance sz188 : Siz Tryz.prog 188 4 := ⟨by kernel_rfl⟩
instance sz199 : Siz Tryz.prog 199 2 := ⟨by kernel_rfl⟩
instance sz204 : Siz Tryz.prog 204 2 := ⟨by kernel_rfl⟩
instance sz219 : Siz Tryz.prog 219 2 := ⟨by kernel_rfl⟩
instance inf3 : Inf Tryz.prog 3 [.int .i64 0] 1 8 := ⟨by kernel_rfl⟩
instance inf5 : Inf Tryz.prog 5 [.int .u8 0] 1 1 := ⟨by kernel_rfl⟩
instance inf25 : Inf Tryz.prog 25 [(.slice none 0 0), (.slice none 0 0), (.slice none 0 0), .int .i64 0] 4 80 := ⟨by kernel_rfl⟩
instance inf26 : Inf Tryz.prog 26 [(.slice none 0 0)] 1 24 := ⟨by kernel_rfl⟩
instance inf30 : Inf Tryz.prog 30 [.int .i64 0] 1 8 := ⟨by kernel_rfl⟩
instance inf41 : Inf Tryz.prog 41 [(.slice none 0 0)] 1 24 := ⟨by kernel_rfl⟩
instance inf43 : Inf Tryz.prog 43 [(.slice none 0 0), (.slice none 0 0), .int .u8 0, .bool false, .int .i64 0, .int .i64 0, .int .i64 0, (.slice none 0 0)] 8 104 := ⟨by kernel_rfl⟩
instance inf45 : Inf Tryz.prog 45 [.int .i64 0, .int .i64 0, .int .i64 0] 3 24 := ⟨by kernel_rfl⟩
instance inf55 : Inf Tryz.prog 55 [.int .u8 0, .int .i64 0, .int .i64 0] 3 24 := ⟨by kernel_rfl⟩
instance inf57 : Inf Tryz.prog 57 [.int .u8 0, .int .i64 0, .int .i64 0] 3 24 := ⟨by kernel_rfl⟩
instance inf60 : Inf Tryz.prog 60 [(.slice none 0 0)] 1 24 := ⟨by kernel_rfl⟩
instance inf71 : Inf Tryz.prog 71 [.nilFunc] 1 8 := ⟨by kernel_rfl⟩
instance inf72 : Inf Tryz.prog 72 [.nilFunc] 1 8 := ⟨by kernel_rfl⟩
instance inf80 : Inf Tryz.prog 80 [.nilFunc] 1 8 := ⟨by kernel_rfl⟩
instance inf81 : Inf Tryz.prog 81 [.nilFunc, .nilFunc, .nilFunc, .nilFunc, .nilFunc, .nilFunc] 6 48 := ⟨by kernel_rfl⟩
instance inf108 : Inf Tryz.prog 108 [.int .i64 0, .int .i64 0] 2 16 := ⟨by kernel_rfl⟩
instance inf125 : Inf Tryz.prog 125 [.pointer none] 1 8 := ⟨by kernel_rfl⟩
instance inf128 : Inf Tryz.prog 128 [.bool false, (.slice none 0 0)] 2 32 := ⟨by kernel_rfl⟩
instance inf142 : Inf Tryz.prog 142 [.int .i64 0, .int .i64 0, .int .i64 0] 3 24 := ⟨by kernel_rfl⟩
instance inf166 : Inf Tryz.prog 166 [(.slice none 0 0)] 1 24 := ⟨by kernel_rfl⟩
instance inf169 : Inf Tryz.prog 169 [.int .i64 0] 1 8 := ⟨by kernel_rfl⟩
instance inf190 : Inf Tryz.prog 190 [.int .i64 0, .int .i64 0, .int .i64 0, .int .i64 0, .int .i64 0] 5 40 := ⟨by kernel_rfl⟩
instance inf199 : Inf Tryz.prog 199 [.int .i64 0, .int .i64 0] 2 16 := ⟨by kernel_rfl⟩
instance inf219 : Inf Tryz.prog 219 [(.slice none 0 0), (.slice none 0 0)] 2 48 := ⟨by kernel_rfl⟩
def zz200_2384 : List Value := (List.replicate 200 [.bool false, (.slice none 0 0)]).flatten
instance bt25 : Shp Tryz.prog 25 [(.slice none 0 0), (.slice none 0 0), (.slice none 0 0), .int .i64 0] [(0, 1), (1, 1), (2, 1), (3, 1)] := ⟨by kernel_rfl⟩
instance bt43 : Shp Tryz.prog 43 [(.slice none 0 0), (.slice none 0 0), .int .u8 0, .bool false, .int .i64 0, .int .i64 0, .int .i64 0, (.slice none 0 0)] [(0, 1), (1, 1), (2, 1), (3, 1), (4, 1), (5, 1), (6, 1), (7, 1)] := ⟨by kernel_rfl⟩
instance bt45 : Shp Tryz.prog 45 [.int .i64 0, .int .i64 0, .int .i64 0] [(0, 1), (1, 1), (2, 1)] := ⟨by kernel_rfl⟩
instance bt55 : Shp Tryz.prog 55 [.int .u8 0, .int .i64 0, .int .i64 0] [(0, 1), (1, 1), (2, 1)] := ⟨by kernel_rfl⟩
instance bt57 : Shp Tryz.prog 57 [.int .u8 0, .int .i64 0, .int .i64 0] [(0, 1), (1, 1), (2, 1)] := ⟨by kernel_rfl⟩
instance bt77 : Shp Tryz.prog 77 [.nilFunc, .nilFunc, .nilFunc, .nilFunc, .nilFunc] [(0, 1), (1, 1), (2, 1), (3, 1), (4, 1)] := ⟨by kernel_rfl⟩
instance bt80 : Shp Tryz.prog 80 [.nilFunc] [(0, 1)] := ⟨by kernel_rfl⟩
instance bt81 : Shp Tryz.prog 81 [.nilFunc, .nilFunc, .nilFunc, .nilFunc, .nilFunc, .nilFunc] [(0, 1), (1, 1), (2, 1), (3, 1), (4, 1), (5, 1)] := ⟨by kernel_rfl⟩
instance bt100 : Shp Tryz.prog 100 [.int .i64 0, .int .i64 0, .int .i64 0, (.slice none 0 0), (.slice none 0 0), .int .u8 0, .bool false, .int .i64 0, .int .i64 0, .int .i64 0, (.slice none 0 0), (.slice none 0 0)] [(0, 3), (3, 8), (11, 1)] := ⟨by kernel_rfl⟩
instance bt108 : Shp Tryz.prog 108 [.int .i64 0, .int .i64 0] [(0, 1), (1, 1)] := ⟨by kernel_rfl⟩
instance bt109 : Shp Tryz.prog 109 [.int .i64 0, .int .i64 0, .int .i64 0, .int .i64 0, .int .i64 0, .int .i64 0] [(0, 2), (2, 2), (4, 2)] := ⟨by kernel_rfl⟩
instance bt128 : Shp Tryz.prog 128 [.bool false, (.slice none 0 0)] [(0, 1), (1, 1)] := ⟨by kernel_rfl⟩
instance bt131 : Shp Tryz.prog 131 ([(.slice none 0 0), (.slice none 0 0), (.slice none 0 0), .int .i64 0, (.slice none 0 0), (.slice none 0 0), .int .u8 0, .bool false, .int .i64 0, .int .i64 0, .int .i64 0, (.slice none 0 0), (.slice none 0 0)] ++ zz200_2384) [(0, 4), (4, 8), (12, 1), (13, 400)] := ⟨by kernel_rfl⟩
instance bt142 : Shp Tryz.prog 142 [.int .i64 0, .int .i64 0, .int .i64 0] [(0, 1), (1, 1), (2, 1)] := ⟨by kernel_rfl⟩
instance bt147 : Shp Tryz.prog 147 [.int .i64 0, .int .i64 0] [(0, 1), (1, 1)] := ⟨by kernel_rfl⟩
instance bt161 : Shp Tryz.prog 161 [(.slice none 0 0), .int .i64 0, .int .i64 0] [(0, 1), (1, 1), (2, 1)] := ⟨by kernel_rfl⟩
instance bt169 : Shp Tryz.prog 169 [.int .i64 0] [(0, 1)] := ⟨by kernel_rfl⟩
instance bt173 : Shp Tryz.prog 173 [(.slice none 0 0), .int .i64 0] [(0, 1), (1, 1)] := ⟨by kernel_rfl⟩
instance bt204 : Shp Tryz.prog 204 [.int .i64 0, .int .i64 0] [(0, 1), (1, 1)] := ⟨by kernel_rfl⟩
instance bt219 : Shp Tryz.prog 219 [(.slice none 0 0), (.slice none 0 0)] [(0, 1), (1, 1)] := ⟨by kernel_rfl⟩
theorem eqA55 (d : Nat) (w : World) (x0 y0 : Int) (x1 y1 : Int) (x2 y2 : Int) : (Op.equalIn (d + 2) 55 (.agg #[.int .u8 x0, .int .i64 x1, .int .i64 x2]) (.agg #[.int .u8 y0, .int .i64 y1, .int .i64 y2])).run Tryz.prog w = .ok (x0 == y0 && (x1 == y1 && (x2 == y2))) w := by
  refine eqA_of Tryz.underlying55 (by kernel_rfl) ?_
  refine eqf_cons (by rfl) (run_part1 Tryz.underlying5 rfl rfl) (run_part1 Tryz.underlying5 rfl rfl) (run_equalIn_int w _ 5 _ _ _ _ Tryz.underlying5) ?_
  refine eqf_cons (by rfl) (run_part1 Tryz.underlying2 rfl rfl) (run_part1 Tryz.underlying2 rfl rfl) (run_equalIn_int w _ 2 _ _ _ _ Tryz.underlying2) ?_
  exact eqf_last (by rfl) (run_part1 Tryz.underlying2 rfl rfl) (run_part1 Tryz.underlying2 rfl rfl) (run_equalIn_int w _ 2 _ _ _ _ Tryz.underlying2)
theorem eqA45 (d : Nat) (w : World) (x0 y0 : Int) (x1 y1 : Int) (x2 y2 : Int) : (Op.equalIn (d + 2) 45 (.agg #[.int .i64 x0, .int .i64 x1, .int .i64 x2]) (.agg #[.int .i64 y0, .int .i64 y1, .int .i64 y2])).run Tryz.prog w = .ok (x0 == y0 && (x1 == y1 && (x2 == y2))) w := by
  refine eqA_of Tryz.underlying45 (by kernel_rfl) ?_
  refine eqf_cons (by rfl) (run_part1 Tryz.underlying3 rfl rfl) (run_part1 Tryz.underlying3 rfl rfl) (run_equalIn_int w _ 3 _ _ _ _ Tryz.underlying3) ?_
  refine eqf_cons (by rfl) (run_part1 Tryz.underlying3 rfl rfl) (run_part1 Tryz.underlying3 rfl rfl) (run_equalIn_int w _ 3 _ _ _ _ Tryz.underlying3) ?_
  exact eqf_last (by rfl) (run_part1 Tryz.underlying3 rfl rfl) (run_part1 Tryz.underlying3 rfl rfl) (run_equalIn_int w _ 3 _ _ _ _ Tryz.underlying3)
theorem eqA57 (d : Nat) (w : World) (x0 y0 : Int) (x1 y1 : Int) (x2 y2 : Int) : (Op.equalIn (d + 2) 57 (.agg #[.int .u8 x0, .int .i64 x1, .int .i64 x2]) (.agg #[.int .u8 y0, .int .i64 y1, .int .i64 y2])).run Tryz.prog w = .ok (x0 == y0 && (x1 == y1 && (x2 == y2))) w := by
  refine eqA_of Tryz.underlying57 (by kernel_rfl) ?_
  refine eqf_cons (by rfl) (run_part1 Tryz.underlying5 rfl rfl) (run_part1 Tryz.underlying5 rfl rfl) (run_equalIn_int w _ 5 _ _ _ _ Tryz.underlying5) ?_
  refine eqf_cons (by rfl) (run_part1 Tryz.underlying3 rfl rfl) (run_part1 Tryz.underlying3 rfl rfl) (run_equalIn_int w _ 3 _ _ _ _ Tryz.underlying3) ?_
  exact eqf_last (by rfl) (run_part1 Tryz.underlying3 rfl rfl) (run_part1 Tryz.underlying3 rfl rfl) (run_equalIn_int w _ 3 _ _ _ _ Tryz.underlying3)
instance fn11 : Fnc Tryz.prog 11 := .f Tryz.func11
instance fn41 : Fnc Tryz.prog 41 := .f Tryz.func41
instance fn136 : Fnc Tryz.prog 136 := .f Tryz.func136
instance fn100 : Fnc Tryz.prog 100 := .f Tryz.func100
instance fn99 : Fnc Tryz.prog 99 := .f Tryz.func99
instance fn88 : Fnc Tryz.prog 88 := .f Tryz.func88
instance fn87 : Fnc Tryz.prog 87 := .f Tryz.func87
instance fn132 : Fnc Tryz.prog 132 := .f Tryz.func132
instance fn86 : Fnc Tryz.prog 86 := .f Tryz.func86
instance fn53 : Fnc Tryz.prog 53 := .f Tryz.func53
instance fn94 : Fnc Tryz.prog 94 := .f Tryz.func94
instance fn89 : Fnc Tryz.prog 89 := .f Tryz.func89
instance fn93 : Fnc Tryz.prog 93 := .f Tryz.func93
instance fn56 : Fnc Tryz.prog 56 := .f Tryz.func56
instance fn54 : Fnc Tryz.prog 54 := .f Tryz.func54
instance fn27 : Fnc Tryz.prog 27 := .f Tryz.func27
instance fn118 : Fnc Tryz.prog 118 := .f Tryz.func118
instance fn77 : Fnc Tryz.prog 77 := .f Tryz.func77
instance fn90 : Fnc Tryz.prog 90 := .f Tryz.func90
instance fn162 : Fnc Tryz.prog 162 := .f Tryz.func162
instance fn133 : Fnc Tryz.prog 133 := .f Tryz.func133
instance fn91 : Fnc Tryz.prog 91 := .f Tryz.func91
instance fn92 : Fnc Tryz.prog 92 := .f Tryz.func92
instance fn55 : Fnc Tryz.prog 55 := .f Tryz.func55
instance fn28 : Fnc Tryz.prog 28 := .f Tryz.func28
instance fn107 : Fnc Tryz.prog 107 := .f Tryz.func107
instance fn134 : Fnc Tryz.prog 134 := .f Tryz.func134
instance fn97 : Fnc Tryz.prog 97 := .f Tryz.func97
instance fn96 : Fnc Tryz.prog 96 := .f Tryz.func96
instance fn95 : Fnc Tryz.prog 95 := .f Tryz.func95
instance fn119 : Fnc Tryz.prog 119 := .f Tryz.func119
instance fn78 : Fnc Tryz.prog 78 := .f Tryz.func78
instance fn57 : Fnc Tryz.prog 57 := .f Tryz.func57
instance fn58 : Fnc Tryz.prog 58 := .f Tryz.func58
instance fn29 : Fnc Tryz.prog 29 := .f Tryz.func29
instance fn16 : Fnc Tryz.prog 16 := .f Tryz.func16
instance fn7 : Fnc Tryz.prog 7 := .f Tryz.func7
instance fn65 : Fnc Tryz.prog 65 := .f Tryz.func65
instance fn163 : Fnc Tryz.prog 163 := .f Tryz.func163
instance fn137 : Fnc Tryz.prog 137 := .f Tryz.func137
instance fn108 : Fnc Tryz.prog 108 := .f Tryz.func108
instance fn66 : Fnc Tryz.prog 66 := .f Tryz.func66
instance fn123 : Fnc Tryz.prog 123 := .f Tryz.func123
instance fn124 : Fnc Tryz.prog 124 := .f Tryz.func124
instance fn125 : Fnc Tryz.prog 125 := .f Tryz.func125
instance fn126 : Fnc Tryz.prog 126 := .f Tryz.func126
instance fn156 : Fnc Tryz.prog 156 := .f Tryz.func156
instance fn155 : Fnc Tryz.prog 155 := .f Tryz.func155
instance fn173 : Fnc Tryz.prog 173 := .f Tryz.func173
instance fn157 : Fnc Tryz.prog 157 := .f Tryz.func157
instance fn127 : Fnc Tryz.prog 127 := .f Tryz.func127
instance fn128 : Fnc Tryz.prog 128 := .f Tryz.func128
instance fn84 : Fnc Tryz.prog 84 := .f Tryz.func84
instance fn76 : Fnc Tryz.prog 76 := .f Tryz.func76
instance fn80 : Fnc Tryz.prog 80 := .f Tryz.func80
instance fn79 : Fnc Tryz.prog 79 := .f Tryz.func79
instance fn183 : Fnc Tryz.prog 183 := .f Tryz.func183
instance fn184 : Fnc Tryz.prog 184 := .f Tryz.func184
instance fn169 : Fnc Tryz.prog 169 := .f Tryz.func169
instance fn83 : Fnc Tryz.prog 83 := .f Tryz.func83
instance fn170 : Fnc Tryz.prog 170 := .f Tryz.func170
instance fn171 : Fnc Tryz.prog 171 := .f Tryz.func171
instance fn131 : Fnc Tryz.prog 131 := .f Tryz.func131
instance fn172 : Fnc Tryz.prog 172 := .f Tryz.func172
instance fn152 : Fnc Tryz.prog 152 := .f Tryz.func152
instance fn120 : Fnc Tryz.prog 120 := .f Tryz.func120
instance fn153 : Fnc Tryz.prog 153 := .f Tryz.func153
instance fn154 : Fnc Tryz.prog 154 := .f Tryz.func154
instance fn73 : Fnc Tryz.prog 73 := .f Tryz.func73
instance fn114 : Fnc Tryz.prog 114 := .f Tryz.func114
instance fn121 : Fnc Tryz.prog 121 := .f Tryz.func121
instance fn122 : Fnc Tryz.prog 122 := .f Tryz.func122
instance fn81 : Fnc Tryz.prog 81 := .f Tryz.func81
instance fn82 : Fnc Tryz.prog 82 := .f Tryz.func82
instance fn46 : Fnc Tryz.prog 46 := .f Tryz.func46
instance fn24 : Fnc Tryz.prog 24 := .f Tryz.func24
instance fn22 : Fnc Tryz.prog 22 := .f Tryz.func22
instance fn67 : Fnc Tryz.prog 67 := .f Tryz.func67
instance fn113 : Fnc Tryz.prog 113 := .f Tryz.func113
instance fn140 : Fnc Tryz.prog 140 := .f Tryz.func140
instance fn71 : Fnc Tryz.prog 71 := .f Tryz.func71
instance fn42 : Fnc Tryz.prog 42 := .f Tryz.func42
instance fn44 : Fnc Tryz.prog 44 := .f Tryz.func44
instance fn43 : Fnc Tryz.prog 43 := .f Tryz.func43
instance fn75 : Fnc Tryz.prog 75 := .f Tryz.func75
instance fn45 : Fnc Tryz.prog 45 := .f Tryz.func45
instance fn23 : Fnc Tryz.prog 23 := .f Tryz.func23
instance fn68 : Fnc Tryz.prog 68 := .f Tryz.func68
instance fn85 : Fnc Tryz.prog 85 := .f Tryz.func85
instance fn47 : Fnc Tryz.prog 47 := .f Tryz.func47
instance fn49 : Fnc Tryz.prog 49 := .f Tryz.func49
instance fn48 : Fnc Tryz.prog 48 := .f Tryz.func48
instance fn50 : Fnc Tryz.prog 50 := .f Tryz.func50
instance fn51 : Fnc Tryz.prog 51 := .f Tryz.func51
instance fn25 : Fnc Tryz.prog 25 := .f Tryz.func25
instance fn52 : Fnc Tryz.prog 52 := .f Tryz.func52
instance fn26 : Fnc Tryz.prog 26 := .f Tryz.func26
instance fn15 : Fnc Tryz.prog 15 := .f Tryz.func15
instance fn69 : Fnc Tryz.prog 69 := .f Tryz.func69
instance fn109 : Fnc Tryz.prog 109 := .f Tryz.func109
instance fn138 : Fnc Tryz.prog 138 := .f Tryz.func138
instance fn111 : Fnc Tryz.prog 111 := .f Tryz.func111
instance fn110 : Fnc Tryz.prog 110 := .f Tryz.func110
instance fn139 : Fnc Tryz.prog 139 := .f Tryz.func139
instance fn112 : Fnc Tryz.prog 112 := .f Tryz.func112
instance fn70 : Fnc Tryz.prog 70 := .f Tryz.func70
instance fn21 : Fnc Tryz.prog 21 := .f Tryz.func21
instance fn12 : Fnc Tryz.prog 12 := .f Tryz.func12
instance fn6 : Fnc Tryz.prog 6 := .f Tryz.func6
instance fn60 : Fnc Tryz.prog 60 := .f Tryz.func60
instance fn61 : Fnc Tryz.prog 61 := .f Tryz.func61
instance fn31 : Fnc Tryz.prog 31 := .f Tryz.func31
instance fn135 : Fnc Tryz.prog 135 := .f Tryz.func135
instance fn98 : Fnc Tryz.prog 98 := .f Tryz.func98
instance fn62 : Fnc Tryz.prog 62 := .f Tryz.func62
instance fn34 : Fnc Tryz.prog 34 := .f Tryz.func34
instance fn102 : Fnc Tryz.prog 102 := .f Tryz.func102
instance fn101 : Fnc Tryz.prog 101 := .f Tryz.func101
instance fn63 : Fnc Tryz.prog 63 := .f Tryz.func63
instance fn64 : Fnc Tryz.prog 64 := .f Tryz.func64
instance fn38 : Fnc Tryz.prog 38 := .f Tryz.func38
instance fn17 : Fnc Tryz.prog 17 := .f Tryz.func17
instance fn8 : Fnc Tryz.prog 8 := .f Tryz.func8
instance fn13 : Fnc Tryz.prog 13 := .f Tryz.func13
instance fn4 : Fnc Tryz.prog 4 := .f Tryz.func4
instance fn14 : Fnc Tryz.prog 14 := .f Tryz.func14
instance fn5 : Fnc Tryz.prog 5 := .f Tryz.func5
instance fn18 : Fnc Tryz.prog 18 := .f Tryz.func18
instance fn40 : Fnc Tryz.prog 40 := .f Tryz.func40
instance fn19 : Fnc Tryz.prog 19 := .f Tryz.func19
instance fn20 : Fnc Tryz.prog 20 := .f Tryz.func20
instance fn9 : Fnc Tryz.prog 9 := .f Tryz.func9
instance fn10 : Fnc Tryz.prog 10 := .f Tryz.func10
instance fn3 : Fnc Tryz.prog 3 := .f Tryz.func3
instance fn30 : Fnc Tryz.prog 30 := .f Tryz.func30
instance fn32 : Fnc Tryz.prog 32 := .f Tryz.func32
instance fn33 : Fnc Tryz.prog 33 := .f Tryz.func33
instance fn35 : Fnc Tryz.prog 35 := .f Tryz.func35
instance fn36 : Fnc Tryz.prog 36 := .f Tryz.func36
instance fn37 : Fnc Tryz.prog 37 := .f Tryz.func37
instance fn39 : Fnc Tryz.prog 39 := .f Tryz.func39
instance fn59 : Fnc Tryz.prog 59 := .f Tryz.func59
instance fn103 : Fnc Tryz.prog 103 := .f Tryz.func103
instance fn104 : Fnc Tryz.prog 104 := .f Tryz.func104
instance fn105 : Fnc Tryz.prog 105 := .f Tryz.func105
instance fn106 : Fnc Tryz.prog 106 := .f Tryz.func106
def tab0 : List Int := [0, 8, 6]
def tab1 : List arr199 := [(⟨0, 0⟩ : arr199), (⟨0, 31⟩ : arr199), (⟨0, 15⟩ : arr199), (⟨0, 3⟩ : arr199), (⟨0, 1024⟩ : arr199), (⟨0, 199⟩ : arr199), (⟨0, 15⟩ : arr199), (⟨0, 255⟩ : arr199), (⟨1, 100⟩ : arr199)]
def un1 := Und.mk Tryz.underlying1
def un2 := Und.mk Tryz.underlying2
def un3 := Und.mk Tryz.underlying3
def un4 := Und.mk Tryz.underlying4
def un5 := Und.mk Tryz.underlying5
def un9 := Und.mk Tryz.underlying9
def un20 := Und.mk Tryz.underlying20
def un22 := Und.mk Tryz.underlying22
def un23 := Und.mk Tryz.underlying23
def un25 := Und.mk Tryz.underlying25
def un26 := Und.mk Tryz.underlying26
def un29 := Und.mk Tryz.underlying29
def un30 := Und.mk Tryz.underlying30
def un41 := Und.mk Tryz.underlying41
def un43 := Und.mk Tryz.underlying43
def un45 := Und.mk Tryz.underlying45
def un46 := Und.mk Tryz.underlying46
def un55 := Und.mk Tryz.underlying55
def un57 := Und.mk Tryz.underlying57
def un60 := Und.mk Tryz.underlying60
def un71 := Und.mk Tryz.underlying71
def un72 := Und.mk Tryz.underlying72
def un77 := Und.mk Tryz.underlying77
def un80 := Und.mk Tryz.underlying80
def un81 := Und.mk Tryz.underlying81
def un83 := Und.mk Tryz.underlying83
def un86 := Und.mk Tryz.underlying86
def un92 := Und.mk Tryz.underlying92
def un98 := Und.mk Tryz.underlying98
def un100 := Und.mk Tryz.underlying100
def un108 := Und.mk Tryz.underlying108
def un109 := Und.mk Tryz.underlying109
def un114 := Und.mk Tryz.underlying114
def un125 := Und.mk Tryz.underlying125
def un128 := Und.mk Tryz.underlying128
def un129 := Und.mk Tryz.underlying129
def un131 := Und.mk Tryz.underlying131
def un137 := Und.mk Tryz.underlying137
def un142 := Und.mk Tryz.underlying142
def un147 := Und.mk Tryz.underlying147
def un153 := Und.mk Tryz.underlying153
def un161 := Und.mk Tryz.underlying161
def un166 := Und.mk Tryz.underlying166
def un169 := Und.mk Tryz.underlying169
def un173 := Und.mk Tryz.underlying173
def un181 := Und.mk Tryz.underlying181
def un182 := Und.mk Tryz.underlying182
def un188 := Und.mk Tryz.underlying188
def un190 := Und.mk Tryz.underlying190
def un199 := Und.mk Tryz.underlying199
def un200 := Und.mk Tryz.underlying200
def un204 := Und.mk Tryz.underlying204
def un219 := Und.mk Tryz.underlying219
def fl25_0 : Fld Tryz.prog 25 0 0 := .f Tryz.underlying25 sz22
def fl25_1 : Fld Tryz.prog 25 1 1 := .f Tryz.underlying25 sz22
def fl25_2 : Fld Tryz.prog 25 2 2 := .f Tryz.underlying25 sz23
def fl25_3 : Fld Tryz.prog 25 3 3 := .f Tryz.underlying25 sz3
def fl43_0 : Fld Tryz.prog 43 0 0 := .f Tryz.underlying43 sz26
def fl43_1 : Fld Tryz.prog 43 1 1 := .f Tryz.underlying43 sz26
def fl43_2 : Fld Tryz.prog 43 2 2 := .f Tryz.underlying43 sz5
def fl43_3 : Fld Tryz.prog 43 3 3 := .f Tryz.underlying43 sz4
def fl43_4 : Fld Tryz.prog 43 4 4 := .f Tryz.underlying43 sz3
def fl43_5 : Fld Tryz.prog 43 5 5 := .f Tryz.underlying43 sz3
def fl43_6 : Fld Tryz.prog 43 6 6 := .f Tryz.underlying43 sz3
def fl43_7 : Fld Tryz.prog 43 7 7 := .f Tryz.underlying43 sz41
def fl45_0 : Fld Tryz.prog 45 0 0 := .f Tryz.underlying45 sz3
def fl45_1 : Fld Tryz.prog 45 1 1 := .f Tryz.underlying45 sz3
def fl45_2 : Fld Tryz.prog 45 2 2 := .f Tryz.underlying45 sz3
def fl55_0 : Fld Tryz.prog 55 0 0 := .f Tryz.underlying55 sz5
def fl55_1 : Fld Tryz.prog 55 1 1 := .f Tryz.underlying55 sz2
def fl55_2 : Fld Tryz.prog 55 2 2 := .f Tryz.underlying55 sz2
def fl57_0 : Fld Tryz.prog 57 0 0 := .f Tryz.underlying57 sz5
def fl57_1 : Fld Tryz.prog 57 1 1 := .f Tryz.underlying57 sz3
def fl57_2 : Fld Tryz.prog 57 2 2 := .f Tryz.underlying57 sz3
def fl80_0 : Fld Tryz.prog 80 0 0 := .f Tryz.underlying80 sz46
def fl98_0 : Fld Tryz.prog 98 0 0 := .f Tryz.underlying98 sz45
def fl100_0 : Fld Tryz.prog 100 0 0 := .f Tryz.underlying100 sz98
def fl100_1 : Fld Tryz.prog 100 1 3 := .f Tryz.underlying100 sz43
def fl100_2 : Fld Tryz.prog 100 2 11 := .f Tryz.underlying100 sz92
def fl108_0 : Fld Tryz.prog 108 0 0 := .f Tryz.underlying108 sz3
def fl108_1 : Fld Tryz.prog 108 1 1 := .f Tryz.underlying108 sz3
def fl128_0 : Fld Tryz.prog 128 0 0 := .f Tryz.underlying128 sz4
def fl128_1 : Fld Tryz.prog 128 1 1 := .f Tryz.underlying128 sz26
def fl131_0 : Fld Tryz.prog 131 0 0 := .f Tryz.underlying131 sz25
def fl131_1 : Fld Tryz.prog 131 1 4 := .f Tryz.underlying131 sz43
def fl131_2 : Fld Tryz.prog 131 2 12 := .f Tryz.underlying131 sz26
def fl131_3 : Fld Tryz.prog 131 3 13 := .f Tryz.underlying131 sz129
def fl142_0 : Fld Tryz.prog 142 0 0 := .f Tryz.underlying142 sz3
def fl142_1 : Fld Tryz.prog 142 1 1 := .f Tryz.underlying142 sz3
def fl142_2 : Fld Tryz.prog 142 2 2 := .f Tryz.underlying142 sz3
def fl161_0 : Fld Tryz.prog 161 0 0 := .f Tryz.underlying161 sz26
def fl161_1 : Fld Tryz.prog 161 1 1 := .f Tryz.underlying161 sz3
def fl161_2 : Fld Tryz.prog 161 2 2 := .f Tryz.underlying161 sz30
def fl166_0 : Fld Tryz.prog 166 0 0 := .f Tryz.underlying166 sz26
def fl169_0 : Fld Tryz.prog 169 0 0 := .f Tryz.underlying169 sz30
def fl173_0 : Fld Tryz.prog 173 0 0 := .f Tryz.underlying173 sz26
def fl173_1 : Fld Tryz.prog 173 1 1 := .f Tryz.underlying173 sz3
def fl190_0 : Fld Tryz.prog 190 0 0 := .f Tryz.underlying190 sz188
def fl190_1 : Fld Tryz.prog 190 1 4 := .f Tryz.underlying190 sz3
def fl219_0 : Fld Tryz.prog 219 0 0 := .f Tryz.underlying219 sz26
def fl219_1 : Fld Tryz.prog 219 1 1 := .f Tryz.underlying219 sz26
def rs3 := Rsl.mk Tryz.results3
def rs4 := Rsl.mk Tryz.results4
def rs5 := Rsl.mk Tryz.results5
def rs6 := Rsl.mk Tryz.results6
def rs7 := Rsl.mk Tryz.results7
def rs8 := Rsl.mk Tryz.results8
def rs9 := Rsl.mk Tryz.results9
def rs10 := Rsl.mk Tryz.results10
def rs11 := Rsl.mk Tryz.results11
def rs12 := Rsl.mk Tryz.results12
def rs13 := Rsl.mk Tryz.results13
def rs14 := Rsl.mk Tryz.results14
def rs15 := Rsl.mk Tryz.results15
def rs16 := Rsl.mk Tryz.results16
def rs17 := Rsl.mk Tryz.results17
def rs18 := Rsl.mk Tryz.results18
def rs19 := Rsl.mk Tryz.results19
def rs20 := Rsl.mk Tryz.results20
def rs21 := Rsl.mk Tryz.results21
def rs22 := Rsl.mk Tryz.results22
def rs23 := Rsl.mk Tryz.results23
def rs24 := Rsl.mk Tryz.results24
def rs25 := Rsl.mk Tryz.results25
def rs26 := Rsl.mk Tryz.results26
def rs27 := Rsl.mk Tryz.results27
def rs28 := Rsl.mk Tryz.results28
def rs29 := Rsl.mk Tryz.results29
def rs30 := Rsl.mk Tryz.results30
def rs31 := Rsl.mk Tryz.results31
def rs32 := Rsl.mk Tryz.results32
def rs33 := Rsl.mk Tryz.results33
def rs34 := Rsl.mk Tryz.results34
def rs35 := Rsl.mk Tryz.results35
def rs36 := Rsl.mk Tryz.results36
def rs37 := Rsl.mk Tryz.results37
def rs38 := Rsl.mk Tryz.results38
def rs39 := Rsl.mk Tryz.results39
def rs40 := Rsl.mk Tryz.results40
def rs41 := Rsl.mk Tryz.results41
def rs42 := Rsl.mk Tryz.results42
def rs45 := Rsl.mk Tryz.results45
def rs46 := Rsl.mk Tryz.results46
def rs47 := Rsl.mk Tryz.results47
def rs48 := Rsl.mk Tryz.results48
def rs49 := Rsl.mk Tryz.results49
def rs50 := Rsl.mk Tryz.results50
def rs51 := Rsl.mk Tryz.results51
def rs52 := Rsl.mk Tryz.results52
def rs53 := Rsl.mk Tryz.results53
def rs54 := Rsl.mk Tryz.results54
def rs55 := Rsl.mk Tryz.results55
def rs56 := Rsl.mk Tryz.results56
def rs57 := Rsl.mk Tryz.results57
def rs58 := Rsl.mk Tryz.results58
def rs59 := Rsl.mk Tryz.results59
def rs60 := Rsl.mk Tryz.results60
def rs61 := Rsl.mk Tryz.results61
def rs62 := Rsl.mk Tryz.results62
def rs63 := Rsl.mk Tryz.results63
def rs64 := Rsl.mk Tryz.results64
def rs65 := Rsl.mk Tryz.results65
def rs66 := Rsl.mk Tryz.results66
def rs67 := Rsl.mk Tryz.results67
def rs68 := Rsl.mk Tryz.results68
def rs69 := Rsl.mk Tryz.results69
def rs70 := Rsl.mk Tryz.results70
def rs71 := Rsl.mk Tryz.results71
def rs75 := Rsl.mk Tryz.results75
def rs76 := Rsl.mk Tryz.results76
def rs77 := Rsl.mk Tryz.results77
def rs78 := Rsl.mk Tryz.results78
def rs79 := Rsl.mk Tryz.results79
def rs80 := Rsl.mk Tryz.results80
def rs81 := Rsl.mk Tryz.results81
def rs82 := Rsl.mk Tryz.results82
def rs83 := Rsl.mk Tryz.results83
def rs84 := Rsl.mk Tryz.results84
def rs85 := Rsl.mk Tryz.results85
def rs86 := Rsl.mk Tryz.results86
def rs87 := Rsl.mk Tryz.results87
def rs88 := Rsl.mk Tryz.results88
def rs89 := Rsl.mk Tryz.results89
def rs90 := Rsl.mk Tryz.results90
def rs91 := Rsl.mk Tryz.results91
def rs92 := Rsl.mk Tryz.results92
def rs93 := Rsl.mk Tryz.results93
def rs94 := Rsl.mk Tryz.results94
def rs95 := Rsl.mk Tryz.results95
def rs96 := Rsl.mk Tryz.results96
def rs97 := Rsl.mk Tryz.results97
def rs98 := Rsl.mk Tryz.results98
def rs99 := Rsl.mk Tryz.results99
def rs100 := Rsl.mk Tryz.results100
def rs101 := Rsl.mk Tryz.results101
def rs102 := Rsl.mk Tryz.results102
def rs103 := Rsl.mk Tryz.results103
def rs104 := Rsl.mk Tryz.results104
def rs105 := Rsl.mk Tryz.results105
def rs106 := Rsl.mk Tryz.results106
def rs107 := Rsl.mk Tryz.results107
def rs108 := Rsl.mk Tryz.results108
def rs109 := Rsl.mk Tryz.results109
def rs110 := Rsl.mk Tryz.results110
def rs111 := Rsl.mk Tryz.results111
def rs112 := Rsl.mk Tryz.results112
def rs113 := Rsl.mk Tryz.results113
def rs119 := Rsl.mk Tryz.results119
def rs120 := Rsl.mk Tryz.results120
def rs121 := Rsl.mk Tryz.results121
def rs122 := Rsl.mk Tryz.results122
def rs123 := Rsl.mk Tryz.results123
def rs124 := Rsl.mk Tryz.results124
def rs125 := Rsl.mk Tryz.results125
def rs126 := Rsl.mk Tryz.results126
def rs127 := Rsl.mk Tryz.results127
def rs132 := Rsl.mk Tryz.results132
def rs133 := Rsl.mk Tryz.results133
def rs134 := Rsl.mk Tryz.results134
def rs135 := Rsl.mk Tryz.results135
def rs136 := Rsl.mk Tryz.results136
def rs137 := Rsl.mk Tryz.results137
def rs138 := Rsl.mk Tryz.results138
def rs139 := Rsl.mk Tryz.results139
def rs140 := Rsl.mk Tryz.results140
def rs152 := Rsl.mk Tryz.results152
def rs153 := Rsl.mk Tryz.results153
def rs154 := Rsl.mk Tryz.results154
def rs155 := Rsl.mk Tryz.results155
def rs156 := Rsl.mk Tryz.results156
def rs157 := Rsl.mk Tryz.results157
def rs162 := Rsl.mk Tryz.results162
def rs163 := Rsl.mk Tryz.results163
def rs169 := Rsl.mk Tryz.results169
def rs170 := Rsl.mk Tryz.results170
def rs172 := Rsl.mk Tryz.results172
def rs173 := Rsl.mk Tryz.results173
def rs183 := Rsl.mk Tryz.results183
def rs184 := Rsl.mk Tryz.results184
attribute [reducible, instance] un1 un2 un3 un4 un5 un9 un20 un22 un23 un25 un26 un29 un30 un41 un43 un45 un46 un55 un57 un60 un71 un72 un77 un80 un81 un83 un86 un92 un98 un100 un108 un109 un114 un125 un128 un129 un131 un137 un142 un147 un153 un161 un166 un169 un173 un181 un182 un188 un190 un199 un200 un204 un219 fl25_0 fl25_1 fl25_2 fl25_3 fl43_0 fl43_1 fl43_2 fl43_3 fl43_4 fl43_5 fl43_6 fl43_7 fl45_0 fl45_1 fl45_2 fl55_0 fl55_1 fl55_2 fl57_0 fl57_1 fl57_2 fl80_0 fl98_0 fl100_0 fl100_1 fl100_2 fl108_0 fl108_1 fl128_0 fl128_1 fl131_0 fl131_1 fl131_2 fl131_3 fl142_0 fl142_1 fl142_2 fl161_0 fl161_1 fl161_2 fl166_0 fl169_0 fl173_0 fl173_1 fl190_0 fl190_1 fl219_0 fl219_1 rs3 rs4 rs5 rs6 rs7 rs8 rs9 rs10 rs11 rs12 rs13 rs14 rs15 rs16 rs17 rs18 rs19 rs20 rs21 rs22 rs23 rs24 rs25 rs26 rs27 rs28 rs29 rs30 rs31 rs32 rs33 rs34 rs35 rs36 rs37 rs38 rs39 rs40 rs41 rs42 rs45 rs46 rs47 rs48 rs49 rs50 rs51 rs52 rs53 rs54 rs55 rs56 rs57 rs58 rs59 rs60 rs61 rs62 rs63 rs64 rs65 rs66 rs67 rs68 rs69 rs70 rs71 rs75 rs76 rs77 rs78 rs79 rs80 rs81 rs82 rs83 rs84 rs85 rs86 rs87 rs88 rs89 rs90 rs91 rs92 rs93 rs94 rs95 rs96 rs97 rs98 rs99 rs100 rs101 rs102 rs103 rs104 rs105 rs106 rs107 rs108 rs109 rs110 rs111 rs112 rs113 rs119 rs120 rs121 rs122 rs123 rs124 rs125 rs126 rs127 rs132 rs133 rs134 rs135 rs136 rs137 rs138 rs139 rs140 rs152 rs153 rs154 rs155 rs156 rs157 rs162 rs163 rs169 rs170 rs172 rs173 rs183 rs184
attribute [local irreducible] CP SP QE DA DT Val St
def capstanlaw14_small.f (fuel_0 : Int) : Option api_Module :=
  some (⟨[(⟨1, 0, 0⟩ : api_Value)], [], [(⟨[], [], 1, false, fuel_0, 1, 0, [(⟨4, 0, 0⟩ : api_Instr), (⟨31, 0, 0⟩ : api_Instr)]⟩ : api_Method)], (-1)⟩ : api_Module)
theorem capstanlaw14_small.ok {fuel_0} (r) (ho : capstanlaw14_small.f fuel_0 = some r) : Ok Tryz.prog 11 [.int .i64 fuel_0] [] fun v => HO.ex fun u0 : Value => HO.ex fun u1 : Value => HO.ex fun u2 : Value => HO.pand (v = .agg #[u0, u1, u2, .int .i64 r.Migrate]) (HO.seps [slO k_api_Value 55 u0 r.Globals, slO k_api_Value 55 u1 r.Pool, slO k_api_Method 43 u2 r.Methods]) := by
 refine oq 12 Tryz.func11 fun w hV see pb => ?_
 refine al fun b1 => ?_
 refine bd [.int .u8 1, .int .i64 0, .int .i64 0] ?_
 refine li k_api_Value [(⟨1, 0, 0⟩ : api_Value)] fun v3 => ?_
 refine bd [.int .u8 4, .int .i64 0, .int .i64 0] ?_
 refine bd [.int .u8 31, .int .i64 0, .int .i64 0] ?_
 refine li k_api_Instr [(⟨4, 0, 0⟩ : api_Instr), (⟨31, 0, 0⟩ : api_Instr)] fun v5 => ?_
 refine sh 0 fun hs_v5 => ?_
 refine bd [(.slice none 0 0), (.slice none 0 0), .int .u8 1, .bool false, .int .i64 fuel_0, .int .i64 1, .int .i64 0, v5] ?_
 refine SP.freezeS see 0 rfl ?_
 refine SP.lit (k := k_api_Method) (xs := [(⟨[], [], 1, false, fuel_0, 1, 0, [(⟨4, 0, 0⟩ : api_Instr), (⟨31, 0, 0⟩ : api_Instr)]⟩ : api_Method)]) (vs := [.agg #[(.slice none 0 0), (.slice none 0 0), .int .u8 1, .bool false, .int .i64 fuel_0, .int .i64 1, .int .i64 0, v5]]) (cells := [(.slice none 0 0), (.slice none 0 0), .int .u8 1, .bool false, .int .i64 fuel_0, .int .i64 1, .int .i64 0, v5]) Tryz.underlying23 inf43.h rfl rfl rfl rfl rfl rfl rfl rfl (fun _ ap => ⟨[(.slice none 0 0), (.slice none 0 0), .int .u8 1, .bool false, .int .i64 fuel_0, .int .i64 1, .int .i64 0, v5], _, rfl, ⟨_, _, _, rfl, slP.nil _ _, slP.nil _ _, ap.get 0 rfl⟩, rfl⟩) rfl rfl rfl (fun v7 => ?_)
 refine sh 1 fun hs_v3 => ?_
 refine sh 0 fun hs_v7 => ?_
 refine bd [v3, (.slice none 0 0), v7, .int .i64 (-1)] ?_
 refine sh 1 fun hs_v3 => ?_
 refine sh 0 fun hs_v7 => ?_
 refine st 2 ?_
 exact Option.some.inj ho ▸ rt (fun _ h => St.selO [2, 0, 1] rfl rfl (St.addO (slO.nil k_api_Value 55) h)) (rs := [.cell 2 25]) (vs := [.agg #[v3, (.slice none 0 0), v7, .int .i64 (-1)]]) (hv := ⟨RVs.cellA 2 rfl rfl Tryz.underlying25 rfl sz25.h, trivial⟩)
def verify_checks.f  : Option Unit :=
  some ()
theorem verify_checks.ok (r) (ho : verify_checks.f  = some r) : Ok Tryz.prog 41 [] [] fun v => HO.pure (v = .agg #[.func (.func 65) #[] #[], .func (.func 66) #[] #[], .func (.func 67) #[] #[], .func (.func 68) #[] #[], .func (.func 69) #[] #[], .func (.func 70) #[] #[]]) := by
 refine oq 8 Tryz.func41 fun w hV see pb => ?_
 refine al fun b1 => ?_
 refine bd [.func (.func 65) #[] #[]] ?_
 refine bd [.func (.func 66) #[] #[]] ?_
 refine bd [.func (.func 67) #[] #[]] ?_
 refine bd [.func (.func 68) #[] #[]] ?_
 refine bd [.func (.func 69) #[] #[]] ?_
 refine bd [.func (.func 70) #[] #[]] ?_
 refine bd [.func (.func 65) #[] #[], .func (.func 66) #[] #[], .func (.func 67) #[] #[], .func (.func 68) #[] #[], .func (.func 69) #[] #[], .func (.func 70) #[] #[]] ?_
 refine st 0 ?_
 obtain rfl := Option.some.inj ho
 exact rt (rs := [.cell 0 81]) (vs := [.agg #[.func (.func 65) #[] #[], .func (.func 66) #[] #[], .func (.func 67) #[] #[], .func (.func 68) #[] #[], .func (.func 69) #[] #[], .func (.func 70) #[] #[]]]) (hv := ⟨RVs.cellA 0 rfl rfl Tryz.underlying81 rfl sz81.h, trivial⟩)
def gauss_May.f (p_0 : gauss_Pair) : Option Bool :=
  if ((decide (p_0.e0 < (-1048576))) || (decide (p_0.e0 > 1048576))) = true then (some false) else (if ((decide (p_0.e1 < (-1048576))) || (decide (p_0.e1 > 1048576))) = true then (some false) else (some true))
theorem gauss_May.ok {p_0} (r) (ho : gauss_May.f p_0 = some r) : Ok Tryz.prog 136 [.agg #[.int .i64 p_0.e0, .int .i64 p_0.e1]] [] fun v => HO.pure (v = .bool r) := by
 refine oq 16 Tryz.func136 fun w hV see pb => ?_
 refine SP.box rfl rfl rfl rfl fun b1 => gg ?_
 refine CP.rounds 4 ?_
 refine LP.step ?_
 refine CP.seq ?_
 refine CP.region ?_
 refine cs (.bool true) ?_
 refine CP.condT rfl rfl (gg ?_)
 refine SP.val (Val.indexC1 0 Tryz.underlying204 Tryz.underlying2 rfl sz2.h rfl rfl rfl rfl) rfl rfl rfl (gg ?_)
 refine SP.jn 3 [5, 6] 14 (.bool ((decide (p_0.e0 < (-1048576))) || (decide (p_0.e0 > 1048576)))) ?_ ?_
 ·refine gg ?_
  refine cb (hf := id) ho (fun ho => ?_) fun ho => ?_
  ·exact Option.some.inj ho ▸ rt
  refine CP.skip ?_
  refine QE.blockN ?_
  refine QE.then ?_
  refine CP.region ?_
  refine cs (.int .i64 1) ?_
  refine QE.round ?_
  refine LP.step ?_
  refine CP.seq ?_
  refine CP.region ?_
  refine cs (.bool true) ?_
  refine CP.condT rfl rfl (gg ?_)
  refine SP.val (Val.indexC1 1 Tryz.underlying204 Tryz.underlying2 rfl sz2.h rfl rfl rfl rfl) rfl rfl rfl (gg ?_)
  refine SP.jn 3 [5, 6] 14 (.bool ((decide (p_0.e1 < (-1048576))) || (decide (p_0.e1 > 1048576)))) ?_ ?_
  ·refine gg ?_
   refine cb (hf := id) ho (fun ho => ?_) fun ho => ?_
   ·exact Option.some.inj ho ▸ rt
   refine CP.skip ?_
   refine QE.blockN ?_
   refine QE.then ?_
   refine CP.region ?_
   refine cs (.int .i64 2) ?_
   refine QE.round ?_
   refine LP.step ?_
   refine CP.seq ?_
   refine CP.region ?_
   refine cs (.bool false) ?_
   refine CP.condF rfl rfl (gg ?_)
   exact Option.some.inj ho ▸ rt
  refine SP.bb 11 (fun hq6 => ?_) fun hq6 => ?_
  ·refine gg ?_
   exact QE.jb (or_t hq6) fun w2 hw => hw
  refine gg ?_
  exact QE.jb (or_f hq6 rfl) fun w2 hw => hw
 refine SP.bb 11 (fun hq4 => ?_) fun hq4 => ?_
 ·refine gg ?_
  exact QE.jb (or_t hq4) fun w2 hw => hw
 refine gg ?_
 exact QE.jb (or_f hq4 rfl) fun w2 hw => hw
def value_Pair.f (a_0 b_1 : Int) : Option (api_Value × Bool) :=
  (gauss_May.f (⟨a_0, b_1⟩ : gauss_Pair)).bind fun t3 => if (!t3) = true then (some ((⟨0, 0, 0⟩ : api_Value), false)) else (some ((⟨2, a_0, b_1⟩ : api_Value), true))
theorem value_Pair.ok {a_0 b_1} (r) (ho : value_Pair.f a_0 b_1 = some r) : Ok Tryz.prog 100 [.int .i64 a_0, .int .i64 b_1] [] fun v => HO.pure (v = .tuple #[.agg #[.int .u8 r.1.Kind, .int .i64 r.1.A, .int .i64 r.1.B], .bool r.2]) := by
 refine oq 15 Tryz.func100 fun w hV see pb => ?_
 refine al fun b1 => ?_
 refine bd [.int .i64 a_0, .int .i64 b_1] ?_
 refine kv gauss_May.ok ho fun t3 ho => ?_
 refine cb ho (fun ho => ?_) fun ho => ?_
 ·refine bd [.int .u8 0, .int .i64 0, .int .i64 0] ?_
  refine st 0 ?_
  exact Option.some.inj ho ▸ rt (rs := [.cell 4 55, .tmp 5]) (vs := [.agg #[.int .u8 0, .int .i64 0, .int .i64 0], .bool false]) (hv := ⟨RVs.cellA 0 rfl rfl Tryz.underlying55 rfl sz55.h, RVs.tmp rfl, trivial⟩)
 refine bd [.int .u8 2, .int .i64 a_0, .int .i64 b_1] ?_
 refine st 0 ?_
 exact Option.some.inj ho ▸ rt (rs := [.cell 4 55, .tmp 5]) (vs := [.agg #[.int .u8 2, .int .i64 a_0, .int .i64 b_1], .bool true]) (hv := ⟨RVs.cellA 0 rfl rfl Tryz.underlying55 rfl sz55.h, RVs.tmp rfl, trivial⟩)
def value_Int.f (n_0 : Int) : Option api_Value :=
  some (⟨1, n_0, 0⟩ : api_Value)
theorem value_Int.ok {n_0} (r) (ho : value_Int.f n_0 = some r) : Ok Tryz.prog 99 [.int .i64 n_0] [] fun v => HO.pure (v = .agg #[.int .u8 r.Kind, .int .i64 r.A, .int .i64 r.B]) := by
 refine oq 5 Tryz.func99 fun w hV see pb => ?_
 refine al fun b1 => ?_
 refine bd [.int .u8 1, .int .i64 n_0, .int .i64 0] ?_
 refine st 0 ?_
 exact Option.some.inj ho ▸ rt (rs := [.cell 2 55]) (vs := [.agg #[.int .u8 1, .int .i64 n_0, .int .i64 0]]) (hv := ⟨RVs.cellA 0 rfl rfl Tryz.underlying55 rfl sz55.h, trivial⟩)
def value_May.j1 (v_0 : api_Value) (b12 : Bool) : Option Bool :=
  some b12
def value_May.f (v_0 : api_Value) : Option Bool :=
  (value_Pair.f v_0.A v_0.B).bind fun t3 => (value_Int.f v_0.A).bind fun t6 => if (v_0.Kind == t6.Kind && (v_0.A == t6.A && (v_0.B == t6.B))) = true then (value_May.j1 v_0 true) else (if t3.2 = true then (value_May.j1 v_0 (v_0.Kind == t3.1.Kind && (v_0.A == t3.1.A && (v_0.B == t3.1.B)))) else (value_May.j1 v_0 false))
theorem value_May.ok {v_0} (r) (ho : value_May.f v_0 = some r) : Ok Tryz.prog 88 [.agg #[.int .u8 v_0.Kind, .int .i64 v_0.A, .int .i64 v_0.B]] [] fun v => HO.pure (v = .bool r) := by
 refine oq 26 Tryz.func88 fun w hV see pb => ?_
 refine SP.box rfl rfl rfl rfl fun b1 => gg ?_
 refine kv value_Pair.ok ho fun t3 ho => ?_
 refine al fun b4 => ?_
 refine st (h := id) 0 ?_
 refine go ?_
 refine oi r (fun z => ∃ b12, z (value_May.j1 v_0 b12) [(2, .bool b12)] []) ?_ ?_
 ·rintro _ _ ⟨b12, ho, h⟩
  refine en h ?_
  exact Option.some.inj ho ▸ rt
 refine CP.drawA (by kernel_rfl) (fun w2 k h => h.drawn k) ?_
 obtain ⟨t6, hc7, ho⟩ := bind_some ho
 refine DA.ph 0 4 ?_
 refine DT.tv 0 rfl (Val.loadA 1 rfl Tryz.underlying55 rfl sz55.h rfl rfl rfl) ?_
 refine DT.tk 1 ?_
 refine DT.tk 2 ?_
 refine DT.one 3 rfl (by kernel_rfl) rfl ?_
 refine SP.callV see (caps := []) (.agg #[.int .u8 t6.Kind, .int .i64 t6.A, .int .i64 t6.B]) fn99.h rfl rfl rfl rfl (fun w2 hP hs sub ap => value_Int.ok (n_0 := v_0.A) _ hc7 w2 hP sub (All.nil _)) (gg ?_)
 refine QE.atT (fun w2 hw => hw) ?_
 refine DT.next (by kernel_rfl) ?_
 refine DA.one 4 rfl (by kernel_rfl) ?_
 refine SP.val (Val.eqlA (by kernel_rfl) (fun w2 => eqA55 9998 w2 v_0.Kind t6.Kind v_0.A t6.A v_0.B t6.B) rfl rfl) rfl rfl rfl (gg ?_)
 refine QE.atA ?_
 refine DA.one 5 rfl (by kernel_rfl) (gg ?_)
 refine QE.atA ?_
 rcases if_some ho with ⟨hc, ho⟩ | ⟨hc, ho⟩
 ·have hg8 := hc
  clear hc
  refine DA.is (d := 18) (b := true) rfl hg8 ?_
  refine DA.ph 6 7 ?_
  refine DT.tn 6 ?_
  refine DT.next (by kernel_rfl) ?_
  refine DA.ph 7 8 ?_
  refine DT.tn 7 ?_
  refine DT.next (by kernel_rfl) ?_
  refine DA.ph 8 10 ?_
  refine DT.tn 8 ?_
  refine DT.tn 9 ?_
  refine DT.next (by kernel_rfl) ?_
  refine DA.ph 10 11 ?_
  refine DT.tn 10 ?_
  refine DT.next (by kernel_rfl) ?_
  refine DA.ph 11 12 ?_
  refine DT.tn 11 ?_
  refine DT.next (by kernel_rfl) ?_
  refine DA.one 12 rfl (by kernel_rfl) (gg ?_)
  refine QE.atA ?_
  refine DA.one 13 rfl (by kernel_rfl) (gg ?_)
  refine QE.atA ?_
  refine DA.done (by kernel_rfl) ?_
  exact mo ho (fun _ z => ⟨true, z⟩) (sO [])
 have hg9 := (bf hc)
 clear hc
 refine DA.is (d := 18) (b := false) rfl hg9 ?_
 refine DA.one 6 rfl (by kernel_rfl) (gg ?_)
 refine QE.atA ?_
 refine DA.one 7 rfl (by kernel_rfl) (gg ?_)
 refine QE.atA ?_
 rcases if_some ho with ⟨hc, ho⟩ | ⟨hc, ho⟩
 ·have hg10 := hc
  clear hc
  refine DA.ph 8 10 ?_
  refine DT.is (d := 20) (b := true) rfl hg10 ?_
  refine DT.tv 8 rfl (Val.loadA 1 rfl Tryz.underlying55 rfl sz55.h rfl rfl rfl) ?_
  refine DT.tv 9 rfl (Val.loadA 0 rfl Tryz.underlying55 rfl sz55.h rfl rfl rfl) ?_
  refine DT.next (by kernel_rfl) ?_
  refine DA.one 10 rfl (by kernel_rfl) ?_
  refine SP.val (Val.eqlA (by kernel_rfl) (fun w2 => eqA55 9998 w2 v_0.Kind t3.1.Kind v_0.A t3.1.A v_0.B t3.1.B) rfl rfl) rfl rfl rfl (gg ?_)
  refine QE.atA ?_
  refine DA.one 11 rfl (by kernel_rfl) (gg ?_)
  refine QE.atA ?_
  refine DA.one 12 rfl (by kernel_rfl) (gg ?_)
  refine QE.atA ?_
  refine DA.one 13 rfl (by kernel_rfl) (gg ?_)
  refine QE.atA ?_
  refine DA.done (by kernel_rfl) ?_
  exact mo ho (fun _ z => ⟨(v_0.Kind == t3.1.Kind && (v_0.A == t3.1.A && (v_0.B == t3.1.B))), z⟩) (sO [])
 have hg11 := (bf hc)
 clear hc
 refine DA.ph 8 10 ?_
 refine DT.is (d := 20) (b := false) rfl hg11 ?_
 refine DT.tn 8 ?_
 refine DT.tn 9 ?_
 refine DT.next (by kernel_rfl) ?_
 refine DA.ph 10 11 ?_
 refine DT.tn 10 ?_
 refine DT.next (by kernel_rfl) ?_
 refine DA.one 11 rfl (by kernel_rfl) (gg ?_)
 refine QE.atA ?_
 refine DA.one 12 rfl (by kernel_rfl) (gg ?_)
 refine QE.atA ?_
 refine DA.one 13 rfl (by kernel_rfl) (gg ?_)
 refine QE.atA ?_
 refine DA.done (by kernel_rfl) ?_
 exact mo ho (fun _ z => ⟨false, z⟩) (sO [])
def pool_May_1.f (v_0 : api_Value) : Option Bool :=
  (value_May.f v_0).bind fun t3 => some (!t3)
theorem pool_May_1.ok {v_0} (r) (ho : pool_May_1.f v_0 = some r) : Ok Tryz.prog 87 [.agg #[.int .u8 v_0.Kind, .int .i64 v_0.A, .int .i64 v_0.B]] [] fun v => HO.pure (v = .bool r) := by
 refine oq 6 Tryz.func87 fun w hV see pb => ?_
 refine SP.box rfl rfl rfl rfl fun b1 => gg ?_
 refine kv value_May.ok ho fun t3 ho => ?_
 exact Option.some.inj ho ▸ rt
inductive slices_IndexFunc_api_Value_api_Value_s1.S where
  | start
  | l1 (x7 : Int)
def slices_IndexFunc_api_Value_api_Value_s1.F (s_0 : List api_Value) : slices_IndexFunc_api_Value_api_Value_s1.S → Option (slices_IndexFunc_api_Value_api_Value_s1.S ⊕ Int)
  | .start => some (.inl (.l1 0))
  | .l1 x7 => if x7 < (s_0.length : Int) then ((elt s_0 x7).bind fun x11 => (pool_May_1.f x11).bind fun t12 => if t12 = true then (some (.inr x7)) else (some (.inl (.l1 (IntKind.i64.wrap (x7 + 1)))))) else (some (.inr (-1)))
def slices_IndexFunc_api_Value_api_Value_s1.f (s_0 : List api_Value) : Option Int := runF (slices_IndexFunc_api_Value_api_Value_s1.F s_0) .start
theorem slices_IndexFunc_api_Value_api_Value_s1.ok {s_0 v_s_0} (r) (H : slices_IndexFunc_api_Value_api_Value_s1.f s_0 = some r) : Ok Tryz.prog 132 [v_s_0, .func (.func 87) #[] #[]] [slP k_api_Value v_s_0 s_0] fun v => HO.pure (v = .int .i64 r) := by
 refine oq 19 Tryz.func132 fun w hV see pb => ?_
 obtain ⟨m0, o, ho, hr⟩ := rn H
 refine lo ho hr (fun z => ∃ x7, z (.l1 x7) [(0, v_s_0), (1, .func (.func 87) #[] #[]), (7, .int .i64 (s_0.length : Int)), (8, .int .i64 x7)] []) (fun _ z => ⟨0, z⟩) ?_
 rintro _ _ _ ⟨x7, m8, o, _, _, ho, hr, h⟩
 refine en h ?_
 refine ci ho (fun ho => ?_) fun ho => ?_
 ·obtain ⟨x11, hx, ho⟩ := elt_bind ho
  refine SP.indexP see 0 rfl Tryz.underlying22 sz55.h hx.1 hx.2 rfl rfl rfl rfl (fun p9 => ?_)
  clear hx
  refine k_api_Value.load see 0 rfl Tryz.underlying55 rfl sz55.h rfl rfl rfl ?_
  refine kv pool_May_1.ok ho fun t12 ho => ?_
  refine cb ho (fun ho => ?_) fun ho => ?_
  ·exact fin ho hr ▸ rt
  exact lw ho hr (fun _ z => ⟨(IntKind.i64.wrap (x7 + 1)), z⟩)
 exact fin ho hr ▸ rt
def slices_ContainsFunc_api_Value_api_Value_s1.f (s_0 : List api_Value) : Option Bool :=
  (slices_IndexFunc_api_Value_api_Value_s1.f s_0).bind fun t2 => some (decide (t2 ≥ 0))
theorem slices_ContainsFunc_api_Value_api_Value_s1.ok {s_0 v_s_0} (r) (ho : slices_ContainsFunc_api_Value_api_Value_s1.f s_0 = some r) : Ok Tryz.prog 86 [v_s_0, .func (.func 87) #[] #[]] [slP k_api_Value v_s_0 s_0] fun v => HO.pure (v = .bool r) := by
 refine oq 9 Tryz.func86 fun w hV see pb => ?_
 refine kv slices_IndexFunc_api_Value_api_Value_s1.ok ho fun t2 ho => ?_
 exact Option.some.inj ho ▸ rt
def pool_May.f (l_0 : List api_Value) : Option Bool :=
  (if (l_0.length : Int) ≤ 32 then ((slices_ContainsFunc_api_Value_api_Value_s1.f l_0).bind fun t4 => some (!t4)) else (some false)).bind fun t5 => some t5
theorem pool_May.ok {l_0 v_l_0} (r) (ho : pool_May.f l_0 = some r) : Ok Tryz.prog 53 [v_l_0] [slP k_api_Value v_l_0 l_0] fun v => HO.pure (v = .bool r) := by
 refine oq 11 Tryz.func53 fun w hV see pb => ?_
 obtain ⟨t5, hg_t5, ho⟩ := bind_some ho
 refine SP.jn 4 [] 10 (.bool t5) ?_ ?_
 ·clear hg_t5
  refine gg ?_
  exact Option.some.inj ho ▸ rt
 refine SP.ci 6 hg_t5 (fun hq3 ho => ?_) fun hq3 ho => ?_
 ·refine gg ?_
  refine kv slices_ContainsFunc_api_Value_api_Value_s1.ok ho fun t4 ho => ?_
  obtain rfl := Option.some.inj ho
  exact QE.jn fun w2 hw => hw
 refine gg ?_
 obtain rfl := Option.some.inj ho
 exact QE.jn fun w2 hw => hw
inductive octet_spread_int64.S where
  | start
  | l1 (l6 : List Int) (x8 : Int)
def octet_spread_int64.F (n_0 width_1 : Int) : octet_spread_int64.S → Option (octet_spread_int64.S ⊕ (List Int))
  | .start => if (0 : Int) ≤ width_1 ∧ (1 : Int) * width_1 ≤ 281474976710656 ∧ (width_1 : Int) ≤ 9223372036854775807 then (some (.inl (.l1 (List.replicate (width_1 : Int).toNat 0 : List Int) 0))) else none
  | .l1 l6 x8 => if x8 < ((List.replicate (width_1 : Int).toNat 0 : List Int).length : Int) then (if 0 ≤ (IntKind.i64.wrap (8 * x8)) then ((elt l6 x8).bind fun x11 => some (.inl (.l1 (l6.set x8.toNat (IntKind.u8.wrap (shrI .i64 n_0 (IntKind.i64.wrap (8 * x8))))) (IntKind.i64.wrap (x8 + 1))))) else none) else (some (.inr l6))
def octet_spread_int64.f (n_0 width_1 : Int) : Option (List Int) := runF (octet_spread_int64.F n_0 width_1) .start
theorem octet_spread_int64.ok {n_0 width_1} (r) (H : octet_spread_int64.f n_0 width_1 = some r) : Ok Tryz.prog 94 [.int .i64 n_0, .int .i64 width_1] [] fun v => HO.ex fun u0 : Value => HO.pand (v = u0) (HO.seps [slO (kInt .u8) 5 u0 r]) := by
 refine oq 24 Tryz.func94 fun w hV see pb => ?_
 obtain ⟨m0, o, ho, hr⟩ := rn H
 obtain ⟨hb, ho⟩ := must_some ho
 refine SP.makeO (k := (kInt .u8)) (z := 0) Tryz.underlying26 inf5.h rfl (fun _ => rfl) rfl rfl rfl rfl hb (fun v1 => ?_)
 clear hb
 refine gg ?_
 refine lo ho hr (fun z => ∃ l6 x8 v7, z (.l1 l6 x8) [(0, .int .i64 n_0), (5, v7), (10, .int .i64 ((List.replicate (width_1 : Int).toNat 0 : List Int).length : Int)), (11, .int .i64 x8)] [slO (kInt .u8) 5 v7 l6]) (fun _ z => ⟨(List.replicate (width_1 : Int).toNat 0 : List Int), 0, v1, z⟩) ?_
 rintro _ _ _ ⟨l6, x8, v7, m9, o, _, _, ho, hr, h⟩
 refine en h ?_
 refine ci ho (fun ho => ?_) fun ho => ?_
 ·obtain ⟨hz, ho⟩ := must_some ho
  refine SP.val (Val.shr hz rfl rfl) rfl rfl rfl ?_
  clear hz
  refine gg ?_
  obtain ⟨x11, hx_x11, ho⟩ := elt_bind ho
  refine SP.indexW (fun w2 hw => slO.whole (St.own 0 rfl see.sub see.dj hw)) Tryz.underlying26 sz5.h hx_x11.1 hx_x11.2 rfl rfl rfl rfl (fun p10 h_p10 => ?_)
  refine SP.storeO (z0 := IntKind.u8.wrap (shrI .i64 n_0 (IntKind.i64.wrap (8 * x8)))) (off := 0) (vs := [.int .u8 (IntKind.u8.wrap (shrI .i64 n_0 (IntKind.i64.wrap (8 * x8))))]) see 0 rfl hx_x11.2 h_p10 rfl rfl sz5.h rfl (fun a cs _ e => by subst e; rfl) rfl rfl rfl (gg ?_)
  exact lw ho hr (fun _ z => ⟨(l6.set x8.toNat (IntKind.u8.wrap (shrI .i64 n_0 (IntKind.i64.wrap (8 * x8))))), (IntKind.i64.wrap (x8 + 1)), v7, z⟩)
 exact fin ho hr ▸ rt (sO [0])
def octet_Signed.f (n_0 : Int) : Option (List Int) :=
  (octet_spread_int64.f n_0 8).bind fun t1 => some t1
theorem octet_Signed.ok {n_0} (r) (ho : octet_Signed.f n_0 = some r) : Ok Tryz.prog 89 [.int .i64 n_0] [] fun v => HO.ex fun u0 : Value => HO.pand (v = u0) (HO.seps [slO (kInt .u8) 5 u0 r]) := by
 refine oq 5 Tryz.func89 fun w hV see pb => ?_
 refine k1 octet_spread_int64.ok ho fun t1 ho v2 => ?_
 exact Option.some.inj ho ▸ rt (sO [0])
def octet_fits.f (width_0 n_1 : Int) : Option Bool :=
  (if n_1 ≥ 0 then ((if width_0 = 8 then (some true) else (if 0 ≤ (IntKind.i64.wrap (8 * width_0)) then (some (decide ((shrI .i64 n_1 (IntKind.i64.wrap (8 * width_0))) = 0))) else none)).bind fun t5 => some t5) else (some false)).bind fun t6 => some t6
theorem octet_fits.ok {width_0 n_1} (r) (ho : octet_fits.f width_0 n_1 = some r) : Ok Tryz.prog 93 [.int .i64 width_0, .int .i64 n_1] [] fun v => HO.pure (v = .bool r) := by
 refine oq 18 Tryz.func93 fun w hV see pb => ?_
 obtain ⟨t6, hg_t6, ho⟩ := bind_some ho
 refine SP.jn 10 [] 17 (.bool t6) ?_ ?_
 ·clear hg_t6
  refine gg ?_
  exact Option.some.inj ho ▸ rt
 refine SP.ci 7 hg_t6 (fun hq2 ho => ?_) fun hq2 ho => ?_
 ·refine gg ?_
  obtain ⟨t5, hg_t5, ho⟩ := bind_some ho
  refine SP.jn 6 [7] 16 (.bool t5) ?_ ?_
  ·clear hg_t5
   refine gg ?_
   obtain rfl := Option.some.inj ho
   exact QE.jn fun w2 hw => hw
  refine SP.ci 10 hg_t5 (fun hq4 ho => ?_) fun hq4 ho => ?_
  ·refine gg ?_
   obtain rfl := Option.some.inj ho
   exact QE.jn fun w2 hw => hw
  refine gg ?_
  obtain ⟨hz, ho⟩ := must_some ho
  refine SP.val (Val.shr hz rfl rfl) rfl rfl rfl ?_
  clear hz
  refine gg ?_
  obtain rfl := Option.some.inj ho
  exact QE.jn fun w2 hw => hw
 refine gg ?_
 obtain rfl := Option.some.inj ho
 exact QE.jn fun w2 hw => hw
def octet_Put.f (width_0 n_1 : Int) : Option ((List Int) × Int) :=
  if ((decide (width_0 < 1)) || (decide (width_0 > 8))) = true then (some ([], 2)) else ((octet_fits.f width_0 n_1).bind fun t4 => if (!t4) = true then (some ([], 11)) else ((octet_spread_int64.f n_1 width_0).bind fun t6 => some (t6, 0)))
theorem octet_Put.ok {width_0 n_1} (r) (ho : octet_Put.f width_0 n_1 = some r) : Ok Tryz.prog 56 [.int .i64 width_0, .int .i64 n_1] [] fun v => HO.ex fun u0 : Value => HO.pand (v = .tuple #[u0, .int .i64 r.2]) (HO.seps [slO (kInt .u8) 5 u0 r.1]) := by
 refine oq 21 Tryz.func56 fun w hV see pb => ?_
 refine SP.jn 3 [0, 1] 12 (.bool ((decide (width_0 < 1)) || (decide (width_0 > 8)))) ?_ ?_
 ·refine gg ?_
  refine cb ho (fun ho => ?_) fun ho => ?_
  ·exact Option.some.inj ho ▸ rt (fun _ h => St.selO [0] rfl rfl (St.addO (slO.nil (kInt .u8) 5) h))
  refine kv octet_fits.ok ho fun t4 ho => ?_
  refine cb ho (fun ho => ?_) fun ho => ?_
  ·exact Option.some.inj ho ▸ rt (fun _ h => St.selO [0] rfl rfl (St.addO (slO.nil (kInt .u8) 5) h))
  refine k1 octet_spread_int64.ok ho fun t6 ho v7 => ?_
  exact Option.some.inj ho ▸ rt (sO [0])
 refine SP.bb 9 (fun hq2 => ?_) fun hq2 => ?_
 ·refine gg ?_
  exact QE.jb (or_t hq2) fun w2 hw => hw
 refine gg ?_
 exact QE.jb (or_f hq2 rfl) fun w2 hw => hw
def value_Bytes.f (v_0 : api_Value) : Option ((List Int) × Int) :=
  (value_May.f v_0).bind fun t3 => if (!t3) = true then (some ([], 30)) else (if v_0.Kind = 1 then ((octet_Signed.f v_0.A).bind fun t7 => if ([v_0.Kind].length + t7.length) * 1 ≤ 140737488355328 then (some ([v_0.Kind] ++ t7, 0)) else none) else ((octet_Put.f 3 (IntKind.i64.wrap (v_0.A + 1048576))).bind fun t12 => if t12.2 ≠ 0 then (some ([], 30)) else (if ([v_0.Kind].length + t12.1.length) * 1 ≤ 140737488355328 then ((octet_Put.f 3 (IntKind.i64.wrap (v_0.B + 1048576))).bind fun t18 => if t18.2 ≠ 0 then (some ([], 30)) else (if (([v_0.Kind] ++ t12.1).length + t18.1.length) * 1 ≤ 140737488355328 then (some (([v_0.Kind] ++ t12.1) ++ t18.1, 0)) else none)) else none)))
theorem value_Bytes.ok {v_0} (r) (ho : value_Bytes.f v_0 = some r) : Ok Tryz.prog 54 [.agg #[.int .u8 v_0.Kind, .int .i64 v_0.A, .int .i64 v_0.B]] [] fun v => HO.ex fun u0 : Value => HO.pand (v = .tuple #[u0, .int .i64 r.2]) (HO.seps [slO (kInt .u8) 5 u0 r.1]) := by
 refine oq 44 Tryz.func54 fun w hV see pb => ?_
 refine SP.box rfl rfl rfl rfl fun b1 => gg ?_
 refine kv value_May.ok ho fun t3 ho => ?_
 refine cb ho (fun ho => ?_) fun ho => ?_
 ·exact Option.some.inj ho ▸ rt (fun _ h => St.selO [0] rfl rfl (St.addO (slO.nil (kInt .u8) 5) h))
 refine li (kInt .u8) [v_0.Kind] fun v5 => ?_
 refine ci ho (fun ho => ?_) fun ho => ?_
 ·refine k1 octet_Signed.ok ho fun t7 ho v8 => ?_
  refine SP.freezeS see 0 rfl ?_
  refine ap 0 0 ho fun v10 ho => ?_
  exact Option.some.inj ho ▸ rt (sO [0])
 refine bd [.int .i64 v_0.A, .int .i64 v_0.B] ?_
 refine CP.rounds 4 ?_
 refine LP.step ?_
 refine CP.seq ?_
 refine CP.region ?_
 refine cs (.bool true) ?_
 refine CP.condT rfl rfl (gg ?_)
 refine SP.val (Val.indexC1 0 Tryz.underlying147 Tryz.underlying2 rfl sz2.h rfl rfl rfl rfl) rfl rfl rfl (gg ?_)
 refine k1 octet_Put.ok ho fun t12 ho v13 => ?_
 refine ci ho (fun ho => ?_) fun ho => ?_
 ·exact Option.some.inj ho ▸ rt (fun _ h => St.selO [0] rfl rfl (St.addO (slO.nil (kInt .u8) 5) h))
 refine SP.freezeS see 0 rfl ?_
 refine ap (h := fun _ => id) 0 0 ho fun v16 ho => ?_
 refine SP.val (Val.assign rfl) rfl rfl rfl ?_
 refine SP.nil ?_
 refine QE.blockN ?_
 refine QE.then ?_
 refine CP.region ?_
 refine cs (.int .i64 1) ?_
 refine QE.round ?_
 refine LP.step ?_
 refine CP.seq ?_
 refine CP.region ?_
 refine cs (.bool true) ?_
 refine CP.condT rfl rfl (gg ?_)
 refine SP.val (Val.indexC1 1 Tryz.underlying147 Tryz.underlying2 rfl sz2.h rfl rfl rfl rfl) rfl rfl rfl (gg ?_)
 refine k1 octet_Put.ok ho fun t18 ho v19 => ?_
 refine ci ho (fun ho => ?_) fun ho => ?_
 ·exact Option.some.inj ho ▸ rt (fun _ h => St.selO [0] rfl rfl (St.addO (slO.nil (kInt .u8) 5) h))
 refine SP.freezeS see 0 rfl ?_
 refine ap (h := fun _ => id) 0 0 ho fun v22 ho => ?_
 refine SP.val (Val.assign rfl) rfl rfl rfl ?_
 refine SP.nil ?_
 refine QE.blockN ?_
 refine QE.then ?_
 refine CP.region ?_
 refine cs (.int .i64 2) ?_
 refine QE.round ?_
 refine LP.step ?_
 refine CP.seq ?_
 refine CP.region ?_
 refine cs (.bool false) ?_
 refine CP.condF rfl rfl (gg ?_)
 exact Option.some.inj ho ▸ rt (sO [0])
inductive pool_Bytes.S where
  | start
  | l1 (l19 : List Int) (x21 : Int)
def pool_Bytes.F (l_0 : List api_Value) : pool_Bytes.S → Option (pool_Bytes.S ⊕ ((List Int) × Int))
  | .start => (pool_May.f l_0).bind fun t2 => if (!t2) = true then (some (.inr ([], 60))) else (some (.inl (.l1 [IntKind.u8.wrap (l_0.length : Int)] 0)))
  | .l1 l19 x21 => if x21 < (l_0.length : Int) then ((elt l_0 x21).bind fun x25 => (value_Bytes.f x25).bind fun t28 => if t28.2 ≠ 0 then (some (.inr ([], 60))) else (if (l19.length + t28.1.length) * 1 ≤ 140737488355328 then (some (.inl (.l1 (l19 ++ t28.1) (IntKind.i64.wrap (x21 + 1))))) else none)) else (some (.inr (l19, 0)))
def pool_Bytes.f (l_0 : List api_Value) : Option ((List Int) × Int) := runF (pool_Bytes.F l_0) .start
theorem pool_Bytes.ok {l_0 v_l_0} (r) (H : pool_Bytes.f l_0 = some r) : Ok Tryz.prog 27 [v_l_0] [slP k_api_Value v_l_0 l_0] fun v => HO.ex fun u0 : Value => HO.pand (v = .tuple #[u0, .int .i64 r.2]) (HO.seps [slO (kInt .u8) 5 u0 r.1]) := by
 refine oq 34 Tryz.func27 fun w hV see pb => ?_
 obtain ⟨m0, o, ho, hr⟩ := rn H
 refine kv pool_May.ok ho fun t2 ho => ?_
 refine cb ho (fun ho => ?_) fun ho => ?_
 ·exact fin ho hr ▸ rt (fun _ h => St.selO [0] rfl rfl (St.addO (slO.nil (kInt .u8) 5) h))
 refine li (kInt .u8) [IntKind.u8.wrap (l_0.length : Int)] fun v4 => ?_
 refine lo ho hr (fun z => ∃ l19 x21 v20, z (.l1 l19 x21) [(4, v20), (16, v_l_0), (17, .int .i64 (l_0.length : Int)), (18, .int .i64 x21)] [slO (kInt .u8) 5 v20 l19]) (fun _ z => ⟨[IntKind.u8.wrap (l_0.length : Int)], 0, v4, z⟩) ?_
 rintro _ _ _ ⟨l19, x21, v20, m22, o, _, _, ho, hr, h⟩
 refine en h ?_
 refine ci ho (fun ho => ?_) fun ho => ?_
 ·obtain ⟨x25, hx, ho⟩ := elt_bind ho
  refine SP.indexP see 0 rfl Tryz.underlying22 sz55.h hx.1 hx.2 rfl rfl rfl rfl (fun p23 => ?_)
  clear hx
  refine k_api_Value.load see 0 rfl Tryz.underlying55 rfl sz55.h rfl rfl rfl ?_
  refine al fun b26 => ?_
  refine st 0 ?_
  refine k1 value_Bytes.ok ho fun t28 ho v29 => ?_
  refine ci ho (fun ho => ?_) fun ho => ?_
  ·exact fin ho hr ▸ rt (fun _ h => St.selO [0] rfl rfl (St.addO (slO.nil (kInt .u8) 5) h))
  refine SP.freezeS see 0 rfl ?_
  refine ap 1 0 ho fun v32 ho => ?_
  exact lw ho hr (fun _ z => ⟨(l19 ++ t28.1), (IntKind.i64.wrap (x21 + 1)), v32, z⟩) (sO [1])
 exact fin ho hr ▸ rt (sO [0])
shelf_lay_g Lays8.n4 Nm8 4 at Tryz 118 as Tryz.grow118
theorem grow118_trip {n : Int} (h0 : 0 ≤ n) (hb : n * 1 ≤ 140737488355328) (w : World) (hV : Hp) :
    Trip Tryz.prog 118 #[.slice none 0 0, .int .i64 n] em hV w (fun r => HO.ex fun u : Value => HO.pand (r = u) (HO.seps [slO (kInt .u8) 5 u []])) := by
  obtain ⟨m, rfl⟩ := Int.eq_ofNat_of_zero_le h0
  obtain ⟨i0, z, hi0, hz0, hsz, hbt, hzl⟩ := growInfo (P := Tryz.prog) inf5.h
  by_cases hm : m = 0
  · subst hm
    exact (Any8.slices_Grow_room Tryz.grow118 none 0 0 0 w (by omega) (by omega) (by omega) (by omega)).mono fun e w' ⟨he, hw⟩ => by
      subst hw
      exact ⟨_, he, Met.refl _, fun _ _ e _ => e, em, em, fun _ _ _ => rfl, fun _ _ _ => rfl, Dj.em_left _, Sub.em _, Sub.em _, _, rfl, em, em, Dj.em_left _, Sub.em _, Sub.em _, slO.nil _ _ _, trivial⟩
  · have h := Any8.slices_Grow_grow Tryz.grow118 i0 z hi0 hz0 (by omega) none 0 0 m [] w (by omega) (by omega) (by rw [hbt]; omega) (by omega) (by simp) (fun _ => rfl) (fun a ha => by cases ha)
    exact h.mono fun e w' ⟨he, hw⟩ => grown_trip he hw (grownCap_le_maxLen _ _ _ _ (by simp only [maxLen]; omega)) (zeros_size (by have := grownCap_ge w (0 + m) 0 5; rw [Nat.zero_add] at this ⊢; exact this) hzl)
inductive slices_Concat_uint8_uint8.S where
  | start
  | l1 (x36 x37 : Int)
  | l2 (l57 : List Int) (x59 : Int)
def slices_Concat_uint8_uint8.j1 (slices_0 : (List (List Int))) (x36 x37 : Int) (x41 : List Int) : Option (slices_Concat_uint8_uint8.S ⊕ (List Int)) :=
  some (.inl (.l1 (IntKind.i64.wrap (x36 + (x41.length : Int))) (IntKind.i64.wrap (x37 + 1))))
def slices_Concat_uint8_uint8.F (slices_0 : (List (List Int))) : slices_Concat_uint8_uint8.S → Option (slices_Concat_uint8_uint8.S ⊕ (List Int))
  | .start => some (.inl (.l1 0 0))
  | .l1 x36 x37 => if x37 < (slices_0.length : Int) then ((elt slices_0 x37).bind fun x41 => if (IntKind.i64.wrap (x36 + (x41.length : Int))) < 0 then (none) else (slices_Concat_uint8_uint8.j1 slices_0 x36 x37 x41)) else (if 0 ≤ x36 ∧ x36 * 1 ≤ 140737488355328 then (some (.inl (.l2 ([] : List Int) 0))) else none)
  | .l2 l57 x59 => if x59 < (slices_0.length : Int) then ((elt slices_0 x59).bind fun x63 => if (l57.length + x63.length) * 1 ≤ 140737488355328 then (some (.inl (.l2 (l57 ++ x63) (IntKind.i64.wrap (x59 + 1))))) else none) else (some (.inr l57))
def slices_Concat_uint8_uint8.f (slices_0 : (List (List Int))) : Option (List Int) := runF (slices_Concat_uint8_uint8.F slices_0) .start
theorem slices_Concat_uint8_uint8.ok {slices_0 v_slices_0} (r) (H : slices_Concat_uint8_uint8.f slices_0 = some r) : Ok Tryz.prog 77 [v_slices_0] [slP (kSl (kInt .u8)) v_slices_0 slices_0] fun v => HO.ex fun u0 : Value => HO.pand (v = u0) (HO.seps [slO (kInt .u8) 5 u0 r]) := by
 refine oq 36 Tryz.func77 fun w hV see pb => ?_
 obtain ⟨m0, o, ho, hr⟩ := rn H
 refine lo ho hr (fun z => ∃ x36 x37, z (.l1 x36 x37) [(0, v_slices_0), (3, .int .i64 x36), (9, v_slices_0), (10, .int .i64 (slices_0.length : Int)), (11, .int .i64 x37)] []) (fun _ z => ⟨0, 0, z⟩) ?_
 rintro _ _ _ ⟨x36, x37, m38, o, _, _, ho, hr, h⟩
 refine en h ?_
 refine ci (ht := id) ho (fun ho => ?_) fun ho => ?_
 ·refine go ?_
  refine ji hr (fun z => ∃ x41, z (slices_Concat_uint8_uint8.j1 slices_0 x36 x37 x41) [(0, v_slices_0), (3, .int .i64 (IntKind.i64.wrap (x36 + (x41.length : Int)))), (9, v_slices_0), (10, .int .i64 (slices_0.length : Int)), (11, .int .i64 x37)] []) ?_ ?_
  ·rintro _ _ ⟨x41, m44, o, _, ho, hr, h⟩
   refine en h ?_
   exact lw ho hr (fun _ z => ⟨(IntKind.i64.wrap (x36 + (x41.length : Int))), (IntKind.i64.wrap (x37 + 1)), z⟩)
  refine gg ?_
  obtain ⟨x41, hx, ho⟩ := elt_bind ho
  refine SP.indexP see 0 rfl Tryz.underlying182 sz26.h hx.1 hx.2 rfl rfl rfl rfl (fun p39 => ?_)
  clear hx
  refine SP.loadPS see 0 rfl Tryz.underlying26 rfl rfl rfl (fun v42 => gg ?_)
  refine ci ho (fun ho => ?_) fun ho => ?_
  ·cases ho
  exact mi ho hr (fun _ z => ⟨x41, z⟩)
 obtain ⟨hb, ho⟩ := must_some ho
 refine SP.callK see (caps := []) _ fn118.h rfl rfl rfl rfl (fun w2 hP hs sub ap => grow118_trip hb.1 hb.2 w2 hP) (SP.k1 fun v46 => ?_)
 clear hb
 refine gg ?_
 refine lo ho hr (fun z => ∃ l57 x59 v58, z (.l2 l57 x59) [(6, v58), (25, v_slices_0), (26, .int .i64 (slices_0.length : Int)), (27, .int .i64 x59)] [slO (kInt .u8) 5 v58 l57]) (fun _ z => ⟨([] : List Int), 0, v46, z⟩) ?_
 rintro _ _ _ ⟨l57, x59, v58, m60, o, _, _, ho, hr, h⟩
 refine en h ?_
 refine ci ho (fun ho => ?_) fun ho => ?_
 ·obtain ⟨x63, hx, ho⟩ := elt_bind ho
  refine SP.indexP see 0 rfl Tryz.underlying182 sz26.h hx.1 hx.2 rfl rfl rfl rfl (fun p61 => ?_)
  clear hx
  refine SP.loadPS see 0 rfl Tryz.underlying26 rfl rfl rfl (fun v64 => gg ?_)
  refine ap 0 0 ho fun v66 ho => ?_
  exact lw ho hr (fun _ z => ⟨(l57 ++ x63), (IntKind.i64.wrap (x59 + 1)), v66, z⟩)
 exact fin ho hr ▸ rt (sO [0])
def method_Kinds.f (m_0 : api_Method) : Option (List Int) :=
  (slices_Concat_uint8_uint8.f [m_0.Args, m_0.Locals]).bind fun t8 => some t8
theorem method_Kinds.ok {m_0 v_m_0_Args v_m_0_Locals v_m_0_Code} (r) (ho : method_Kinds.f m_0 = some r) : Ok Tryz.prog 90 [.agg #[v_m_0_Args, v_m_0_Locals, .int .u8 m_0.Result, .bool m_0.Reads, .int .i64 m_0.Fuel, .int .i64 m_0.Stack, .int .i64 m_0.Heap, v_m_0_Code]] [slP (kInt .u8) v_m_0_Args m_0.Args, slP (kInt .u8) v_m_0_Locals m_0.Locals, slP k_api_Instr v_m_0_Code m_0.Code] fun v => HO.ex fun u0 : Value => HO.pand (v = u0) (HO.seps [slO (kInt .u8) 5 u0 r]) := by
 refine oq 9 Tryz.func90 fun w hV see pb => ?_
 refine SP.box rfl rfl rfl rfl fun b4 => gg ?_
 refine SP.litS (k := (kSl (kInt .u8))) (xs := [m_0.Args, m_0.Locals]) (vs := [v_m_0_Args, v_m_0_Locals]) Tryz.underlying182 inf26.h rfl rfl rfl rfl rfl rfl (fun _ ap => ⟨slR.cells1 (ap.get 0 rfl), slR.cells1 (ap.get 1 rfl), trivial⟩) (fun _ ap => ⟨[v_m_0_Args], _, rfl, ⟨_, rfl, ap.get 0 rfl⟩, ⟨[v_m_0_Locals], _, rfl, ⟨_, rfl, ap.get 1 rfl⟩, rfl⟩⟩) rfl rfl rfl (fun v6 => ?_)
 obtain ⟨t8, hc, ho⟩ := bind_some ho
 refine SP.callKO see (caps := []) _ fn77.h rfl rfl rfl rfl (fun w2 hs => slices_Concat_uint8_uint8.ok _ hc w2 (hp w2) (Sub.refl _) (aS (slO.read (St.own 0 rfl see.sub see.dj hs) (Sub.refl _) (Sub.refl _)) (All.nil _))) (fun v a a2 b ⟨v9, e, h⟩ => ⟨v9, e, (Sep.fcons (fun _ => slO.flip (fun _ _ _ _ h => h)) (fun _ => Sep.fnil)) h⟩) (SP.k1 fun v9 => ?_)
 clear hc
 refine gg ?_
 exact Option.some.inj ho ▸ rt (sO [0])
def value_Inside.f (v_0 : api_Value) : Option Bool :=
  (value_May.f v_0).bind fun t3 => some (t3 || (v_0.Kind == 3 && (v_0.A == (if 0 > v_0.A then 0 else v_0.A) && (v_0.B == 0))))
theorem value_Inside.ok {v_0} (r) (ho : value_Inside.f v_0 = some r) : Ok Tryz.prog 162 [.agg #[.int .u8 v_0.Kind, .int .i64 v_0.A, .int .i64 v_0.B]] [] fun v => HO.pure (v = .bool r) := by
 refine oq 13 Tryz.func162 fun w hV see pb => ?_
 refine SP.box rfl rfl rfl rfl fun b1 => gg ?_
 refine kv value_May.ok ho fun t3 ho => ?_
 refine SP.jn 7 [] 12 (.bool (t3 || (v_0.Kind == 3 && (v_0.A == (if 0 > v_0.A then 0 else v_0.A) && (v_0.B == 0))))) ?_ ?_
 ·refine gg ?_
  exact Option.some.inj ho ▸ rt
 refine SP.bb 5 (fun hq5 => ?_) fun hq5 => ?_
 ·refine gg ?_
  exact QE.jb (or_t hq5) fun w2 hw => hw
 refine gg ?_
 refine SP.val (Val.max2 rfl rfl) rfl rfl rfl ?_
 refine bd [.int .u8 3, .int .i64 (if 0 > v_0.A then 0 else v_0.A), .int .i64 0] ?_
 refine SP.val (Val.eqlA (by kernel_rfl) (fun w2 => eqA55 9998 w2 v_0.Kind 3 v_0.A (if 0 > v_0.A then 0 else v_0.A) v_0.B 0) rfl rfl) rfl rfl rfl (gg ?_)
 exact QE.jb (or_f hq5 rfl) fun w2 hw => hw
def value_Zero.f (kind_0 : Int) : Option (api_Value × Bool) :=
  (value_Inside.f (⟨kind_0, 0, 0⟩ : api_Value)).bind fun t5 => if (!t5) = true then (some ((⟨0, 0, 0⟩ : api_Value), false)) else (some ((⟨kind_0, 0, 0⟩ : api_Value), true))
theorem value_Zero.ok {kind_0} (r) (ho : value_Zero.f kind_0 = some r) : Ok Tryz.prog 133 [.int .u8 kind_0] [] fun v => HO.pure (v = .tuple #[.agg #[.int .u8 r.1.Kind, .int .i64 r.1.A, .int .i64 r.1.B], .bool r.2]) := by
 refine oq 12 Tryz.func133 fun w hV see pb => ?_
 refine al fun b1 => ?_
 refine bd [.int .u8 kind_0, .int .i64 0, .int .i64 0] ?_
 refine al fun b3 => ?_
 refine st 0 ?_
 refine kv value_Inside.ok ho fun t5 ho => ?_
 refine cb ho (fun ho => ?_) fun ho => ?_
 ·refine bd [.int .u8 0, .int .i64 0, .int .i64 0] ?_
  refine st 1 ?_
  exact Option.some.inj ho ▸ rt (rs := [.cell 2 55, .tmp 3]) (vs := [.agg #[.int .u8 0, .int .i64 0, .int .i64 0], .bool false]) (hv := ⟨RVs.cellA 1 rfl rfl Tryz.underlying55 rfl sz55.h, RVs.tmp rfl, trivial⟩)
 refine st 1 ?_
 exact Option.some.inj ho ▸ rt (rs := [.cell 2 55, .tmp 3]) (vs := [.agg #[.int .u8 kind_0, .int .i64 0, .int .i64 0], .bool true]) (hv := ⟨RVs.cellA 1 rfl rfl Tryz.underlying55 rfl sz55.h, RVs.tmp rfl, trivial⟩)
def method_local.f (kind_0 : Int) : Option Bool :=
  (value_Zero.f kind_0).bind fun t1 => some t1.2
theorem method_local.ok {kind_0} (r) (ho : method_local.f kind_0 = some r) : Ok Tryz.prog 91 [.int .u8 kind_0] [] fun v => HO.pure (v = .bool r) := by
 refine oq 11 Tryz.func91 fun w hV see pb => ?_
 refine kv value_Zero.ok ho fun t1 ho => ?_
 refine al fun b2 => ?_
 refine st 0 ?_
 exact Option.some.inj ho ▸ rt
def method_within.f (n_0 most_1 : Int) : Option Bool :=
  some ((decide (n_0 ≥ 0)) && (decide (n_0 ≤ most_1)))
theorem method_within.ok {n_0 most_1} (r) (ho : method_within.f n_0 most_1 = some r) : Ok Tryz.prog 92 [.int .i64 n_0, .int .i64 most_1] [] fun v => HO.pure (v = .bool r) := by
 refine oq 12 Tryz.func92 fun w hV see pb => ?_
 refine SP.jn 4 [] 11 (.bool ((decide (n_0 ≥ 0)) && (decide (n_0 ≤ most_1)))) ?_ ?_
 ·refine gg ?_
  exact Option.some.inj ho ▸ rt
 refine SP.bb 7 (fun hq2 => ?_) fun hq2 => ?_
 ·refine gg ?_
  exact QE.jb (and_t hq2 rfl) fun w2 hw => hw
 refine gg ?_
 exact QE.jb (and_f hq2) fun w2 hw => hw
inductive method_May.S where
  | start
  | l1 (t12 : List Int) (x28 : Int)
def method_May.F (m_0 : api_Method) : method_May.S → Option (method_May.S ⊕ Bool)
  | .start => if (((decide ((m_0.Args.length : Int) > 4)) || (decide ((IntKind.i64.wrap ((m_0.Args.length : Int) + (m_0.Locals.length : Int))) > 16))) || ((decide (m_0.Result ≠ 1)) && (decide (m_0.Result ≠ 2)))) = true then (some (.inr false)) else ((method_Kinds.f m_0).bind fun t12 => some (.inl (.l1 t12 0)))
  | .l1 t12 x28 => if x28 < (t12.length : Int) then ((elt t12 x28).bind fun x31 => (method_local.f x31).bind fun t32 => if (!t32) = true then (some (.inr false)) else (some (.inl (.l1 t12 (IntKind.i64.wrap (x28 + 1)))))) else ((method_within.f m_0.Fuel 1048576).bind fun t33 => (if t33 = true then ((method_within.f m_0.Stack 256).bind fun t36 => some t36) else (some false)).bind fun t37 => (if t37 = true then ((method_within.f m_0.Heap 1024).bind fun t40 => some t40) else (some false)).bind fun t41 => some (.inr t41))
def method_May.f (m_0 : api_Method) : Option Bool := runF (method_May.F m_0) .start
theorem method_May.ok {m_0 v_m_0_Args v_m_0_Locals v_m_0_Code} (r) (H : method_May.f m_0 = some r) : Ok Tryz.prog 55 [.agg #[v_m_0_Args, v_m_0_Locals, .int .u8 m_0.Result, .bool m_0.Reads, .int .i64 m_0.Fuel, .int .i64 m_0.Stack, .int .i64 m_0.Heap, v_m_0_Code]] [slP (kInt .u8) v_m_0_Args m_0.Args, slP (kInt .u8) v_m_0_Locals m_0.Locals, slP k_api_Instr v_m_0_Code m_0.Code] fun v => HO.pure (v = .bool r) := by
 refine oq 53 Tryz.func55 fun w hV see pb => ?_
 obtain ⟨m0, o, ho, hr⟩ := rn H
 refine SP.box rfl rfl rfl rfl fun b4 => gg ?_
 refine SP.jn 9 [1] 18 (.bool ((decide ((m_0.Args.length : Int) > 4)) || (decide ((IntKind.i64.wrap ((m_0.Args.length : Int) + (m_0.Locals.length : Int))) > 16)))) ?_ ?_
 ·refine gg ?_
  refine SP.jn 9 [1] 28 (.bool (((decide ((m_0.Args.length : Int) > 4)) || (decide ((IntKind.i64.wrap ((m_0.Args.length : Int) + (m_0.Locals.length : Int))) > 16))) || ((decide (m_0.Result ≠ 1)) && (decide (m_0.Result ≠ 2))))) ?_ ?_
  ·refine gg ?_
   refine cb ho (fun ho => ?_) fun ho => ?_
   ·exact fin ho hr ▸ rt
   refine k1 method_Kinds.ok ho fun t12 ho v13 => ?_
   refine lo ho hr (fun z => ∃ x28, z (.l1 t12 x28) [(1, .pointer (some ⟨b4, 0, none⟩)), (30, v13), (31, .int .i64 (t12.length : Int)), (32, .int .i64 x28)] [slO (kInt .u8) 5 v13 t12, boxO b4 [v_m_0_Args, v_m_0_Locals, .int .u8 m_0.Result, .bool m_0.Reads, .int .i64 m_0.Fuel, .int .i64 m_0.Stack, .int .i64 m_0.Heap, v_m_0_Code] 43]) (fun _ z => ⟨0, z⟩) ?_
   rintro _ _ _ ⟨x28, m29, o, _, _, ho, hr, h⟩
   refine en h ?_
   refine ci ho (fun ho => ?_) fun ho => ?_
   ·obtain ⟨x31, hx_x31, ho⟩ := elt_bind ho
    refine SP.indexW (fun w2 hw => slO.whole (St.own 0 rfl see.sub see.dj hw)) Tryz.underlying26 sz5.h hx_x31.1 hx_x31.2 rfl rfl rfl rfl (fun p30 h_p30 => ?_)
    refine SP.val (Val.loadW1 (off := 0) (k := (kInt .u8)) (fun w2 hw => slO.whole (St.own 0 rfl see.sub see.dj hw)) hx_x31.2 h_p30 (fun _ _ e => by subst e; rfl) Tryz.underlying5 rfl rfl) rfl rfl rfl (gg ?_)
    refine kv method_local.ok ho fun t32 ho => ?_
    refine cb ho (fun ho => ?_) fun ho => ?_
    ·exact fin ho hr ▸ rt
    exact lw ho hr (fun _ z => ⟨(IntKind.i64.wrap (x28 + 1)), z⟩)
   refine kv method_within.ok ho fun t33 ho => ?_
   obtain ⟨t37, hg_t37, ho⟩ := bind_some ho
   refine SP.jn 4 [1] 47 (.bool t37) ?_ ?_
   ·clear hg_t37
    refine gg ?_
    obtain ⟨t41, hg_t41, ho⟩ := bind_some ho
    refine SP.jn 4 [] 52 (.bool t41) ?_ ?_
    ·clear hg_t41
     refine gg ?_
     exact fin ho hr ▸ rt
    refine SP.cb 48 hg_t41 (fun hq39 ho => ?_) fun hq39 ho => ?_
    ·refine gg ?_
     refine kv method_within.ok ho fun t40 ho => ?_
     obtain rfl := Option.some.inj ho
     exact QE.jn fun w2 hw => hw
    refine gg ?_
    obtain rfl := Option.some.inj ho
    exact QE.jn fun w2 hw => hw
   refine SP.cb 43 hg_t37 (fun hq35 ho => ?_) fun hq35 ho => ?_
   ·refine gg ?_
    refine kv method_within.ok ho fun t36 ho => ?_
    obtain rfl := Option.some.inj ho
    exact QE.jn fun w2 hw => hw
   refine gg ?_
   obtain rfl := Option.some.inj ho
   exact QE.jn fun w2 hw => hw
  refine SP.bb 19 (fun hq9 => ?_) fun hq9 => ?_
  ·refine gg ?_
   exact QE.jb (or_t hq9) fun w2 hw => hw
  refine gg ?_
  refine SP.jn 4 [1, 19] 27 (.bool ((decide (m_0.Result ≠ 1)) && (decide (m_0.Result ≠ 2)))) ?_ ?_
  ·refine gg ?_
   exact QE.jb (or_f hq9 rfl) fun w2 hw => hw
  refine SP.bb 23 (fun hq11 => ?_) fun hq11 => ?_
  ·refine gg ?_
   exact QE.jb (and_t hq11 rfl) fun w2 hw => hw
  refine gg ?_
  exact QE.jb (and_f hq11) fun w2 hw => hw
 refine SP.bb 9 (fun hq7 => ?_) fun hq7 => ?_
 ·refine gg ?_
  exact QE.jb (or_t hq7) fun w2 hw => hw
 refine gg ?_
 exact QE.jb (or_f hq7 rfl) fun w2 hw => hw
def method_Bytes.j1 (m_0 : api_Method) (l32 : List Int) : Option ((List Int) × Int) :=
  (octet_Put.f 3 m_0.Fuel).bind fun t36 => if t36.2 ≠ 0 then (some ([], 70)) else (if (l32.length + t36.1.length) * 1 ≤ 140737488355328 then ((octet_Put.f 2 m_0.Stack).bind fun t44 => if t44.2 ≠ 0 then (some ([], 70)) else (if ((l32 ++ t36.1).length + t44.1.length) * 1 ≤ 140737488355328 then ((octet_Put.f 2 m_0.Heap).bind fun t52 => if t52.2 ≠ 0 then (some ([], 70)) else (if (((l32 ++ t36.1) ++ t44.1).length + t52.1.length) * 1 ≤ 140737488355328 then (some (((l32 ++ t36.1) ++ t44.1) ++ t52.1, 0)) else none)) else none)) else none)
def method_Bytes.f (m_0 : api_Method) : Option ((List Int) × Int) :=
  (method_May.f m_0).bind fun t6 => if (!t6) = true then (some ([], 70)) else (if ([IntKind.u8.wrap (m_0.Args.length : Int)].length + m_0.Args.length) * 1 ≤ 140737488355328 then (if (([IntKind.u8.wrap (m_0.Args.length : Int)] ++ m_0.Args).length + [IntKind.u8.wrap (m_0.Locals.length : Int)].length) * 1 ≤ 140737488355328 then (if ((([IntKind.u8.wrap (m_0.Args.length : Int)] ++ m_0.Args) ++ [IntKind.u8.wrap (m_0.Locals.length : Int)]).length + m_0.Locals.length) * 1 ≤ 140737488355328 then (if (((([IntKind.u8.wrap (m_0.Args.length : Int)] ++ m_0.Args) ++ [IntKind.u8.wrap (m_0.Locals.length : Int)]) ++ m_0.Locals).length + [m_0.Result, 0].length) * 1 ≤ 140737488355328 then (if m_0.Reads = true then ((elt (((([IntKind.u8.wrap (m_0.Args.length : Int)] ++ m_0.Args) ++ [IntKind.u8.wrap (m_0.Locals.length : Int)]) ++ m_0.Locals) ++ [m_0.Result, 0]) (IntKind.i64.wrap (((((([IntKind.u8.wrap (m_0.Args.length : Int)] ++ m_0.Args) ++ [IntKind.u8.wrap (m_0.Locals.length : Int)]) ++ m_0.Locals) ++ [m_0.Result, 0]).length : Int) - 1))).bind fun x31 => method_Bytes.j1 m_0 ((((([IntKind.u8.wrap (m_0.Args.length : Int)] ++ m_0.Args) ++ [IntKind.u8.wrap (m_0.Locals.length : Int)]) ++ m_0.Locals) ++ [m_0.Result, 0]).set (IntKind.i64.wrap (((((([IntKind.u8.wrap (m_0.Args.length : Int)] ++ m_0.Args) ++ [IntKind.u8.wrap (m_0.Locals.length : Int)]) ++ m_0.Locals) ++ [m_0.Result, 0]).length : Int) - 1)).toNat 1)) else (method_Bytes.j1 m_0 (((([IntKind.u8.wrap (m_0.Args.length : Int)] ++ m_0.Args) ++ [IntKind.u8.wrap (m_0.Locals.length : Int)]) ++ m_0.Locals) ++ [m_0.Result, 0]))) else none) else none) else none) else none)
theorem method_Bytes.ok {m_0 v_m_0_Args v_m_0_Locals v_m_0_Code} (r) (ho : method_Bytes.f m_0 = some r) : Ok Tryz.prog 28 [.agg #[v_m_0_Args, v_m_0_Locals, .int .u8 m_0.Result, .bool m_0.Reads, .int .i64 m_0.Fuel, .int .i64 m_0.Stack, .int .i64 m_0.Heap, v_m_0_Code]] [slP (kInt .u8) v_m_0_Args m_0.Args, slP (kInt .u8) v_m_0_Locals m_0.Locals, slP k_api_Instr v_m_0_Code m_0.Code] fun v => HO.ex fun u0 : Value => HO.pand (v = .tuple #[u0, .int .i64 r.2]) (HO.seps [slO (kInt .u8) 5 u0 r.1]) := by
 refine oq 70 Tryz.func28 fun w hV see pb => ?_
 refine SP.box rfl rfl rfl rfl fun b4 => gg ?_
 refine kv method_May.ok ho fun t6 ho => ?_
 refine cb ho (fun ho => ?_) fun ho => ?_
 ·exact Option.some.inj ho ▸ rt (fun _ h => St.selO [0] rfl rfl (St.addO (slO.nil (kInt .u8) 5) h))
 refine li (kInt .u8) [IntKind.u8.wrap (m_0.Args.length : Int)] fun v8 => ?_
 refine ap 0 0 ho fun v10 ho => ?_
 refine CP.drawA (by kernel_rfl) (fun w2 k h => h.drawn k) ?_
 refine (DA.phase (fun i => Nat.ble 0 i && Nat.blt i 9) (fun w2 => St w em hV [slP (kInt .u8) v_m_0_Args m_0.Args, slP (kInt .u8) v_m_0_Locals m_0.Locals, slP k_api_Instr v_m_0_Code m_0.Code] [boxO b4 [v_m_0_Args, v_m_0_Locals, .int .u8 m_0.Result, .bool m_0.Reads, .int .i64 m_0.Fuel, .int .i64 m_0.Stack, .int .i64 m_0.Heap, v_m_0_Code] 43] w2) ?_)
 refine DT.ts 0 rfl (Val.move rfl) (fun w2 hw => (St.selO [1] rfl rfl hw)) ?_
 refine DT.ts 1 rfl (Val.fieldAddr Tryz.underlying43 rfl sz26.h rfl) (fun w2 hw => (St.selO [1] rfl rfl hw)) ?_
 refine DT.ts 2 rfl (Val.load1 0 rfl Tryz.underlying26 rfl rfl rfl) (fun w2 hw => (St.selO [1] rfl rfl hw)) ?_
 refine DT.ts 3 rfl (Val.lenP see 1 rfl Tryz.underlying26 rfl) (fun w2 hw => (St.selO [1] rfl rfl hw)) ?_
 refine DT.ts 4 rfl (Val.conv (by rw [Tryz.underlying3]; rfl) Tryz.underlying5 rfl) (fun w2 hw => (St.selO [1] rfl rfl hw)) ?_
 refine DT.ts 7 rfl (Val.fieldAddr Tryz.underlying43 rfl sz26.h rfl) (fun w2 hw => (St.selO [1] rfl rfl hw)) ?_
 refine DT.ts 8 rfl (Val.load1 0 rfl Tryz.underlying26 rfl rfl rfl) (fun w2 hw => (St.selO [1] rfl rfl hw)) ?_
 refine DT.one 5 rfl (by kernel_rfl) rfl ?_
 refine li (kInt .u8) [IntKind.u8.wrap (m_0.Locals.length : Int)] fun v20 => ?_
 refine QE.atT (fun w2 hw => (St.selO [2] rfl rfl hw)) ?_
 refine DT.one 6 rfl (by kernel_rfl) rfl ?_
 refine SP.freezeS see 0 rfl ?_
 refine ap 0 0 ho fun v22 ho => ?_
 refine QE.atT (fun w2 hw => (St.selP [1, 2, 3] rfl (St.selO [1] rfl rfl hw))) ?_
 refine DT.next (by kernel_rfl) ?_
 refine DA.one 9 rfl (by kernel_rfl) ?_
 refine ap 0 2 ho fun v24 ho => ?_
 refine QE.atA ?_
 refine DA.one 10 rfl (by kernel_rfl) (gg ?_)
 refine QE.atA ?_
 refine DA.done (by kernel_rfl) (gg ?_)
 refine li (kInt .u8) [m_0.Result, 0] fun v26 => ?_
 refine SP.freezeS see 0 rfl ?_
 refine ap (h := fun _ => id) 0 0 ho fun v28 ho => ?_
 refine go ?_
 refine oi r (fun z => ∃ l32 v33, z (method_Bytes.j1 m_0 l32) [(1, .pointer (some ⟨b4, 0, none⟩)), (4, v33)] [slO (kInt .u8) 5 v33 l32, boxO b4 [v_m_0_Args, v_m_0_Locals, .int .u8 m_0.Result, .bool m_0.Reads, .int .i64 m_0.Fuel, .int .i64 m_0.Stack, .int .i64 m_0.Heap, v_m_0_Code] 43]) ?_ ?_
 ·rintro _ _ ⟨l32, v33, ho, h⟩
  refine en h ?_
  refine bd [.int .i64 3, .int .i64 m_0.Fuel] ?_
  refine bd [.int .i64 2, .int .i64 m_0.Stack] ?_
  refine bd [.int .i64 2, .int .i64 m_0.Heap] ?_
  refine bd [.int .i64 3, .int .i64 m_0.Fuel, .int .i64 2, .int .i64 m_0.Stack, .int .i64 2, .int .i64 m_0.Heap] ?_
  refine CP.rounds 5 ?_
  refine LP.step ?_
  refine CP.seq ?_
  refine CP.region ?_
  refine cs (.bool true) ?_
  refine CP.condT rfl rfl (gg ?_)
  refine SP.val (Val.indexCA (c := [.int .i64 3, .int .i64 m_0.Fuel]) 0 Tryz.underlying109 Tryz.underlying108 rfl sz108.h rfl rfl rfl rfl) rfl rfl rfl ?_
  refine al fun b34 => ?_
  refine st 0 ?_
  refine k1 octet_Put.ok ho fun t36 ho v37 => ?_
  refine ci ho (fun ho => ?_) fun ho => ?_
  ·exact Option.some.inj ho ▸ rt (fun _ h => St.selO [0] rfl rfl (St.addO (slO.nil (kInt .u8) 5) h))
  refine SP.freezeS see 0 rfl ?_
  refine ap (h := fun _ => id) 1 0 ho fun v40 ho => ?_
  refine SP.val (Val.assign rfl) rfl rfl rfl ?_
  refine SP.nil ?_
  refine QE.blockN ?_
  refine QE.then ?_
  refine CP.region ?_
  refine cs (.int .i64 1) ?_
  refine QE.round ?_
  refine LP.step ?_
  refine CP.seq ?_
  refine CP.region ?_
  refine cs (.bool true) ?_
  refine CP.condT rfl rfl (gg ?_)
  refine SP.val (Val.indexCA (c := [.int .i64 2, .int .i64 m_0.Stack]) 1 Tryz.underlying109 Tryz.underlying108 rfl sz108.h rfl rfl rfl rfl) rfl rfl rfl ?_
  refine al fun b42 => ?_
  refine st 0 ?_
  refine k1 octet_Put.ok ho fun t44 ho v45 => ?_
  refine ci ho (fun ho => ?_) fun ho => ?_
  ·exact Option.some.inj ho ▸ rt (fun _ h => St.selO [0] rfl rfl (St.addO (slO.nil (kInt .u8) 5) h))
  refine SP.freezeS see 0 rfl ?_
  refine ap (h := fun _ => id) 2 0 ho fun v48 ho => ?_
  refine SP.val (Val.assign rfl) rfl rfl rfl ?_
  refine SP.nil ?_
  refine QE.blockN ?_
  refine QE.then ?_
  refine CP.region ?_
  refine cs (.int .i64 2) ?_
  refine QE.round ?_
  refine LP.step ?_
  refine CP.seq ?_
  refine CP.region ?_
  refine cs (.bool true) ?_
  refine CP.condT rfl rfl (gg ?_)
  refine SP.val (Val.indexCA (c := [.int .i64 2, .int .i64 m_0.Heap]) 2 Tryz.underlying109 Tryz.underlying108 rfl sz108.h rfl rfl rfl rfl) rfl rfl rfl ?_
  refine al fun b50 => ?_
  refine st 0 ?_
  refine k1 octet_Put.ok ho fun t52 ho v53 => ?_
  refine ci ho (fun ho => ?_) fun ho => ?_
  ·exact Option.some.inj ho ▸ rt (fun _ h => St.selO [0] rfl rfl (St.addO (slO.nil (kInt .u8) 5) h))
  refine SP.freezeS see 0 rfl ?_
  refine ap (h := fun _ => id) 3 0 ho fun v56 ho => ?_
  refine SP.val (Val.assign rfl) rfl rfl rfl ?_
  refine SP.nil ?_
  refine QE.blockN ?_
  refine QE.then ?_
  refine CP.region ?_
  refine cs (.int .i64 3) ?_
  refine QE.round ?_
  refine LP.step ?_
  refine CP.seq ?_
  refine CP.region ?_
  refine cs (.bool false) ?_
  refine CP.condF rfl rfl (gg ?_)
  exact Option.some.inj ho ▸ rt (sO [3])
 refine gg ?_
 refine cb ho (fun ho => ?_) fun ho => ?_
 ·obtain ⟨x31, hx_x31, ho⟩ := elt_bind ho
  refine SP.indexW (fun w2 hw => slO.whole (St.own 0 rfl see.sub see.dj hw)) Tryz.underlying26 sz5.h hx_x31.1 hx_x31.2 rfl rfl rfl rfl (fun p30 h_p30 => ?_)
  refine SP.storeO (z0 := 1) (off := 0) (vs := [.int .u8 1]) see 0 rfl hx_x31.2 h_p30 rfl rfl sz5.h rfl (fun a cs _ e => by subst e; rfl) rfl rfl rfl (gg ?_)
  exact mo ho (fun _ z => ⟨((((([IntKind.u8.wrap (m_0.Args.length : Int)] ++ m_0.Args) ++ [IntKind.u8.wrap (m_0.Locals.length : Int)]) ++ m_0.Locals) ++ [m_0.Result, 0]).set (IntKind.i64.wrap (((((([IntKind.u8.wrap (m_0.Args.length : Int)] ++ m_0.Args) ++ [IntKind.u8.wrap (m_0.Locals.length : Int)]) ++ m_0.Locals) ++ [m_0.Result, 0]).length : Int) - 1)).toNat 1), v28, z⟩)
 exact mo ho (fun _ z => ⟨(((([IntKind.u8.wrap (m_0.Args.length : Int)] ++ m_0.Args) ++ [IntKind.u8.wrap (m_0.Locals.length : Int)]) ++ m_0.Locals) ++ [m_0.Result, 0]), v28, z⟩)
def op_Known.f (op_0 : Int) : Option Bool :=
  some (decide ((IntKind.i64.wrap op_0) < 33))
theorem op_Known.ok {op_0} (r) (ho : op_Known.f op_0 = some r) : Ok Tryz.prog 107 [.int .u8 op_0] [] fun v => HO.pure (v = .bool r) := by
 refine oq 6 Tryz.func107 fun w hV see pb => ?_
 exact Option.some.inj ho ▸ rt
def op_sign.j3 (op_0 : Int) (b3 : Bool) : Option Int :=
  if b3 = true then (some 5) else (if op_0 = 30 then (some 6) else (if op_0 = 32 then (some 7) else (if op_0 = 28 then (some 8) else (some 0))))
def op_sign.j2 (op_0 : Int) (b2 : Bool) : Option Int :=
  if b2 = true then (some 3) else (if op_0 = 22 then (some 4) else (if op_0 = 26 then (op_sign.j3 op_0 (decide (op_0 = 26))) else (if op_0 = 27 then (op_sign.j3 op_0 (decide (op_0 = 27))) else (op_sign.j3 op_0 (decide (op_0 = 29))))))
def op_sign.j1 (op_0 : Int) (b1 : Bool) : Option Int :=
  if b1 = true then (some 2) else (if op_0 = 4 then (op_sign.j2 op_0 (decide (op_0 = 4))) else (op_sign.j2 op_0 (decide (op_0 = 5))))
def op_sign.f (op_0 : Int) : Option Int :=
  if op_0 = 1 then (some 1) else (if op_0 = 2 then (op_sign.j1 op_0 (decide (op_0 = 2))) else (op_sign.j1 op_0 (decide (op_0 = 3))))
theorem op_sign.ok {op_0} (r) (ho : op_sign.f op_0 = some r) : Ok Tryz.prog 134 [.int .u8 op_0] [] fun v => HO.pure (v = .int .i64 r) := by
 refine oq 24 Tryz.func134 fun w hV see pb => ?_
 refine ci (hf := id) ho (fun ho => ?_) fun ho => ?_
 ·exact Option.some.inj ho ▸ rt
 refine oi r (fun z => ∃ b1, z (op_sign.j1 op_0 b1) [(3, .int .u8 op_0), (6, .bool b1)] []) ?_ ?_
 ·rintro _ _ ⟨b1, ho, h⟩
  refine en h ?_
  refine cb (hf := id) ho (fun ho => ?_) fun ho => ?_
  ·exact Option.some.inj ho ▸ rt
  refine oi r (fun z => ∃ b2, z (op_sign.j2 op_0 b2) [(3, .int .u8 op_0), (9, .bool b2)] []) ?_ ?_
  ·rintro _ _ ⟨b2, ho, h⟩
   refine en h ?_
   refine cb ho (fun ho => ?_) fun ho => ?_
   ·exact Option.some.inj ho ▸ rt
   refine ci (hf := id) ho (fun ho => ?_) fun ho => ?_
   ·exact Option.some.inj ho ▸ rt
   refine oi r (fun z => ∃ b3, z (op_sign.j3 op_0 b3) [(3, .int .u8 op_0), (14, .bool b3)] []) ?_ ?_
   ·rintro _ _ ⟨b3, ho, h⟩
    refine en h ?_
    refine cb ho (fun ho => ?_) fun ho => ?_
    ·exact Option.some.inj ho ▸ rt
    refine ci ho (fun ho => ?_) fun ho => ?_
    ·exact Option.some.inj ho ▸ rt
    refine ci ho (fun ho => ?_) fun ho => ?_
    ·exact Option.some.inj ho ▸ rt
    refine ci ho (fun ho => ?_) fun ho => ?_
    ·exact Option.some.inj ho ▸ rt
    exact Option.some.inj ho ▸ rt
   refine gg ?_
   refine ci ho (fun ho => ?_) fun ho => ?_
   ·exact mo ho (fun _ z => ⟨(decide (op_0 = 26)), z⟩)
   refine ci ho (fun ho => ?_) fun ho => ?_
   ·exact mo ho (fun _ z => ⟨(decide (op_0 = 27)), z⟩)
   exact mo ho (fun _ z => ⟨(decide (op_0 = 29)), z⟩)
  refine gg ?_
  refine ci ho (fun ho => ?_) fun ho => ?_
  ·exact mo ho (fun _ z => ⟨(decide (op_0 = 4)), z⟩)
  exact mo ho (fun _ z => ⟨(decide (op_0 = 5)), z⟩)
 refine gg ?_
 refine ci ho (fun ho => ?_) fun ho => ?_
 ·exact mo ho (fun _ z => ⟨(decide (op_0 = 2)), z⟩)
 exact mo ho (fun _ z => ⟨(decide (op_0 = 3)), z⟩)
def op_Bounds.f (op_0 : Int) : Option (Int × Int) :=
  (op_Known.f op_0).bind fun t1 => if (!t1) = true then (some (0, (-1))) else ((op_sign.f op_0).bind fun t2 => (elt tab1 t2).bind fun x5 => some (x5.e0, x5.e1))
theorem op_Bounds.ok {op_0} (r) (ho : op_Bounds.f op_0 = some r) : Ok Tryz.prog 97 [.int .u8 op_0] [arrP k_arr199 1 tab1] fun v => HO.pure (v = .tuple #[.int .i64 r.1, .int .i64 r.2]) := by
 refine oq 16 Tryz.func97 fun w hV see pb => ?_
 refine kv op_Known.ok ho fun t1 ho => ?_
 refine cb ho (fun ho => ?_) fun ho => ?_
 ·exact Option.some.inj ho ▸ rt
 refine kv op_sign.ok ho fun t2 ho => ?_
 obtain ⟨x5, hx, ho⟩ := elt_bind ho
 refine SP.indexG see 0 rfl Tryz.underlying200 rfl sz199.h hx.1 hx.2 rfl rfl rfl rfl (fun p3 => ?_)
 clear hx
 refine k_arr199.load see 0 rfl Tryz.underlying199 rfl sz199.h rfl rfl rfl ?_
 refine al fun b6 => ?_
 refine st 0 ?_
 refine CP.drawA (by kernel_rfl) (fun w2 k h => h.drawn k) ?_
 refine DA.ph 0 5 ?_
 refine DT.tv 0 rfl (Val.indexC (off2 := 0) Tryz.underlying199 sz3.h (by decide) rfl rfl rfl) ?_
 refine DT.tk 1 ?_
 refine DT.tv 2 rfl (Val.indexC (off2 := 1) Tryz.underlying199 sz3.h (by decide) rfl rfl rfl) ?_
 refine DT.tk 3 ?_
 refine DT.tk 4 ?_
 refine DT.next (by kernel_rfl) ?_
 refine DA.one 5 rfl (by kernel_rfl) (gg ?_)
 refine QE.atA ?_
 refine DA.done (by kernel_rfl) (gg ?_)
 exact Option.some.inj ho ▸ rt
def op_May.f (i_0 : api_Instr) : Option Bool :=
  (op_Bounds.f i_0.Op).bind fun t3 => some (((decide (i_0.A ≥ t3.1)) && (decide (i_0.A ≤ t3.2))) && (decide (i_0.B = 0)))
theorem op_May.ok {i_0} (r) (ho : op_May.f i_0 = some r) : Ok Tryz.prog 96 [.agg #[.int .u8 i_0.Op, .int .i64 i_0.A, .int .i64 i_0.B]] [arrP k_arr199 1 tab1] fun v => HO.pure (v = .bool r) := by
 refine oq 26 Tryz.func96 fun w hV see pb => ?_
 refine SP.box rfl rfl rfl rfl fun b1 => gg ?_
 refine kv op_Bounds.ok ho fun t3 ho => ?_
 refine SP.jn 5 [1] 20 (.bool ((decide (i_0.A ≥ t3.1)) && (decide (i_0.A ≤ t3.2)))) ?_ ?_
 ·refine gg ?_
  refine SP.jn 4 [] 25 (.bool (((decide (i_0.A ≥ t3.1)) && (decide (i_0.A ≤ t3.2))) && (decide (i_0.B = 0)))) ?_ ?_
  ·refine gg ?_
   exact Option.some.inj ho ▸ rt
  refine SP.bb 21 (fun hq7 => ?_) fun hq7 => ?_
  ·refine gg ?_
   exact QE.jb (and_t hq7 rfl) fun w2 hw => hw
  refine gg ?_
  exact QE.jb (and_f hq7) fun w2 hw => hw
 refine SP.bb 15 (fun hq5 => ?_) fun hq5 => ?_
 ·refine gg ?_
  exact QE.jb (and_t hq5 rfl) fun w2 hw => hw
 refine gg ?_
 exact QE.jb (and_f hq5) fun w2 hw => hw
def code_May_1.f (i_0 : api_Instr) : Option Bool :=
  (op_May.f i_0).bind fun t3 => some (!t3)
theorem code_May_1.ok {i_0} (r) (ho : code_May_1.f i_0 = some r) : Ok Tryz.prog 95 [.agg #[.int .u8 i_0.Op, .int .i64 i_0.A, .int .i64 i_0.B]] [arrP k_arr199 1 tab1] fun v => HO.pure (v = .bool r) := by
 refine oq 6 Tryz.func95 fun w hV see pb => ?_
 refine SP.box rfl rfl rfl rfl fun b1 => gg ?_
 refine kv op_May.ok ho fun t3 ho => ?_
 exact Option.some.inj ho ▸ rt
inductive slices_IndexFunc_api_Instr_api_Instr_s1.S where
  | start
  | l1 (x7 : Int)
def slices_IndexFunc_api_Instr_api_Instr_s1.F (s_0 : List api_Instr) : slices_IndexFunc_api_Instr_api_Instr_s1.S → Option (slices_IndexFunc_api_Instr_api_Instr_s1.S ⊕ Int)
  | .start => some (.inl (.l1 0))
  | .l1 x7 => if x7 < (s_0.length : Int) then ((elt s_0 x7).bind fun x11 => (code_May_1.f x11).bind fun t12 => if t12 = true then (some (.inr x7)) else (some (.inl (.l1 (IntKind.i64.wrap (x7 + 1)))))) else (some (.inr (-1)))
def slices_IndexFunc_api_Instr_api_Instr_s1.f (s_0 : List api_Instr) : Option Int := runF (slices_IndexFunc_api_Instr_api_Instr_s1.F s_0) .start
theorem slices_IndexFunc_api_Instr_api_Instr_s1.ok {s_0 v_s_0} (r) (H : slices_IndexFunc_api_Instr_api_Instr_s1.f s_0 = some r) : Ok Tryz.prog 119 [v_s_0, .func (.func 95) #[] #[]] [slP k_api_Instr v_s_0 s_0, arrP k_arr199 1 tab1] fun v => HO.pure (v = .int .i64 r) := by
 refine oq 19 Tryz.func119 fun w hV see pb => ?_
 obtain ⟨m0, o, ho, hr⟩ := rn H
 refine lo ho hr (fun z => ∃ x7, z (.l1 x7) [(0, v_s_0), (1, .func (.func 95) #[] #[]), (7, .int .i64 (s_0.length : Int)), (8, .int .i64 x7)] []) (fun _ z => ⟨0, z⟩) ?_
 rintro _ _ _ ⟨x7, m8, o, _, _, ho, hr, h⟩
 refine en h ?_
 refine ci ho (fun ho => ?_) fun ho => ?_
 ·obtain ⟨x11, hx, ho⟩ := elt_bind ho
  refine SP.indexP see 0 rfl Tryz.underlying41 sz57.h hx.1 hx.2 rfl rfl rfl rfl (fun p9 => ?_)
  clear hx
  refine k_api_Instr.load see 0 rfl Tryz.underlying57 rfl sz57.h rfl rfl rfl ?_
  refine kv code_May_1.ok ho fun t12 ho => ?_
  refine cb ho (fun ho => ?_) fun ho => ?_
  ·exact fin ho hr ▸ rt
  exact lw ho hr (fun _ z => ⟨(IntKind.i64.wrap (x7 + 1)), z⟩)
 exact fin ho hr ▸ rt
def slices_ContainsFunc_api_Instr_api_Instr_s1.f (s_0 : List api_Instr) : Option Bool :=
  (slices_IndexFunc_api_Instr_api_Instr_s1.f s_0).bind fun t2 => some (decide (t2 ≥ 0))
theorem slices_ContainsFunc_api_Instr_api_Instr_s1.ok {s_0 v_s_0} (r) (ho : slices_ContainsFunc_api_Instr_api_Instr_s1.f s_0 = some r) : Ok Tryz.prog 78 [v_s_0, .func (.func 95) #[] #[]] [slP k_api_Instr v_s_0 s_0, arrP k_arr199 1 tab1] fun v => HO.pure (v = .bool r) := by
 refine oq 9 Tryz.func78 fun w hV see pb => ?_
 refine kv slices_IndexFunc_api_Instr_api_Instr_s1.ok ho fun t2 ho => ?_
 exact Option.some.inj ho ▸ rt
def code_May.f (l_0 : List api_Instr) : Option Bool :=
  (if ((decide ((l_0.length : Int) > 0)) && (decide ((l_0.length : Int) ≤ 200))) = true then ((slices_ContainsFunc_api_Instr_api_Instr_s1.f l_0).bind fun t6 => some (!t6)) else (some false)).bind fun t7 => some t7
theorem code_May.ok {l_0 v_l_0} (r) (ho : code_May.f l_0 = some r) : Ok Tryz.prog 57 [v_l_0] [slP k_api_Instr v_l_0 l_0, arrP k_arr199 1 tab1] fun v => HO.pure (v = .bool r) := by
 refine oq 16 Tryz.func57 fun w hV see pb => ?_
 refine SP.jn 4 [0] 10 (.bool ((decide ((l_0.length : Int) > 0)) && (decide ((l_0.length : Int) ≤ 200)))) ?_ ?_
 ·refine gg ?_
  obtain ⟨t7, hg_t7, ho⟩ := bind_some ho
  refine SP.jn 4 [] 15 (.bool t7) ?_ ?_
  ·clear hg_t7
   refine gg ?_
   exact Option.some.inj ho ▸ rt
  refine SP.cb 11 hg_t7 (fun hq5 ho => ?_) fun hq5 ho => ?_
  ·refine gg ?_
   refine kv slices_ContainsFunc_api_Instr_api_Instr_s1.ok ho fun t6 ho => ?_
   obtain rfl := Option.some.inj ho
   exact QE.jn fun w2 hw => hw
  refine gg ?_
  obtain rfl := Option.some.inj ho
  exact QE.jn fun w2 hw => hw
 refine SP.bb 6 (fun hq3 => ?_) fun hq3 => ?_
 ·refine gg ?_
  exact QE.jb (and_t hq3 rfl) fun w2 hw => hw
 refine gg ?_
 exact QE.jb (and_f hq3) fun w2 hw => hw
def code_wide.f (n_0 : Int) : Option Bool :=
  (op_Bounds.f n_0).bind fun t1 => some (decide (t1.2 > 0))
theorem code_wide.ok {n_0} (r) (ho : code_wide.f n_0 = some r) : Ok Tryz.prog 58 [.int .u8 n_0] [arrP k_arr199 1 tab1] fun v => HO.pure (v = .bool r) := by
 refine oq 12 Tryz.func58 fun w hV see pb => ?_
 refine kv op_Bounds.ok ho fun t1 ho => ?_
 exact Option.some.inj ho ▸ rt
inductive code_Bytes.S where
  | start
  | l1 (l28 : List Int) (x30 : Int)
def code_Bytes.j1 (l_0 : List api_Instr) (x30 : Int) (l49 : List Int) : Option (code_Bytes.S ⊕ ((List Int) × Int)) :=
  some (.inl (.l1 l49 (IntKind.i64.wrap (x30 + 1))))
def code_Bytes.F (l_0 : List api_Instr) : code_Bytes.S → Option (code_Bytes.S ⊕ ((List Int) × Int))
  | .start => (code_May.f l_0).bind fun t2 => if (!t2) = true then (some (.inr ([], 40))) else (some (.inl (.l1 [IntKind.u8.wrap (l_0.length : Int)] 0)))
  | .l1 l28 x30 => if x30 < (l_0.length : Int) then ((elt l_0 x30).bind fun x34 => if (l28.length + [x34.Op].length) * 1 ≤ 140737488355328 then ((code_wide.f x34.Op).bind fun t41 => if (!t41) = true then (code_Bytes.j1 l_0 x30 (l28 ++ [x34.Op])) else ((octet_Put.f 2 x34.A).bind fun t42 => if t42.2 ≠ 0 then (some (.inr ([], 40))) else (if ((l28 ++ [x34.Op]).length + t42.1.length) * 1 ≤ 140737488355328 then (code_Bytes.j1 l_0 x30 ((l28 ++ [x34.Op]) ++ t42.1)) else none))) else none) else (some (.inr (l28, 0)))
def code_Bytes.f (l_0 : List api_Instr) : Option ((List Int) × Int) := runF (code_Bytes.F l_0) .start
theorem code_Bytes.ok {l_0 v_l_0} (r) (H : code_Bytes.f l_0 = some r) : Ok Tryz.prog 29 [v_l_0] [slP k_api_Instr v_l_0 l_0, arrP k_arr199 1 tab1] fun v => HO.ex fun u0 : Value => HO.pand (v = .tuple #[u0, .int .i64 r.2]) (HO.seps [slO (kInt .u8) 5 u0 r.1]) := by
 refine oq 44 Tryz.func29 fun w hV see pb => ?_
 obtain ⟨m0, o, ho, hr⟩ := rn H
 refine kv code_May.ok ho fun t2 ho => ?_
 refine cb ho (fun ho => ?_) fun ho => ?_
 ·exact fin ho hr ▸ rt (fun _ h => St.selO [0] rfl rfl (St.addO (slO.nil (kInt .u8) 5) h))
 refine li (kInt .u8) [IntKind.u8.wrap (l_0.length : Int)] fun v4 => ?_
 refine lo ho hr (fun z => ∃ l28 x30 v29, z (.l1 l28 x30) [(4, v29), (16, v_l_0), (17, .int .i64 (l_0.length : Int)), (18, .int .i64 x30)] [slO (kInt .u8) 5 v29 l28]) (fun _ z => ⟨[IntKind.u8.wrap (l_0.length : Int)], 0, v4, z⟩) ?_
 rintro _ _ _ ⟨l28, x30, v29, m31, o, _, _, ho, hr, h⟩
 refine en h ?_
 refine ci (ht := id) ho (fun ho => ?_) fun ho => ?_
 ·refine go ?_
  refine ji hr (fun z => ∃ l49 v50, z (code_Bytes.j1 l_0 x30 l49) [(4, v50), (16, v_l_0), (17, .int .i64 (l_0.length : Int)), (18, .int .i64 x30)] [slO (kInt .u8) 5 v50 l49]) ?_ ?_
  ·rintro _ _ ⟨l49, v50, m51, o, _, ho, hr, h⟩
   refine en h ?_
   exact lw ho hr (fun _ z => ⟨l49, (IntKind.i64.wrap (x30 + 1)), v50, z⟩)
  refine gg ?_
  obtain ⟨x34, hx, ho⟩ := elt_bind ho
  refine SP.indexP see 0 rfl Tryz.underlying41 sz57.h hx.1 hx.2 rfl rfl rfl rfl (fun p32 => ?_)
  clear hx
  refine k_api_Instr.load see 0 rfl Tryz.underlying57 rfl sz57.h rfl rfl rfl ?_
  refine al fun b35 => ?_
  refine st 0 ?_
  refine li (kInt .u8) [x34.Op] fun v37 => ?_
  refine SP.freezeS see 0 rfl ?_
  refine ap 1 0 ho fun v39 ho => ?_
  refine kv code_wide.ok ho fun t41 ho => ?_
  refine cb ho (fun ho => ?_) fun ho => ?_
  ·exact mi ho hr (fun _ z => ⟨(l28 ++ [x34.Op]), v39, z⟩) (sO [1])
  refine k1 octet_Put.ok ho fun t42 ho v43 => ?_
  refine ci ho (fun ho => ?_) fun ho => ?_
  ·exact fin ho hr ▸ rt (fun _ h => St.selO [0] rfl rfl (St.addO (slO.nil (kInt .u8) 5) h))
  refine SP.freezeS see 0 rfl ?_
  refine ap 1 0 ho fun v46 ho => ?_
  exact mi ho hr (fun _ z => ⟨((l28 ++ [x34.Op]) ++ t42.1), v46, z⟩) (sO [1])
 exact fin ho hr ▸ rt (sO [0])
inductive module_whole.S where
  | start
  | l1 (l2277 : List Int) (x2279 : Int)
def module_whole.j1 (m_0 : api_Module) (l2277 : List Int) (x2304 : Int) : Option (module_whole.S ⊕ ((List Int) × Int)) :=
  if (l2277.length + [x2304].length) * 1 ≤ 140737488355328 then (some (.inr (l2277 ++ [x2304], 0))) else none
def module_whole.F (m_0 : api_Module) : module_whole.S → Option (module_whole.S ⊕ ((List Int) × Int))
  | .start => if ((((decide ((m_0.Globals.length : Int) > 4)) || (decide ((m_0.Methods.length : Int) > 16))) || (decide (m_0.Migrate < (-1)))) || (decide (m_0.Migrate ≥ (m_0.Methods.length : Int)))) = true then (some (.inr ([], 80))) else ((pool_Bytes.f m_0.Globals).bind fun t13 => if t13.2 ≠ 0 then (some (.inr ([], t13.2))) else ((pool_Bytes.f m_0.Pool).bind fun t17 => if t17.2 ≠ 0 then (some (.inr ([], t17.2))) else (if (t13.1.length + t17.1.length) * 1 ≤ 140737488355328 then (if ((t13.1 ++ t17.1).length + [IntKind.u8.wrap (m_0.Methods.length : Int)].length) * 1 ≤ 140737488355328 then (some (.inl (.l1 ((t13.1 ++ t17.1) ++ [IntKind.u8.wrap (m_0.Methods.length : Int)]) 0))) else none) else none)))
  | .l1 l2277 x2279 => if x2279 < (m_0.Methods.length : Int) then ((elt m_0.Methods x2279).bind fun x2283 => (method_Bytes.f x2283).bind fun t2292 => if t2292.2 ≠ 0 then (some (.inr ([], t2292.2))) else ((code_Bytes.f x2283.Code).bind fun t2296 => if t2296.2 ≠ 0 then (some (.inr ([], t2296.2))) else (if (l2277.length + t2292.1.length) * 1 ≤ 140737488355328 then (if ((l2277 ++ t2292.1).length + t2296.1.length) * 1 ≤ 140737488355328 then (some (.inl (.l1 ((l2277 ++ t2292.1) ++ t2296.1) (IntKind.i64.wrap (x2279 + 1))))) else none) else none))) else (if m_0.Migrate ≥ 0 then (module_whole.j1 m_0 l2277 (IntKind.u8.wrap m_0.Migrate)) else (module_whole.j1 m_0 l2277 255))
def module_whole.f (m_0 : api_Module) : Option ((List Int) × Int) := runF (module_whole.F m_0) .start
theorem module_whole.ok {m_0 v_m_0_Globals v_m_0_Pool v_m_0_Methods} (r) (H : module_whole.f m_0 = some r) : Ok Tryz.prog 16 [.agg #[v_m_0_Globals, v_m_0_Pool, v_m_0_Methods, .int .i64 m_0.Migrate]] [slP k_api_Value v_m_0_Globals m_0.Globals, slP k_api_Value v_m_0_Pool m_0.Pool, slP k_api_Method v_m_0_Methods m_0.Methods, arrP k_arr199 1 tab1] fun v => HO.ex fun u0 : Value => HO.pand (v = .tuple #[u0, .int .i64 r.2]) (HO.seps [slO (kInt .u8) 5 u0 r.1]) := by
 refine oq 103 Tryz.func16 fun w hV see pb => ?_
 obtain ⟨m0, o, ho, hr⟩ := rn H
 refine SP.box rfl rfl rfl rfl fun b4 => gg ?_
 refine SP.jn 5 [1] 22 (.bool ((decide ((m_0.Globals.length : Int) > 4)) || (decide ((m_0.Methods.length : Int) > 16)))) ?_ ?_
 ·refine gg ?_
  refine SP.jn 4 [1] 27 (.bool (((decide ((m_0.Globals.length : Int) > 4)) || (decide ((m_0.Methods.length : Int) > 16))) || (decide (m_0.Migrate < (-1))))) ?_ ?_
  ·refine gg ?_
   refine SP.jn 7 [1] 35 (.bool ((((decide ((m_0.Globals.length : Int) > 4)) || (decide ((m_0.Methods.length : Int) > 16))) || (decide (m_0.Migrate < (-1)))) || (decide (m_0.Migrate ≥ (m_0.Methods.length : Int))))) ?_ ?_
   ·refine gg ?_
    refine cb ho (fun ho => ?_) fun ho => ?_
    ·exact fin ho hr ▸ rt (fun _ h => St.selO [0] rfl rfl (St.addO (slO.nil (kInt .u8) 5) h))
    refine k1 pool_Bytes.ok ho fun t13 ho v14 => ?_
    refine ci ho (fun ho => ?_) fun ho => ?_
    ·exact fin ho hr ▸ rt (fun _ h => St.selO [0] rfl rfl (St.addO (slO.nil (kInt .u8) 5) h))
    refine k1 pool_Bytes.ok ho fun t17 ho v18 => ?_
    refine ci ho (fun ho => ?_) fun ho => ?_
    ·exact fin ho hr ▸ rt (fun _ h => St.selO [0] rfl rfl (St.addO (slO.nil (kInt .u8) 5) h))
    refine CP.drawA (by kernel_rfl) (fun w2 k h => h.drawn k) ?_
    refine (DA.phase (fun i => Nat.ble 0 i && Nat.blt i 8) (fun w2 => St w em hV [slP k_api_Value v_m_0_Globals m_0.Globals, slP k_api_Value v_m_0_Pool m_0.Pool, slP k_api_Method v_m_0_Methods m_0.Methods, arrP k_arr199 1 tab1] [boxO b4 [v_m_0_Globals, v_m_0_Pool, v_m_0_Methods, .int .i64 m_0.Migrate] 25] w2) ?_)
    refine DT.ts 0 rfl (Val.move rfl) (fun w2 hw => (St.selO [2] rfl rfl hw)) ?_
    refine DT.ts 1 rfl (Val.move rfl) (fun w2 hw => (St.selO [2] rfl rfl hw)) ?_
    refine DT.ts 3 rfl (Val.fieldAddr Tryz.underlying25 rfl sz23.h rfl) (fun w2 hw => (St.selO [2] rfl rfl hw)) ?_
    refine DT.ts 4 rfl (Val.load1 0 rfl Tryz.underlying23 rfl rfl rfl) (fun w2 hw => (St.selO [2] rfl rfl hw)) ?_
    refine DT.ts 5 rfl (Val.lenP see 2 rfl Tryz.underlying23 rfl) (fun w2 hw => (St.selO [2] rfl rfl hw)) ?_
    refine DT.ts 6 rfl (Val.conv (by rw [Tryz.underlying3]; rfl) Tryz.underlying5 rfl) (fun w2 hw => (St.selO [2] rfl rfl hw)) ?_
    obtain ⟨hb_626, ho⟩ := must_some ho
    refine DT.list (l2 := #[true, true, false, true, true, true, true, false, false, false]) (by kernel_rfl) ?_
    refine DT.cut (ι := Value × Value) (fun z => [(1, .pointer (some ⟨b4, 0, none⟩)), (4, v14), (56, z.1), (61, z.2)]) (fun z w2 => St w em hV [slP (kInt .u8) v18 t17.1, slP k_api_Value v_m_0_Globals m_0.Globals, slP k_api_Value v_m_0_Pool m_0.Pool, slP k_api_Method v_m_0_Methods m_0.Methods, arrP k_arr199 1 tab1] [slO (kInt .u8) 5 z.2 [IntKind.u8.wrap (m_0.Methods.length : Int)], slO (kInt .u8) 5 z.1 (t13.1 ++ t17.1), boxO b4 [v_m_0_Globals, v_m_0_Pool, v_m_0_Methods, .int .i64 m_0.Migrate] 25] w2) 2 #[true, true, true, true, true, true, true, true, false, false] (fun z => ?_) (fun J2243 => ?_)
    ·obtain ⟨v627, v1627⟩ := z
     refine DT.next (by kernel_rfl) ?_
     refine DA.one 8 rfl (by kernel_rfl) ?_
     refine SP.freezeS see 0 rfl ?_
     refine ap 0 0 ho fun v2244 ho => ?_
     refine QE.atA ?_
     refine DA.one 9 rfl (by kernel_rfl) (gg ?_)
     refine QE.atA ?_
     refine DA.done (by kernel_rfl) (gg ?_)
     refine lo ho hr (fun z => ∃ l2277 x2279 v2278, z (.l1 l2277 x2279) [(1, .pointer (some ⟨b4, 0, none⟩)), (4, v2278), (64, v_m_0_Methods), (65, .int .i64 (m_0.Methods.length : Int)), (66, .int .i64 x2279)] [slO (kInt .u8) 5 v2278 l2277, boxO b4 [v_m_0_Globals, v_m_0_Pool, v_m_0_Methods, .int .i64 m_0.Migrate] 25]) (fun _ z => ⟨((t13.1 ++ t17.1) ++ [IntKind.u8.wrap (m_0.Methods.length : Int)]), 0, v2244, z⟩) ?_
     rintro _ _ _ ⟨l2277, x2279, v2278, m2280, o, _, _, ho, hr, h⟩
     refine en h ?_
     refine ci (hf := id) ho (fun ho => ?_) fun ho => ?_
     ·obtain ⟨x2283, hx, ho⟩ := elt_bind ho
      refine SP.indexP see 2 rfl Tryz.underlying23 sz43.h hx.1 hx.2 rfl rfl rfl rfl (fun p2281 => ?_)
      clear hx
      refine k_api_Method.load see 0 rfl Tryz.underlying43 rfl sz43.h rfl rfl rfl (fun v2284 v2286 v2288 => ?_)
      refine al fun b2290 => ?_
      refine sp 0 fun hs_v2284 => ?_
      refine sp 1 fun hs_v2286 => ?_
      refine sp 2 fun hs_v2288 => ?_
      refine st 0 ?_
      refine k1 method_Bytes.ok ho fun t2292 ho v2293 => ?_
      refine ci ho (fun ho => ?_) fun ho => ?_
      ·exact fin ho hr ▸ rt (fun _ h => St.selO [0] rfl rfl (St.addO (slO.nil (kInt .u8) 5) h))
      refine k1 code_Bytes.ok ho fun t2296 ho v2297 => ?_
      refine ci ho (fun ho => ?_) fun ho => ?_
      ·exact fin ho hr ▸ rt (fun _ h => St.selO [0] rfl rfl (St.addO (slO.nil (kInt .u8) 5) h))
      refine SP.freezeS see 1 rfl ?_
      refine ap 2 0 ho fun v2300 ho => ?_
      refine SP.freezeS see 0 rfl ?_
      refine ap 1 0 ho fun v2302 ho => ?_
      exact lw ho hr (fun _ z => ⟨((l2277 ++ t2292.1) ++ t2296.1), (IntKind.i64.wrap (x2279 + 1)), v2302, z⟩) (sO [1, 2])
     refine go ?_
     refine ji hr (fun z => ∃ x2304, z (module_whole.j1 m_0 l2277 x2304) [(4, v2278), (12, .int .u8 x2304)] [slO (kInt .u8) 5 v2278 l2277]) ?_ ?_ (hb := pe [arrP k_arr199 1 tab1])
     ·rintro _ _ ⟨x2304, m2305, o, _, ho, hr, h⟩
      refine en h ?_
      refine li (kInt .u8) [x2304] fun v2306 => ?_
      refine SP.freezeS see 0 rfl ?_
      refine ap 0 0 ho fun v2308 ho => ?_
      exact fin ho hr ▸ rt (sO [0])
     refine gg ?_
     refine ci ho (fun ho => ?_) fun ho => ?_
     ·exact mi ho hr (fun _ z => ⟨(IntKind.u8.wrap m_0.Migrate), z⟩) (sO [0])
     exact mi ho hr (fun _ z => ⟨255, z⟩) (sO [0])
    refine DT.cut (ι := Value) (fun z => [(1, .pointer (some ⟨b4, 0, none⟩)), (4, v14), (56, z), (60, .int .u8 (IntKind.u8.wrap (m_0.Methods.length : Int)))]) (fun z w2 => St w em hV [slP (kInt .u8) v18 t17.1, slP k_api_Value v_m_0_Globals m_0.Globals, slP k_api_Value v_m_0_Pool m_0.Pool, slP k_api_Method v_m_0_Methods m_0.Methods, arrP k_arr199 1 tab1] [slO (kInt .u8) 5 z (t13.1 ++ t17.1), boxO b4 [v_m_0_Globals, v_m_0_Pool, v_m_0_Methods, .int .i64 m_0.Migrate] 25] w2) 3 #[true, true, true, true, true, true, true, false, false, false] (fun z => ?_) (fun J2314 => ?_)
    ·rename Value => v627
     refine DT.one 7 rfl (by kernel_rfl) rfl ?_
     refine li (kInt .u8) [IntKind.u8.wrap (m_0.Methods.length : Int)] fun v1627 => ?_
     refine QE.atT (fun w2 hw => (St.selP [1, 2, 3, 4] rfl (St.selO [2] rfl rfl hw))) ?_
     refine DT.list (l2 := #[true, true, true, true, true, true, true, true, false, false]) (by kernel_rfl) ?_
     exact DT.weak (by exact ⟨rfl, rfl, rfl, rfl, trivial⟩) (by exact fun w2 hw => hw) (J2243 (v627, v1627))
    refine DT.cut (ι := Value) (fun z => [(1, .pointer (some ⟨b4, 0, none⟩)), (4, v14), (54, v14), (55, v18), (61, z)]) (fun z w2 => St w em hV [slP k_api_Value v_m_0_Globals m_0.Globals, slP k_api_Value v_m_0_Pool m_0.Pool, slP k_api_Method v_m_0_Methods m_0.Methods, arrP k_arr199 1 tab1] [slO (kInt .u8) 5 z [IntKind.u8.wrap (m_0.Methods.length : Int)], slO (kInt .u8) 5 v18 t17.1, slO (kInt .u8) 5 v14 t13.1, boxO b4 [v_m_0_Globals, v_m_0_Pool, v_m_0_Methods, .int .i64 m_0.Migrate] 25] w2) 3 #[true, true, false, true, true, true, true, true, false, false] (fun z => ?_) (fun J2315 => ?_)
    ·rename Value => v1627
     refine DT.one 2 rfl (by kernel_rfl) rfl ?_
     refine SP.freezeS see 1 rfl ?_
     refine SP.append see 1 rfl 0 rfl Tryz.underlying26 inf5.h rfl rfl hb_626 rfl rfl rfl rfl rfl (fun v627 => gg ?_)
     refine QE.atT (fun w2 hw => (St.selP [1, 2, 3, 4] rfl (St.selO [2] rfl rfl hw))) ?_
     refine DT.list (l2 := #[true, true, true, true, true, true, true, true, false, false]) (by kernel_rfl) ?_
     exact DT.weak (by exact ⟨rfl, rfl, rfl, rfl, trivial⟩) (by exact fun w2 hw => hw) (J2243 (v627, v1627))
    refine DT.any 2 [7] (by kernel_rfl) ⟨⟨_, rfl, rfl, ?_⟩, ⟨_, rfl, rfl, ?_⟩, trivial⟩
    ·refine SP.freezeS see 0 rfl ?_
     refine SP.append see 0 rfl 0 rfl Tryz.underlying26 inf5.h rfl rfl hb_626 rfl rfl rfl rfl rfl (fun v627 => gg ?_)
     refine QE.atT (fun w2 hw => (St.selP [1, 2, 3, 4] rfl (St.selO [1] rfl rfl hw))) ?_
     refine DT.list (l2 := #[true, true, true, true, true, true, true, false, false, false]) (by kernel_rfl) ?_
     exact DT.weak (by exact ⟨rfl, rfl, rfl, rfl, trivial⟩) (by exact fun w2 hw => hw) (J2314 v627)
    refine li (kInt .u8) [IntKind.u8.wrap (m_0.Methods.length : Int)] fun v1627 => ?_
    refine QE.atT (fun w2 hw => (St.selO [3] rfl rfl hw)) ?_
    refine DT.list (l2 := #[true, true, false, true, true, true, true, true, false, false]) (by kernel_rfl) ?_
    exact DT.weak (by exact ⟨rfl, rfl, rfl, rfl, rfl, trivial⟩) (by exact fun w2 hw => hw) (J2315 v1627)
   refine SP.bb 28 (fun hq11 => ?_) fun hq11 => ?_
   ·refine gg ?_
    exact QE.jb (or_t hq11) fun w2 hw => hw
   refine gg ?_
   exact QE.jb (or_f hq11 rfl) fun w2 hw => hw
  refine SP.bb 23 (fun hq9 => ?_) fun hq9 => ?_
  ·refine gg ?_
   exact QE.jb (or_t hq9) fun w2 hw => hw
  refine gg ?_
  exact QE.jb (or_f hq9 rfl) fun w2 hw => hw
 refine SP.bb 17 (fun hq7 => ?_) fun hq7 => ?_
 ·refine gg ?_
  exact QE.jb (or_t hq7) fun w2 hw => hw
 refine gg ?_
 exact QE.jb (or_f hq7 rfl) fun w2 hw => hw
def module_Bytes.f (m_0 : api_Module) : Option ((List Int) × Int) :=
  (module_whole.f m_0).bind fun t6 => if t6.2 ≠ 0 then (some ([], t6.2)) else (if (t6.1.length : Int) > 2000 then (some ([], 3)) else (some (t6.1, 0)))
theorem module_Bytes.ok {m_0 v_m_0_Globals v_m_0_Pool v_m_0_Methods} (r) (ho : module_Bytes.f m_0 = some r) : Ok Tryz.prog 7 [.agg #[v_m_0_Globals, v_m_0_Pool, v_m_0_Methods, .int .i64 m_0.Migrate]] [slP k_api_Value v_m_0_Globals m_0.Globals, slP k_api_Value v_m_0_Pool m_0.Pool, slP k_api_Method v_m_0_Methods m_0.Methods, arrP k_arr199 1 tab1] fun v => HO.ex fun u0 : Value => HO.pand (v = .tuple #[u0, .int .i64 r.2]) (HO.seps [slO (kInt .u8) 5 u0 r.1]) := by
 refine oq 20 Tryz.func7 fun w hV see pb => ?_
 refine SP.box rfl rfl rfl rfl fun b4 => gg ?_
 refine k1 module_whole.ok ho fun t6 ho v7 => ?_
 refine ci ho (fun ho => ?_) fun ho => ?_
 ·exact Option.some.inj ho ▸ rt (fun _ h => St.selO [0] rfl rfl (St.addO (slO.nil (kInt .u8) 5) h))
 refine ci ho (fun ho => ?_) fun ho => ?_
 ·exact Option.some.inj ho ▸ rt (fun _ h => St.selO [0] rfl rfl (St.addO (slO.nil (kInt .u8) 5) h))
 exact Option.some.inj ho ▸ rt (sO [0])
def module_May.f (m_0 : api_Module) : Option Int :=
  (module_Bytes.f m_0).bind fun t6 => some t6.2
theorem module_May.ok {m_0 v_m_0_Globals v_m_0_Pool v_m_0_Methods} (r) (ho : module_May.f m_0 = some r) : Ok Tryz.prog 65 [.agg #[v_m_0_Globals, v_m_0_Pool, v_m_0_Methods, .int .i64 m_0.Migrate]] [slP k_api_Value v_m_0_Globals m_0.Globals, slP k_api_Value v_m_0_Pool m_0.Pool, slP k_api_Method v_m_0_Methods m_0.Methods, arrP k_arr199 1 tab1] fun v => HO.pure (v = .int .i64 r) := by
 refine oq 11 Tryz.func65 fun w hV see pb => ?_
 refine SP.box rfl rfl rfl rfl fun b4 => gg ?_
 refine k1 module_Bytes.ok ho fun t6 ho v7 => ?_
 exact Option.some.inj ho ▸ rt
inductive slices_Index_uint8_uint8.S where
  | start
  | l1 (x6 : Int)
def slices_Index_uint8_uint8.F (s_0 : List Int) (v_1 : Int) : slices_Index_uint8_uint8.S → Option (slices_Index_uint8_uint8.S ⊕ Int)
  | .start => some (.inl (.l1 0))
  | .l1 x6 => if x6 < (s_0.length : Int) then ((elt s_0 x6).bind fun x10 => if v_1 = x10 then (some (.inr x6)) else (some (.inl (.l1 (IntKind.i64.wrap (x6 + 1)))))) else (some (.inr (-1)))
def slices_Index_uint8_uint8.f (s_0 : List Int) (v_1 : Int) : Option Int := runF (slices_Index_uint8_uint8.F s_0 v_1) .start
theorem slices_Index_uint8_uint8.ok {s_0 v_1 v_s_0} (r) (H : slices_Index_uint8_uint8.f s_0 v_1 = some r) : Ok Tryz.prog 163 [v_s_0, .int .u8 v_1] [slP (kInt .u8) v_s_0 s_0] fun v => HO.pure (v = .int .i64 r) := by
 refine oq 19 Tryz.func163 fun w hV see pb => ?_
 obtain ⟨m0, o, ho, hr⟩ := rn H
 refine lo ho hr (fun z => ∃ x6, z (.l1 x6) [(0, v_s_0), (1, .int .u8 v_1), (7, .int .i64 (s_0.length : Int)), (8, .int .i64 x6)] []) (fun _ z => ⟨0, z⟩) ?_
 rintro _ _ _ ⟨x6, m7, o, _, _, ho, hr, h⟩
 refine en h ?_
 refine ci ho (fun ho => ?_) fun ho => ?_
 ·obtain ⟨x10, hx, ho⟩ := elt_bind ho
  refine SP.indexP see 0 rfl Tryz.underlying26 sz5.h hx.1 hx.2 rfl rfl rfl rfl (fun p8 => ?_)
  clear hx
  refine SP.val (Val.loadP1 see 0 rfl (fun _ _ e => e) Tryz.underlying5 rfl rfl) rfl rfl rfl (gg ?_)
  refine ci ho (fun ho => ?_) fun ho => ?_
  ·exact fin ho hr ▸ rt
  exact lw ho hr (fun _ z => ⟨(IntKind.i64.wrap (x6 + 1)), z⟩)
 exact fin ho hr ▸ rt
def slices_Contains_uint8_uint8.f (s_0 : List Int) (v_1 : Int) : Option Bool :=
  (slices_Index_uint8_uint8.f s_0 v_1).bind fun t2 => some (decide (t2 ≥ 0))
theorem slices_Contains_uint8_uint8.ok {s_0 v_1 v_s_0} (r) (ho : slices_Contains_uint8_uint8.f s_0 v_1 = some r) : Ok Tryz.prog 137 [v_s_0, .int .u8 v_1] [slP (kInt .u8) v_s_0 s_0] fun v => HO.pure (v = .bool r) := by
 refine oq 9 Tryz.func137 fun w hV see pb => ?_
 refine kv slices_Index_uint8_uint8.ok ho fun t2 ho => ?_
 exact Option.some.inj ho ▸ rt
def method_Migrates.f (m_0 : api_Method) : Option Bool :=
  (method_May.f m_0).bind fun t6 => (if t6 = true then ((slices_Contains_uint8_uint8.f m_0.Args 3).bind fun t9 => some (!t9)) else (some false)).bind fun t10 => some t10
theorem method_Migrates.ok {m_0 v_m_0_Args v_m_0_Locals v_m_0_Code} (r) (ho : method_Migrates.f m_0 = some r) : Ok Tryz.prog 108 [.agg #[v_m_0_Args, v_m_0_Locals, .int .u8 m_0.Result, .bool m_0.Reads, .int .i64 m_0.Fuel, .int .i64 m_0.Stack, .int .i64 m_0.Heap, v_m_0_Code]] [slP (kInt .u8) v_m_0_Args m_0.Args, slP (kInt .u8) v_m_0_Locals m_0.Locals, slP k_api_Instr v_m_0_Code m_0.Code] fun v => HO.pure (v = .bool r) := by
 refine oq 11 Tryz.func108 fun w hV see pb => ?_
 refine SP.box rfl rfl rfl rfl fun b4 => gg ?_
 refine kv method_May.ok ho fun t6 ho => ?_
 obtain ⟨t10, hg_t10, ho⟩ := bind_some ho
 refine SP.jn 5 [] 10 (.bool t10) ?_ ?_
 ·clear hg_t10
  refine gg ?_
  exact Option.some.inj ho ▸ rt
 refine SP.cb 5 hg_t10 (fun hq8 ho => ?_) fun hq8 ho => ?_
 ·refine gg ?_
  refine kv slices_Contains_uint8_uint8.ok ho fun t9 ho => ?_
  obtain rfl := Option.some.inj ho
  exact QE.jn fun w2 hw => hw
 refine gg ?_
 obtain rfl := Option.some.inj ho
 exact QE.jn fun w2 hw => hw
def verify_moves.f (m_0 : api_Module) : Option Int :=
  (if m_0.Migrate ≥ 0 then ((elt m_0.Methods m_0.Migrate).bind fun x10 => (method_Migrates.f x10).bind fun t17 => some (!t17)) else (some false)).bind fun t18 => if t18 = true then (some 70) else (some 0)
theorem verify_moves.ok {m_0 v_m_0_Globals v_m_0_Pool v_m_0_Methods} (r) (ho : verify_moves.f m_0 = some r) : Ok Tryz.prog 66 [.agg #[v_m_0_Globals, v_m_0_Pool, v_m_0_Methods, .int .i64 m_0.Migrate]] [slP k_api_Value v_m_0_Globals m_0.Globals, slP k_api_Value v_m_0_Pool m_0.Pool, slP k_api_Method v_m_0_Methods m_0.Methods] fun v => HO.pure (v = .int .i64 r) := by
 refine oq 16 Tryz.func66 fun w hV see pb => ?_
 refine SP.box rfl rfl rfl rfl fun b4 => gg ?_
 obtain ⟨t18, hg_t18, ho⟩ := bind_some ho
 refine SP.jn 9 [] 15 (.bool t18) ?_ ?_
 ·clear hg_t18
  refine gg ?_
  refine cb ho (fun ho => ?_) fun ho => ?_
  ·exact Option.some.inj ho ▸ rt
  exact Option.some.inj ho ▸ rt
 refine SP.ci 6 hg_t18 (fun hq7 ho => ?_) fun hq7 ho => ?_
 ·refine gg ?_
  obtain ⟨x10, hx, ho⟩ := elt_bind ho
  refine SP.indexP see 2 rfl Tryz.underlying23 sz43.h hx.1 hx.2 rfl rfl rfl rfl (fun p8 => ?_)
  clear hx
  refine k_api_Method.load see 0 rfl Tryz.underlying43 rfl sz43.h rfl rfl rfl (fun v11 v13 v15 => ?_)
  refine kv method_Migrates.ok ho fun t17 ho => ?_
  obtain rfl := Option.some.inj ho
  exact QE.jn fun w2 hw => (St.selP [4, 5, 6] rfl hw)
 refine gg ?_
 obtain rfl := Option.some.inj ho
 exact QE.jn fun w2 hw => hw
def flow_Loops_1.f (i_0 : api_Instr) : Option Bool :=
  (op_May.f i_0).bind fun t3 => some (!t3)
theorem flow_Loops_1.ok {i_0} (r) (ho : flow_Loops_1.f i_0 = some r) : Ok Tryz.prog 123 [.agg #[.int .u8 i_0.Op, .int .i64 i_0.A, .int .i64 i_0.B]] [arrP k_arr199 1 tab1] fun v => HO.pure (v = .bool r) := by
 refine oq 6 Tryz.func123 fun w hV see pb => ?_
 refine SP.box rfl rfl rfl rfl fun b1 => gg ?_
 refine kv op_May.ok ho fun t3 ho => ?_
 exact Option.some.inj ho ▸ rt
inductive slices_IndexFunc_api_Instr_api_Instr_s2.S where
  | start
  | l1 (x7 : Int)
def slices_IndexFunc_api_Instr_api_Instr_s2.F (s_0 : List api_Instr) : slices_IndexFunc_api_Instr_api_Instr_s2.S → Option (slices_IndexFunc_api_Instr_api_Instr_s2.S ⊕ Int)
  | .start => some (.inl (.l1 0))
  | .l1 x7 => if x7 < (s_0.length : Int) then ((elt s_0 x7).bind fun x11 => (flow_Loops_1.f x11).bind fun t12 => if t12 = true then (some (.inr x7)) else (some (.inl (.l1 (IntKind.i64.wrap (x7 + 1)))))) else (some (.inr (-1)))
def slices_IndexFunc_api_Instr_api_Instr_s2.f (s_0 : List api_Instr) : Option Int := runF (slices_IndexFunc_api_Instr_api_Instr_s2.F s_0) .start
theorem slices_IndexFunc_api_Instr_api_Instr_s2.ok {s_0 v_s_0} (r) (H : slices_IndexFunc_api_Instr_api_Instr_s2.f s_0 = some r) : Ok Tryz.prog 119 [v_s_0, .func (.func 123) #[] #[]] [slP k_api_Instr v_s_0 s_0, arrP k_arr199 1 tab1] fun v => HO.pure (v = .int .i64 r) := by
 refine oq 19 Tryz.func119 fun w hV see pb => ?_
 obtain ⟨m0, o, ho, hr⟩ := rn H
 refine lo ho hr (fun z => ∃ x7, z (.l1 x7) [(0, v_s_0), (1, .func (.func 123) #[] #[]), (7, .int .i64 (s_0.length : Int)), (8, .int .i64 x7)] []) (fun _ z => ⟨0, z⟩) ?_
 rintro _ _ _ ⟨x7, m8, o, _, _, ho, hr, h⟩
 refine en h ?_
 refine ci ho (fun ho => ?_) fun ho => ?_
 ·obtain ⟨x11, hx, ho⟩ := elt_bind ho
  refine SP.indexP see 0 rfl Tryz.underlying41 sz57.h hx.1 hx.2 rfl rfl rfl rfl (fun p9 => ?_)
  clear hx
  refine k_api_Instr.load see 0 rfl Tryz.underlying57 rfl sz57.h rfl rfl rfl ?_
  refine kv flow_Loops_1.ok ho fun t12 ho => ?_
  refine cb ho (fun ho => ?_) fun ho => ?_
  ·exact fin ho hr ▸ rt
  exact lw ho hr (fun _ z => ⟨(IntKind.i64.wrap (x7 + 1)), z⟩)
 exact fin ho hr ▸ rt
def slices_ContainsFunc_api_Instr_api_Instr_s2.f (s_0 : List api_Instr) : Option Bool :=
  (slices_IndexFunc_api_Instr_api_Instr_s2.f s_0).bind fun t2 => some (decide (t2 ≥ 0))
theorem slices_ContainsFunc_api_Instr_api_Instr_s2.ok {s_0 v_s_0} (r) (ho : slices_ContainsFunc_api_Instr_api_Instr_s2.f s_0 = some r) : Ok Tryz.prog 78 [v_s_0, .func (.func 123) #[] #[]] [slP k_api_Instr v_s_0 s_0, arrP k_arr199 1 tab1] fun v => HO.pure (v = .bool r) := by
 refine oq 9 Tryz.func78 fun w hV see pb => ?_
 refine kv slices_IndexFunc_api_Instr_api_Instr_s2.ok ho fun t2 ho => ?_
 exact Option.some.inj ho ▸ rt
def flow_open_push_s2.f (l2 : List Int) (a0_3 a1 : Int) : Option (Bool × (List Int) × Int) :=
  if a0_3 = 4 then (some (false, l2, a0_3)) else ((elt l2 a0_3).bind fun x4 => some (true, l2.set a0_3.toNat a1, IntKind.i64.wrap (a0_3 + 1)))
theorem flow_open_push_s2.ok (l2 : List Int) (a0_3 a1 : Int)  (r : Bool × (List Int) × Int) (H : flow_open_push_s2.f l2 a0_3 a1 = some r) (w : World) (hV : Hp) (sV : Sub hV (hp w))  (b1 : Nat) (hA : Hp) (sA : Sub hA (hp w)) (dA : Dj hV hA) (hI : (arrO b1 [] (fun z : Int => Value.int .i64 z) 4 l2 [.int .i64 a0_3] 190).p hV hA) :
    Trip Tryz.prog 124 [.pointer (some ⟨b1, 0, none⟩), .int .i64 a1].toArray hA hV w (fun v => HO.pand (v = .bool r.1) (HO.seps [arrO b1 [] (fun z : Int => Value.int .i64 z) 4 r.2.1 [.int .i64 r.2.2] 190])) := by
 have see : Sees w hA hV := ⟨sV, dA⟩
 refine Trip.of (P := Tryz.prog) (n := ⟨26, []⟩) Tryz.func124 rfl ⟨rfl, rfl⟩ rfl (St.beginA (os := [arrO b1 [] (fun z : Int => Value.int .i64 z) 4 l2 [.int .i64 a0_3] 190]) sA (All.nil _) ⟨hA, em, Dj.em_right _, Sub.refl _, Sub.em _, hI, trivial⟩) ?_
 have ho := H
 refine gg ?_
 refine SP.val (Val.loadArrPost (k := 0) 0 rfl Tryz.underlying3 rfl rfl rfl rfl) rfl rfl rfl (gg ?_)
 refine ci ho (fun ho => ?_) fun ho => ?_
 ·exact Option.some.inj ho ▸ rt (sO [0])
 refine CP.drawA (by kernel_rfl) (fun w2 k h => h.drawn k) ?_
 refine DA.ph 0 8 ?_
 refine DT.tk 0 ?_
 refine DT.tk 1 ?_
 refine DT.tk 2 ?_
 refine DT.tk 3 ?_
 refine DT.tv 4 rfl (Val.loadArrPost (k := 0) 0 rfl Tryz.underlying3 rfl rfl rfl rfl) ?_
 refine DT.tk 5 ?_
 refine DT.tk 6 ?_
 refine DT.tk 7 ?_
 refine DT.next (by kernel_rfl) ?_
 refine DA.one 8 rfl (by kernel_rfl) ?_
 obtain ⟨x4, hx_x4, ho⟩ := elt_bind ho
 refine SP.val (Val.indexArr 0 rfl Tryz.underlying188 sz3.h hx_x4.1 hx_x4.2 rfl rfl rfl) rfl rfl rfl (gg ?_)
 refine QE.atA ?_
 refine DA.one 9 rfl (by kernel_rfl) ?_
 refine SP.storeArr 0 rfl sz3.h rfl hx_x4.2 rfl rfl rfl (fun _ => rfl) (fun _ => rfl) (gg ?_)
 refine QE.atA ?_
 refine DA.done (by kernel_rfl) (gg ?_)
 refine SP.val (Val.loadArrPost (k := 0) 0 rfl Tryz.underlying3 rfl rfl rfl rfl) rfl rfl rfl (gg ?_)
 refine SP.storeArrPost (k := 0) 0 rfl sz3.h rfl rfl rfl rfl rfl rfl rfl (gg ?_)
 exact Option.some.inj ho ▸ rt (sO [0])
def flow_open_pop_s2.j1 (l2 : List Int) (a0_3 a1 : Int) (b10 : Bool) : Option (Bool × (List Int) × Int) :=
  if b10 = true then (some (false, l2, a0_3)) else (some (true, l2, IntKind.i64.wrap (a0_3 - 1)))
def flow_open_pop_s2.f (l2 : List Int) (a0_3 a1 : Int) : Option (Bool × (List Int) × Int) :=
  if a0_3 = 0 then (flow_open_pop_s2.j1 l2 a0_3 a1 true) else ((elt l2 (IntKind.i64.wrap (a0_3 - 1))).bind fun x9 => flow_open_pop_s2.j1 l2 a0_3 a1 (decide (x9 ≠ a1)))
theorem flow_open_pop_s2.ok (l2 : List Int) (a0_3 a1 : Int)  (r : Bool × (List Int) × Int) (H : flow_open_pop_s2.f l2 a0_3 a1 = some r) (w : World) (hV : Hp) (sV : Sub hV (hp w))  (b1 : Nat) (hA : Hp) (sA : Sub hA (hp w)) (dA : Dj hV hA) (hI : (arrO b1 [] (fun z : Int => Value.int .i64 z) 4 l2 [.int .i64 a0_3] 190).p hV hA) :
    Trip Tryz.prog 125 [.pointer (some ⟨b1, 0, none⟩), .int .i64 a1].toArray hA hV w (fun v => HO.pand (v = .bool r.1) (HO.seps [arrO b1 [] (fun z : Int => Value.int .i64 z) 4 r.2.1 [.int .i64 r.2.2] 190])) := by
 have see : Sees w hA hV := ⟨sV, dA⟩
 refine Trip.of (P := Tryz.prog) (n := ⟨31, []⟩) Tryz.func125 rfl ⟨rfl, rfl⟩ rfl (St.beginA (os := [arrO b1 [] (fun z : Int => Value.int .i64 z) 4 l2 [.int .i64 a0_3] 190]) sA (All.nil _) ⟨hA, em, Dj.em_right _, Sub.refl _, Sub.em _, hI, trivial⟩) ?_
 have ho := H
 refine go ?_
 refine CP.seq ?_
 refine oi r (fun z => ∃ b10, z (flow_open_pop_s2.j1 l2 a0_3 a1 b10) [(0, .pointer (some ⟨b1, 0, none⟩)), (23, .bool b10)] [arrO b1 [] (fun z : Int => Value.int .i64 z) 4 l2 [.int .i64 a0_3] 190]) ?_ ?_ (hb := pe [])
 ·rintro _ _ ⟨b10, ho, h⟩
  refine en h ?_
  refine cb ho (fun ho => ?_) fun ho => ?_
  ·exact Option.some.inj ho ▸ rt (sO [0])
  refine SP.val (Val.loadArrPost (k := 0) 0 rfl Tryz.underlying3 rfl rfl rfl rfl) rfl rfl rfl (gg ?_)
  refine SP.storeArrPost (k := 0) 0 rfl sz3.h rfl rfl rfl rfl rfl rfl rfl (gg ?_)
  exact Option.some.inj ho ▸ rt (sO [0])
 refine CP.drawA (by kernel_rfl) (fun w2 k h => h.drawn k) ?_
 refine DA.one 0 rfl (by kernel_rfl) (gg ?_)
 refine QE.atA ?_
 refine DA.one 1 rfl (by kernel_rfl) (gg ?_)
 refine QE.atA ?_
 refine DA.one 2 rfl (by kernel_rfl) (gg ?_)
 refine QE.atA ?_
 refine DA.one 3 rfl (by kernel_rfl) ?_
 refine SP.val (Val.loadArrPost (k := 0) 0 rfl Tryz.underlying3 rfl rfl rfl rfl) rfl rfl rfl (gg ?_)
 refine QE.atA ?_
 refine DA.one 4 rfl (by kernel_rfl) (gg ?_)
 refine QE.atA ?_
 refine DA.one 5 rfl (by kernel_rfl) (gg ?_)
 refine QE.atA ?_
 rcases if_some ho with ⟨hc, ho⟩ | ⟨hc, ho⟩
 ·have hg4 := (decide_eq_true hc)
  clear hc
  refine DA.ph 6 17 ?_
  refine DT.is (d := 10) (b := true) rfl hg4 ?_
  refine DT.tn 6 ?_
  refine DT.tn 7 ?_
  refine DT.tn 8 ?_
  refine DT.tn 9 ?_
  refine DT.tn 10 ?_
  refine DT.tn 11 ?_
  refine DT.tn 12 ?_
  refine DT.tn 13 ?_
  refine DT.tn 14 ?_
  refine DT.tn 15 ?_
  refine DT.tn 16 ?_
  refine DT.next (by kernel_rfl) ?_
  refine DA.ph 17 18 ?_
  refine DT.tn 17 ?_
  refine DT.next (by kernel_rfl) ?_
  refine DA.one 18 rfl (by kernel_rfl) (gg ?_)
  refine QE.atA ?_
  refine DA.done (by kernel_rfl) ?_
  exact mo ho (fun _ z => ⟨true, z⟩)
 have hg5 := (decide_eq_false hc)
 clear hc
 refine DA.ph 6 17 ?_
 refine DT.is (d := 10) (b := false) rfl hg5 ?_
 refine DT.tk 6 ?_
 refine DT.tk 7 ?_
 refine DT.tk 8 ?_
 refine DT.tk 9 ?_
 refine DT.tv 10 rfl (Val.loadArrPost (k := 0) 0 rfl Tryz.underlying3 rfl rfl rfl rfl) ?_
 refine DT.tk 11 ?_
 refine DT.tk 12 ?_
 refine DT.tk 13 ?_
 refine DT.tk 16 ?_
 refine DT.one 14 rfl (by kernel_rfl) rfl ?_
 obtain ⟨x9, hx_x9, ho⟩ := elt_bind ho
 refine SP.val (Val.indexArr 0 rfl Tryz.underlying188 sz3.h hx_x9.1 hx_x9.2 rfl rfl rfl) rfl rfl rfl (gg ?_)
 refine QE.atT (fun w2 hw => hw) ?_
 refine DT.tv 15 rfl (Val.loadArr 0 rfl Tryz.underlying3 rfl hx_x9.2 rfl rfl) ?_
 refine DT.next (by kernel_rfl) ?_
 refine DA.one 17 rfl (by kernel_rfl) (gg ?_)
 refine QE.atA ?_
 refine DA.one 18 rfl (by kernel_rfl) (gg ?_)
 refine QE.atA ?_
 refine DA.done (by kernel_rfl) ?_
 exact mo ho (fun _ z => ⟨(decide (x9 ≠ a1)), z⟩)
def flow_last.f (i_0 : api_Instr) : Option Bool :=
  some ((decide (i_0.Op = 31)) || (decide (i_0.Op = 32)))
theorem flow_last.ok {i_0} (r) (ho : flow_last.f i_0 = some r) : Ok Tryz.prog 126 [.agg #[.int .u8 i_0.Op, .int .i64 i_0.A, .int .i64 i_0.B]] [] fun v => HO.pure (v = .bool r) := by
 refine oq 11 Tryz.func126 fun w hV see pb => ?_
 refine SP.box rfl rfl rfl rfl fun b1 => gg ?_
 refine SP.jn 4 [] 10 (.bool ((decide (i_0.Op = 31)) || (decide (i_0.Op = 32)))) ?_ ?_
 ·refine gg ?_
  exact Option.some.inj ho ▸ rt
 refine SP.bb 6 (fun hq4 => ?_) fun hq4 => ?_
 ·refine gg ?_
  exact QE.jb (or_t hq4) fun w2 hw => hw
 refine gg ?_
 exact QE.jb (or_f hq4 rfl) fun w2 hw => hw
def flow_Loop_has.f (x_0 : flow_Loop) (a1 : Int) : Option Bool :=
  some ((decide (a1 > x_0.From)) && (decide (a1 ≤ x_0.To)))
theorem flow_Loop_has.ok {x_0 a1} (r) (ho : flow_Loop_has.f x_0 a1 = some r) : Ok Tryz.prog 156 [.agg #[.int .i64 x_0.From, .int .i64 x_0.To, .int .i64 x_0.Turns], .int .i64 a1] [] fun v => HO.pure (v = .bool r) := by
 refine oq 15 Tryz.func156 fun w hV see pb => ?_
 refine SP.box rfl rfl rfl rfl fun b1 => gg ?_
 refine SP.jn 5 [] 14 (.bool ((decide (a1 > x_0.From)) && (decide (a1 ≤ x_0.To)))) ?_ ?_
 ·refine gg ?_
  exact Option.some.inj ho ▸ rt
 refine SP.bb 9 (fun hq4 => ?_) fun hq4 => ?_
 ·refine gg ?_
  exact QE.jb (and_t hq4 rfl) fun w2 hw => hw
 refine gg ?_
 exact QE.jb (and_f hq4) fun w2 hw => hw
def flow_jumps_1_s1.f (x_0 : flow_Loop) (c0_1 c0_2 c0_3 c1_6 : Int) : Option Bool :=
  (flow_Loop_has.f x_0 c0_2).bind fun t11 => (if t11 = true then ((flow_Loop_has.f x_0 c1_6).bind fun t14 => some (!t14)) else (some false)).bind fun t15 => some t15
theorem flow_jumps_1_s1.ok {x_0 c0_1 c0_2 c0_3 c1_6 b4 b7} (r) (ho : flow_jumps_1_s1.f x_0 c0_1 c0_2 c0_3 c1_6 = some r) : Ok Tryz.prog 155 [.agg #[.int .i64 x_0.From, .int .i64 x_0.To, .int .i64 x_0.Turns], .pointer (some ⟨b4, 0, none⟩), .pointer (some ⟨b7, 0, none⟩)] [boxP b4 [.int .u8 c0_1, .int .i64 c0_2, .int .i64 c0_3] 57, boxP b7 [.int .i64 c1_6] 3] fun v => HO.pure (v = .bool r) := by
 refine oq 15 Tryz.func155 fun w hV see pb => ?_
 refine SP.box rfl rfl rfl rfl fun b9 => ?_
 refine SP.val (Val.assign rfl) rfl rfl rfl ?_
 refine SP.nil ?_
 refine QE.then ?_
 refine CP.seq ?_
 refine CP.region ?_
 refine SP.val (Val.loadA 0 rfl Tryz.underlying142 rfl sz142.h rfl rfl rfl) rfl rfl rfl ?_
 refine SP.val (Val.fieldAddr Tryz.underlying57 rfl sz3.h rfl) rfl rfl rfl ?_
 refine SP.val (Val.loadB1 see 0 rfl Tryz.underlying3 rfl rfl rfl) rfl rfl rfl ?_
 refine kv flow_Loop_has.ok ho fun t11 ho => ?_
 obtain ⟨t15, hg_t15, ho⟩ := bind_some ho
 refine SP.jn 5 [] 14 (.bool t15) ?_ ?_
 ·clear hg_t15
  refine gg ?_
  exact Option.some.inj ho ▸ rt
 refine SP.cb 9 hg_t15 (fun hq13 ho => ?_) fun hq13 ho => ?_
 ·refine SP.val (Val.loadA 0 rfl Tryz.underlying142 rfl sz142.h rfl rfl rfl) rfl rfl rfl ?_
  refine SP.val (Val.loadB1 see 1 rfl Tryz.underlying3 rfl rfl rfl) rfl rfl rfl ?_
  refine kv flow_Loop_has.ok ho fun t14 ho => ?_
  obtain rfl := Option.some.inj ho
  exact QE.jn fun w2 hw => hw
 refine gg ?_
 obtain rfl := Option.some.inj ho
 exact QE.jn fun w2 hw => hw
inductive slices_IndexFunc_flow_Loop_flow_Loop_s1.S where
  | start
  | l1 (x15 : Int)
def slices_IndexFunc_flow_Loop_flow_Loop_s1.F (s_0 : List flow_Loop) (f_1_2 f_1_3 f_1_4 f_1_7 : Int) : slices_IndexFunc_flow_Loop_flow_Loop_s1.S → Option (slices_IndexFunc_flow_Loop_flow_Loop_s1.S ⊕ Int)
  | .start => some (.inl (.l1 0))
  | .l1 x15 => if x15 < (s_0.length : Int) then ((elt s_0 x15).bind fun x19 => (flow_jumps_1_s1.f x19 f_1_2 f_1_3 f_1_4 f_1_7).bind fun t20 => if t20 = true then (some (.inr x15)) else (some (.inl (.l1 (IntKind.i64.wrap (x15 + 1)))))) else (some (.inr (-1)))
def slices_IndexFunc_flow_Loop_flow_Loop_s1.f (s_0 : List flow_Loop) (f_1_2 f_1_3 f_1_4 f_1_7 : Int) : Option Int := runF (slices_IndexFunc_flow_Loop_flow_Loop_s1.F s_0 f_1_2 f_1_3 f_1_4 f_1_7) .start
theorem slices_IndexFunc_flow_Loop_flow_Loop_s1.ok {s_0 f_1_2 f_1_3 f_1_4 f_1_7 v_s_0 b5 b8} (r) (H : slices_IndexFunc_flow_Loop_flow_Loop_s1.f s_0 f_1_2 f_1_3 f_1_4 f_1_7 = some r) : Ok Tryz.prog 173 [v_s_0, .func (.func 155) #[] #[.pointer (some ⟨b5, 0, none⟩), .pointer (some ⟨b8, 0, none⟩)]] [slP k_flow_Loop v_s_0 s_0, boxP b5 [.int .u8 f_1_2, .int .i64 f_1_3, .int .i64 f_1_4] 57, boxP b8 [.int .i64 f_1_7] 3] fun v => HO.pure (v = .int .i64 r) := by
 refine oq 19 Tryz.func173 fun w hV see pb => ?_
 obtain ⟨m0, o, ho, hr⟩ := rn H
 refine lo ho hr (fun z => ∃ x15, z (.l1 x15) [(0, v_s_0), (1, .func (.func 155) #[] #[.pointer (some ⟨b5, 0, none⟩), .pointer (some ⟨b8, 0, none⟩)]), (7, .int .i64 (s_0.length : Int)), (8, .int .i64 x15)] []) (fun _ z => ⟨0, z⟩) ?_
 rintro _ _ _ ⟨x15, m16, o, _, _, ho, hr, h⟩
 refine en h ?_
 refine ci ho (fun ho => ?_) fun ho => ?_
 ·obtain ⟨x19, hx, ho⟩ := elt_bind ho
  refine SP.indexP see 0 rfl Tryz.underlying137 sz142.h hx.1 hx.2 rfl rfl rfl rfl (fun p17 => ?_)
  clear hx
  refine k_flow_Loop.load see 0 rfl Tryz.underlying142 rfl sz142.h rfl rfl rfl ?_
  refine kv flow_jumps_1_s1.ok ho fun t20 ho => ?_
  refine cb ho (fun ho => ?_) fun ho => ?_
  ·exact fin ho hr ▸ rt
  exact lw ho hr (fun _ z => ⟨(IntKind.i64.wrap (x15 + 1)), z⟩)
 exact fin ho hr ▸ rt
def slices_ContainsFunc_flow_Loop_flow_Loop_s1.f (s_0 : List flow_Loop) (f_1_2 f_1_3 f_1_4 f_1_7 : Int) : Option Bool :=
  (slices_IndexFunc_flow_Loop_flow_Loop_s1.f s_0 f_1_2 f_1_3 f_1_4 f_1_7).bind fun t10 => some (decide (t10 ≥ 0))
theorem slices_ContainsFunc_flow_Loop_flow_Loop_s1.ok {s_0 f_1_2 f_1_3 f_1_4 f_1_7 v_s_0 b5 b8} (r) (ho : slices_ContainsFunc_flow_Loop_flow_Loop_s1.f s_0 f_1_2 f_1_3 f_1_4 f_1_7 = some r) : Ok Tryz.prog 157 [v_s_0, .func (.func 155) #[] #[.pointer (some ⟨b5, 0, none⟩), .pointer (some ⟨b8, 0, none⟩)]] [slP k_flow_Loop v_s_0 s_0, boxP b5 [.int .u8 f_1_2, .int .i64 f_1_3, .int .i64 f_1_4] 57, boxP b8 [.int .i64 f_1_7] 3] fun v => HO.pure (v = .bool r) := by
 refine oq 9 Tryz.func157 fun w hV see pb => ?_
 refine kv slices_IndexFunc_flow_Loop_flow_Loop_s1.ok ho fun t10 ho => ?_
 exact Option.some.inj ho ▸ rt
inductive flow_jumps.S where
  | start
  | l1 (x27 : Int)
def flow_jumps.j1 (l_0 : List api_Instr) (loops_1 : List flow_Loop) (x27 : Int) : Option (flow_jumps.S ⊕ Bool) :=
  some (.inl (.l1 (IntKind.i64.wrap (x27 + 1))))
def flow_jumps.F (l_0 : List api_Instr) (loops_1 : List flow_Loop) : flow_jumps.S → Option (flow_jumps.S ⊕ Bool)
  | .start => some (.inl (.l1 0))
  | .l1 x27 => if x27 < (l_0.length : Int) then ((elt l_0 x27).bind fun x31 => if ((decide (x31.Op ≠ 26)) && (decide (x31.Op ≠ 27))) = true then (flow_jumps.j1 l_0 loops_1 x27) else ((if ((decide (x31.A ≤ x27)) || (decide (x31.A ≥ (l_0.length : Int)))) = true then (some true) else ((slices_ContainsFunc_flow_Loop_flow_Loop_s1.f loops_1 x31.Op x31.A x31.B x27).bind fun t49 => some t49)).bind fun t50 => if t50 = true then (some (.inr false)) else (flow_jumps.j1 l_0 loops_1 x27))) else (some (.inr true))
def flow_jumps.f (l_0 : List api_Instr) (loops_1 : List flow_Loop) : Option Bool := runF (flow_jumps.F l_0 loops_1) .start
theorem flow_jumps.ok {l_0 loops_1 v_l_0 v_loops_1} (r) (H : flow_jumps.f l_0 loops_1 = some r) : Ok Tryz.prog 127 [v_l_0, v_loops_1] [slP k_api_Instr v_l_0 l_0, slP k_flow_Loop v_loops_1 loops_1] fun v => HO.pure (v = .bool r) := by
 refine oq 41 Tryz.func127 fun w hV see pb => ?_
 obtain ⟨m0, o, ho, hr⟩ := rn H
 refine lo ho hr (fun z => ∃ x27, z (.l1 x27) [(0, v_l_0), (1, v_loops_1), (8, v_l_0), (9, .int .i64 (l_0.length : Int)), (10, .int .i64 x27)] []) (fun _ z => ⟨0, z⟩) ?_
 rintro _ _ _ ⟨x27, m28, o, _, _, ho, hr, h⟩
 refine en h ?_
 refine ci (ht := id) ho (fun ho => ?_) fun ho => ?_
 ·refine go ?_
  refine ji hr (fun z => z (flow_jumps.j1 l_0 loops_1 x27) [(0, v_l_0), (1, v_loops_1), (8, v_l_0), (9, .int .i64 (l_0.length : Int)), (10, .int .i64 x27)] []) ?_ ?_
  ·rintro _ _ ⟨m51, o, _, ho, hr, h⟩
   refine en h ?_
   exact lw ho hr (fun _ z => ⟨(IntKind.i64.wrap (x27 + 1)), z⟩)
  refine gg ?_
  obtain ⟨x31, hx, ho⟩ := elt_bind ho
  refine SP.indexP see 0 rfl Tryz.underlying41 sz57.h hx.1 hx.2 rfl rfl rfl rfl (fun p29 => ?_)
  clear hx
  refine k_api_Instr.load see 0 rfl Tryz.underlying57 rfl sz57.h rfl rfl rfl ?_
  refine al fun b32 => ?_
  refine al fun b34 => ?_
  refine st 1 ?_
  refine st 0 ?_
  refine SP.jn 4 [0, 1, 8, 9, 10, 5, 6] 22 (.bool ((decide (x31.Op ≠ 26)) && (decide (x31.Op ≠ 27)))) ?_ ?_
  ·refine gg ?_
   refine cb ho (fun ho => ?_) fun ho => ?_
   ·exact mi ho hr (fun _ z => z) (sO [])
   refine SP.val (Val.makeFunc (us := []) (vs := [.pointer (some ⟨b34, 0, none⟩), .pointer (some ⟨b32, 0, none⟩)]) rfl rfl) rfl rfl rfl (gg ?_)
   refine SP.jn 6 [0, 1, 8, 9, 10, 7] 34 (.bool ((decide (x31.A ≤ x27)) || (decide (x31.A ≥ (l_0.length : Int))))) ?_ ?_
   ·refine gg ?_
    refine SP.freezeB see 0 rfl ?_
    refine SP.freezeB see 0 rfl ?_
    obtain ⟨t50, hg_t50, ho⟩ := bind_some ho
    refine SP.jn 4 [0, 1, 8, 9, 10] 39 (.bool t50) ?_ ?_
    ·clear hg_t50
     refine gg ?_
     refine cb ho (fun ho => ?_) fun ho => ?_
     ·exact fin ho hr ▸ rt
     exact mi ho hr (fun _ z => z)
    refine SP.cb 35 hg_t50 (fun hq48 ho => ?_) fun hq48 ho => ?_
    ·refine gg ?_
     obtain rfl := Option.some.inj ho
     exact QE.jn fun w2 hw => hw
    refine gg ?_
    refine kv slices_ContainsFunc_flow_Loop_flow_Loop_s1.ok ho fun t49 ho => ?_
    obtain rfl := Option.some.inj ho
    exact QE.jn fun w2 hw => hw
   refine SP.bb 28 (fun hq39 => ?_) fun hq39 => ?_
   ·refine gg ?_
    exact QE.jb (or_t hq39) fun w2 hw => hw
   refine gg ?_
   exact QE.jb (or_f hq39 rfl) fun w2 hw => hw
  refine SP.bb 18 (fun hq37 => ?_) fun hq37 => ?_
  ·refine gg ?_
   exact QE.jb (and_t hq37 rfl) fun w2 hw => hw
  refine gg ?_
  exact QE.jb (and_f hq37) fun w2 hw => hw
 exact fin ho hr ▸ rt
shelf_lay_g SlLaysF0.n6 Slsf 6 at Tryz 128 as Tryz.sort128
shelf_lay_g SlLaysC2.n5 Slgc 5 at Tryz 130 as Tryz.cmp130
shelf_lay Lays.n125 Nm 125 at Tryz as Tryz.bitsLen117
instance : Inhabited flow_Loop := ⟨flow_Loop.zero⟩
def enc128 (x : flow_Loop) : List Value := [.int .i64 x.From, .int .i64 x.To, .int .i64 x.Turns]
def cf128 (x y : flow_Loop) : Int := Lib.compareInt x.From y.From
theorem lt128 (x y : flow_Loop) : Go.Proofs.ltOf cf128 x y = decide (x.From < y.From) := by
  unfold Go.Proofs.ltOf cf128 Lib.compareInt
  by_cases h1 : x.From < y.From
  · simp [h1]
  · by_cases h2 : y.From < x.From <;> simp [h1, h2]
theorem swo128 : Go.Sort.SWO (Go.Proofs.ltOf cf128) where
  irrefl x := by rw [lt128]; simp
  trans x y z h1 h2 := by rw [lt128] at *; simp at *; omega
  ntrans x y z h1 h2 := by rw [lt128] at *; simp at *; omega
set_option maxHeartbeats 1000000 in
theorem clos128 (x y : flow_Loop) (W : World) : Calls Tryz.prog 129 #[.agg (enc128 x).toArray, .agg (enc128 y).toArray] W fun e w' => e = .returned (.int .i64 (cf128 x y)) ∧ ∃ q os', w' = Go.Sort.grow (W.drewN q) os' := by
  have hcon := fun W' => Go.Proofs.AnyG.cmp_Compare_int Tryz.cmp130 x.From y.From W'
  change ∀ W', Calls Tryz.prog 130 _ _ _ at hcon
  unfold cf128 enc128
  generalize Lib.compareInt x.From y.From = r at hcon ⊢
  go_enter Tryz.func129, Tryz.ntmps129
  go_wp2_with (go_at_call 130; refine (hcon _).mono ?_; rintro e w' ⟨rfl, rfl⟩)
  go_ret
  exact ⟨rfl, 0, _, by rw [Go.Sort.alloc_eq_grow, Go.Sort.alloc_eq_grow, Go.Sort.grow_grow]; rfl⟩
def srt128 (d : Array flow_Loop) : Array flow_Loop := Go.Sort.pdq (Go.Proofs.ltOf cf128) d 0 d.size (Lib.bitLen d.size) true true
theorem srt128_sorts (d : Array flow_Loop) : Go.Sort.PermIn 0 d.size d (srt128 d) ∧ Go.Sort.SortedIn (Go.Proofs.ltOf cf128) 0 d.size (srt128 d) :=
  Go.Sort.pdq_sorts (Go.Proofs.ltOf cf128) swo128 d 0 d.size (Lib.bitLen d.size) true true (Nat.zero_le _) (Nat.le_refl _) (Or.inl rfl)
theorem ins128_nil (F : Value) (w : World) : Calls Tryz.prog 174 #[.slice none 0 0, .int .i64 0, .int .i64 0, F] w fun e w' => e = .returned (.tuple #[]) ∧ w' = w := by
  go_enter Tryz.func174, Tryz.ntmps174
  go_wp2
  refine wp_loop_rounds 1 ?_
  rw [rounds_succ]
  go_wp2
  go_end0
  exact ⟨rfl, rfl⟩
theorem pdq128_nil (F : Value) (w : World) : Calls Tryz.prog 158 #[.slice none 0 0, .int .i64 0, .int .i64 0, .int .i64 0, F] w fun e w' => e = .returned (.tuple #[]) ∧ w' = w := by
  have hi := ins128_nil F w
  go_enter Tryz.func158, Tryz.ntmps158
  go_wp2
  refine wp_loop_rounds 1 ?_
  rw [rounds_succ]
  go_wp2_with (go_at_call 174; refine hi.mono ?_; rintro e w' ⟨rfl, rfl⟩)
  (try simp only [Exit.inBlock, Exit.then]); refine bodyPost_ret (results_none rfl _ _ _) rfl ?_
  exact ⟨rfl, rfl⟩
theorem srt128_nil (F : Value) (w : World) : Calls Tryz.prog 128 #[.slice none 0 0, F] w fun e w' => e = .returned (.tuple #[]) ∧ w' = w := by
  have hi := pdq128_nil F w
  have hl : Calls Tryz.prog 117 #[.int .u64 0] w fun e w' => e = .returned (.int .i64 0) ∧ w' = w := by
    have h := Any.bits_Len Tryz.bitsLen117 0 w (by omega) (by omega)
    exact h
  go_enter Tryz.func128, Tryz.ntmps128
  go_wp2_with (first | (go_at_call 117; refine hl.mono ?_; rintro e w' ⟨rfl, rfl⟩) | (go_at_call 158; refine hi.mono ?_; rintro e w' ⟨rfl, rfl⟩))
  go_end0
  exact ⟨rfl, rfl⟩
theorem srt128_nilT (F : Value) (w : World) (hV : Hp) : Trip Tryz.prog 128 #[.slice none 0 0, F] em hV w (fun v => HO.pure (v = .tuple #[])) :=
  (srt128_nil F w).mono fun e w' ⟨he, hw⟩ => by
    subst hw
    exact ⟨_, he, Met.refl _, fun _ _ e _ => e, em, em, fun _ _ _ => rfl, fun _ _ _ => rfl, Dj.em_left _, Sub.em _, Sub.em _, rfl⟩
theorem srt128_trip {v : Value} {l : List flow_Loop} (hll : l.length < 4611686018427387904) {w : World} {hP h1 : Hp} (sub : Sub hP (hp w)) (s1 : Sub h1 (hp w)) (dj : Dj hP h1) (hI : (slO k_flow_Loop 142 v l).p hP h1) :
    Trip Tryz.prog 128 #[v, .func (.func 129) #[] #[]] h1 hP w (fun r => HO.pand (r = .tuple #[]) (HO.seps [slO k_flow_Loop 142 v (srt128 l.toArray).toList])) := by
  refine slO.rowTrip (fun v => #[v, .func (.func 129) #[] #[]]) (fun _ => .tuple #[]) enc128 (fun h cs x => Iff.rfl) srt128 (fun d => (srt128_sorts d).1.1) (fun blk cap d w hH hb hsz _ _ => ?_) (fun _ w hV sV => ?_) hll sub s1 dj hI
  · exact AnyQ.slices_SortFunc_eq Tryz.sort128 3 Tryz.isAgg142 Tryz.sizeOf142 enc128 (fun _ => rfl) (fun x v hv => by simp [enc128] at hv; rcases hv with rfl | rfl | rfl <;> rfl) cf128 swo128 129 #[] blk 0 cap d w (enters_of Tryz.func129 (by kernel_rfl) rfl) (fun _ _ _ _ x y => clos128 x y _) hH hb hsz
  · exact srt128_nilT _ w hV
inductive flow_Loops.S where
  | start
  | l1 (l52 : List Int) (x53 : Int) (l55 : List flow_Loop) (x57 : Int)
def flow_Loops.j1 (l_0 : List api_Instr)  : Option (flow_Loops.S ⊕ ((List flow_Loop) × Int)) :=
  some (.inr ([], 90))
def flow_Loops.j2 (l_0 : List api_Instr) (x57 : Int) (l80 : List Int) (x81 : Int) (l83 : List flow_Loop) : Option (flow_Loops.S ⊕ ((List flow_Loop) × Int)) :=
  some (.inl (.l1 l80 x81 l83 (IntKind.i64.wrap (x57 + 1))))
def flow_Loops.F (l_0 : List api_Instr) : flow_Loops.S → Option (flow_Loops.S ⊕ ((List flow_Loop) × Int))
  | .start => (if ((decide ((l_0.length : Int) = 0)) || (decide ((l_0.length : Int) > 200))) = true then (some true) else ((slices_ContainsFunc_api_Instr_api_Instr_s2.f l_0).bind fun t6 => some t6)).bind fun t7 => if t7 = true then (some (.inr ([], 40))) else (some (.inl (.l1 (List.replicate 4 0 : List Int) 0 [] 0)))
  | .l1 l52 x53 l55 x57 => if x57 < (l_0.length : Int) then ((elt l_0 x57).bind fun x61 => if x61.Op = 28 then ((flow_open_push_s2.f l52 x53 x57).bind fun t64 => if (!t64.1) = true then (flow_Loops.j1 l_0) else (flow_Loops.j2 l_0 x57 t64.2.1 t64.2.2 l55)) else (if x61.Op = 29 then ((flow_open_pop_s2.f l52 x53 x61.A).bind fun t65 => if (!t65.1) = true then (flow_Loops.j1 l_0) else ((elt l_0 x61.A).bind fun x68 => if (l55.length + [(⟨x61.A, x57, x68.A⟩ : flow_Loop)].length) * 24 ≤ 140737488355328 then (flow_Loops.j2 l_0 x57 t65.2.1 t65.2.2 (l55 ++ [(⟨x61.A, x57, x68.A⟩ : flow_Loop)])) else none)) else (flow_Loops.j2 l_0 x57 l52 x53 l55))) else ((if x53 > 0 then (some true) else ((elt l_0 (IntKind.i64.wrap ((l_0.length : Int) - 1))).bind fun x90 => (flow_last.f x90).bind fun t91 => some (!t91))).bind fun t92 => (if t92 = true then (some true) else ((flow_jumps.f l_0 l55).bind fun t95 => some (!t95))).bind fun t96 => if t96 = true then (flow_Loops.j1 l_0) else (if l55.length < 4611686018427387904 then (some (.inr ((srt128 l55.toArray).toList, 0))) else none))
def flow_Loops.f (l_0 : List api_Instr) : Option ((List flow_Loop) × Int) := runF (flow_Loops.F l_0) .start
theorem flow_Loops.ok {l_0 v_l_0} (r) (H : flow_Loops.f l_0 = some r) : Ok Tryz.prog 84 [v_l_0] [slP k_api_Instr v_l_0 l_0, arrP k_arr199 1 tab1] fun v => HO.ex fun u0 : Value => HO.pand (v = .tuple #[u0, .int .i64 r.2]) (HO.seps [slO k_flow_Loop 142 u0 r.1]) := by
 refine oq 76 Tryz.func84 fun w hV see pb => ?_
 obtain ⟨m0, o, ho, hr⟩ := rn H
 refine CP.scope 0 (fun a w2 => ∃ (m107 : Nat) (o : (flow_Loops.S ⊕ ((List flow_Loop) × Int))), m107 ≤ m0 ∧ flow_Loops.j1 l_0 = some o ∧ next (flow_Loops.F l_0) m107 o = some r ∧ Env ⟨76, []⟩ [] a ∧ St w em hV [arrP k_arr199 1 tab1] [] w2) rfl (fun _ _ _ h => h) ?_ ?_
 ·rintro a w2 ⟨m107, o, hm_m107, ho, hr, ha, hw⟩
  refine CP.app ha hw ?_
  clear ha hw a w2
  refine gg ?_
  exact fin ho hr ▸ rt (fun _ h => St.selO [0] rfl rfl (St.addO (slO.nil k_flow_Loop 142) h))
 refine gg ?_
 refine SP.jn 4 [0] 15 (.bool ((decide ((l_0.length : Int) = 0)) || (decide ((l_0.length : Int) > 200)))) ?_ ?_
 ·refine gg ?_
  obtain ⟨t7, hg_t7, ho⟩ := bind_some ho
  refine SP.jn 3 [0] 19 (.bool t7) ?_ ?_
  ·clear hg_t7
   refine gg ?_
   refine cb ho (fun ho => ?_) fun ho => ?_
   ·refine QE.scopeX rfl ?_
    exact fin ho hr ▸ rt (fun _ h => St.selO [0] rfl rfl (St.addO (slO.nil k_flow_Loop 142) h))
   refine al fun b9 => ?_
   refine lo ho hr (fun z => ∃ l52 x53 l55 x57 v56, z (.l1 l52 x53 l55 x57) [(0, v_l_0), (4, v56), (5, .pointer (some ⟨b9, 0, none⟩)), (20, v_l_0), (21, .int .i64 (l_0.length : Int)), (22, .int .i64 x57)] [slO k_flow_Loop 142 v56 l55, arrO b9 [] (fun z : Int => Value.int .i64 z) 4 l52 [.int .i64 x53] 190]) (fun _ z => ⟨(List.replicate 4 0 : List Int), 0, [], 0, (.slice none 0 0), z⟩) ?_ (fun _ hw => (St.addO (slO.nil k_flow_Loop 142) (St.arr (f := (fun z : Int => Value.int .i64 z)) 0 rfl (List.replicate 4 0 : List Int) [] [.int .i64 0] rfl rfl hw)))
   rintro _ _ _ ⟨l52, x53, l55, x57, v56, m58, o, _, _, ho, hr, h⟩
   refine en h ?_
   refine ci (ht := id) ho (fun ho => ?_) fun ho => ?_
   ·refine go ?_
    refine ji hr (fun z => ∃ l80 x81 l83 v84, z (flow_Loops.j2 l_0 x57 l80 x81 l83) [(0, v_l_0), (4, v84), (5, .pointer (some ⟨b9, 0, none⟩)), (20, v_l_0), (21, .int .i64 (l_0.length : Int)), (22, .int .i64 x57)] [slO k_flow_Loop 142 v84 l83, arrO b9 [] (fun z : Int => Value.int .i64 z) 4 l80 [.int .i64 x81] 190]) ?_ ?_
    ·rintro _ _ ⟨l80, x81, l83, v84, m85, o, _, ho, hr, h⟩
     refine en h ?_
     exact lw ho hr (fun _ z => ⟨l80, x81, l83, (IntKind.i64.wrap (x57 + 1)), v84, z⟩)
    refine gg ?_
    obtain ⟨x61, hx, ho⟩ := elt_bind ho
    refine SP.indexP see 0 rfl Tryz.underlying41 sz57.h hx.1 hx.2 rfl rfl rfl rfl (fun p59 => ?_)
    clear hx
    refine k_api_Instr.load see 0 rfl Tryz.underlying57 rfl sz57.h rfl rfl rfl ?_
    refine al fun b62 => ?_
    refine st 0 ?_
    refine ci ho (fun ho => ?_) fun ho => ?_
    ·refine SP.imp (fun w2 hw => St.selO [2, 0, 1] rfl rfl hw) ?_
     obtain ⟨t64, hc, ho⟩ := bind_some ho
     refine SP.callA see (caps := []) _ fn124.h rfl rfl rfl rfl (fun w2 hP h1 sub s1 d1 ap hI => flow_open_push_s2.ok _ _ _  _ hc w2 hP sub  _ h1 s1 d1 hI) (SP.k0 ?_)
     clear hc
     refine gg ?_
     refine cb ho (fun ho => ?_) fun ho => ?_
     ·refine CP.goto ?_
      refine QE.blockG ?_
      refine QE.blockG (gg ?_)
      refine QE.blockG (gg ?_)
      exact QE.jump fun a w2 ha hw => ⟨m58, _, (by omega), ho, hr, ha.sub trivial, (St.selP [2] rfl (St.selO [] rfl rfl hw))⟩
     exact mi ho hr (fun _ z => ⟨t64.2.1, t64.2.2, l55, v56, z⟩) (sO [2, 0])
    refine ci ho (fun ho => ?_) fun ho => ?_
    ·refine SP.imp (fun w2 hw => St.selO [2, 0, 1] rfl rfl hw) ?_
     obtain ⟨t65, hc, ho⟩ := bind_some ho
     refine SP.callA see (caps := []) _ fn125.h rfl rfl rfl rfl (fun w2 hP h1 sub s1 d1 ap hI => flow_open_pop_s2.ok _ _ _  _ hc w2 hP sub  _ h1 s1 d1 hI) (SP.k0 ?_)
     clear hc
     refine gg ?_
     refine cb ho (fun ho => ?_) fun ho => ?_
     ·refine CP.goto (gg ?_)
      refine QE.blockG ?_
      refine QE.blockG (gg ?_)
      refine QE.blockG (gg ?_)
      exact QE.jump fun a w2 ha hw => ⟨m58, _, (by omega), ho, hr, ha.sub trivial, (St.selP [2] rfl (St.selO [] rfl rfl hw))⟩
     refine CP.drawA (by kernel_rfl) (fun w2 k h => h.drawn k) ?_
     obtain ⟨x68, hx, ho⟩ := elt_bind ho
     refine DA.ghost (fun w2 h => h.elem see 1 rfl hx.1 hx.2) (fun p66 h_p66 => ?_)
     clear hx
     refine DA.ghost (fun w2 h => h.fieldE see 0 rfl k_api_Instr.part_A) (fun p69 h_p69 => ?_)
     refine DA.ghost (fun w2 h => h.openE see 0 rfl (fun _ : Unit => [.int .i64 x68.A]) (fun _ => []) (fun h cs e => ⟨(), e, All.nil _⟩)) (fun _ _ => ?_)
     refine DA.ph 0 12 ?_
     refine DT.tk 0 ?_
     refine DT.tk 1 ?_
     refine DT.tk 2 ?_
     refine DT.tk 3 ?_
     refine DT.tk 4 ?_
     refine DT.tk 5 ?_
     refine DT.tk 6 ?_
     refine DT.tv 7 rfl (Val.indexE h_p66 Tryz.underlying41 sz57.h rfl rfl) ?_
     refine DT.tv 8 rfl (Val.fieldE h_p69 Tryz.underlying57 rfl rfl sz3.h rfl) ?_
     refine DT.tv 9 rfl (Val.loadAt1 see 0 rfl Tryz.underlying3 rfl rfl) ?_
     refine DT.tv 10 rfl (Val.buildC (us := [(0, .int .i64 x61.A), (1, .int .i64 x57), (2, .int .i64 x68.A)]) (ucs := [(0, [.int .i64 x61.A]), (1, [.int .i64 x57]), (2, [.int .i64 x68.A])]) (cs := [.int .i64 x61.A, .int .i64 x57, .int .i64 x68.A]) bt142.h rfl rfl ⟨rfl, rfl, ⟨rfl, rfl, ⟨rfl, rfl, trivial⟩⟩⟩ (by rfl)) ?_
     refine DT.one 11 rfl (by kernel_rfl) rfl ?_
     refine li k_flow_Loop [(⟨x61.A, x57, x68.A⟩ : flow_Loop)] fun v76 => ?_
     refine QE.atT (fun w2 hw => (St.selO [1, 2, 3] rfl rfl hw)) ?_
     refine DT.next (by kernel_rfl) ?_
     refine DA.one 12 rfl (by kernel_rfl) ?_
     refine SP.freezeS see 0 rfl ?_
     refine ap 2 0 ho fun v78 ho => ?_
     refine QE.atA ?_
     refine DA.one 13 rfl (by kernel_rfl) (gg ?_)
     refine QE.atA ?_
     refine DA.done (by kernel_rfl) (gg ?_)
     exact mi ho hr (fun _ z => ⟨t65.2.1, t65.2.2, (l55 ++ [(⟨x61.A, x57, x68.A⟩ : flow_Loop)]), v78, z⟩) (sO [2, 0])
    exact mi ho hr (fun _ z => ⟨l52, x53, l55, v56, z⟩) (sO [1, 2])
   refine SP.val (Val.loadArrPost (k := 0) 1 rfl Tryz.underlying3 rfl rfl rfl rfl) rfl rfl rfl (gg ?_)
   obtain ⟨t92, hg_t92, ho⟩ := bind_some ho
   refine SP.jn 9 [0, 4] 66 (.bool t92) ?_ ?_
   ·clear hg_t92
    refine gg ?_
    obtain ⟨t96, hg_t96, ho⟩ := bind_some ho
    refine SP.jn 5 [4] 72 (.bool t96) ?_ ?_
    ·clear hg_t96
     refine gg ?_
     refine cb ho (fun ho => ?_) fun ho => ?_
     ·refine CP.goto (gg ?_)
      exact QE.jump fun a w2 ha hw => ⟨m58, _, (by omega), ho, hr, ha.sub trivial, (St.selP [1] rfl (St.selO [] rfl rfl hw))⟩
     obtain ⟨hb, ho⟩ := must_some ho
     refine SP.callA see (caps := []) (fun r => HO.pand (r = .tuple #[]) (HO.seps [slO k_flow_Loop 142 v56 ((srt128 l55.toArray).toList)])) fn128.h rfl rfl rfl rfl (fun w2 hP h1 sub s1 d1 ap hI => srt128_trip hb sub s1 d1 hI) (SP.k0 ?_)
     clear hb
     refine gg ?_
     refine QE.scopeX rfl ?_
     exact fin ho hr ▸ rt (sO [0])
    refine SP.cb 67 hg_t96 (fun hq94 ho => ?_) fun hq94 ho => ?_
    ·refine gg ?_
     obtain rfl := Option.some.inj ho
     exact QE.jn fun w2 hw => hw
    refine gg ?_
    obtain ⟨t95, hc, ho⟩ := bind_some ho
    refine SP.callVO see (caps := []) (.bool t95) fn127.h rfl rfl rfl rfl (fun w2 hs => flow_jumps.ok _ hc w2 (hp w2) (Sub.refl _) (aS ((St.pers 0 rfl see.sub see.dj hs)) (aS (slO.read (St.own 0 rfl see.sub see.dj hs) (Sub.refl _) (Sub.refl _)) (All.nil _)))) ?_
    clear hc
    refine gg ?_
    obtain rfl := Option.some.inj ho
    exact QE.jn fun w2 hw => hw
   refine SP.ci 57 hg_t92 (fun hq87 ho => ?_) fun hq87 ho => ?_
   ·refine gg ?_
    obtain rfl := Option.some.inj ho
    exact QE.jn fun w2 hw => hw
   refine gg ?_
   obtain ⟨x90, hx, ho⟩ := elt_bind ho
   refine SP.indexP see 0 rfl Tryz.underlying41 sz57.h hx.1 hx.2 rfl rfl rfl rfl (fun p88 => ?_)
   clear hx
   refine k_api_Instr.load see 0 rfl Tryz.underlying57 rfl sz57.h rfl rfl rfl ?_
   refine kv flow_last.ok ho fun t91 ho => ?_
   obtain rfl := Option.some.inj ho
   exact QE.jn fun w2 hw => (St.selP [1, 2] rfl hw)
  refine SP.cb 16 hg_t7 (fun hq5 ho => ?_) fun hq5 ho => ?_
  ·refine gg ?_
   obtain rfl := Option.some.inj ho
   exact QE.jn fun w2 hw => hw
  refine gg ?_
  refine kv slices_ContainsFunc_api_Instr_api_Instr_s2.ok ho fun t6 ho => ?_
  obtain rfl := Option.some.inj ho
  exact QE.jn fun w2 hw => hw
 refine SP.bb 11 (fun hq3 => ?_) fun hq3 => ?_
 ·refine gg ?_
  exact QE.jb (or_t hq3) fun w2 hw => hw
 refine gg ?_
 exact QE.jb (or_f hq3 rfl) fun w2 hw => hw
def flow_Check.f (l_0 : List api_Instr) : Option Int :=
  (flow_Loops.f l_0).bind fun t2 => some t2.2
theorem flow_Check.ok {l_0 v_l_0} (r) (ho : flow_Check.f l_0 = some r) : Ok Tryz.prog 76 [v_l_0] [slP k_api_Instr v_l_0 l_0, arrP k_arr199 1 tab1] fun v => HO.pure (v = .int .i64 r) := by
 refine oq 11 Tryz.func76 fun w hV see pb => ?_
 refine k1 flow_Loops.ok ho fun t2 ho v3 => ?_
 exact Option.some.inj ho ▸ rt
def types_look_there_s1.j1 (k_0_1 k_0_3 : List api_Value) (k_0_5 : List api_Method) (k_0_7 : Int) (k_0_8 k_0_10 : List Int) (k_0_12 : Int) (k_0_13 : Bool) (k_0_14 k_0_15 k_0_16 : Int) (k_0_17 : List api_Instr) (k_0_19 : List Int) (i_1 : api_Instr) (x27 : Int) : Option Bool :=
  some (decide (i_1.A < x27))
def types_look_there_s1.j3 (k_0_1 k_0_3 : List api_Value) (k_0_5 : List api_Method) (k_0_7 : Int) (k_0_8 k_0_10 : List Int) (k_0_12 : Int) (k_0_13 : Bool) (k_0_14 k_0_15 k_0_16 : Int) (k_0_17 : List api_Instr) (k_0_19 : List Int) (i_1 : api_Instr) (b26 : Bool) : Option Bool :=
  if b26 = true then (types_look_there_s1.j1 k_0_1 k_0_3 k_0_5 k_0_7 k_0_8 k_0_10 k_0_12 k_0_13 k_0_14 k_0_15 k_0_16 k_0_17 k_0_19 i_1 (k_0_1.length : Int)) else (if i_1.Op = 30 then (types_look_there_s1.j1 k_0_1 k_0_3 k_0_5 k_0_7 k_0_8 k_0_10 k_0_12 k_0_13 k_0_14 k_0_15 k_0_16 k_0_17 k_0_19 i_1 (k_0_5.length : Int)) else (some true))
def types_look_there_s1.j2 (k_0_1 k_0_3 : List api_Value) (k_0_5 : List api_Method) (k_0_7 : Int) (k_0_8 k_0_10 : List Int) (k_0_12 : Int) (k_0_13 : Bool) (k_0_14 k_0_15 k_0_16 : Int) (k_0_17 : List api_Instr) (k_0_19 : List Int) (i_1 : api_Instr) (b25 : Bool) : Option Bool :=
  if b25 = true then (types_look_there_s1.j1 k_0_1 k_0_3 k_0_5 k_0_7 k_0_8 k_0_10 k_0_12 k_0_13 k_0_14 k_0_15 k_0_16 k_0_17 k_0_19 i_1 (k_0_19.length : Int)) else (if i_1.Op = 4 then (types_look_there_s1.j3 k_0_1 k_0_3 k_0_5 k_0_7 k_0_8 k_0_10 k_0_12 k_0_13 k_0_14 k_0_15 k_0_16 k_0_17 k_0_19 i_1 (decide (i_1.Op = 4))) else (types_look_there_s1.j3 k_0_1 k_0_3 k_0_5 k_0_7 k_0_8 k_0_10 k_0_12 k_0_13 k_0_14 k_0_15 k_0_16 k_0_17 k_0_19 i_1 (decide (i_1.Op = 5))))
def types_look_there_s1.f (k_0_1 k_0_3 : List api_Value) (k_0_5 : List api_Method) (k_0_7 : Int) (k_0_8 k_0_10 : List Int) (k_0_12 : Int) (k_0_13 : Bool) (k_0_14 k_0_15 k_0_16 : Int) (k_0_17 : List api_Instr) (k_0_19 : List Int) (i_1 : api_Instr) : Option Bool :=
  if i_1.Op = 1 then (types_look_there_s1.j1 k_0_1 k_0_3 k_0_5 k_0_7 k_0_8 k_0_10 k_0_12 k_0_13 k_0_14 k_0_15 k_0_16 k_0_17 k_0_19 i_1 (k_0_3.length : Int)) else (if i_1.Op = 2 then (types_look_there_s1.j2 k_0_1 k_0_3 k_0_5 k_0_7 k_0_8 k_0_10 k_0_12 k_0_13 k_0_14 k_0_15 k_0_16 k_0_17 k_0_19 i_1 (decide (i_1.Op = 2))) else (types_look_there_s1.j2 k_0_1 k_0_3 k_0_5 k_0_7 k_0_8 k_0_10 k_0_12 k_0_13 k_0_14 k_0_15 k_0_16 k_0_17 k_0_19 i_1 (decide (i_1.Op = 3))))
theorem types_look_there_s1.ok {k_0_1 k_0_3 k_0_5 k_0_7 k_0_8 k_0_10 k_0_12 k_0_13 k_0_14 k_0_15 k_0_16 k_0_17 k_0_19 i_1 v_k_0_1 v_k_0_3 v_k_0_5 v_k_0_8 v_k_0_10 v_k_0_17 v_k_0_19 b21} (r) (ho : types_look_there_s1.f k_0_1 k_0_3 k_0_5 k_0_7 k_0_8 k_0_10 k_0_12 k_0_13 k_0_14 k_0_15 k_0_16 k_0_17 k_0_19 i_1 = some r) : Ok Tryz.prog 80 [.pointer (some ⟨b21, 0, none⟩), .agg #[.int .u8 i_1.Op, .int .i64 i_1.A, .int .i64 i_1.B]] [slP k_api_Value v_k_0_1 k_0_1, slP k_api_Value v_k_0_3 k_0_3, slP k_api_Method v_k_0_5 k_0_5, slP (kInt .u8) v_k_0_8 k_0_8, slP (kInt .u8) v_k_0_10 k_0_10, slP k_api_Instr v_k_0_17 k_0_17, slP (kInt .u8) v_k_0_19 k_0_19, preP b21 [v_k_0_1, v_k_0_3, v_k_0_5, .int .i64 k_0_7, v_k_0_8, v_k_0_10, .int .u8 k_0_12, .bool k_0_13, .int .i64 k_0_14, .int .i64 k_0_15, .int .i64 k_0_16, v_k_0_17, v_k_0_19] 131] fun v => HO.pure (v = .bool r) := by
 refine oq 45 Tryz.func80 fun w hV see pb => ?_
 refine SP.box rfl rfl rfl rfl fun b23 => ?_
 refine go ?_
 refine oi r (fun z => ∃ x27, z (types_look_there_s1.j1 k_0_1 k_0_3 k_0_5 k_0_7 k_0_8 k_0_10 k_0_12 k_0_13 k_0_14 k_0_15 k_0_16 k_0_17 k_0_19 i_1 x27) [(3, .pointer (some ⟨b23, 0, none⟩)), (5, .int .i64 x27)] [boxO b23 [.int .u8 i_1.Op, .int .i64 i_1.A, .int .i64 i_1.B] 57]) ?_ ?_ (hb := pe [])
 ·rintro _ _ ⟨x27, ho, h⟩
  refine en h ?_
  exact Option.some.inj ho ▸ rt
 refine gg ?_
 refine ci (hf := id) ho (fun ho => ?_) fun ho => ?_
 ·refine SP.val (Val.loadPre1 see 7 rfl Tryz.underlying22 rfl rfl rfl) rfl rfl rfl (gg ?_)
  exact mo ho (fun _ z => ⟨(k_0_3.length : Int), z⟩)
 refine oi r (fun z => ∃ b25, z (types_look_there_s1.j2 k_0_1 k_0_3 k_0_5 k_0_7 k_0_8 k_0_10 k_0_12 k_0_13 k_0_14 k_0_15 k_0_16 k_0_17 k_0_19 i_1 b25) [(0, .pointer (some ⟨b21, 0, none⟩)), (3, .pointer (some ⟨b23, 0, none⟩)), (7, .int .u8 i_1.Op), (16, .bool b25)] [boxO b23 [.int .u8 i_1.Op, .int .i64 i_1.A, .int .i64 i_1.B] 57]) ?_ ?_
 ·rintro _ _ ⟨b25, ho, h⟩
  refine en h ?_
  refine cb (hf := id) ho (fun ho => ?_) fun ho => ?_
  ·refine SP.val (Val.loadPre1 see 7 rfl Tryz.underlying26 rfl rfl rfl) rfl rfl rfl (gg ?_)
   exact mo ho (fun _ z => ⟨(k_0_19.length : Int), z⟩)
  refine oi r (fun z => ∃ b26, z (types_look_there_s1.j3 k_0_1 k_0_3 k_0_5 k_0_7 k_0_8 k_0_10 k_0_12 k_0_13 k_0_14 k_0_15 k_0_16 k_0_17 k_0_19 i_1 b26) [(0, .pointer (some ⟨b21, 0, none⟩)), (3, .pointer (some ⟨b23, 0, none⟩)), (7, .int .u8 i_1.Op), (24, .bool b26)] [boxO b23 [.int .u8 i_1.Op, .int .i64 i_1.A, .int .i64 i_1.B] 57]) ?_ ?_
  ·rintro _ _ ⟨b26, ho, h⟩
   refine en h ?_
   refine cb ho (fun ho => ?_) fun ho => ?_
   ·refine SP.val (Val.loadPre1 see 7 rfl Tryz.underlying22 rfl rfl rfl) rfl rfl rfl (gg ?_)
    exact mo ho (fun _ z => ⟨(k_0_1.length : Int), z⟩)
   refine ci ho (fun ho => ?_) fun ho => ?_
   ·refine SP.val (Val.loadPre1 see 7 rfl Tryz.underlying23 rfl rfl rfl) rfl rfl rfl (gg ?_)
    exact mo ho (fun _ z => ⟨(k_0_5.length : Int), z⟩)
   exact Option.some.inj ho ▸ rt
  refine gg ?_
  refine ci ho (fun ho => ?_) fun ho => ?_
  ·exact mo ho (fun _ z => ⟨(decide (i_1.Op = 4)), z⟩)
  exact mo ho (fun _ z => ⟨(decide (i_1.Op = 5)), z⟩)
 refine gg ?_
 refine ci ho (fun ho => ?_) fun ho => ?_
 ·exact mo ho (fun _ z => ⟨(decide (i_1.Op = 2)), z⟩)
 exact mo ho (fun _ z => ⟨(decide (i_1.Op = 3)), z⟩)
def types_Rows_1_s1.f (i_0 : api_Instr) (c0_1 c0_3 : List api_Value) (c0_5 : List api_Method) (c0_7 : Int) (c0_8 c0_10 : List Int) (c0_12 : Int) (c0_13 : Bool) (c0_14 c0_15 c0_16 : Int) (c0_17 : List api_Instr) (c0_19 : List Int) : Option Bool :=
  (types_look_there_s1.f c0_1 c0_3 c0_5 c0_7 c0_8 c0_10 c0_12 c0_13 c0_14 c0_15 c0_16 c0_17 c0_19 i_0).bind fun t27 => some (!t27)
theorem types_Rows_1_s1.ok {i_0 c0_1 c0_3 c0_5 c0_7 c0_8 c0_10 c0_12 c0_13 c0_14 c0_15 c0_16 c0_17 c0_19 v_c0_1 v_c0_3 v_c0_5 v_c0_8 v_c0_10 v_c0_17 v_c0_19 b21 b23} (r) (ho : types_Rows_1_s1.f i_0 c0_1 c0_3 c0_5 c0_7 c0_8 c0_10 c0_12 c0_13 c0_14 c0_15 c0_16 c0_17 c0_19 = some r) : Ok Tryz.prog 79 [.agg #[.int .u8 i_0.Op, .int .i64 i_0.A, .int .i64 i_0.B], .pointer (some ⟨b23, 0, none⟩)] [slP k_api_Value v_c0_1 c0_1, slP k_api_Value v_c0_3 c0_3, slP k_api_Method v_c0_5 c0_5, slP (kInt .u8) v_c0_8 c0_8, slP (kInt .u8) v_c0_10 c0_10, slP k_api_Instr v_c0_17 c0_17, slP (kInt .u8) v_c0_19 c0_19, preP b21 [v_c0_1, v_c0_3, v_c0_5, .int .i64 c0_7, v_c0_8, v_c0_10, .int .u8 c0_12, .bool c0_13, .int .i64 c0_14, .int .i64 c0_15, .int .i64 c0_16, v_c0_17, v_c0_19] 131, boxP b23 [.pointer (some ⟨b21, 0, none⟩)] 125] fun v => HO.pure (v = .bool r) := by
 refine oq 8 Tryz.func79 fun w hV see pb => ?_
 refine SP.box rfl rfl rfl rfl fun b25 => ?_
 refine SP.val (Val.assign rfl) rfl rfl rfl ?_
 refine SP.nil ?_
 refine QE.then ?_
 refine CP.seq ?_
 refine CP.region ?_
 refine SP.val (Val.loadB1 see 8 rfl Tryz.underlying125 rfl rfl rfl) rfl rfl rfl (gg ?_)
 refine kv types_look_there_s1.ok ho fun t27 ho => ?_
 exact Option.some.inj ho ▸ rt
inductive slices_IndexFunc_api_Instr_api_Instr_s3.S where
  | start
  | l1 (x31 : Int)
def slices_IndexFunc_api_Instr_api_Instr_s3.F (s_0 : List api_Instr) (f_1_2 f_1_4 : List api_Value) (f_1_6 : List api_Method) (f_1_8 : Int) (f_1_9 f_1_11 : List Int) (f_1_13 : Int) (f_1_14 : Bool) (f_1_15 f_1_16 f_1_17 : Int) (f_1_18 : List api_Instr) (f_1_20 : List Int) : slices_IndexFunc_api_Instr_api_Instr_s3.S → Option (slices_IndexFunc_api_Instr_api_Instr_s3.S ⊕ Int)
  | .start => some (.inl (.l1 0))
  | .l1 x31 => if x31 < (s_0.length : Int) then ((elt s_0 x31).bind fun x35 => (types_Rows_1_s1.f x35 f_1_2 f_1_4 f_1_6 f_1_8 f_1_9 f_1_11 f_1_13 f_1_14 f_1_15 f_1_16 f_1_17 f_1_18 f_1_20).bind fun t36 => if t36 = true then (some (.inr x31)) else (some (.inl (.l1 (IntKind.i64.wrap (x31 + 1)))))) else (some (.inr (-1)))
def slices_IndexFunc_api_Instr_api_Instr_s3.f (s_0 : List api_Instr) (f_1_2 f_1_4 : List api_Value) (f_1_6 : List api_Method) (f_1_8 : Int) (f_1_9 f_1_11 : List Int) (f_1_13 : Int) (f_1_14 : Bool) (f_1_15 f_1_16 f_1_17 : Int) (f_1_18 : List api_Instr) (f_1_20 : List Int) : Option Int := runF (slices_IndexFunc_api_Instr_api_Instr_s3.F s_0 f_1_2 f_1_4 f_1_6 f_1_8 f_1_9 f_1_11 f_1_13 f_1_14 f_1_15 f_1_16 f_1_17 f_1_18 f_1_20) .start
theorem slices_IndexFunc_api_Instr_api_Instr_s3.ok {s_0 f_1_2 f_1_4 f_1_6 f_1_8 f_1_9 f_1_11 f_1_13 f_1_14 f_1_15 f_1_16 f_1_17 f_1_18 f_1_20 v_s_0 v_f_1_2 v_f_1_4 v_f_1_6 v_f_1_9 v_f_1_11 v_f_1_18 v_f_1_20 b22 b24} (r) (H : slices_IndexFunc_api_Instr_api_Instr_s3.f s_0 f_1_2 f_1_4 f_1_6 f_1_8 f_1_9 f_1_11 f_1_13 f_1_14 f_1_15 f_1_16 f_1_17 f_1_18 f_1_20 = some r) : Ok Tryz.prog 119 [v_s_0, .func (.func 79) #[] #[.pointer (some ⟨b24, 0, none⟩)]] [slP k_api_Instr v_s_0 s_0, slP k_api_Value v_f_1_2 f_1_2, slP k_api_Value v_f_1_4 f_1_4, slP k_api_Method v_f_1_6 f_1_6, slP (kInt .u8) v_f_1_9 f_1_9, slP (kInt .u8) v_f_1_11 f_1_11, slP k_api_Instr v_f_1_18 f_1_18, slP (kInt .u8) v_f_1_20 f_1_20, preP b22 [v_f_1_2, v_f_1_4, v_f_1_6, .int .i64 f_1_8, v_f_1_9, v_f_1_11, .int .u8 f_1_13, .bool f_1_14, .int .i64 f_1_15, .int .i64 f_1_16, .int .i64 f_1_17, v_f_1_18, v_f_1_20] 131, boxP b24 [.pointer (some ⟨b22, 0, none⟩)] 125] fun v => HO.pure (v = .int .i64 r) := by
 refine oq 19 Tryz.func119 fun w hV see pb => ?_
 obtain ⟨m0, o, ho, hr⟩ := rn H
 refine lo ho hr (fun z => ∃ x31, z (.l1 x31) [(0, v_s_0), (1, .func (.func 79) #[] #[.pointer (some ⟨b24, 0, none⟩)]), (7, .int .i64 (s_0.length : Int)), (8, .int .i64 x31)] []) (fun _ z => ⟨0, z⟩) ?_
 rintro _ _ _ ⟨x31, m32, o, _, _, ho, hr, h⟩
 refine en h ?_
 refine ci ho (fun ho => ?_) fun ho => ?_
 ·obtain ⟨x35, hx, ho⟩ := elt_bind ho
  refine SP.indexP see 0 rfl Tryz.underlying41 sz57.h hx.1 hx.2 rfl rfl rfl rfl (fun p33 => ?_)
  clear hx
  refine k_api_Instr.load see 0 rfl Tryz.underlying57 rfl sz57.h rfl rfl rfl ?_
  refine kv types_Rows_1_s1.ok ho fun t36 ho => ?_
  refine cb ho (fun ho => ?_) fun ho => ?_
  ·exact fin ho hr ▸ rt
  exact lw ho hr (fun _ z => ⟨(IntKind.i64.wrap (x31 + 1)), z⟩)
 exact fin ho hr ▸ rt
def slices_ContainsFunc_api_Instr_api_Instr_s3.f (s_0 : List api_Instr) (f_1_2 f_1_4 : List api_Value) (f_1_6 : List api_Method) (f_1_8 : Int) (f_1_9 f_1_11 : List Int) (f_1_13 : Int) (f_1_14 : Bool) (f_1_15 f_1_16 f_1_17 : Int) (f_1_18 : List api_Instr) (f_1_20 : List Int) : Option Bool :=
  (slices_IndexFunc_api_Instr_api_Instr_s3.f s_0 f_1_2 f_1_4 f_1_6 f_1_8 f_1_9 f_1_11 f_1_13 f_1_14 f_1_15 f_1_16 f_1_17 f_1_18 f_1_20).bind fun t26 => some (decide (t26 ≥ 0))
theorem slices_ContainsFunc_api_Instr_api_Instr_s3.ok {s_0 f_1_2 f_1_4 f_1_6 f_1_8 f_1_9 f_1_11 f_1_13 f_1_14 f_1_15 f_1_16 f_1_17 f_1_18 f_1_20 v_s_0 v_f_1_2 v_f_1_4 v_f_1_6 v_f_1_9 v_f_1_11 v_f_1_18 v_f_1_20 b22 b24} (r) (ho : slices_ContainsFunc_api_Instr_api_Instr_s3.f s_0 f_1_2 f_1_4 f_1_6 f_1_8 f_1_9 f_1_11 f_1_13 f_1_14 f_1_15 f_1_16 f_1_17 f_1_18 f_1_20 = some r) : Ok Tryz.prog 78 [v_s_0, .func (.func 79) #[] #[.pointer (some ⟨b24, 0, none⟩)]] [slP k_api_Instr v_s_0 s_0, slP k_api_Value v_f_1_2 f_1_2, slP k_api_Value v_f_1_4 f_1_4, slP k_api_Method v_f_1_6 f_1_6, slP (kInt .u8) v_f_1_9 f_1_9, slP (kInt .u8) v_f_1_11 f_1_11, slP k_api_Instr v_f_1_18 f_1_18, slP (kInt .u8) v_f_1_20 f_1_20, preP b22 [v_f_1_2, v_f_1_4, v_f_1_6, .int .i64 f_1_8, v_f_1_9, v_f_1_11, .int .u8 f_1_13, .bool f_1_14, .int .i64 f_1_15, .int .i64 f_1_16, .int .i64 f_1_17, v_f_1_18, v_f_1_20] 131, boxP b24 [.pointer (some ⟨b22, 0, none⟩)] 125] fun v => HO.pure (v = .bool r) := by
 refine oq 9 Tryz.func78 fun w hV see pb => ?_
 refine kv slices_IndexFunc_api_Instr_api_Instr_s3.ok ho fun t26 ho => ?_
 exact Option.some.inj ho ▸ rt
def op_Shape_take_s2.f (s_0_2 s_0_5 : List Int) (kind_1 : Int) : Option ((List Int) × (List Int)) :=
  if (s_0_2.length + [kind_1].length) * 1 ≤ 140737488355328 then (some (s_0_2 ++ [kind_1], s_0_5)) else none
theorem op_Shape_take_s2.ok (s_0_2 s_0_5 : List Int) (kind_1 : Int) (v_s_0_2 v_s_0_5 : Value) (r : (List Int) × (List Int)) (H : op_Shape_take_s2.f s_0_2 s_0_5 kind_1 = some r) (w : World) (hV : Hp) (sV : Sub hV (hp w)) (h0 h1 : anyP.p hV) (b1 : Nat) (hA : Hp) (sA : Sub hA (hp w)) (dA : Dj hV hA) (hI : (HO.seps [boxO b1 [v_s_0_2, v_s_0_5] 219, slO (kInt .u8) 5 v_s_0_2 s_0_2, slO (kInt .u8) 5 v_s_0_5 s_0_5]).p hV hA) :
    Trip Tryz.prog 183 [.pointer (some ⟨b1, 0, none⟩), .int .u8 kind_1].toArray hA hV w (fun v => HO.pand (v = .tuple #[]) (HO.seps [HO.ex fun v12 : Value => HO.ex fun v13 : Value => HO.seps [boxO b1 [v12, v13] 219, slO (kInt .u8) 5 v12 r.1, slO (kInt .u8) 5 v13 r.2]])) := by
 have see : Sees w hA hV := ⟨sV, dA⟩
 refine Trip.of (P := Tryz.prog) (n := ⟨14, []⟩) Tryz.func183 rfl ⟨rfl, rfl⟩ rfl (St.beginA (os := [boxO b1 [v_s_0_2, v_s_0_5] 219, slO (kInt .u8) 5 v_s_0_2 s_0_2, slO (kInt .u8) 5 v_s_0_5 s_0_5]) sA (All.cons (x := anyP) h0 (All.cons (x := anyP) h1 (All.nil _))) hI) ?_
 have ho := H
 refine gg ?_
 refine li (kInt .u8) [kind_1] fun v8 => ?_
 refine SP.freezeS see 0 rfl ?_
 refine ap 1 0 ho fun v10 ho => ?_
 refine sh 1 fun hs_v10 => ?_
 refine st 0 ?_
 obtain rfl := Option.some.inj ho
 exact QE.over (rs := []) (vs := []) Tryz.results183 rfl trivial (fun w2 h => St.done (fun a b p s => ⟨rfl, s⟩) (St.shut v10 (St.shut v_s_0_5 (St.group [boxO b1 [v10, v_s_0_5] 219, slO (kInt .u8) 5 v10 (s_0_2 ++ [kind_1]), slO (kInt .u8) 5 v_s_0_5 s_0_5] (St.selO [0, 1, 2] rfl rfl h)))))
def op_Shape_give_s2.f (s_0_2 s_0_5 : List Int) (kind_1 : Int) : Option ((List Int) × (List Int)) :=
  if (s_0_5.length + [kind_1].length) * 1 ≤ 140737488355328 then (some (s_0_2, s_0_5 ++ [kind_1])) else none
theorem op_Shape_give_s2.ok (s_0_2 s_0_5 : List Int) (kind_1 : Int) (v_s_0_2 v_s_0_5 : Value) (r : (List Int) × (List Int)) (H : op_Shape_give_s2.f s_0_2 s_0_5 kind_1 = some r) (w : World) (hV : Hp) (sV : Sub hV (hp w)) (h0 h1 : anyP.p hV) (b1 : Nat) (hA : Hp) (sA : Sub hA (hp w)) (dA : Dj hV hA) (hI : (HO.seps [boxO b1 [v_s_0_2, v_s_0_5] 219, slO (kInt .u8) 5 v_s_0_2 s_0_2, slO (kInt .u8) 5 v_s_0_5 s_0_5]).p hV hA) :
    Trip Tryz.prog 184 [.pointer (some ⟨b1, 0, none⟩), .int .u8 kind_1].toArray hA hV w (fun v => HO.pand (v = .tuple #[]) (HO.seps [HO.ex fun v12 : Value => HO.ex fun v13 : Value => HO.seps [boxO b1 [v12, v13] 219, slO (kInt .u8) 5 v12 r.1, slO (kInt .u8) 5 v13 r.2]])) := by
 have see : Sees w hA hV := ⟨sV, dA⟩
 refine Trip.of (P := Tryz.prog) (n := ⟨14, []⟩) Tryz.func184 rfl ⟨rfl, rfl⟩ rfl (St.beginA (os := [boxO b1 [v_s_0_2, v_s_0_5] 219, slO (kInt .u8) 5 v_s_0_2 s_0_2, slO (kInt .u8) 5 v_s_0_5 s_0_5]) sA (All.cons (x := anyP) h0 (All.cons (x := anyP) h1 (All.nil _))) hI) ?_
 have ho := H
 refine gg ?_
 refine li (kInt .u8) [kind_1] fun v8 => ?_
 refine SP.freezeS see 0 rfl ?_
 refine ap 2 0 ho fun v10 ho => ?_
 refine sh 2 fun hs_v10 => ?_
 refine st 0 ?_
 obtain rfl := Option.some.inj ho
 exact QE.over (rs := []) (vs := []) Tryz.results184 rfl trivial (fun w2 h => St.done (fun a b p s => ⟨rfl, s⟩) (St.shut v_s_0_2 (St.shut v10 (St.group [boxO b1 [v_s_0_2, v10] 219, slO (kInt .u8) 5 v_s_0_2 s_0_2, slO (kInt .u8) 5 v10 (s_0_5 ++ [kind_1])] (St.selO [0, 1, 2] rfl rfl h)))))
def op_Of.j1 (op_0 : Int) (l112 l115 : List Int) : Option (op_Shape × Bool) :=
  some ((⟨l112, l115⟩ : op_Shape), true)
def op_Of.j2 (op_0 : Int) (l98 l101 : List Int) : Option (op_Shape × Bool) :=
  (op_Shape_take_s2.f l98 l101 2).bind fun t103 => (op_Shape_give_s2.f t103.1 t103.2 2).bind fun t106 => op_Of.j1 op_0 t106.1 t106.2
def op_Of.j3 (op_0 : Int) (l87 l90 : List Int) : Option (op_Shape × Bool) :=
  (op_Shape_take_s2.f l87 l90 1).bind fun t92 => op_Of.j1 op_0 t92.1 t92.2
def op_Of.j7 (op_0 : Int) (b51 : Bool) : Option (op_Shape × Bool) :=
  if b51 = true then ((op_Shape_take_s2.f ([] : List Int) ([] : List Int) 2).bind fun t52 => op_Of.j2 op_0 t52.1 t52.2) else (if op_0 = 21 then (op_Of.j2 op_0 [] []) else (if op_0 = 22 then ((op_Shape_take_s2.f ([] : List Int) ([] : List Int) 1).bind fun t57 => (op_Shape_give_s2.f t57.1 t57.2 3).bind fun t62 => op_Of.j1 op_0 t62.1 t62.2) else (if op_0 = 23 then ((op_Shape_take_s2.f ([] : List Int) ([] : List Int) 3).bind fun t65 => (op_Shape_take_s2.f t65.1 t65.2 1).bind fun t70 => (op_Shape_give_s2.f t70.1 t70.2 1).bind fun t73 => op_Of.j1 op_0 t73.1 t73.2) else (if op_0 = 25 then ((op_Shape_take_s2.f ([] : List Int) ([] : List Int) 3).bind fun t76 => (op_Shape_give_s2.f t76.1 t76.2 1).bind fun t81 => op_Of.j1 op_0 t81.1 t81.2) else (some ((⟨[], []⟩ : op_Shape), false))))))
def op_Of.j6 (op_0 : Int) (b42 : Bool) : Option (op_Shape × Bool) :=
  if b42 = true then ((op_Shape_give_s2.f ([] : List Int) ([] : List Int) 1).bind fun t43 => (op_Shape_take_s2.f t43.1 t43.2 2).bind fun t48 => op_Of.j1 op_0 t48.1 t48.2) else (if op_0 = 19 then (op_Of.j7 op_0 (decide (op_0 = 19))) else (op_Of.j7 op_0 (decide (op_0 = 20))))
def op_Of.j5 (op_0 : Int) (b19 : Bool) : Option (op_Shape × Bool) :=
  if b19 = true then ((op_Shape_give_s2.f ([] : List Int) ([] : List Int) 1).bind fun t20 => (op_Shape_take_s2.f t20.1 t20.2 1).bind fun t25 => (op_Shape_take_s2.f t25.1 t25.2 1).bind fun t28 => op_Of.j1 op_0 t28.1 t28.2) else (if op_0 = 16 then ((op_Shape_give_s2.f ([] : List Int) ([] : List Int) 2).bind fun t31 => (op_Shape_take_s2.f t31.1 t31.2 1).bind fun t36 => (op_Shape_take_s2.f t36.1 t36.2 1).bind fun t39 => op_Of.j1 op_0 t39.1 t39.2) else (if op_0 = 17 then (op_Of.j6 op_0 (decide (op_0 = 17))) else (op_Of.j6 op_0 (decide (op_0 = 18)))))
def op_Of.j4 (op_0 : Int) (b5 : Bool) : Option (op_Shape × Bool) :=
  if b5 = true then (op_Of.j1 op_0 [] []) else (if op_0 = 6 then ((op_Shape_take_s2.f ([] : List Int) ([] : List Int) 0).bind fun t6 => op_Of.j1 op_0 t6.1 t6.2) else (if op_0 = 24 then ((op_Shape_take_s2.f ([] : List Int) ([] : List Int) 3).bind fun t11 => (op_Shape_take_s2.f t11.1 t11.2 1).bind fun t16 => op_Of.j3 op_0 t16.1 t16.2) else (if op_0 = 27 then (op_Of.j3 op_0 [] []) else (if op_0 = 9 then (op_Of.j5 op_0 (decide (op_0 = 9))) else (if op_0 = 10 then (op_Of.j5 op_0 (decide (op_0 = 10))) else (if op_0 = 11 then (op_Of.j5 op_0 (decide (op_0 = 11))) else (if op_0 = 12 then (op_Of.j5 op_0 (decide (op_0 = 12))) else (if op_0 = 13 then (op_Of.j5 op_0 (decide (op_0 = 13))) else (if op_0 = 14 then (op_Of.j5 op_0 (decide (op_0 = 14))) else (op_Of.j5 op_0 (decide (op_0 = 15))))))))))))
def op_Of.f (op_0 : Int) : Option (op_Shape × Bool) :=
  if op_0 = 0 then (op_Of.j4 op_0 (decide (op_0 = 0))) else (if op_0 = 26 then (op_Of.j4 op_0 (decide (op_0 = 26))) else (if op_0 = 28 then (op_Of.j4 op_0 (decide (op_0 = 28))) else (if op_0 = 29 then (op_Of.j4 op_0 (decide (op_0 = 29))) else (op_Of.j4 op_0 (decide (op_0 = 32))))))
theorem op_Of.ok {op_0} (r) (ho : op_Of.f op_0 = some r) : Ok Tryz.prog 169 [.int .u8 op_0] [] fun v => HO.ex fun u0 : Value => HO.ex fun u1 : Value => HO.pand (v = .tuple #[.agg #[u0, u1], .bool r.2]) (HO.seps [slO (kInt .u8) 5 u0 r.1.Takes, slO (kInt .u8) 5 u1 r.1.Gives]) := by
 refine oq 66 Tryz.func169 fun w hV see pb => ?_
 refine al fun b1 => ?_
 refine al (h := fun _ => id) fun b3 => ?_
 refine go ?_
 refine oi r (fun z => ∃ l112 l115 v113 v116, z (op_Of.j1 op_0 l112 l115) [(2, .pointer (some ⟨b1, 0, none⟩)), (4, .pointer (some ⟨b3, 0, none⟩))] [slO (kInt .u8) 5 v116 l115, slO (kInt .u8) 5 v113 l112, boxO b3 [v113, v116] 219, boxO b1 [(.slice none 0 0), (.slice none 0 0)] 219]) ?_ ?_
 ·rintro _ _ ⟨l112, l115, v113, v116, ho, h⟩
  refine en h ?_
  refine sh 1 fun hs_v113 => ?_
  refine sh 0 fun hs_v116 => ?_
  refine st 3 ?_
  exact Option.some.inj ho ▸ rt (sO [1, 0]) (rs := [.cell 2 219, .tmp 3]) (vs := [.agg #[v113, v116], .bool true]) (hv := ⟨RVs.cellA 3 rfl rfl Tryz.underlying219 rfl sz219.h, RVs.tmp rfl, trivial⟩)
 refine go ?_
 refine CP.seq ?_
 refine go ?_
 refine CP.seq ?_
 refine go ?_
 refine CP.seq ?_
 refine go ?_
 refine CP.seq ?_
 refine go ?_
 refine oi r (fun z => ∃ l98 l101 v99 v102, z (op_Of.j2 op_0 l98 l101) [(2, .pointer (some ⟨b1, 0, none⟩)), (4, .pointer (some ⟨b3, 0, none⟩))] [slO (kInt .u8) 5 v102 l101, slO (kInt .u8) 5 v99 l98, boxO b3 [v99, v102] 219, boxO b1 [(.slice none 0 0), (.slice none 0 0)] 219]) ?_ ?_
 ·rintro _ _ ⟨l98, l101, v99, v102, ho, h⟩
  refine en h ?_
  refine SP.imp (fun w2 hw => St.selO [2, 1, 0, 3] rfl rfl hw) ?_
  refine SP.imp (fun w2 hw => St.group [boxO b3 [v99, v102] 219, slO (kInt .u8) 5 v99 l98, slO (kInt .u8) 5 v102 l101] hw) ?_
  obtain ⟨t103, hc, ho⟩ := bind_some ho
  refine SP.callA see (caps := []) _ fn183.h rfl rfl rfl rfl (fun w2 hP h1 sub s1 d1 ap hI => op_Shape_take_s2.ok _ _ _ v99 v102 _ hc w2 hP sub trivial trivial _ h1 s1 d1 hI) (SP.k0 ?_)
  refine SP.ex (fun w2 h => St.open h) (fun v104 => ?_)
  refine SP.ex (fun w2 h => St.open h) (fun v105 => ?_)
  refine SP.imp (fun w2 h => St.seps h) ?_
  clear hc
  refine gg ?_
  refine SP.imp (fun w2 hw => St.group [boxO b3 [v104, v105] 219, slO (kInt .u8) 5 v104 t103.1, slO (kInt .u8) 5 v105 t103.2] hw) ?_
  obtain ⟨t106, hc, ho⟩ := bind_some ho
  refine SP.callA see (caps := []) _ fn184.h rfl rfl rfl rfl (fun w2 hP h1 sub s1 d1 ap hI => op_Shape_give_s2.ok _ _ _ v104 v105 _ hc w2 hP sub trivial trivial _ h1 s1 d1 hI) (SP.k0 ?_)
  refine SP.ex (fun w2 h => St.open h) (fun v107 => ?_)
  refine SP.ex (fun w2 h => St.open h) (fun v108 => ?_)
  refine SP.imp (fun w2 h => St.seps h) ?_
  clear hc
  refine gg ?_
  exact mo ho (fun _ z => ⟨t106.1, t106.2, v107, v108, z⟩) (sO [2, 1, 0, 3])
 refine go ?_
 refine CP.seq ?_
 refine go ?_
 refine CP.seq ?_
 refine go ?_
 refine CP.seq ?_
 refine go ?_
 refine CP.seq ?_
 refine go ?_
 refine oi r (fun z => ∃ l87 l90 v88 v91, z (op_Of.j3 op_0 l87 l90) [(2, .pointer (some ⟨b1, 0, none⟩)), (4, .pointer (some ⟨b3, 0, none⟩))] [slO (kInt .u8) 5 v91 l90, slO (kInt .u8) 5 v88 l87, boxO b3 [v88, v91] 219, boxO b1 [(.slice none 0 0), (.slice none 0 0)] 219]) ?_ ?_
 ·rintro _ _ ⟨l87, l90, v88, v91, ho, h⟩
  refine en h ?_
  refine SP.imp (fun w2 hw => St.selO [2, 1, 0, 3] rfl rfl hw) ?_
  refine SP.imp (fun w2 hw => St.group [boxO b3 [v88, v91] 219, slO (kInt .u8) 5 v88 l87, slO (kInt .u8) 5 v91 l90] hw) ?_
  obtain ⟨t92, hc, ho⟩ := bind_some ho
  refine SP.callA see (caps := []) _ fn183.h rfl rfl rfl rfl (fun w2 hP h1 sub s1 d1 ap hI => op_Shape_take_s2.ok _ _ _ v88 v91 _ hc w2 hP sub trivial trivial _ h1 s1 d1 hI) (SP.k0 ?_)
  refine SP.ex (fun w2 h => St.open h) (fun v93 => ?_)
  refine SP.ex (fun w2 h => St.open h) (fun v94 => ?_)
  refine SP.imp (fun w2 h => St.seps h) ?_
  clear hc
  refine gg ?_
  exact mo ho (fun _ z => ⟨t92.1, t92.2, v93, v94, z⟩) (sO [2, 1, 0, 3])
 refine go ?_
 refine CP.seq ?_
 refine go ?_
 refine CP.seq ?_
 refine go ?_
 refine CP.seq ?_
 refine go ?_
 refine CP.seq ?_
 refine CP.seq ?_
 refine oi r (fun z => ∃ b5, z (op_Of.j4 op_0 b5) [(2, .pointer (some ⟨b1, 0, none⟩)), (4, .pointer (some ⟨b3, 0, none⟩)), (5, .int .u8 op_0), (6, .bool b5)] [boxO b3 [(.slice none 0 0), (.slice none 0 0)] 219, boxO b1 [(.slice none 0 0), (.slice none 0 0)] 219]) ?_ ?_
 ·rintro _ _ ⟨b5, ho, h⟩
  refine en h ?_
  refine cb ho (fun ho => ?_) fun ho => ?_
  ·exact mo ho (fun _ z => ⟨[], [], (.slice none 0 0), (.slice none 0 0), z⟩) (fun _ hw => (St.addO (slO.nil (kInt .u8) 5) (St.addO (slO.nil (kInt .u8) 5) hw)))
  refine ci ho (fun ho => ?_) fun ho => ?_
  ·refine SP.imp (fun w2 hw => St.addO (slO.nil (kInt .u8) 5) hw) ?_
   refine SP.imp (fun w2 hw => St.addO (slO.nil (kInt .u8) 5) hw) ?_
   refine SP.imp (fun w2 hw => St.selO [2, 1, 0, 3] rfl rfl hw) ?_
   refine SP.imp (fun w2 hw => St.group [boxO b3 [(.slice none 0 0), (.slice none 0 0)] 219, slO (kInt .u8) 5 (.slice none 0 0) ([] : List Int), slO (kInt .u8) 5 (.slice none 0 0) ([] : List Int)] hw) ?_
   obtain ⟨t6, hc, ho⟩ := bind_some (x := op_Shape_take_s2.f ([] : List Int) ([] : List Int) 0) ho
   refine SP.callA see (caps := []) _ fn183.h rfl rfl rfl rfl (fun w2 hP h1 sub s1 d1 ap hI => op_Shape_take_s2.ok _ _ _ (.slice none 0 0) (.slice none 0 0) _ hc w2 hP sub trivial trivial _ h1 s1 d1 hI) (SP.k0 ?_)
   refine SP.ex (fun w2 h => St.open h) (fun v9 => ?_)
   refine SP.ex (fun w2 h => St.open h) (fun v10 => ?_)
   refine SP.imp (fun w2 h => St.seps h) ?_
   clear hc
   refine gg ?_
   exact mo ho (fun _ z => ⟨t6.1, t6.2, v9, v10, z⟩) (sO [2, 1, 0, 3])
  refine ci ho (fun ho => ?_) fun ho => ?_
  ·refine SP.imp (fun w2 hw => St.addO (slO.nil (kInt .u8) 5) hw) ?_
   refine SP.imp (fun w2 hw => St.addO (slO.nil (kInt .u8) 5) hw) ?_
   refine SP.imp (fun w2 hw => St.selO [2, 1, 0, 3] rfl rfl hw) ?_
   refine SP.imp (fun w2 hw => St.group [boxO b3 [(.slice none 0 0), (.slice none 0 0)] 219, slO (kInt .u8) 5 (.slice none 0 0) ([] : List Int), slO (kInt .u8) 5 (.slice none 0 0) ([] : List Int)] hw) ?_
   obtain ⟨t11, hc, ho⟩ := bind_some (x := op_Shape_take_s2.f ([] : List Int) ([] : List Int) 3) ho
   refine SP.callA see (caps := []) _ fn183.h rfl rfl rfl rfl (fun w2 hP h1 sub s1 d1 ap hI => op_Shape_take_s2.ok _ _ _ (.slice none 0 0) (.slice none 0 0) _ hc w2 hP sub trivial trivial _ h1 s1 d1 hI) (SP.k0 ?_)
   refine SP.ex (fun w2 h => St.open h) (fun v14 => ?_)
   refine SP.ex (fun w2 h => St.open h) (fun v15 => ?_)
   refine SP.imp (fun w2 h => St.seps h) ?_
   clear hc
   refine gg ?_
   refine SP.imp (fun w2 hw => St.group [boxO b3 [v14, v15] 219, slO (kInt .u8) 5 v14 t11.1, slO (kInt .u8) 5 v15 t11.2] hw) ?_
   obtain ⟨t16, hc, ho⟩ := bind_some ho
   refine SP.callA see (caps := []) _ fn183.h rfl rfl rfl rfl (fun w2 hP h1 sub s1 d1 ap hI => op_Shape_take_s2.ok _ _ _ v14 v15 _ hc w2 hP sub trivial trivial _ h1 s1 d1 hI) (SP.k0 ?_)
   refine SP.ex (fun w2 h => St.open h) (fun v17 => ?_)
   refine SP.ex (fun w2 h => St.open h) (fun v18 => ?_)
   refine SP.imp (fun w2 h => St.seps h) ?_
   clear hc
   refine gg ?_
   exact mo ho (fun _ z => ⟨t16.1, t16.2, v17, v18, z⟩) (sO [2, 1, 0, 3])
  refine ci (hf := id) ho (fun ho => ?_) fun ho => ?_
  ·exact mo ho (fun _ z => ⟨[], [], (.slice none 0 0), (.slice none 0 0), z⟩) (fun _ hw => (St.addO (slO.nil (kInt .u8) 5) (St.addO (slO.nil (kInt .u8) 5) hw)))
  refine go ?_
  refine CP.seq ?_
  refine oi r (fun z => ∃ b19, z (op_Of.j5 op_0 b19) [(2, .pointer (some ⟨b1, 0, none⟩)), (4, .pointer (some ⟨b3, 0, none⟩)), (5, .int .u8 op_0), (18, .bool b19)] [boxO b3 [(.slice none 0 0), (.slice none 0 0)] 219, boxO b1 [(.slice none 0 0), (.slice none 0 0)] 219]) ?_ ?_
  ·rintro _ _ ⟨b19, ho, h⟩
   refine en h ?_
   refine cb ho (fun ho => ?_) fun ho => ?_
   ·refine SP.imp (fun w2 hw => St.addO (slO.nil (kInt .u8) 5) hw) ?_
    refine SP.imp (fun w2 hw => St.addO (slO.nil (kInt .u8) 5) hw) ?_
    refine SP.imp (fun w2 hw => St.selO [2, 1, 0, 3] rfl rfl hw) ?_
    refine SP.imp (fun w2 hw => St.group [boxO b3 [(.slice none 0 0), (.slice none 0 0)] 219, slO (kInt .u8) 5 (.slice none 0 0) ([] : List Int), slO (kInt .u8) 5 (.slice none 0 0) ([] : List Int)] hw) ?_
    obtain ⟨t20, hc, ho⟩ := bind_some (x := op_Shape_give_s2.f ([] : List Int) ([] : List Int) 1) ho
    refine SP.callA see (caps := []) _ fn184.h rfl rfl rfl rfl (fun w2 hP h1 sub s1 d1 ap hI => op_Shape_give_s2.ok _ _ _ (.slice none 0 0) (.slice none 0 0) _ hc w2 hP sub trivial trivial _ h1 s1 d1 hI) (SP.k0 ?_)
    refine SP.ex (fun w2 h => St.open h) (fun v23 => ?_)
    refine SP.ex (fun w2 h => St.open h) (fun v24 => ?_)
    refine SP.imp (fun w2 h => St.seps h) ?_
    clear hc
    refine gg ?_
    refine SP.imp (fun w2 hw => St.group [boxO b3 [v23, v24] 219, slO (kInt .u8) 5 v23 t20.1, slO (kInt .u8) 5 v24 t20.2] hw) ?_
    obtain ⟨t25, hc, ho⟩ := bind_some ho
    refine SP.callA see (caps := []) _ fn183.h rfl rfl rfl rfl (fun w2 hP h1 sub s1 d1 ap hI => op_Shape_take_s2.ok _ _ _ v23 v24 _ hc w2 hP sub trivial trivial _ h1 s1 d1 hI) (SP.k0 ?_)
    refine SP.ex (fun w2 h => St.open h) (fun v26 => ?_)
    refine SP.ex (fun w2 h => St.open h) (fun v27 => ?_)
    refine SP.imp (fun w2 h => St.seps h) ?_
    clear hc
    refine gg ?_
    refine SP.imp (fun w2 hw => St.group [boxO b3 [v26, v27] 219, slO (kInt .u8) 5 v26 t25.1, slO (kInt .u8) 5 v27 t25.2] hw) ?_
    obtain ⟨t28, hc, ho⟩ := bind_some ho
    refine SP.callA see (caps := []) _ fn183.h rfl rfl rfl rfl (fun w2 hP h1 sub s1 d1 ap hI => op_Shape_take_s2.ok _ _ _ v26 v27 _ hc w2 hP sub trivial trivial _ h1 s1 d1 hI) (SP.k0 ?_)
    refine SP.ex (fun w2 h => St.open h) (fun v29 => ?_)
    refine SP.ex (fun w2 h => St.open h) (fun v30 => ?_)
    refine SP.imp (fun w2 h => St.seps h) ?_
    clear hc
    refine gg ?_
    exact mo ho (fun _ z => ⟨t28.1, t28.2, v29, v30, z⟩) (sO [2, 1, 0, 3])
   refine ci (hf := id) ho (fun ho => ?_) fun ho => ?_
   ·refine SP.imp (fun w2 hw => St.addO (slO.nil (kInt .u8) 5) hw) ?_
    refine SP.imp (fun w2 hw => St.addO (slO.nil (kInt .u8) 5) hw) ?_
    refine SP.imp (fun w2 hw => St.selO [2, 1, 0, 3] rfl rfl hw) ?_
    refine SP.imp (fun w2 hw => St.group [boxO b3 [(.slice none 0 0), (.slice none 0 0)] 219, slO (kInt .u8) 5 (.slice none 0 0) ([] : List Int), slO (kInt .u8) 5 (.slice none 0 0) ([] : List Int)] hw) ?_
    obtain ⟨t31, hc, ho⟩ := bind_some (x := op_Shape_give_s2.f ([] : List Int) ([] : List Int) 2) ho
    refine SP.callA see (caps := []) _ fn184.h rfl rfl rfl rfl (fun w2 hP h1 sub s1 d1 ap hI => op_Shape_give_s2.ok _ _ _ (.slice none 0 0) (.slice none 0 0) _ hc w2 hP sub trivial trivial _ h1 s1 d1 hI) (SP.k0 ?_)
    refine SP.ex (fun w2 h => St.open h) (fun v34 => ?_)
    refine SP.ex (fun w2 h => St.open h) (fun v35 => ?_)
    refine SP.imp (fun w2 h => St.seps h) ?_
    clear hc
    refine gg ?_
    refine SP.imp (fun w2 hw => St.group [boxO b3 [v34, v35] 219, slO (kInt .u8) 5 v34 t31.1, slO (kInt .u8) 5 v35 t31.2] hw) ?_
    obtain ⟨t36, hc, ho⟩ := bind_some ho
    refine SP.callA see (caps := []) _ fn183.h rfl rfl rfl rfl (fun w2 hP h1 sub s1 d1 ap hI => op_Shape_take_s2.ok _ _ _ v34 v35 _ hc w2 hP sub trivial trivial _ h1 s1 d1 hI) (SP.k0 ?_)
    refine SP.ex (fun w2 h => St.open h) (fun v37 => ?_)
    refine SP.ex (fun w2 h => St.open h) (fun v38 => ?_)
    refine SP.imp (fun w2 h => St.seps h) ?_
    clear hc
    refine gg ?_
    refine SP.imp (fun w2 hw => St.group [boxO b3 [v37, v38] 219, slO (kInt .u8) 5 v37 t36.1, slO (kInt .u8) 5 v38 t36.2] hw) ?_
    obtain ⟨t39, hc, ho⟩ := bind_some ho
    refine SP.callA see (caps := []) _ fn183.h rfl rfl rfl rfl (fun w2 hP h1 sub s1 d1 ap hI => op_Shape_take_s2.ok _ _ _ v37 v38 _ hc w2 hP sub trivial trivial _ h1 s1 d1 hI) (SP.k0 ?_)
    refine SP.ex (fun w2 h => St.open h) (fun v40 => ?_)
    refine SP.ex (fun w2 h => St.open h) (fun v41 => ?_)
    refine SP.imp (fun w2 h => St.seps h) ?_
    clear hc
    refine gg ?_
    exact mo ho (fun _ z => ⟨t39.1, t39.2, v40, v41, z⟩) (sO [2, 1, 0, 3])
   refine go ?_
   refine CP.seq ?_
   refine oi r (fun z => ∃ b42, z (op_Of.j6 op_0 b42) [(2, .pointer (some ⟨b1, 0, none⟩)), (4, .pointer (some ⟨b3, 0, none⟩)), (5, .int .u8 op_0), (28, .bool b42)] [boxO b3 [(.slice none 0 0), (.slice none 0 0)] 219, boxO b1 [(.slice none 0 0), (.slice none 0 0)] 219]) ?_ ?_
   ·rintro _ _ ⟨b42, ho, h⟩
    refine en h ?_
    refine cb (hf := id) ho (fun ho => ?_) fun ho => ?_
    ·refine SP.imp (fun w2 hw => St.addO (slO.nil (kInt .u8) 5) hw) ?_
     refine SP.imp (fun w2 hw => St.addO (slO.nil (kInt .u8) 5) hw) ?_
     refine SP.imp (fun w2 hw => St.selO [2, 1, 0, 3] rfl rfl hw) ?_
     refine SP.imp (fun w2 hw => St.group [boxO b3 [(.slice none 0 0), (.slice none 0 0)] 219, slO (kInt .u8) 5 (.slice none 0 0) ([] : List Int), slO (kInt .u8) 5 (.slice none 0 0) ([] : List Int)] hw) ?_
     obtain ⟨t43, hc, ho⟩ := bind_some (x := op_Shape_give_s2.f ([] : List Int) ([] : List Int) 1) ho
     refine SP.callA see (caps := []) _ fn184.h rfl rfl rfl rfl (fun w2 hP h1 sub s1 d1 ap hI => op_Shape_give_s2.ok _ _ _ (.slice none 0 0) (.slice none 0 0) _ hc w2 hP sub trivial trivial _ h1 s1 d1 hI) (SP.k0 ?_)
     refine SP.ex (fun w2 h => St.open h) (fun v46 => ?_)
     refine SP.ex (fun w2 h => St.open h) (fun v47 => ?_)
     refine SP.imp (fun w2 h => St.seps h) ?_
     clear hc
     refine gg ?_
     refine SP.imp (fun w2 hw => St.group [boxO b3 [v46, v47] 219, slO (kInt .u8) 5 v46 t43.1, slO (kInt .u8) 5 v47 t43.2] hw) ?_
     obtain ⟨t48, hc, ho⟩ := bind_some ho
     refine SP.callA see (caps := []) _ fn183.h rfl rfl rfl rfl (fun w2 hP h1 sub s1 d1 ap hI => op_Shape_take_s2.ok _ _ _ v46 v47 _ hc w2 hP sub trivial trivial _ h1 s1 d1 hI) (SP.k0 ?_)
     refine SP.ex (fun w2 h => St.open h) (fun v49 => ?_)
     refine SP.ex (fun w2 h => St.open h) (fun v50 => ?_)
     refine SP.imp (fun w2 h => St.seps h) ?_
     clear hc
     refine gg ?_
     exact mo ho (fun _ z => ⟨t48.1, t48.2, v49, v50, z⟩) (sO [2, 1, 0, 3])
    refine go ?_
    refine CP.seq ?_
    refine oi r (fun z => ∃ b51, z (op_Of.j7 op_0 b51) [(2, .pointer (some ⟨b1, 0, none⟩)), (4, .pointer (some ⟨b3, 0, none⟩)), (5, .int .u8 op_0), (31, .bool b51)] [boxO b3 [(.slice none 0 0), (.slice none 0 0)] 219, boxO b1 [(.slice none 0 0), (.slice none 0 0)] 219]) ?_ ?_
    ·rintro _ _ ⟨b51, ho, h⟩
     refine en h ?_
     refine cb ho (fun ho => ?_) fun ho => ?_
     ·refine SP.imp (fun w2 hw => St.addO (slO.nil (kInt .u8) 5) hw) ?_
      refine SP.imp (fun w2 hw => St.addO (slO.nil (kInt .u8) 5) hw) ?_
      refine SP.imp (fun w2 hw => St.selO [2, 1, 0, 3] rfl rfl hw) ?_
      refine SP.imp (fun w2 hw => St.group [boxO b3 [(.slice none 0 0), (.slice none 0 0)] 219, slO (kInt .u8) 5 (.slice none 0 0) ([] : List Int), slO (kInt .u8) 5 (.slice none 0 0) ([] : List Int)] hw) ?_
      obtain ⟨t52, hc, ho⟩ := bind_some (x := op_Shape_take_s2.f ([] : List Int) ([] : List Int) 2) ho
      refine SP.callA see (caps := []) _ fn183.h rfl rfl rfl rfl (fun w2 hP h1 sub s1 d1 ap hI => op_Shape_take_s2.ok _ _ _ (.slice none 0 0) (.slice none 0 0) _ hc w2 hP sub trivial trivial _ h1 s1 d1 hI) (SP.k0 ?_)
      refine SP.ex (fun w2 h => St.open h) (fun v55 => ?_)
      refine SP.ex (fun w2 h => St.open h) (fun v56 => ?_)
      refine SP.imp (fun w2 h => St.seps h) ?_
      clear hc
      refine gg ?_
      exact mo ho (fun _ z => ⟨t52.1, t52.2, v55, v56, z⟩) (sO [2, 1, 0, 3])
     refine ci ho (fun ho => ?_) fun ho => ?_
     ·exact mo ho (fun _ z => ⟨[], [], (.slice none 0 0), (.slice none 0 0), z⟩) (fun _ hw => (St.addO (slO.nil (kInt .u8) 5) (St.addO (slO.nil (kInt .u8) 5) hw)))
     refine ci ho (fun ho => ?_) fun ho => ?_
     ·refine SP.imp (fun w2 hw => St.addO (slO.nil (kInt .u8) 5) hw) ?_
      refine SP.imp (fun w2 hw => St.addO (slO.nil (kInt .u8) 5) hw) ?_
      refine SP.imp (fun w2 hw => St.selO [2, 1, 0, 3] rfl rfl hw) ?_
      refine SP.imp (fun w2 hw => St.group [boxO b3 [(.slice none 0 0), (.slice none 0 0)] 219, slO (kInt .u8) 5 (.slice none 0 0) ([] : List Int), slO (kInt .u8) 5 (.slice none 0 0) ([] : List Int)] hw) ?_
      obtain ⟨t57, hc, ho⟩ := bind_some (x := op_Shape_take_s2.f ([] : List Int) ([] : List Int) 1) ho
      refine SP.callA see (caps := []) _ fn183.h rfl rfl rfl rfl (fun w2 hP h1 sub s1 d1 ap hI => op_Shape_take_s2.ok _ _ _ (.slice none 0 0) (.slice none 0 0) _ hc w2 hP sub trivial trivial _ h1 s1 d1 hI) (SP.k0 ?_)
      refine SP.ex (fun w2 h => St.open h) (fun v60 => ?_)
      refine SP.ex (fun w2 h => St.open h) (fun v61 => ?_)
      refine SP.imp (fun w2 h => St.seps h) ?_
      clear hc
      refine gg ?_
      refine SP.imp (fun w2 hw => St.group [boxO b3 [v60, v61] 219, slO (kInt .u8) 5 v60 t57.1, slO (kInt .u8) 5 v61 t57.2] hw) ?_
      obtain ⟨t62, hc, ho⟩ := bind_some ho
      refine SP.callA see (caps := []) _ fn184.h rfl rfl rfl rfl (fun w2 hP h1 sub s1 d1 ap hI => op_Shape_give_s2.ok _ _ _ v60 v61 _ hc w2 hP sub trivial trivial _ h1 s1 d1 hI) (SP.k0 ?_)
      refine SP.ex (fun w2 h => St.open h) (fun v63 => ?_)
      refine SP.ex (fun w2 h => St.open h) (fun v64 => ?_)
      refine SP.imp (fun w2 h => St.seps h) ?_
      clear hc
      refine gg ?_
      exact mo ho (fun _ z => ⟨t62.1, t62.2, v63, v64, z⟩) (sO [2, 1, 0, 3])
     refine ci ho (fun ho => ?_) fun ho => ?_
     ·refine SP.imp (fun w2 hw => St.addO (slO.nil (kInt .u8) 5) hw) ?_
      refine SP.imp (fun w2 hw => St.addO (slO.nil (kInt .u8) 5) hw) ?_
      refine SP.imp (fun w2 hw => St.selO [2, 1, 0, 3] rfl rfl hw) ?_
      refine SP.imp (fun w2 hw => St.group [boxO b3 [(.slice none 0 0), (.slice none 0 0)] 219, slO (kInt .u8) 5 (.slice none 0 0) ([] : List Int), slO (kInt .u8) 5 (.slice none 0 0) ([] : List Int)] hw) ?_
      obtain ⟨t65, hc, ho⟩ := bind_some (x := op_Shape_take_s2.f ([] : List Int) ([] : List Int) 3) ho
      refine SP.callA see (caps := []) _ fn183.h rfl rfl rfl rfl (fun w2 hP h1 sub s1 d1 ap hI => op_Shape_take_s2.ok _ _ _ (.slice none 0 0) (.slice none 0 0) _ hc w2 hP sub trivial trivial _ h1 s1 d1 hI) (SP.k0 ?_)
      refine SP.ex (fun w2 h => St.open h) (fun v68 => ?_)
      refine SP.ex (fun w2 h => St.open h) (fun v69 => ?_)
      refine SP.imp (fun w2 h => St.seps h) ?_
      clear hc
      refine gg ?_
      refine SP.imp (fun w2 hw => St.group [boxO b3 [v68, v69] 219, slO (kInt .u8) 5 v68 t65.1, slO (kInt .u8) 5 v69 t65.2] hw) ?_
      obtain ⟨t70, hc, ho⟩ := bind_some ho
      refine SP.callA see (caps := []) _ fn183.h rfl rfl rfl rfl (fun w2 hP h1 sub s1 d1 ap hI => op_Shape_take_s2.ok _ _ _ v68 v69 _ hc w2 hP sub trivial trivial _ h1 s1 d1 hI) (SP.k0 ?_)
      refine SP.ex (fun w2 h => St.open h) (fun v71 => ?_)
      refine SP.ex (fun w2 h => St.open h) (fun v72 => ?_)
      refine SP.imp (fun w2 h => St.seps h) ?_
      clear hc
      refine gg ?_
      refine SP.imp (fun w2 hw => St.group [boxO b3 [v71, v72] 219, slO (kInt .u8) 5 v71 t70.1, slO (kInt .u8) 5 v72 t70.2] hw) ?_
      obtain ⟨t73, hc, ho⟩ := bind_some ho
      refine SP.callA see (caps := []) _ fn184.h rfl rfl rfl rfl (fun w2 hP h1 sub s1 d1 ap hI => op_Shape_give_s2.ok _ _ _ v71 v72 _ hc w2 hP sub trivial trivial _ h1 s1 d1 hI) (SP.k0 ?_)
      refine SP.ex (fun w2 h => St.open h) (fun v74 => ?_)
      refine SP.ex (fun w2 h => St.open h) (fun v75 => ?_)
      refine SP.imp (fun w2 h => St.seps h) ?_
      clear hc
      refine gg ?_
      exact mo ho (fun _ z => ⟨t73.1, t73.2, v74, v75, z⟩) (sO [2, 1, 0, 3])
     refine ci ho (fun ho => ?_) fun ho => ?_
     ·refine SP.imp (fun w2 hw => St.addO (slO.nil (kInt .u8) 5) hw) ?_
      refine SP.imp (fun w2 hw => St.addO (slO.nil (kInt .u8) 5) hw) ?_
      refine SP.imp (fun w2 hw => St.selO [2, 1, 0, 3] rfl rfl hw) ?_
      refine SP.imp (fun w2 hw => St.group [boxO b3 [(.slice none 0 0), (.slice none 0 0)] 219, slO (kInt .u8) 5 (.slice none 0 0) ([] : List Int), slO (kInt .u8) 5 (.slice none 0 0) ([] : List Int)] hw) ?_
      obtain ⟨t76, hc, ho⟩ := bind_some (x := op_Shape_take_s2.f ([] : List Int) ([] : List Int) 3) ho
      refine SP.callA see (caps := []) _ fn183.h rfl rfl rfl rfl (fun w2 hP h1 sub s1 d1 ap hI => op_Shape_take_s2.ok _ _ _ (.slice none 0 0) (.slice none 0 0) _ hc w2 hP sub trivial trivial _ h1 s1 d1 hI) (SP.k0 ?_)
      refine SP.ex (fun w2 h => St.open h) (fun v79 => ?_)
      refine SP.ex (fun w2 h => St.open h) (fun v80 => ?_)
      refine SP.imp (fun w2 h => St.seps h) ?_
      clear hc
      refine gg ?_
      refine SP.imp (fun w2 hw => St.group [boxO b3 [v79, v80] 219, slO (kInt .u8) 5 v79 t76.1, slO (kInt .u8) 5 v80 t76.2] hw) ?_
      obtain ⟨t81, hc, ho⟩ := bind_some ho
      refine SP.callA see (caps := []) _ fn184.h rfl rfl rfl rfl (fun w2 hP h1 sub s1 d1 ap hI => op_Shape_give_s2.ok _ _ _ v79 v80 _ hc w2 hP sub trivial trivial _ h1 s1 d1 hI) (SP.k0 ?_)
      refine SP.ex (fun w2 h => St.open h) (fun v82 => ?_)
      refine SP.ex (fun w2 h => St.open h) (fun v83 => ?_)
      refine SP.imp (fun w2 h => St.seps h) ?_
      clear hc
      refine gg ?_
      exact mo ho (fun _ z => ⟨t81.1, t81.2, v82, v83, z⟩) (sO [2, 1, 0, 3])
     refine bd [(.slice none 0 0), (.slice none 0 0)] ?_
     refine st 1 ?_
     exact Option.some.inj ho ▸ rt (fun _ h => St.selO [1, 0] rfl rfl (St.addO (slO.nil (kInt .u8) 5) (St.addO (slO.nil (kInt .u8) 5) h))) (rs := [.cell 2 219, .tmp 3]) (vs := [.agg #[(.slice none 0 0), (.slice none 0 0)], .bool false]) (hv := ⟨RVs.cellA 1 rfl rfl Tryz.underlying219 rfl sz219.h, RVs.tmp rfl, trivial⟩)
    refine gg ?_
    refine ci ho (fun ho => ?_) fun ho => ?_
    ·exact mo ho (fun _ z => ⟨(decide (op_0 = 19)), z⟩)
    exact mo ho (fun _ z => ⟨(decide (op_0 = 20)), z⟩)
   refine gg ?_
   refine ci ho (fun ho => ?_) fun ho => ?_
   ·exact mo ho (fun _ z => ⟨(decide (op_0 = 17)), z⟩)
   exact mo ho (fun _ z => ⟨(decide (op_0 = 18)), z⟩)
  refine gg ?_
  refine ci ho (fun ho => ?_) fun ho => ?_
  ·exact mo ho (fun _ z => ⟨(decide (op_0 = 9)), z⟩)
  refine ci ho (fun ho => ?_) fun ho => ?_
  ·exact mo ho (fun _ z => ⟨(decide (op_0 = 10)), z⟩)
  refine ci ho (fun ho => ?_) fun ho => ?_
  ·exact mo ho (fun _ z => ⟨(decide (op_0 = 11)), z⟩)
  refine ci ho (fun ho => ?_) fun ho => ?_
  ·exact mo ho (fun _ z => ⟨(decide (op_0 = 12)), z⟩)
  refine ci ho (fun ho => ?_) fun ho => ?_
  ·exact mo ho (fun _ z => ⟨(decide (op_0 = 13)), z⟩)
  refine ci ho (fun ho => ?_) fun ho => ?_
  ·exact mo ho (fun _ z => ⟨(decide (op_0 = 14)), z⟩)
  exact mo ho (fun _ z => ⟨(decide (op_0 = 15)), z⟩)
 refine gg ?_
 refine ci ho (fun ho => ?_) fun ho => ?_
 ·exact mo ho (fun _ z => ⟨(decide (op_0 = 0)), z⟩)
 refine ci ho (fun ho => ?_) fun ho => ?_
 ·exact mo ho (fun _ z => ⟨(decide (op_0 = 26)), z⟩)
 refine ci ho (fun ho => ?_) fun ho => ?_
 ·exact mo ho (fun _ z => ⟨(decide (op_0 = 28)), z⟩)
 refine ci ho (fun ho => ?_) fun ho => ?_
 ·exact mo ho (fun _ z => ⟨(decide (op_0 = 29)), z⟩)
 exact mo ho (fun _ z => ⟨(decide (op_0 = 32)), z⟩)
def slices_Clone_uint8_uint8.f (s_0 : List Int) : Option (List Int) :=
  nilOr s_0 (some []) (if (([] : List Int).length + s_0.length) * 1 ≤ 140737488355328 then (some (([] : List Int) ++ s_0)) else none)
theorem slices_Clone_uint8_uint8.ok {s_0 v_s_0} (r) (ho : slices_Clone_uint8_uint8.f s_0 = some r) : Ok Tryz.prog 83 [v_s_0] [slP (kInt .u8) v_s_0 s_0] fun v => HO.ex fun u0 : Value => HO.pand (v = u0) (HO.seps [slO (kInt .u8) 5 u0 r]) := by
 refine oq 8 Tryz.func83 fun w hV see pb => ?_
 refine SP.val (Val.eqlNP see 0 rfl Tryz.underlying26 rfl rfl) rfl rfl rfl (gg ?_)
 refine CP.have (fun w2 hw => slR.isNil (v := v_s_0) (St.pers 0 rfl see.sub see.dj hw)) (fun hnil => ?_)
 rcases Bool.eq_false_or_eq_true (nilB v_s_0) with hc | hc
 ·replace ho := nilOr_t ho (hnil hc)
  refine CP.condT rfl hc (gg ?_)
  exact Option.some.inj ho ▸ rt (fun _ h => St.selO [0] rfl rfl (St.addO (slO.nil (kInt .u8) 5) h))
 replace ho := nilOr_f ho
 refine CP.condF rfl hc (gg ?_)
 refine SP.lit0 (k := (kInt .u8)) Tryz.underlying26 inf5.h rfl rfl (fun v3 => gg ?_)
 refine ap 0 0 ho fun v5 ho => ?_
 exact Option.some.inj ho ▸ rt (sO [0])
def types_look_named_s1.j1 (k_0_2 k_0_4 : List api_Value) (k_0_6 : List api_Method) (k_0_8 : Int) (k_0_9 k_0_11 : List Int) (k_0_13 : Int) (k_0_14 : Bool) (k_0_15 k_0_16 k_0_17 : Int) (k_0_18 : List api_Instr) (k_0_20 : List Int) (l22 : List types_Row) (i_1 : api_Instr) (b30 : Bool) : Option (Int × (List types_Row)) :=
  if b30 = true then ((elt k_0_2 i_1.A).bind fun x33 => some (x33.Kind, l22)) else ((elt k_0_20 i_1.A).bind fun x38 => some (x38, l22))
def types_look_named_s1.f (k_0_2 k_0_4 : List api_Value) (k_0_6 : List api_Method) (k_0_8 : Int) (k_0_9 k_0_11 : List Int) (k_0_13 : Int) (k_0_14 : Bool) (k_0_15 k_0_16 k_0_17 : Int) (k_0_18 : List api_Instr) (k_0_20 : List Int) (l22 : List types_Row) (i_1 : api_Instr) : Option (Int × (List types_Row)) :=
  if i_1.Op = 1 then ((elt k_0_4 i_1.A).bind fun x27 => some (x27.Kind, l22)) else (if i_1.Op = 4 then (types_look_named_s1.j1 k_0_2 k_0_4 k_0_6 k_0_8 k_0_9 k_0_11 k_0_13 k_0_14 k_0_15 k_0_16 k_0_17 k_0_18 k_0_20 l22 i_1 (decide (i_1.Op = 4))) else (types_look_named_s1.j1 k_0_2 k_0_4 k_0_6 k_0_8 k_0_9 k_0_11 k_0_13 k_0_14 k_0_15 k_0_16 k_0_17 k_0_18 k_0_20 l22 i_1 (decide (i_1.Op = 5))))
theorem types_look_named_s1.ok (k_0_2 k_0_4 : List api_Value) (k_0_6 : List api_Method) (k_0_8 : Int) (k_0_9 k_0_11 : List Int) (k_0_13 : Int) (k_0_14 : Bool) (k_0_15 k_0_16 k_0_17 : Int) (k_0_18 : List api_Instr) (k_0_20 : List Int) (l22 : List types_Row) (i_1 : api_Instr) (v_k_0_2 v_k_0_4 v_k_0_6 v_k_0_9 v_k_0_11 v_k_0_18 v_k_0_20 : Value) (r : Int × (List types_Row)) (H : types_look_named_s1.f k_0_2 k_0_4 k_0_6 k_0_8 k_0_9 k_0_11 k_0_13 k_0_14 k_0_15 k_0_16 k_0_17 k_0_18 k_0_20 l22 i_1 = some r) (w : World) (hV : Hp) (sV : Sub hV (hp w)) (h0 : slR k_api_Value hV v_k_0_2 k_0_2) (h1 : slR k_api_Value hV v_k_0_4 k_0_4) (h2 : slR k_api_Method hV v_k_0_6 k_0_6) (h3 : slR (kInt .u8) hV v_k_0_9 k_0_9) (h4 : slR (kInt .u8) hV v_k_0_11 k_0_11) (h5 : slR k_api_Instr hV v_k_0_18 k_0_18) (h6 : slR (kInt .u8) hV v_k_0_20 k_0_20) (b1 : Nat) (hA : Hp) (sA : Sub hA (hp w)) (dA : Dj hV hA) (hI : (arrK k_types_Row b1 [v_k_0_2, v_k_0_4, v_k_0_6, .int .i64 k_0_8, v_k_0_9, v_k_0_11, .int .u8 k_0_13, .bool k_0_14, .int .i64 k_0_15, .int .i64 k_0_16, .int .i64 k_0_17, v_k_0_18, v_k_0_20] 200 l22 [] 131).p hV hA) :
    Trip Tryz.prog 170 [.pointer (some ⟨b1, 0, none⟩), .agg #[.int .u8 i_1.Op, .int .i64 i_1.A, .int .i64 i_1.B]].toArray hA hV w (fun v => HO.pand (v = .int .u8 r.1) (HO.seps [arrK k_types_Row b1 [v_k_0_2, v_k_0_4, v_k_0_6, .int .i64 k_0_8, v_k_0_9, v_k_0_11, .int .u8 k_0_13, .bool k_0_14, .int .i64 k_0_15, .int .i64 k_0_16, .int .i64 k_0_17, v_k_0_18, v_k_0_20] 200 r.2 [] 131])) := by
 have see : Sees w hA hV := ⟨sV, dA⟩
 refine Trip.of (P := Tryz.prog) (n := ⟨40, []⟩) Tryz.func170 rfl ⟨rfl, rfl⟩ rfl (St.beginA (os := [arrK k_types_Row b1 [v_k_0_2, v_k_0_4, v_k_0_6, .int .i64 k_0_8, v_k_0_9, v_k_0_11, .int .u8 k_0_13, .bool k_0_14, .int .i64 k_0_15, .int .i64 k_0_16, .int .i64 k_0_17, v_k_0_18, v_k_0_20] 200 l22 [] 131]) sA (aS h0 (aS h1 (aS h2 (aS h3 (aS h4 (aS h5 (aS h6 (All.nil _)))))))) ⟨hA, em, Dj.em_right _, Sub.refl _, Sub.em _, hI, trivial⟩) ?_
 have ho := H
 refine gg ?_
 refine SP.box rfl rfl rfl rfl fun b23 => gg ?_
 refine ci (hf := id) ho (fun ho => ?_) fun ho => ?_
 ·refine CP.drawA (by kernel_rfl) (fun w2 k h => h.drawn k) ?_
  refine DA.ph 0 7 ?_
  refine DT.tk 0 ?_
  refine DT.tk 1 ?_
  refine DT.tk 2 ?_
  refine DT.tk 3 ?_
  refine DT.tv 4 rfl (Val.loadKPre1 see 1 rfl Tryz.underlying22 rfl rfl rfl) ?_
  refine DT.tk 5 ?_
  refine DT.tk 6 ?_
  refine DT.next (by kernel_rfl) ?_
  refine DA.one 7 rfl (by kernel_rfl) ?_
  obtain ⟨x27, hx, ho⟩ := elt_bind ho
  refine SP.indexP see 1 rfl Tryz.underlying22 sz55.h hx.1 hx.2 rfl rfl rfl rfl (fun p25 => ?_)
  clear hx
  refine gg ?_
  refine QE.atA ?_
  refine DA.one 8 rfl (by kernel_rfl) ?_
  refine SP.fieldP see 0 rfl Tryz.underlying55 rfl sz5.h k_api_Value.part_Kind rfl rfl rfl (fun p28 => gg ?_)
  refine QE.atA ?_
  refine DA.one 9 rfl (by kernel_rfl) ?_
  refine SP.val (Val.loadP1 see 0 rfl (fun _ _ e => e) Tryz.underlying5 rfl rfl) rfl rfl rfl (gg ?_)
  refine QE.atA ?_
  refine DA.one 10 rfl (by kernel_rfl) (gg ?_)
  refine QE.atA ?_
  refine DA.done (by kernel_rfl) (gg ?_)
  exact Option.some.inj ho ▸ rt (sO [1])
 refine oi r (fun z => ∃ b30, z (types_look_named_s1.j1 k_0_2 k_0_4 k_0_6 k_0_8 k_0_9 k_0_11 k_0_13 k_0_14 k_0_15 k_0_16 k_0_17 k_0_18 k_0_20 l22 i_1 b30) [(0, .pointer (some ⟨b1, 0, none⟩)), (3, .pointer (some ⟨b23, 0, none⟩)), (19, .bool b30)] [boxO b23 [.int .u8 i_1.Op, .int .i64 i_1.A, .int .i64 i_1.B] 57, arrK k_types_Row b1 [v_k_0_2, v_k_0_4, v_k_0_6, .int .i64 k_0_8, v_k_0_9, v_k_0_11, .int .u8 k_0_13, .bool k_0_14, .int .i64 k_0_15, .int .i64 k_0_16, .int .i64 k_0_17, v_k_0_18, v_k_0_20] 200 l22 [] 131]) ?_ ?_ (hb := pe [slP k_api_Value v_k_0_2 k_0_2, slP k_api_Value v_k_0_4 k_0_4, slP k_api_Method v_k_0_6 k_0_6, slP (kInt .u8) v_k_0_9 k_0_9, slP (kInt .u8) v_k_0_11 k_0_11, slP k_api_Instr v_k_0_18 k_0_18, slP (kInt .u8) v_k_0_20 k_0_20])
 ·rintro _ _ ⟨b30, ho, h⟩
  refine en h ?_
  refine cb ho (fun ho => ?_) fun ho => ?_
  ·refine CP.drawA (by kernel_rfl) (fun w2 k h => h.drawn k) ?_
   refine DA.ph 0 7 ?_
   refine DT.tk 0 ?_
   refine DT.tk 1 ?_
   refine DT.tk 2 ?_
   refine DT.tk 3 ?_
   refine DT.tv 4 rfl (Val.loadKPre1 see 1 rfl Tryz.underlying22 rfl rfl rfl) ?_
   refine DT.tk 5 ?_
   refine DT.tk 6 ?_
   refine DT.next (by kernel_rfl) ?_
   refine DA.one 7 rfl (by kernel_rfl) ?_
   obtain ⟨x33, hx, ho⟩ := elt_bind ho
   refine SP.indexP see 0 rfl Tryz.underlying22 sz55.h hx.1 hx.2 rfl rfl rfl rfl (fun p31 => ?_)
   clear hx
   refine gg ?_
   refine QE.atA ?_
   refine DA.one 8 rfl (by kernel_rfl) ?_
   refine SP.fieldP see 0 rfl Tryz.underlying55 rfl sz5.h k_api_Value.part_Kind rfl rfl rfl (fun p34 => gg ?_)
   refine QE.atA ?_
   refine DA.one 9 rfl (by kernel_rfl) ?_
   refine SP.val (Val.loadP1 see 0 rfl (fun _ _ e => e) Tryz.underlying5 rfl rfl) rfl rfl rfl (gg ?_)
   refine QE.atA ?_
   refine DA.one 10 rfl (by kernel_rfl) (gg ?_)
   refine QE.atA ?_
   refine DA.done (by kernel_rfl) (gg ?_)
   exact Option.some.inj ho ▸ rt (sO [1])
  refine CP.drawA (by kernel_rfl) (fun w2 k h => h.drawn k) ?_
  refine DA.ph 0 6 ?_
  refine DT.tk 0 ?_
  refine DT.tk 1 ?_
  refine DT.tk 2 ?_
  refine DT.tv 3 rfl (Val.loadKPre1 see 1 rfl Tryz.underlying26 rfl rfl rfl) ?_
  refine DT.tk 4 ?_
  refine DT.tk 5 ?_
  refine DT.next (by kernel_rfl) ?_
  refine DA.one 6 rfl (by kernel_rfl) ?_
  obtain ⟨x38, hx, ho⟩ := elt_bind ho
  refine SP.indexP see 6 rfl Tryz.underlying26 sz5.h hx.1 hx.2 rfl rfl rfl rfl (fun p36 => ?_)
  clear hx
  refine gg ?_
  refine QE.atA ?_
  refine DA.one 7 rfl (by kernel_rfl) ?_
  refine SP.val (Val.loadP1 see 0 rfl (fun _ _ e => e) Tryz.underlying5 rfl rfl) rfl rfl rfl (gg ?_)
  refine QE.atA ?_
  refine DA.one 8 rfl (by kernel_rfl) (gg ?_)
  refine QE.atA ?_
  refine DA.done (by kernel_rfl) (gg ?_)
  exact Option.some.inj ho ▸ rt (sO [1])
 refine gg ?_
 refine ci ho (fun ho => ?_) fun ho => ?_
 ·exact mo ho (fun _ z => ⟨(decide (i_1.Op = 4)), z⟩)
 exact mo ho (fun _ z => ⟨(decide (i_1.Op = 5)), z⟩)
shelf_lay_g SlLaysE.n35 Slgn 35 at Tryz 171 as Tryz.reverse171
theorem reverse171_trip {v : Value} {l : List Int} (hll : l.length < 4611686018427387904) {w : World} {hP h1 : Hp} (sub : Sub hP (hp w)) (s1 : Sub h1 (hp w)) (dj : Dj hP h1) (hI : (slO (kInt .u8) 5 v l).p hP h1) :
    Trip Tryz.prog 171 #[v] h1 hP w (fun r => HO.pand (r = .tuple #[]) (HO.seps [slO (kInt .u8) 5 v l.reverse])) := by
  have h := slO.rowTrip (P := Tryz.prog) (f := 171) (fun v => #[v]) (fun _ => .tuple #[]) (fun x => [Value.int .u8 x]) (fun h cs x => Iff.rfl) (fun d : Array Int => d.toList.reverse.toArray) (fun d => by simp) (fun blk cap d w hH hb hsz _ _ => ?_) (fun _ w hV sV => ?_) hll sub s1 dj hI
  · simpa using h
  · have := AnyE.slices_Reverse Tryz.reverse171 (Value.int .u8) (fun _ => rfl) blk 0 cap d.toList w (holdsOne.1 hH) (by simp; omega)
    refine this.mono fun e w' ⟨h1, n, h2⟩ => ⟨h1, n, #[], h2.trans (Eq.trans ?_ (Eq.symm sortOne))⟩
    rw [grow_none]
  · refine (AnyE.slices_Reverse_empty Tryz.reverse171 none 0 w).mono fun e w' ⟨he, hw⟩ => ?_
    subst hw
    exact ⟨_, he, Met.refl _, fun _ _ e _ => e, em, em, fun _ _ _ => rfl, fun _ _ _ => rfl, Dj.em_left _, Sub.em _, Sub.em _, rfl⟩
shelf_lay Lays.n212 Nm 212 at Tryz as Tryz.bitsMul131
def math_bits_Mul.f (x y : Int) : Option (Int × Int) := if 0 ≤ x ∧ x < 18446744073709551616 ∧ 0 ≤ y ∧ y < 18446744073709551616 then some (x * y / 18446744073709551616, x * y % 18446744073709551616) else none
theorem math_bits_Mul.ok (x : Int) (y : Int) (r : Int × Int) (H : math_bits_Mul.f x y = some r) (w : World) (hV : Hp) (sV : Sub hV (hp w)) :
    Trip Tryz.prog 131 [.int .u64 x, .int .u64 y].toArray em hV w (fun v => HO.pure (v = .tuple #[.int .u64 r.1, .int .u64 r.2])) := by
  unfold math_bits_Mul.f at H
  obtain ⟨⟨h1, h2, h3, h4⟩, H⟩ := must_some H
  obtain rfl := Option.some.inj H
  obtain ⟨a, rfl⟩ := Int.eq_ofNat_of_zero_le h1
  obtain ⟨b, rfl⟩ := Int.eq_ofNat_of_zero_le h3
  refine (Any.bits_Mul Tryz.bitsMul131 a b (by omega) (by omega) w).mono fun e w' ⟨he, hw⟩ => ?_
  subst hw
  refine ⟨_, he, Met.refl _, fun _ _ e _ => e, em, em, fun _ _ _ => rfl, fun _ _ _ => rfl, Dj.em_left _, Sub.em _, Sub.em _, ?_⟩
  show Value.tuple _ = Value.tuple _
  simp
inductive slices_Repeat_uint8_uint8.S where
  | start
  | l1 (l12 : List Int) (x14 : Int)
def slices_Repeat_uint8_uint8.j2 (x_0 : List Int) (count_1 : Int) (t3 : Int × Int) : Option (slices_Repeat_uint8_uint8.S ⊕ (List Int)) :=
  if (0 : Int) ≤ (IntKind.i64.wrap t3.2) ∧ (1 : Int) * (IntKind.i64.wrap t3.2) ≤ 281474976710656 ∧ ((IntKind.i64.wrap t3.2) : Int) ≤ 9223372036854775807 then (some (.inl (.l1 (x_0.take (List.replicate (IntKind.i64.wrap t3.2 : Int).toNat 0 : List Int).length ++ (List.replicate (IntKind.i64.wrap t3.2 : Int).toNat 0 : List Int).drop x_0.length) ((min x_0.length (List.replicate (IntKind.i64.wrap t3.2 : Int).toNat 0 : List Int).length : Nat) : Int)))) else none
def slices_Repeat_uint8_uint8.j1 (x_0 : List Int) (count_1 : Int)  : Option (slices_Repeat_uint8_uint8.S ⊕ (List Int)) :=
  (math_bits_Mul.f (IntKind.u64.wrap (x_0.length : Int)) (IntKind.u64.wrap count_1)).bind fun t3 => if ((decide (t3.1 > 0)) || (decide (t3.2 > 9223372036854775807))) = true then (none) else (slices_Repeat_uint8_uint8.j2 x_0 count_1 t3)
def slices_Repeat_uint8_uint8.F (x_0 : List Int) (count_1 : Int) : slices_Repeat_uint8_uint8.S → Option (slices_Repeat_uint8_uint8.S ⊕ (List Int))
  | .start => if count_1 < 0 then (none) else (slices_Repeat_uint8_uint8.j1 x_0 count_1)
  | .l1 l12 x14 => if x14 < (l12.length : Int) then (if (0 : Int) ≤ x14 ∧ x14 ≤ (l12.length : Int) then (if (0 : Int) ≤ x14 ∧ x14 ≤ (l12.length : Int) then (some (.inl (.l1 (l12.take (x14 : Int).toNat ++ l12.take (min (x14 : Int).toNat (l12.length - (x14 : Int).toNat)) ++ l12.drop ((x14 : Int).toNat + min (x14 : Int).toNat (l12.length - (x14 : Int).toNat))) (IntKind.i64.wrap (x14 + ((min (x14 : Int).toNat (l12.length - (x14 : Int).toNat) : Nat) : Int)))))) else none) else none) else (some (.inr l12))
def slices_Repeat_uint8_uint8.f (x_0 : List Int) (count_1 : Int) : Option (List Int) := runF (slices_Repeat_uint8_uint8.F x_0 count_1) .start
theorem slices_Repeat_uint8_uint8.ok {x_0 count_1 v_x_0} (r) (H : slices_Repeat_uint8_uint8.f x_0 count_1 = some r) : Ok Tryz.prog 172 [v_x_0, .int .i64 count_1] [slP (kInt .u8) v_x_0 x_0] fun v => HO.ex fun u0 : Value => HO.pand (v = u0) (HO.seps [slO (kInt .u8) 5 u0 r]) := by
 refine oq (h := fun _ _ _ => id) 48 Tryz.func172 fun w hV see pb => ?_
 obtain ⟨m0, o, ho, hr⟩ := rn H
 refine go ?_
 refine ji hr (fun z => z (slices_Repeat_uint8_uint8.j1 x_0 count_1) [(0, v_x_0), (1, .int .i64 count_1)] []) ?_ ?_
 ·rintro _ _ ⟨m2, o, _, ho, hr, h⟩
  refine en h ?_
  obtain ⟨t3, hc, ho⟩ := bind_some ho
  refine SP.callV see (caps := []) (.tuple #[.int .u64 t3.1, .int .u64 t3.2]) fn131.h rfl rfl rfl rfl (fun w2 hP hs sub ap => math_bits_Mul.ok _ _  _ hc w2 hP sub ) ?_
  clear hc
  refine go ?_
  refine ji hr (fun z => z (slices_Repeat_uint8_uint8.j2 x_0 count_1 t3) [(0, v_x_0), (6, .int .u64 t3.2)] []) ?_ ?_
  ·rintro _ _ ⟨m6, o, _, ho, hr, h⟩
   refine en h ?_
   obtain ⟨hb, ho⟩ := must_some ho
   refine SP.makeO (k := (kInt .u8)) (z := 0) Tryz.underlying26 inf5.h rfl (fun _ => rfl) rfl rfl rfl rfl hb (fun v7 => ?_)
   clear hb
   refine gg ?_
   refine SP.copyIn see 0 rfl 0 rfl Tryz.underlying26 sz5.h rfl rfl rfl rfl rfl (gg ?_)
   refine lo ho hr (fun z => ∃ l12 x14 v13, z (.l1 l12 x14) [(7, v13), (8, .int .i64 x14)] [slO (kInt .u8) 5 v13 l12]) (fun _ z => ⟨(x_0.take (List.replicate (IntKind.i64.wrap t3.2 : Int).toNat 0 : List Int).length ++ (List.replicate (IntKind.i64.wrap t3.2 : Int).toNat 0 : List Int).drop x_0.length), ((min x_0.length (List.replicate (IntKind.i64.wrap t3.2 : Int).toNat 0 : List Int).length : Nat) : Int), v7, z⟩) ?_ (hb := pe [])
   rintro _ _ _ ⟨l12, x14, v13, m15, o, _, _, ho, hr, h⟩
   refine en h ?_
   refine ci ho (fun ho => ?_) fun ho => ?_
   ·refine CP.drawA (by kernel_rfl) (fun w2 k h => h.drawn k) ?_
    refine DA.phase (fun _ => true) (fun _ => True) ?_
    refine DT.take 0 rfl rfl rfl rfl (by kernel_rfl) (fun _ _ _ h => h) (Val.move rfl) (fun _ _ => trivial) ?_
    refine DT.take 1 rfl rfl rfl rfl (by kernel_rfl) (fun _ _ _ h => h) (Val.move rfl) (fun _ _ => trivial) ?_
    refine DT.take 2 rfl rfl rfl rfl (by kernel_rfl) (fun _ _ _ h => h) (Val.move rfl) (fun _ _ => trivial) ?_
    refine DT.take 4 rfl rfl rfl rfl (by kernel_rfl) (fun _ _ _ h => h) (Val.move rfl) (fun _ _ => trivial) ?_
    refine DT.take 5 rfl rfl rfl rfl (by kernel_rfl) (fun _ _ _ h => h) (Val.move rfl) (fun _ _ => trivial) ?_
    refine DT.list (l2 := #[true, true, true, false, true, true, false, false, false, false]) (by kernel_rfl) ?_
    refine DT.free ?_
    obtain ⟨hz16, ho⟩ := must_some ho
    obtain ⟨hz17, ho⟩ := must_some ho
    refine DA.ph 0 7 ?_
    refine DT.tv 3 rfl (Val.sliceFrom see 0 rfl Tryz.underlying26 sz5.h rfl rfl hz16) ?_
    refine DT.tv 6 rfl (Val.sliceTo see 0 rfl Tryz.underlying26 sz5.h rfl rfl hz17) ?_
    refine DT.next (by kernel_rfl) ?_
    refine DA.one 7 rfl (by kernel_rfl) ?_
    refine SP.copyOver see 0 rfl Tryz.underlying26 sz5.h rfl (by omega) rfl rfl rfl rfl (gg ?_)
    refine QE.atA ?_
    refine DA.one 8 rfl (by kernel_rfl) (gg ?_)
    refine QE.atA ?_
    refine DA.one 9 rfl (by kernel_rfl) (gg ?_)
    refine QE.atA ?_
    refine DA.done (by kernel_rfl) (gg ?_)
    exact lw ho hr (fun _ z => ⟨(l12.take (x14 : Int).toNat ++ l12.take (min (x14 : Int).toNat (l12.length - (x14 : Int).toNat)) ++ l12.drop ((x14 : Int).toNat + min (x14 : Int).toNat (l12.length - (x14 : Int).toNat))), (IntKind.i64.wrap (x14 + ((min (x14 : Int).toNat (l12.length - (x14 : Int).toNat) : Nat) : Int))), v13, z⟩)
   exact fin ho hr ▸ rt (sO [0])
  refine gg ?_
  refine SP.jn 3 [0, 6] 26 (.bool ((decide (t3.1 > 0)) || (decide (t3.2 > 9223372036854775807)))) ?_ ?_
  ·refine gg ?_
   refine cb ho (fun ho => ?_) fun ho => ?_
   ·cases ho
   exact mi ho hr (fun _ z => z)
  refine SP.bb 23 (fun hq5 => ?_) fun hq5 => ?_
  ·refine gg ?_
   exact QE.jb (or_t hq5) fun w2 hw => hw
  refine gg ?_
  exact QE.jb (or_f hq5 rfl) fun w2 hw => hw
 refine gg ?_
 refine ci ho (fun ho => ?_) fun ho => ?_
 ·cases ho
 exact mi ho hr (fun _ z => z)
end Go.Proofs.YtikichjmjbbnbaaGreatDoor
end
