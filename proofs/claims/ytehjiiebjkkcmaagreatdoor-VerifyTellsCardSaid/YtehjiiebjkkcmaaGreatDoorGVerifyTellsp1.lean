/- Functions of the program as plain functions, with the proof that the code computes them: printed by gen.py of this session. -/
import Derived.Test.YtehjiiebjkkcmaaGreatDoorProg
import Derived.Test.YtehjiiebjkkcmaaGreatDoorQ33xVerifyTells
import Derived.Test.YtehjiiebjkkcmaaGreatDoorQ42xVerifyTells
import Derived.Ground.GgzProg
import Derived.Ground.Names8Prog
import Derived.Ground.NamesProg
import Derived.Ground.SlgcProg
import Derived.Ground.SlgmProg
import Derived.Ground.SlgnProg
import Derived.Ground.SlsfProg
import Derived.Shelf.Bits.Mul64
import Derived.Shelf.Lay
import Derived.Shelf.SlGeneric
import Derived.Shelf.SlIterI.Nil
import Derived.Shelf.SlSortCmp.WholeK
import Derived.Shelf.SlicesE.Reverse
import Derived.Shelf.SlicesG.Cmp
import Derived.Shelf.SlicesG.CompactI
import Derived.Shelf.Small.Bits
import Derived.Shelf.SortM.Plain
import Derived.Shelf.SortM.SortNone
import Derived.Shelf.Spec.SlicesGrow
set_option linter.unusedVariables false
set_option linter.unusedSimpArgs false
set_option maxRecDepth 20000
set_option maxHeartbeats 2000000
set_option linter.defProp false
set_option warn.classDefReducibility false
noncomputable section
namespace Go.Proofs.YtehjiiebjkkcmaaGreatDoor
open Go.Q
structure Zn where
  Kind : Int
  A : Int
  B : Int
def Zn.zero : Zn := ⟨0, 0, 0⟩
def Z5 : Kd Zn := ⟨3, fun h cs x => cs = [.int .u8 x.Kind, .int .i64 x.A, .int .i64 x.B], fun _ _ _ _ _ h => h, fun _ _ _ h => by simp [h], fun _ _ _ h => by subst h; rfl⟩
theorem Z5.KJ : Part Z5 0 (kInt .u8) (fun x => x.Kind) := fun h cs x e => ⟨[.int .u8 x.Kind], rfl, by subst e; exact U0 [.int .u8 x.Kind, .int .i64 x.A, .int .i64 x.B] 0 1⟩
instance : Rd Z5 (fun x0 => [.int .u8 x0.Kind, .int .i64 x0.A, .int .i64 x0.B]) := ⟨fun _ _ _ h => h⟩
structure Z7 where
  Op : Int
  A : Int
  B : Int
def Z7.zero : Z7 := ⟨0, 0, 0⟩
def Za : Kd Z7 := ⟨3, fun h cs x => cs = [.int .u8 x.Op, .int .i64 x.A, .int .i64 x.B], fun _ _ _ _ _ h => h, fun _ _ _ h => by simp [h], fun _ _ _ h => by subst h; rfl⟩
theorem Za.U1 : Part Za 0 (kInt .u8) (fun x => x.Op) := fun h cs x e => ⟨[.int .u8 x.Op], rfl, by subst e; exact U0 [.int .u8 x.Op, .int .i64 x.A, .int .i64 x.B] 0 1⟩
theorem Za.Uf : Part Za 1 (kInt .i64) (fun x => x.A) := fun h cs x e => ⟨[.int .i64 x.A], rfl, by subst e; exact U0 [.int .u8 x.Op, .int .i64 x.A, .int .i64 x.B] 1 1⟩
instance : Rd Za (fun x0 => [.int .u8 x0.Op, .int .i64 x0.A, .int .i64 x0.B]) := ⟨fun _ _ _ h => h⟩
structure Zb where
  Args : (List Int)
  Locals : (List Int)
  Result : Int
  Reads : Bool
  Fuel : Int
  Stack : Int
  Heap : Int
  Code : (List Z7)
def Zb.zero : Zb := ⟨[], [], 0, false, 0, 0, 0, []⟩
def Z8 : Kd Zb := ⟨8, fun h cs x => ∃ v0 v1 v2 : Value, cs = [v0, v1, .int .u8 x.Result, .bool x.Reads, .int .i64 x.Fuel, .int .i64 x.Stack, .int .i64 x.Heap, v2] ∧ slR (kInt .u8) h v0 x.Args ∧ slR (kInt .u8) h v1 x.Locals ∧ slR Za h v2 x.Code,
  fun _ _ _ _ s ⟨v0, v1, v2, e, p0, p1, p2⟩ => ⟨v0, v1, v2, e, slR.mono s p0, slR.mono s p1, slR.mono s p2⟩, fun _ _ _ ⟨v0, v1, v2, e, p0, p1, p2⟩ => by simp [e],
  fun _ _ _ ⟨v0, v1, v2, e, p0, p1, p2⟩ => by subst e; obtain ⟨_, _, rfl, -⟩ := p0; obtain ⟨_, _, rfl, -⟩ := p1; obtain ⟨_, _, rfl, -⟩ := p2; rfl⟩
def VE : Ko Zb := ⟨Z8, fun cs x => HO.ex fun v0 : Value => HO.ex fun v1 : Value => HO.ex fun v2 : Value => HO.pand (cs = [v0, v1, .int .u8 x.Result, .bool x.Reads, .int .i64 x.Fuel, .int .i64 x.Stack, .int .i64 x.Heap, v2]) (HO.seps [slO (kInt .u8) 5 v0 x.Args, slO (kInt .u8) 5 v1 x.Locals, slO Za 43 v2 x.Code]), fun ⟨v0, v1, v2, e, q⟩ sa sh => ⟨v0, v1, v2, e, slO.read (Sep.get 0 rfl q) sa sh, slO.read (Sep.get 1 rfl q) sa sh, slO.read (Sep.get 2 rfl q) sa sh⟩⟩
theorem Z8.Z08 : Part Z8 0 (kSl (kInt .u8)) (fun x => x.Args) := fun h cs x ⟨v0, v1, v2, e, p0, p1, p2⟩ => ⟨[v0], ⟨v0, rfl, p0⟩, by subst e; exact U0 [v0, v1, .int .u8 x.Result, .bool x.Reads, .int .i64 x.Fuel, .int .i64 x.Stack, .int .i64 x.Heap, v2] 0 1⟩
theorem Z8.Z12 : Part Z8 2 (kInt .u8) (fun x => x.Result) := fun h cs x ⟨v0, v1, v2, e, p0, p1, p2⟩ => ⟨[.int .u8 x.Result], rfl, by subst e; exact U0 [v0, v1, .int .u8 x.Result, .bool x.Reads, .int .i64 x.Fuel, .int .i64 x.Stack, .int .i64 x.Heap, v2] 2 1⟩
theorem Z8.JI : Part Z8 3 kBool (fun x => x.Reads) := fun h cs x ⟨v0, v1, v2, e, p0, p1, p2⟩ => ⟨[.bool x.Reads], rfl, by subst e; exact U0 [v0, v1, .int .u8 x.Result, .bool x.Reads, .int .i64 x.Fuel, .int .i64 x.Stack, .int .i64 x.Heap, v2] 3 1⟩
theorem Z8.Td : Part Z8 7 (kSl Za) (fun x => x.Code) := fun h cs x ⟨v0, v1, v2, e, p0, p1, p2⟩ => ⟨[v2], ⟨v2, rfl, p2⟩, by subst e; exact U0 [v0, v1, .int .u8 x.Result, .bool x.Reads, .int .i64 x.Fuel, .int .i64 x.Stack, .int .i64 x.Heap, v2] 7 1⟩
theorem Z8.load {P : Program} {n : Fr} {ρ : Option Nat} {σ : List (Nat × Value)} {w0 : World} {hA hV : Hp} {ps : List HP} {os : List HO} {L l : List Oper} {Q : Cont} {d : Nat} {t tr : TypeId} {x : Operand} {pos : String} {af : Array Edge} {g : Option (Nat × Bool)} {v : Value} (see : Sees w0 hA hV) (i : Nat) {x0 : Zb} (hi : ps[i]? = some (elP Z8 v x0)) {dsc : TypeDesc} (hu : P.underlying t = some dsc) (hd : (match dsc with | .struct _ | .array _ _ => true | _ => false) = true) (hs : (P.info? t).map (·.size) = some 8) (hg : gd L σ g = some true) (hn : Nat.blt d n.n = true) (hx : ev σ x = some v)
    (h : ∀ v0 v1 v2, SP P n ρ ((d, .agg [v0, v1, .int .u8 x0.Result, .bool x0.Reads, .int .i64 x0.Fuel, .int .i64 x0.Stack, .int .i64 x0.Heap, v2].toArray) :: σ) (St w0 hA hV (slP (kInt .u8) v0 x0.Args :: slP (kInt .u8) v1 x0.Locals :: slP Za v2 x0.Code :: ps) os) L l Q) : SP P n ρ σ (St w0 hA hV ps os) L (⟨some d, .load t x, tr, pos, af, g⟩ :: l) Q :=
  SP.loadP see i hi hu hd hs hg hn hx fun cs a w ha hw => by
    obtain ⟨m, fr, hN, hO, n1, n2, dj, s1, s2, ap, s⟩ := hw
    obtain ⟨v0, v1, v2, e, p0, p1, p2⟩ := ap.get 0 rfl
    subst e
    exact h v0 v1 v2 a w ha ⟨m, fr, hN, hO, n1, n2, dj, s1, s2, All.cons p0 (All.cons p1 (All.cons p2 ((fun y hy => ap y (List.mem_cons_of_mem _ hy))))), s⟩
structure Z9 where
  Zj : (List Zn)
  Pool : (List Zn)
  Methods : (List Zb)
  Zd : Int
def Z9.zero : Z9 := ⟨[], [], [], 0⟩
def Z3n : Kd Z9 := ⟨4, fun h cs x => ∃ v0 v1 v2 : Value, cs = [v0, v1, v2, .int .i64 x.Zd] ∧ slR Z5 h v0 x.Zj ∧ slR Z5 h v1 x.Pool ∧ slR Z8 h v2 x.Methods,
  fun _ _ _ _ s ⟨v0, v1, v2, e, p0, p1, p2⟩ => ⟨v0, v1, v2, e, slR.mono s p0, slR.mono s p1, slR.mono s p2⟩, fun _ _ _ ⟨v0, v1, v2, e, p0, p1, p2⟩ => by simp [e],
  fun _ _ _ ⟨v0, v1, v2, e, p0, p1, p2⟩ => by subst e; obtain ⟨_, _, rfl, -⟩ := p0; obtain ⟨_, _, rfl, -⟩ := p1; obtain ⟨_, _, rfl, -⟩ := p2; rfl⟩
structure Zq where
  Fuel : Int
  Stack : Int
  Heap : Int
def Zq.zero : Zq := ⟨0, 0, 0⟩
def Yh : Kd Zq := ⟨3, fun h cs x => cs = [.int .i64 x.Fuel, .int .i64 x.Stack, .int .i64 x.Heap], fun _ _ _ _ _ h => h, fun _ _ _ h => by simp [h], fun _ _ _ h => by subst h; rfl⟩
instance : Rd Yh (fun x0 => [.int .i64 x0.Fuel, .int .i64 x0.Stack, .int .i64 x0.Heap]) := ⟨fun _ _ _ h => h⟩
structure Zx where
  Reached : Bool
  Kinds : (List Int)
def Zx.zero : Zx := ⟨false, []⟩
def Y9 : Kd Zx := ⟨2, fun h cs x => ∃ v0 : Value, cs = [.bool x.Reached, v0] ∧ slR (kInt .u8) h v0 x.Kinds,
  fun _ _ _ _ s ⟨v0, e, p0⟩ => ⟨v0, e, slR.mono s p0⟩, fun _ _ _ ⟨v0, e, p0⟩ => by simp [e],
  fun _ _ _ ⟨v0, e, p0⟩ => by subst e; obtain ⟨_, _, rfl, -⟩ := p0; rfl⟩
theorem Y9.Z3o : Part Y9 0 kBool (fun x => x.Reached) := fun h cs x ⟨v0, e, p0⟩ => ⟨[.bool x.Reached], rfl, by subst e; exact U0 [.bool x.Reached, v0] 0 1⟩
theorem Y9.JJ : Part Y9 1 (kSl (kInt .u8)) (fun x => x.Kinds) := fun h cs x ⟨v0, e, p0⟩ => ⟨[v0], ⟨v0, rfl, p0⟩, by subst e; exact U0 [.bool x.Reached, v0] 1 1⟩
structure Zr where
  From : Int
  To : Int
  Turns : Int
def Zr.zero : Zr := ⟨0, 0, 0⟩
def ZJ : Kd Zr := ⟨3, fun h cs x => cs = [.int .i64 x.From, .int .i64 x.To, .int .i64 x.Turns], fun _ _ _ _ _ h => h, fun _ _ _ h => by simp [h], fun _ _ _ h => by subst h; rfl⟩
theorem ZJ.Z57 : Part ZJ 2 (kInt .i64) (fun x => x.Turns) := fun h cs x e => ⟨[.int .i64 x.Turns], rfl, by subst e; exact U0 [.int .i64 x.From, .int .i64 x.To, .int .i64 x.Turns] 2 1⟩
instance : Rd ZJ (fun x0 => [.int .i64 x0.From, .int .i64 x0.To, .int .i64 x0.Turns]) := ⟨fun _ _ _ h => h⟩
structure Kc where
  e0 : Int
  e1 : Int
def Kc.zero : Kc := ⟨0, 0⟩
def Z3p : Kd Kc := ⟨2, fun h cs x => cs = [.int .i64 x.e0, .int .i64 x.e1], fun _ _ _ _ _ h => h, fun _ _ _ h => by simp [h], fun _ _ _ h => by subst h; rfl⟩
instance : Rd Z3p (fun x0 => [.int .i64 x0.e0, .int .i64 x0.e1]) := ⟨fun _ _ _ h => h⟩
structure arr245 where
  e0 : Int
  e1 : Int
def arr245.zero : arr245 := ⟨0, 0⟩
def ZV : Kd arr245 := ⟨2, fun h cs x => cs = [.int .i64 x.e0, .int .i64 x.e1], fun _ _ _ _ _ h => h, fun _ _ _ h => by simp [h], fun _ _ _ h => by subst h; rfl⟩
instance : Rd ZV (fun x0 => [.int .i64 x0.e0, .int .i64 x0.e1]) := ⟨fun _ _ _ h => h⟩
structure Ze where
  Reached : Bool
  Kinds : (List Int)
def Ze.zero : Ze := ⟨false, []⟩
def ZC : Kd Ze := ⟨2, fun h cs x => ∃ v0 : Value, cs = [.bool x.Reached, v0] ∧ slR (kInt .u8) h v0 x.Kinds,
  fun _ _ _ _ s ⟨v0, e, p0⟩ => ⟨v0, e, slR.mono s p0⟩, fun _ _ _ ⟨v0, e, p0⟩ => by simp [e],
  fun _ _ _ ⟨v0, e, p0⟩ => by subst e; obtain ⟨_, _, rfl, -⟩ := p0; rfl⟩
theorem ZC.load {P : Program} {n : Fr} {ρ : Option Nat} {σ : List (Nat × Value)} {w0 : World} {hA hV : Hp} {ps : List HP} {os : List HO} {L l : List Oper} {Q : Cont} {d : Nat} {t tr : TypeId} {x : Operand} {pos : String} {af : Array Edge} {g : Option (Nat × Bool)} {v : Value} (see : Sees w0 hA hV) (i : Nat) {x0 : Ze} (hi : ps[i]? = some (elP ZC v x0)) {dsc : TypeDesc} (hu : P.underlying t = some dsc) (hd : (match dsc with | .struct _ | .array _ _ => true | _ => false) = true) (hs : (P.info? t).map (·.size) = some 2) (hg : gd L σ g = some true) (hn : Nat.blt d n.n = true) (hx : ev σ x = some v)
    (h : ∀ v0, SP P n ρ ((d, .agg [.bool x0.Reached, v0].toArray) :: σ) (St w0 hA hV (slP (kInt .u8) v0 x0.Kinds :: ps) os) L l Q) : SP P n ρ σ (St w0 hA hV ps os) L (⟨some d, .load t x, tr, pos, af, g⟩ :: l) Q :=
  SP.loadP see i hi hu hd hs hg hn hx fun cs a w ha hw => by
    obtain ⟨m, fr, hN, hO, n1, n2, dj, s1, s2, ap, s⟩ := hw
    obtain ⟨v0, e, p0⟩ := ap.get 0 rfl
    subst e
    exact h v0 a w ha ⟨m, fr, hN, hO, n1, n2, dj, s1, s2, All.cons p0 ((fun y hy => ap y (List.mem_cons_of_mem _ hy))), s⟩
structure Ym where
  From : Int
  To : Int
  Turns : Int
def Ym.zero : Ym := ⟨0, 0, 0⟩
def Wi : Kd Ym := ⟨3, fun h cs x => cs = [.int .i64 x.From, .int .i64 x.To, .int .i64 x.Turns], fun _ _ _ _ _ h => h, fun _ _ _ h => by simp [h], fun _ _ _ h => by subst h; rfl⟩
instance : Rd Wi (fun x0 => [.int .i64 x0.From, .int .i64 x0.To, .int .i64 x0.Turns]) := ⟨fun _ _ _ h => h⟩
structure XF where
  Takes : (List Int)
  Gives : (List Int)
def XF.zero : XF := ⟨[], []⟩
instance sz2 : Siz Tryz.prog 2 1 := ⟨by kernel_rfl⟩
instance sz3 : Siz Tryz.prog 3 1 := ⟨by kernel_rfl⟩
instance sz4 : Siz Tryz.prog 4 1 := ⟨by kernel_rfl⟩
instance sz5 : Siz Tryz.prog 5 1 := ⟨by kernel_rfl⟩
instance sz22 : Siz Tryz.prog 22 1 := ⟨by kernel_rfl⟩
instance sz23 : Siz Tryz.prog 23 1 := ⟨by kernel_rfl⟩
instance sz25 : Siz Tryz.prog 25 4 := ⟨by kernel_rfl⟩
instance sz28 : Siz Tryz.prog 28 1 := ⟨by kernel_rfl⟩
instance sz29 : Siz Tryz.prog 29 1 := ⟨by kernel_rfl⟩
instance sz31 : Siz Tryz.prog 31 1 := ⟨by kernel_rfl⟩
instance sz32 : Siz Tryz.prog 32 1 := ⟨by kernel_rfl⟩
instance sz34 : Siz Tryz.prog 34 8 := ⟨by kernel_rfl⟩
instance sz43 : Siz Tryz.prog 43 3 := ⟨by kernel_rfl⟩
instance sz45 : Siz Tryz.prog 45 3 := ⟨by kernel_rfl⟩
instance sz48 : Siz Tryz.prog 48 1 := ⟨by kernel_rfl⟩
instance sz67 : Siz Tryz.prog 67 1 := ⟨by kernel_rfl⟩
instance sz100 : Siz Tryz.prog 100 3 := ⟨by kernel_rfl⟩
instance sz107 : Siz Tryz.prog 107 4 := ⟨by kernel_rfl⟩
instance sz111 : Siz Tryz.prog 111 3 := ⟨by kernel_rfl⟩
instance sz116 : Siz Tryz.prog 116 1 := ⟨by kernel_rfl⟩
instance sz119 : Siz Tryz.prog 119 2 := ⟨by kernel_rfl⟩
instance sz120 : Siz Tryz.prog 120 400 := ⟨by kernel_rfl⟩
instance sz132 : Siz Tryz.prog 132 1 := ⟨by kernel_rfl⟩
instance sz133 : Siz Tryz.prog 133 6 := ⟨by kernel_rfl⟩
instance sz138 : Siz Tryz.prog 138 3 := ⟨by kernel_rfl⟩
instance sz155 : Siz Tryz.prog 155 2 := ⟨by kernel_rfl⟩
instance sz218 : Siz Tryz.prog 218 3 := ⟨by kernel_rfl⟩
instance sz240 : Siz Tryz.prog 240 2 := ⟨by kernel_rfl⟩
instance sz245 : Siz Tryz.prog 245 2 := ⟨by kernel_rfl⟩
instance sz255 : Siz Tryz.prog 255 2 := ⟨by kernel_rfl⟩
instance sz314 : Siz Tryz.prog 314 2 := ⟨by kernel_rfl⟩
instance inf3 : Inf Tryz.prog 3 [.int .i64 0] 1 8 := ⟨by kernel_rfl⟩
instance inf5 : Inf Tryz.prog 5 [.int .u8 0] 1 1 := ⟨by kernel_rfl⟩
instance inf25 : Inf Tryz.prog 25 [(.slice none 0 0), (.slice none 0 0), (.slice none 0 0), .int .i64 0] 4 80 := ⟨by kernel_rfl⟩
instance inf28 : Inf Tryz.prog 28 [.int .i64 0] 1 8 := ⟨by kernel_rfl⟩
instance inf31 : Inf Tryz.prog 31 [(.slice none 0 0)] 1 24 := ⟨by kernel_rfl⟩
instance inf34 : Inf Tryz.prog 34 [(.slice none 0 0), (.slice none 0 0), .int .u8 0, .bool false, .int .i64 0, .int .i64 0, .int .i64 0, (.slice none 0 0)] 8 104 := ⟨by kernel_rfl⟩
instance inf43 : Inf Tryz.prog 43 [.int .u8 0, .int .i64 0, .int .i64 0] 3 24 := ⟨by kernel_rfl⟩
instance inf45 : Inf Tryz.prog 45 [.int .i64 0, .int .i64 0, .int .i64 0] 3 24 := ⟨by kernel_rfl⟩
instance inf48 : Inf Tryz.prog 48 [(.slice none 0 0)] 1 24 := ⟨by kernel_rfl⟩
instance inf100 : Inf Tryz.prog 100 [.int .u8 0, .int .i64 0, .int .i64 0] 3 24 := ⟨by kernel_rfl⟩
instance inf109 : Inf Tryz.prog 109 [.int .i64 0, .int .i64 0, .int .i64 0, .int .i64 0, .int .i64 0] 5 40 := ⟨by kernel_rfl⟩
instance inf111 : Inf Tryz.prog 111 [.int .i64 0, .int .i64 0, .int .i64 0] 3 24 := ⟨by kernel_rfl⟩
instance inf116 : Inf Tryz.prog 116 [.pointer none] 1 8 := ⟨by kernel_rfl⟩
instance inf119 : Inf Tryz.prog 119 [.bool false, (.slice none 0 0)] 2 32 := ⟨by kernel_rfl⟩
instance inf132 : Inf Tryz.prog 132 [.nilFunc] 1 8 := ⟨by kernel_rfl⟩
instance inf133 : Inf Tryz.prog 133 [.nilFunc, .nilFunc, .nilFunc, .nilFunc, .nilFunc, .nilFunc] 6 48 := ⟨by kernel_rfl⟩
instance inf155 : Inf Tryz.prog 155 [.bool false, (.slice none 0 0)] 2 32 := ⟨by kernel_rfl⟩
instance inf218 : Inf Tryz.prog 218 [.int .i64 0, .int .i64 0, .int .i64 0] 3 24 := ⟨by kernel_rfl⟩
instance inf240 : Inf Tryz.prog 240 [.int .i64 0, .int .i64 0] 2 16 := ⟨by kernel_rfl⟩
instance inf245 : Inf Tryz.prog 245 [.int .i64 0, .int .i64 0] 2 16 := ⟨by kernel_rfl⟩
instance inf255 : Inf Tryz.prog 255 [(.slice none 0 0), (.slice none 0 0)] 2 48 := ⟨by kernel_rfl⟩
def UF : List Value := (List.replicate 200 [.bool false, (.slice none 0 0)]).flatten
instance bt25 : Shp Tryz.prog 25 [(.slice none 0 0), (.slice none 0 0), (.slice none 0 0), .int .i64 0] [(0, 1), (1, 1), (2, 1), (3, 1)] := ⟨by kernel_rfl⟩
instance bt45 : Shp Tryz.prog 45 [.int .i64 0, .int .i64 0, .int .i64 0] [(0, 1), (1, 1), (2, 1)] := ⟨by kernel_rfl⟩
instance bt100 : Shp Tryz.prog 100 [.int .u8 0, .int .i64 0, .int .i64 0] [(0, 1), (1, 1), (2, 1)] := ⟨by kernel_rfl⟩
instance bt111 : Shp Tryz.prog 111 [.int .i64 0, .int .i64 0, .int .i64 0] [(0, 1), (1, 1), (2, 1)] := ⟨by kernel_rfl⟩
instance bt119 : Shp Tryz.prog 119 [.bool false, (.slice none 0 0)] [(0, 1), (1, 1)] := ⟨by kernel_rfl⟩
instance bt122 : Shp Tryz.prog 122 ([(.slice none 0 0), (.slice none 0 0), (.slice none 0 0), .int .i64 0, (.slice none 0 0), (.slice none 0 0), .int .u8 0, .bool false, .int .i64 0, .int .i64 0, .int .i64 0, (.slice none 0 0), (.slice none 0 0)] ++ UF) [(0, 4), (4, 8), (12, 1), (13, 400)] := ⟨by kernel_rfl⟩
instance bt132 : Shp Tryz.prog 132 [.nilFunc] [(0, 1)] := ⟨by kernel_rfl⟩
instance bt133 : Shp Tryz.prog 133 [.nilFunc, .nilFunc, .nilFunc, .nilFunc, .nilFunc, .nilFunc] [(0, 1), (1, 1), (2, 1), (3, 1), (4, 1), (5, 1)] := ⟨by kernel_rfl⟩
instance bt140 : Shp Tryz.prog 140 [.int .i64 0, .int .i64 0, .int .i64 0, (.slice none 0 0), (.slice none 0 0), .int .u8 0, .bool false, .int .i64 0, .int .i64 0, .int .i64 0, (.slice none 0 0), (.slice none 0 0)] [(0, 3), (3, 8), (11, 1)] := ⟨by kernel_rfl⟩
instance bt218 : Shp Tryz.prog 218 [.int .i64 0, .int .i64 0, .int .i64 0] [(0, 1), (1, 1), (2, 1)] := ⟨by kernel_rfl⟩
instance bt240 : Shp Tryz.prog 240 [.int .i64 0, .int .i64 0] [(0, 1), (1, 1)] := ⟨by kernel_rfl⟩
instance bt241 : Shp Tryz.prog 241 [.int .i64 0, .int .i64 0, .int .i64 0, .int .i64 0, .int .i64 0, .int .i64 0] [(0, 2), (2, 2), (4, 2)] := ⟨by kernel_rfl⟩
instance bt255 : Shp Tryz.prog 255 [(.slice none 0 0), (.slice none 0 0)] [(0, 1), (1, 1)] := ⟨by kernel_rfl⟩
instance bt297 : Shp Tryz.prog 297 [.int .i64 0, .int .i64 0] [(0, 1), (1, 1)] := ⟨by kernel_rfl⟩
instance bt314 : Shp Tryz.prog 314 [.int .i64 0, .int .i64 0] [(0, 1), (1, 1)] := ⟨by kernel_rfl⟩
theorem eqA100 (d : Nat) (w : World) (x0 y0 : Int) (x1 y1 : Int) (x2 y2 : Int) : (Op.equalIn (d + 2) 100 (.agg #[.int .u8 x0, .int .i64 x1, .int .i64 x2]) (.agg #[.int .u8 y0, .int .i64 y1, .int .i64 y2])).run Tryz.prog w = .ok (x0 == y0 && (x1 == y1 && (x2 == y2))) w := by
  refine Z3b Tryz.underlying100 (by kernel_rfl) ?_
  refine Kw (by rfl) (Wl Tryz.underlying5 rfl rfl) (Wl Tryz.underlying5 rfl rfl) (run_equalIn_int w _ 5 _ _ _ _ Tryz.underlying5) ?_
  refine Kw (by rfl) (Wl Tryz.underlying2 rfl rfl) (Wl Tryz.underlying2 rfl rfl) (run_equalIn_int w _ 2 _ _ _ _ Tryz.underlying2) ?_
  exact Z1c (by rfl) (Wl Tryz.underlying2 rfl rfl) (Wl Tryz.underlying2 rfl rfl) (run_equalIn_int w _ 2 _ _ _ _ Tryz.underlying2)
theorem eqA45 (d : Nat) (w : World) (x0 y0 : Int) (x1 y1 : Int) (x2 y2 : Int) : (Op.equalIn (d + 2) 45 (.agg #[.int .i64 x0, .int .i64 x1, .int .i64 x2]) (.agg #[.int .i64 y0, .int .i64 y1, .int .i64 y2])).run Tryz.prog w = .ok (x0 == y0 && (x1 == y1 && (x2 == y2))) w := by
  refine Z3b Tryz.underlying45 (by kernel_rfl) ?_
  refine Kw (by rfl) (Wl Tryz.underlying3 rfl rfl) (Wl Tryz.underlying3 rfl rfl) (run_equalIn_int w _ 3 _ _ _ _ Tryz.underlying3) ?_
  refine Kw (by rfl) (Wl Tryz.underlying3 rfl rfl) (Wl Tryz.underlying3 rfl rfl) (run_equalIn_int w _ 3 _ _ _ _ Tryz.underlying3) ?_
  exact Z1c (by rfl) (Wl Tryz.underlying3 rfl rfl) (Wl Tryz.underlying3 rfl rfl) (run_equalIn_int w _ 3 _ _ _ _ Tryz.underlying3)
theorem eqA43 (d : Nat) (w : World) (x0 y0 : Int) (x1 y1 : Int) (x2 y2 : Int) : (Op.equalIn (d + 2) 43 (.agg #[.int .u8 x0, .int .i64 x1, .int .i64 x2]) (.agg #[.int .u8 y0, .int .i64 y1, .int .i64 y2])).run Tryz.prog w = .ok (x0 == y0 && (x1 == y1 && (x2 == y2))) w := by
  refine Z3b Tryz.underlying43 (by kernel_rfl) ?_
  refine Kw (by rfl) (Wl Tryz.underlying5 rfl rfl) (Wl Tryz.underlying5 rfl rfl) (run_equalIn_int w _ 5 _ _ _ _ Tryz.underlying5) ?_
  refine Kw (by rfl) (Wl Tryz.underlying3 rfl rfl) (Wl Tryz.underlying3 rfl rfl) (run_equalIn_int w _ 3 _ _ _ _ Tryz.underlying3) ?_
  exact Z1c (by rfl) (Wl Tryz.underlying3 rfl rfl) (Wl Tryz.underlying3 rfl rfl) (run_equalIn_int w _ 3 _ _ _ _ Tryz.underlying3)
instance fn30 : Fnc Tryz.prog 30 := .f Tryz.func30
instance fn9 : Fnc Tryz.prog 9 := .f Tryz.func9
instance fn45 : Fnc Tryz.prog 45 := .f Tryz.func45
instance fn46 : Fnc Tryz.prog 46 := .f Tryz.func46
instance fn22 : Fnc Tryz.prog 22 := .f Tryz.func22
instance fn255 : Fnc Tryz.prog 255 := .f Tryz.func255
instance fn246 : Fnc Tryz.prog 246 := .f Tryz.func246
instance fn209 : Fnc Tryz.prog 209 := .f Tryz.func209
instance fn247 : Fnc Tryz.prog 247 := .f Tryz.func247
instance fn211 : Fnc Tryz.prog 211 := .f Tryz.func211
instance fn210 : Fnc Tryz.prog 210 := .f Tryz.func210
instance fn156 : Fnc Tryz.prog 156 := .f Tryz.func156
instance fn159 : Fnc Tryz.prog 159 := .f Tryz.func159
instance fn99 : Fnc Tryz.prog 99 := .f Tryz.func99
instance fn157 : Fnc Tryz.prog 157 := .f Tryz.func157
instance fn180 : Fnc Tryz.prog 180 := .f Tryz.func180
instance fn213 : Fnc Tryz.prog 213 := .f Tryz.func213
instance fn160 : Fnc Tryz.prog 160 := .f Tryz.func160
instance fn212 : Fnc Tryz.prog 212 := .f Tryz.func212
instance fn181 : Fnc Tryz.prog 181 := .f Tryz.func181
instance fn158 : Fnc Tryz.prog 158 := .f Tryz.func158
instance fn98 : Fnc Tryz.prog 98 := .f Tryz.func98
instance fn50 : Fnc Tryz.prog 50 := .f Tryz.func50
instance fn51 : Fnc Tryz.prog 51 := .f Tryz.func51
instance fn161 : Fnc Tryz.prog 161 := .f Tryz.func161
instance fn163 : Fnc Tryz.prog 163 := .f Tryz.func163
instance fn214 : Fnc Tryz.prog 214 := .f Tryz.func214
instance fn215 : Fnc Tryz.prog 215 := .f Tryz.func215
instance fn162 : Fnc Tryz.prog 162 := .f Tryz.func162
instance fn100 : Fnc Tryz.prog 100 := .f Tryz.func100
instance fn101 : Fnc Tryz.prog 101 := .f Tryz.func101
instance fn164 : Fnc Tryz.prog 164 := .f Tryz.func164
instance fn216 : Fnc Tryz.prog 216 := .f Tryz.func216
instance fn165 : Fnc Tryz.prog 165 := .f Tryz.func165
instance fn166 : Fnc Tryz.prog 166 := .f Tryz.func166
instance fn167 : Fnc Tryz.prog 167 := .f Tryz.func167
instance fn217 : Fnc Tryz.prog 217 := .f Tryz.func217
instance fn248 : Fnc Tryz.prog 248 := .f Tryz.func248
instance fn218 : Fnc Tryz.prog 218 := .f Tryz.func218
instance fn168 : Fnc Tryz.prog 168 := .f Tryz.func168
instance fn102 : Fnc Tryz.prog 102 := .f Tryz.func102
instance fn103 : Fnc Tryz.prog 103 := .f Tryz.func103
instance fn104 : Fnc Tryz.prog 104 := .f Tryz.func104
instance fn52 : Fnc Tryz.prog 52 := .f Tryz.func52
instance fn169 : Fnc Tryz.prog 169 := .f Tryz.func169
instance fn105 : Fnc Tryz.prog 105 := .f Tryz.func105
instance fn106 : Fnc Tryz.prog 106 := .f Tryz.func106
instance fn53 : Fnc Tryz.prog 53 := .f Tryz.func53
instance fn170 : Fnc Tryz.prog 170 := .f Tryz.func170
instance fn171 : Fnc Tryz.prog 171 := .f Tryz.func171
instance fn107 : Fnc Tryz.prog 107 := .f Tryz.func107
instance fn108 : Fnc Tryz.prog 108 := .f Tryz.func108
instance fn54 : Fnc Tryz.prog 54 := .f Tryz.func54
instance fn109 : Fnc Tryz.prog 109 := .f Tryz.func109
instance fn55 : Fnc Tryz.prog 55 := .f Tryz.func55
instance fn24 : Fnc Tryz.prog 24 := .f Tryz.func24
instance fn88 : Fnc Tryz.prog 88 := .f Tryz.func88
instance fn250 : Fnc Tryz.prog 250 := .f Tryz.func250
instance fn221 : Fnc Tryz.prog 221 := .f Tryz.func221
instance fn220 : Fnc Tryz.prog 220 := .f Tryz.func220
instance fn231 : Fnc Tryz.prog 231 := .f Tryz.func231
instance fn230 : Fnc Tryz.prog 230 := .f Tryz.func230
instance fn251 : Fnc Tryz.prog 251 := .f Tryz.func251
instance fn229 : Fnc Tryz.prog 229 := .f Tryz.func229
instance fn182 : Fnc Tryz.prog 182 := .f Tryz.func182
instance fn234 : Fnc Tryz.prog 234 := .f Tryz.func234
instance fn232 : Fnc Tryz.prog 232 := .f Tryz.func232
instance fn233 : Fnc Tryz.prog 233 := .f Tryz.func233
instance fn184 : Fnc Tryz.prog 184 := .f Tryz.func184
instance fn183 : Fnc Tryz.prog 183 := .f Tryz.func183
instance fn124 : Fnc Tryz.prog 124 := .f Tryz.func124
instance fn135 : Fnc Tryz.prog 135 := .f Tryz.func135
instance fn76 : Fnc Tryz.prog 76 := .f Tryz.func76
instance fn62 : Fnc Tryz.prog 62 := .f Tryz.func62
instance fn187 : Fnc Tryz.prog 187 := .f Tryz.func187
instance fn127 : Fnc Tryz.prog 127 := .f Tryz.func127
instance fn63 : Fnc Tryz.prog 63 := .f Tryz.func63
instance fn64 : Fnc Tryz.prog 64 := .f Tryz.func64
instance fn32 : Fnc Tryz.prog 32 := .f Tryz.func32
instance fn125 : Fnc Tryz.prog 125 := .f Tryz.func125
instance fn188 : Fnc Tryz.prog 188 := .f Tryz.func188
instance fn189 : Fnc Tryz.prog 189 := .f Tryz.func189
instance fn129 : Fnc Tryz.prog 129 := .f Tryz.func129
instance fn68 : Fnc Tryz.prog 68 := .f Tryz.func68
instance fn235 : Fnc Tryz.prog 235 := .f Tryz.func235
instance fn128 : Fnc Tryz.prog 128 := .f Tryz.func128
instance fn66 : Fnc Tryz.prog 66 := .f Tryz.func66
instance fn185 : Fnc Tryz.prog 185 := .f Tryz.func185
instance fn186 : Fnc Tryz.prog 186 := .f Tryz.func186
instance fn126 : Fnc Tryz.prog 126 := .f Tryz.func126
instance fn61 : Fnc Tryz.prog 61 := .f Tryz.func61
instance fn31 : Fnc Tryz.prog 31 := .f Tryz.func31
instance fn10 : Fnc Tryz.prog 10 := .f Tryz.func10
instance fn65 : Fnc Tryz.prog 65 := .f Tryz.func65
instance fn33 : Fnc Tryz.prog 33 := .f Tryz.func33
instance fn11 : Fnc Tryz.prog 11 := .f Tryz.func11
instance fn142 : Fnc Tryz.prog 142 := .f Tryz.func142
instance fn67 : Fnc Tryz.prog 67 := .f Tryz.func67
instance fn69 : Fnc Tryz.prog 69 := .f Tryz.func69
instance fn70 : Fnc Tryz.prog 70 := .f Tryz.func70
instance fn71 : Fnc Tryz.prog 71 := .f Tryz.func71
instance fn131 : Fnc Tryz.prog 131 := .f Tryz.func131
instance fn130 : Fnc Tryz.prog 130 := .f Tryz.func130
instance fn190 : Fnc Tryz.prog 190 := .f Tryz.func190
instance fn132 : Fnc Tryz.prog 132 := .f Tryz.func132
instance fn72 : Fnc Tryz.prog 72 := .f Tryz.func72
instance fn73 : Fnc Tryz.prog 73 := .f Tryz.func73
instance fn34 : Fnc Tryz.prog 34 := .f Tryz.func34
instance fn12 : Fnc Tryz.prog 12 := .f Tryz.func12
instance fn78 : Fnc Tryz.prog 78 := .f Tryz.func78
instance fn77 : Fnc Tryz.prog 77 := .f Tryz.func77
instance fn253 : Fnc Tryz.prog 253 := .f Tryz.func253
instance fn254 : Fnc Tryz.prog 254 := .f Tryz.func254
instance fn239 : Fnc Tryz.prog 239 := .f Tryz.func239
instance fn81 : Fnc Tryz.prog 81 := .f Tryz.func81
instance fn240 : Fnc Tryz.prog 240 := .f Tryz.func240
instance fn241 : Fnc Tryz.prog 241 := .f Tryz.func241
instance fn203 : Fnc Tryz.prog 203 := .f Tryz.func203
instance fn242 : Fnc Tryz.prog 242 := .f Tryz.func242
instance fn199 : Fnc Tryz.prog 199 := .f Tryz.func199
instance fn136 : Fnc Tryz.prog 136 := .f Tryz.func136
instance fn200 : Fnc Tryz.prog 200 := .f Tryz.func200
instance fn201 : Fnc Tryz.prog 201 := .f Tryz.func201
instance fn48 : Fnc Tryz.prog 48 := .f Tryz.func48
instance fn49 : Fnc Tryz.prog 49 := .f Tryz.func49
instance fn137 : Fnc Tryz.prog 137 := .f Tryz.func137
instance fn138 : Fnc Tryz.prog 138 := .f Tryz.func138
instance fn79 : Fnc Tryz.prog 79 := .f Tryz.func79
instance fn80 : Fnc Tryz.prog 80 := .f Tryz.func80
instance fn35 : Fnc Tryz.prog 35 := .f Tryz.func35
instance fn13 : Fnc Tryz.prog 13 := .f Tryz.func13
instance fn42 : Fnc Tryz.prog 42 := .f Tryz.func42
instance fn143 : Fnc Tryz.prog 143 := .f Tryz.func143
instance fn47 : Fnc Tryz.prog 47 := .f Tryz.func47
instance fn95 : Fnc Tryz.prog 95 := .f Tryz.func95
instance fn23 : Fnc Tryz.prog 23 := .f Tryz.func23
instance fn82 : Fnc Tryz.prog 82 := .f Tryz.func82
instance fn84 : Fnc Tryz.prog 84 := .f Tryz.func84
instance fn83 : Fnc Tryz.prog 83 := .f Tryz.func83
instance fn141 : Fnc Tryz.prog 141 := .f Tryz.func141
instance fn85 : Fnc Tryz.prog 85 := .f Tryz.func85
instance fn36 : Fnc Tryz.prog 36 := .f Tryz.func36
instance fn14 : Fnc Tryz.prog 14 := .f Tryz.func14
instance fn144 : Fnc Tryz.prog 144 := .f Tryz.func144
instance fn89 : Fnc Tryz.prog 89 := .f Tryz.func89
instance fn91 : Fnc Tryz.prog 91 := .f Tryz.func91
instance fn90 : Fnc Tryz.prog 90 := .f Tryz.func90
instance fn92 : Fnc Tryz.prog 92 := .f Tryz.func92
instance fn93 : Fnc Tryz.prog 93 := .f Tryz.func93
instance fn43 : Fnc Tryz.prog 43 := .f Tryz.func43
instance fn94 : Fnc Tryz.prog 94 := .f Tryz.func94
instance fn44 : Fnc Tryz.prog 44 := .f Tryz.func44
instance fn20 : Fnc Tryz.prog 20 := .f Tryz.func20
instance fn15 : Fnc Tryz.prog 15 := .f Tryz.func15
instance fn37 : Fnc Tryz.prog 37 := .f Tryz.func37
instance fn86 : Fnc Tryz.prog 86 := .f Tryz.func86
instance fn39 : Fnc Tryz.prog 39 := .f Tryz.func39
instance fn38 : Fnc Tryz.prog 38 := .f Tryz.func38
instance fn87 : Fnc Tryz.prog 87 := .f Tryz.func87
instance fn40 : Fnc Tryz.prog 40 := .f Tryz.func40
instance fn16 : Fnc Tryz.prog 16 := .f Tryz.func16
instance fn41 : Fnc Tryz.prog 41 := .f Tryz.func41
instance fn19 : Fnc Tryz.prog 19 := .f Tryz.func19
instance fn17 : Fnc Tryz.prog 17 := .f Tryz.func17
instance fn21 : Fnc Tryz.prog 21 := .f Tryz.func21
instance fn18 : Fnc Tryz.prog 18 := .f Tryz.func18
instance fn25 : Fnc Tryz.prog 25 := .f Tryz.func25
instance fn56 : Fnc Tryz.prog 56 := .f Tryz.func56
instance fn57 : Fnc Tryz.prog 57 := .f Tryz.func57
instance fn58 : Fnc Tryz.prog 58 := .f Tryz.func58
instance fn26 : Fnc Tryz.prog 26 := .f Tryz.func26
instance fn6 : Fnc Tryz.prog 6 := .f Tryz.func6
def tab0 : List arr245 := [(⟨0, 0⟩ : arr245), (⟨0, 31⟩ : arr245), (⟨0, 15⟩ : arr245), (⟨0, 3⟩ : arr245), (⟨0, 1024⟩ : arr245), (⟨0, 199⟩ : arr245), (⟨0, 15⟩ : arr245), (⟨0, 255⟩ : arr245), (⟨1, 100⟩ : arr245)]
def un2 := Und.mk Tryz.underlying2
def un3 := Und.mk Tryz.underlying3
def un4 := Und.mk Tryz.underlying4
def un5 := Und.mk Tryz.underlying5
def un9 := Und.mk Tryz.underlying9
def un22 := Und.mk Tryz.underlying22
def un23 := Und.mk Tryz.underlying23
def un25 := Und.mk Tryz.underlying25
def un28 := Und.mk Tryz.underlying28
def un29 := Und.mk Tryz.underlying29
def un31 := Und.mk Tryz.underlying31
def un32 := Und.mk Tryz.underlying32
def un34 := Und.mk Tryz.underlying34
def un37 := Und.mk Tryz.underlying37
def un43 := Und.mk Tryz.underlying43
def un45 := Und.mk Tryz.underlying45
def un48 := Und.mk Tryz.underlying48
def un64 := Und.mk Tryz.underlying64
def un67 := Und.mk Tryz.underlying67
def un71 := Und.mk Tryz.underlying71
def un87 := Und.mk Tryz.underlying87
def un100 := Und.mk Tryz.underlying100
def un107 := Und.mk Tryz.underlying107
def un109 := Und.mk Tryz.underlying109
def un111 := Und.mk Tryz.underlying111
def un116 := Und.mk Tryz.underlying116
def un119 := Und.mk Tryz.underlying119
def un120 := Und.mk Tryz.underlying120
def un122 := Und.mk Tryz.underlying122
def un126 := Und.mk Tryz.underlying126
def un132 := Und.mk Tryz.underlying132
def un133 := Und.mk Tryz.underlying133
def un138 := Und.mk Tryz.underlying138
def un140 := Und.mk Tryz.underlying140
def un148 := Und.mk Tryz.underlying148
def un151 := Und.mk Tryz.underlying151
def un155 := Und.mk Tryz.underlying155
def un191 := Und.mk Tryz.underlying191
def un218 := Und.mk Tryz.underlying218
def un240 := Und.mk Tryz.underlying240
def un241 := Und.mk Tryz.underlying241
def un245 := Und.mk Tryz.underlying245
def un246 := Und.mk Tryz.underlying246
def un255 := Und.mk Tryz.underlying255
def un297 := Und.mk Tryz.underlying297
def un314 := Und.mk Tryz.underlying314
def Z8s : Fld Tryz.prog 25 0 0 := .f Tryz.underlying25 sz22
def Z8t : Fld Tryz.prog 25 1 1 := .f Tryz.underlying25 sz22
def Z8u : Fld Tryz.prog 25 2 2 := .f Tryz.underlying25 sz23
def Z8v : Fld Tryz.prog 25 3 3 := .f Tryz.underlying25 sz3
def Z8w : Fld Tryz.prog 34 0 0 := .f Tryz.underlying34 sz31
def Z8x : Fld Tryz.prog 34 1 1 := .f Tryz.underlying34 sz31
def Z8y : Fld Tryz.prog 34 2 2 := .f Tryz.underlying34 sz5
def Z8z : Fld Tryz.prog 34 3 3 := .f Tryz.underlying34 sz4
def Z8A : Fld Tryz.prog 34 4 4 := .f Tryz.underlying34 sz3
def Z8B : Fld Tryz.prog 34 5 5 := .f Tryz.underlying34 sz3
def Z8C : Fld Tryz.prog 34 6 6 := .f Tryz.underlying34 sz3
def Z8D : Fld Tryz.prog 34 7 7 := .f Tryz.underlying34 sz32
def Z8E : Fld Tryz.prog 43 0 0 := .f Tryz.underlying43 sz5
def Z8F : Fld Tryz.prog 43 1 1 := .f Tryz.underlying43 sz3
def Z8G : Fld Tryz.prog 43 2 2 := .f Tryz.underlying43 sz3
def Z8H : Fld Tryz.prog 45 0 0 := .f Tryz.underlying45 sz3
def Z8I : Fld Tryz.prog 45 1 1 := .f Tryz.underlying45 sz3
def Z8J : Fld Tryz.prog 45 2 2 := .f Tryz.underlying45 sz3
def Z7H : Fld Tryz.prog 100 0 0 := .f Tryz.underlying100 sz5
def Z7I : Fld Tryz.prog 100 1 1 := .f Tryz.underlying100 sz2
def Z7J : Fld Tryz.prog 100 2 2 := .f Tryz.underlying100 sz2
def Z7K : Fld Tryz.prog 109 0 0 := .f Tryz.underlying109 sz107
def Z7L : Fld Tryz.prog 109 1 4 := .f Tryz.underlying109 sz3
def Z7M : Fld Tryz.prog 111 0 0 := .f Tryz.underlying111 sz3
def Z7N : Fld Tryz.prog 111 1 1 := .f Tryz.underlying111 sz3
def Z7O : Fld Tryz.prog 111 2 2 := .f Tryz.underlying111 sz3
def Z7P : Fld Tryz.prog 119 0 0 := .f Tryz.underlying119 sz4
def Z7Q : Fld Tryz.prog 119 1 1 := .f Tryz.underlying119 sz31
def Z7R : Fld Tryz.prog 122 0 0 := .f Tryz.underlying122 sz25
def Z7S : Fld Tryz.prog 122 1 4 := .f Tryz.underlying122 sz34
def Z7T : Fld Tryz.prog 122 2 12 := .f Tryz.underlying122 sz31
def Z7U : Fld Tryz.prog 122 3 13 := .f Tryz.underlying122 sz120
def Z7V : Fld Tryz.prog 132 0 0 := .f Tryz.underlying132 sz29
def Z7W : Fld Tryz.prog 138 0 0 := .f Tryz.underlying138 sz45
def Z7X : Fld Tryz.prog 140 0 0 := .f Tryz.underlying140 sz138
def Z7Y : Fld Tryz.prog 140 1 3 := .f Tryz.underlying140 sz34
def Z7Z : Fld Tryz.prog 140 2 11 := .f Tryz.underlying140 sz67
def Z80 : Fld Tryz.prog 155 1 1 := .f Tryz.underlying155 sz31
def Z81 : Fld Tryz.prog 218 0 0 := .f Tryz.underlying218 sz3
def Z82 : Fld Tryz.prog 218 1 1 := .f Tryz.underlying218 sz3
def Z83 : Fld Tryz.prog 240 0 0 := .f Tryz.underlying240 sz3
def Z84 : Fld Tryz.prog 240 1 1 := .f Tryz.underlying240 sz3
def Z85 : Fld Tryz.prog 255 0 0 := .f Tryz.underlying255 sz31
def Z86 : Fld Tryz.prog 255 1 1 := .f Tryz.underlying255 sz31
def rs6 := Rsl.mk Tryz.results6
def rs9 := Rsl.mk Tryz.results9
def rs10 := Rsl.mk Tryz.results10
def rs11 := Rsl.mk Tryz.results11
def rs12 := Rsl.mk Tryz.results12
def rs13 := Rsl.mk Tryz.results13
def rs14 := Rsl.mk Tryz.results14
def rs15 := Rsl.mk Tryz.results15
def rs16 := Rsl.mk Tryz.results16
def rs17 := Rsl.mk Tryz.results17
def rs18 := Rsl.mk Tryz.results18
def rs19 := Rsl.mk Tryz.results19
def rs20 := Rsl.mk Tryz.results20
def rs21 := Rsl.mk Tryz.results21
def rs22 := Rsl.mk Tryz.results22
def rs23 := Rsl.mk Tryz.results23
def rs24 := Rsl.mk Tryz.results24
def rs25 := Rsl.mk Tryz.results25
def rs26 := Rsl.mk Tryz.results26
def rs30 := Rsl.mk Tryz.results30
def rs31 := Rsl.mk Tryz.results31
def rs32 := Rsl.mk Tryz.results32
def rs33 := Rsl.mk Tryz.results33
def rs34 := Rsl.mk Tryz.results34
def rs35 := Rsl.mk Tryz.results35
def rs36 := Rsl.mk Tryz.results36
def rs37 := Rsl.mk Tryz.results37
def rs38 := Rsl.mk Tryz.results38
def rs39 := Rsl.mk Tryz.results39
def rs40 := Rsl.mk Tryz.results40
def rs41 := Rsl.mk Tryz.results41
def rs42 := Rsl.mk Tryz.results42
def rs43 := Rsl.mk Tryz.results43
def rs44 := Rsl.mk Tryz.results44
def rs45 := Rsl.mk Tryz.results45
def rs46 := Rsl.mk Tryz.results46
def rs47 := Rsl.mk Tryz.results47
def rs50 := Rsl.mk Tryz.results50
def rs51 := Rsl.mk Tryz.results51
def rs52 := Rsl.mk Tryz.results52
def rs53 := Rsl.mk Tryz.results53
def rs54 := Rsl.mk Tryz.results54
def rs55 := Rsl.mk Tryz.results55
def rs56 := Rsl.mk Tryz.results56
def rs57 := Rsl.mk Tryz.results57
def rs58 := Rsl.mk Tryz.results58
def rs61 := Rsl.mk Tryz.results61
def rs62 := Rsl.mk Tryz.results62
def rs63 := Rsl.mk Tryz.results63
def rs64 := Rsl.mk Tryz.results64
def rs65 := Rsl.mk Tryz.results65
def rs66 := Rsl.mk Tryz.results66
def rs67 := Rsl.mk Tryz.results67
def rs68 := Rsl.mk Tryz.results68
def rs69 := Rsl.mk Tryz.results69
def rs70 := Rsl.mk Tryz.results70
def rs71 := Rsl.mk Tryz.results71
def rs72 := Rsl.mk Tryz.results72
def rs76 := Rsl.mk Tryz.results76
def rs77 := Rsl.mk Tryz.results77
def rs78 := Rsl.mk Tryz.results78
def rs79 := Rsl.mk Tryz.results79
def rs80 := Rsl.mk Tryz.results80
def rs81 := Rsl.mk Tryz.results81
def rs82 := Rsl.mk Tryz.results82
def rs85 := Rsl.mk Tryz.results85
def rs86 := Rsl.mk Tryz.results86
def rs87 := Rsl.mk Tryz.results87
def rs88 := Rsl.mk Tryz.results88
def rs89 := Rsl.mk Tryz.results89
def rs90 := Rsl.mk Tryz.results90
def rs91 := Rsl.mk Tryz.results91
def rs92 := Rsl.mk Tryz.results92
def rs93 := Rsl.mk Tryz.results93
def rs94 := Rsl.mk Tryz.results94
def rs95 := Rsl.mk Tryz.results95
def rs98 := Rsl.mk Tryz.results98
def rs99 := Rsl.mk Tryz.results99
def rs100 := Rsl.mk Tryz.results100
def rs101 := Rsl.mk Tryz.results101
def rs102 := Rsl.mk Tryz.results102
def rs103 := Rsl.mk Tryz.results103
def rs104 := Rsl.mk Tryz.results104
def rs105 := Rsl.mk Tryz.results105
def rs106 := Rsl.mk Tryz.results106
def rs107 := Rsl.mk Tryz.results107
def rs108 := Rsl.mk Tryz.results108
def rs109 := Rsl.mk Tryz.results109
def rs124 := Rsl.mk Tryz.results124
def rs125 := Rsl.mk Tryz.results125
def rs126 := Rsl.mk Tryz.results126
def rs127 := Rsl.mk Tryz.results127
def rs128 := Rsl.mk Tryz.results128
def rs129 := Rsl.mk Tryz.results129
def rs130 := Rsl.mk Tryz.results130
def rs131 := Rsl.mk Tryz.results131
def rs132 := Rsl.mk Tryz.results132
def rs136 := Rsl.mk Tryz.results136
def rs137 := Rsl.mk Tryz.results137
def rs138 := Rsl.mk Tryz.results138
def rs141 := Rsl.mk Tryz.results141
def rs142 := Rsl.mk Tryz.results142
def rs143 := Rsl.mk Tryz.results143
def rs144 := Rsl.mk Tryz.results144
def rs156 := Rsl.mk Tryz.results156
def rs157 := Rsl.mk Tryz.results157
def rs158 := Rsl.mk Tryz.results158
def rs159 := Rsl.mk Tryz.results159
def rs160 := Rsl.mk Tryz.results160
def rs161 := Rsl.mk Tryz.results161
def rs162 := Rsl.mk Tryz.results162
def rs163 := Rsl.mk Tryz.results163
def rs164 := Rsl.mk Tryz.results164
def rs165 := Rsl.mk Tryz.results165
def rs166 := Rsl.mk Tryz.results166
def rs167 := Rsl.mk Tryz.results167
def rs168 := Rsl.mk Tryz.results168
def rs169 := Rsl.mk Tryz.results169
def rs170 := Rsl.mk Tryz.results170
def rs171 := Rsl.mk Tryz.results171
def rs180 := Rsl.mk Tryz.results180
def rs181 := Rsl.mk Tryz.results181
def rs182 := Rsl.mk Tryz.results182
def rs183 := Rsl.mk Tryz.results183
def rs184 := Rsl.mk Tryz.results184
def rs185 := Rsl.mk Tryz.results185
def rs186 := Rsl.mk Tryz.results186
def rs187 := Rsl.mk Tryz.results187
def rs188 := Rsl.mk Tryz.results188
def rs189 := Rsl.mk Tryz.results189
def rs190 := Rsl.mk Tryz.results190
def rs199 := Rsl.mk Tryz.results199
def rs200 := Rsl.mk Tryz.results200
def rs201 := Rsl.mk Tryz.results201
def rs209 := Rsl.mk Tryz.results209
def rs210 := Rsl.mk Tryz.results210
def rs211 := Rsl.mk Tryz.results211
def rs212 := Rsl.mk Tryz.results212
def rs213 := Rsl.mk Tryz.results213
def rs214 := Rsl.mk Tryz.results214
def rs215 := Rsl.mk Tryz.results215
def rs216 := Rsl.mk Tryz.results216
def rs217 := Rsl.mk Tryz.results217
def rs218 := Rsl.mk Tryz.results218
def rs220 := Rsl.mk Tryz.results220
def rs221 := Rsl.mk Tryz.results221
def rs229 := Rsl.mk Tryz.results229
def rs230 := Rsl.mk Tryz.results230
def rs231 := Rsl.mk Tryz.results231
def rs232 := Rsl.mk Tryz.results232
def rs233 := Rsl.mk Tryz.results233
def rs234 := Rsl.mk Tryz.results234
def rs235 := Rsl.mk Tryz.results235
def rs239 := Rsl.mk Tryz.results239
def rs240 := Rsl.mk Tryz.results240
def rs242 := Rsl.mk Tryz.results242
def rs246 := Rsl.mk Tryz.results246
def rs247 := Rsl.mk Tryz.results247
def rs248 := Rsl.mk Tryz.results248
def rs250 := Rsl.mk Tryz.results250
def rs251 := Rsl.mk Tryz.results251
def rs253 := Rsl.mk Tryz.results253
def rs254 := Rsl.mk Tryz.results254
def rs255 := Rsl.mk Tryz.results255
attribute [reducible, instance] un2 un3 un4 un5 un9 un22 un23 un25 un28 un29 un31 un32 un34 un37 un43 un45 un48 un64 un67 un71 un87 un100 un107 un109 un111 un116 un119 un120 un122 un126 un132 un133 un138 un140 un148 un151 un155 un191 un218 un240 un241 un245 un246 un255 un297 un314 Z8s Z8t Z8u Z8v Z8w Z8x Z8y Z8z Z8A Z8B Z8C Z8D Z8E Z8F Z8G Z8H Z8I Z8J Z7H Z7I Z7J Z7K Z7L Z7M Z7N Z7O Z7P Z7Q Z7R Z7S Z7T Z7U Z7V Z7W Z7X Z7Y Z7Z Z80 Z81 Z82 Z83 Z84 Z85 Z86 rs6 rs9 rs10 rs11 rs12 rs13 rs14 rs15 rs16 rs17 rs18 rs19 rs20 rs21 rs22 rs23 rs24 rs25 rs26 rs30 rs31 rs32 rs33 rs34 rs35 rs36 rs37 rs38 rs39 rs40 rs41 rs42 rs43 rs44 rs45 rs46 rs47 rs50 rs51 rs52 rs53 rs54 rs55 rs56 rs57 rs58 rs61 rs62 rs63 rs64 rs65 rs66 rs67 rs68 rs69 rs70 rs71 rs72 rs76 rs77 rs78 rs79 rs80 rs81 rs82 rs85 rs86 rs87 rs88 rs89 rs90 rs91 rs92 rs93 rs94 rs95 rs98 rs99 rs100 rs101 rs102 rs103 rs104 rs105 rs106 rs107 rs108 rs109 rs124 rs125 rs126 rs127 rs128 rs129 rs130 rs131 rs132 rs136 rs137 rs138 rs141 rs142 rs143 rs144 rs156 rs157 rs158 rs159 rs160 rs161 rs162 rs163 rs164 rs165 rs166 rs167 rs168 rs169 rs170 rs171 rs180 rs181 rs182 rs183 rs184 rs185 rs186 rs187 rs188 rs189 rs190 rs199 rs200 rs201 rs209 rs210 rs211 rs212 rs213 rs214 rs215 rs216 rs217 rs218 rs220 rs221 rs229 rs230 rs231 rs232 rs233 rs234 rs235 rs239 rs240 rs242 rs246 rs247 rs248 rs250 rs251 rs253 rs254 rs255
attribute [local irreducible] CP SP QE DA DT Val St
def VF.f (m_0 : Zb) : Option Bool :=
  some ((decide ((m_0.Args.length : Int) > 100)) || (decide ((m_0.Locals.length : Int) > 100)))
theorem VF.ok {m_0 YD Yf YL} (r) (ho : VF.f m_0 = some r) : Ok Tryz.prog 30 [.agg #[YD, Yf, .int .u8 m_0.Result, .bool m_0.Reads, .int .i64 m_0.Fuel, .int .i64 m_0.Stack, .int .i64 m_0.Heap, YL]] [slP (kInt .u8) YD m_0.Args, slP (kInt .u8) Yf m_0.Locals, slP Za YL m_0.Code] fun v => HO.pure (v = .bool r) := by
 refine oq 13 Tryz.func30 fun w hV see pb => ?_
 refine bx fun b4 => ?_
 refine SP.jn 5 [] 12 (.bool ((decide ((m_0.Args.length : Int) > 100)) || (decide ((m_0.Locals.length : Int) > 100)))) ?_ ?_
 ·refine gg ?_
  exact Option.some.inj ho ▸ rt
 refine bb 7 (fun hq7 => ?_) fun hq7 => ?_
 ·exact jb (WL hq7)
 exact jb (WM hq7 rfl)
inductive YU.S where
  | start
  | l1 (x31 : Int)
def YU.F (m_0 : Z9) : YU.S → Option (YU.S ⊕ Bool)
  | .start => if (((decide ((m_0.Zj.length : Int) > 100)) || (decide ((m_0.Pool.length : Int) > 100))) || (decide ((m_0.Methods.length : Int) > 40))) = true then (some (.inr true)) else (some (.inl (.l1 0)))
  | .l1 x31 => if x31 < (m_0.Methods.length : Int) then ((elt m_0.Methods x31).bind fun x35 => (VF.f x35).bind fun t42 => (if t42 = true then (some true) else ((elt m_0.Methods x31).bind fun x47 => some (decide ((x47.Code.length : Int) > 300)))).bind fun t52 => if t52 = true then (some (.inr true)) else (some (.inl (.l1 (IntKind.i64.wrap (x31 + 1)))))) else (some (.inr false))
def YU.f (m_0 : Z9) : Option Bool := runF (YU.F m_0) .start
theorem YU.ok {m_0 Z4 Z6 Z0} (r) (H : YU.f m_0 = some r) : Ok Tryz.prog 9 [.agg #[Z4, Z6, Z0, .int .i64 m_0.Zd]] [slP Z5 Z4 m_0.Zj, slP Z5 Z6 m_0.Pool, slP Z8 Z0 m_0.Methods] fun v => HO.pure (v = .bool r) := by
 refine oq 43 Tryz.func9 fun w hV see pb => ?_
 obtain ⟨m0, o, ho, hr⟩ := rn H
 refine bx fun b4 => ?_
 refine SP.jn 5 [1] 13 (.bool ((decide ((m_0.Zj.length : Int) > 100)) || (decide ((m_0.Pool.length : Int) > 100)))) ?_ ?_
 ·refine gg ?_
  refine SP.jn 5 [1] 19 (.bool (((decide ((m_0.Zj.length : Int) > 100)) || (decide ((m_0.Pool.length : Int) > 100))) || (decide ((m_0.Methods.length : Int) > 40)))) ?_ ?_
  ·refine gg ?_
   refine cb ho (fun ho => ?_) fun ho => ?_
   ·exact fin ho hr ▸ rt
   refine lo ho hr (fun z => ∃ x31, z (.l1 x31) [(1, .pointer (some ⟨b4, 0, none⟩)), (3, .int .i64 x31)] [boxO b4 [Z4, Z6, Z0, .int .i64 m_0.Zd] 25]) (fun _ z => ⟨0, z⟩) ?_
   rintro _ _ _ ⟨x31, m32, o, _, _, ho, hr, h⟩
   refine en h ?_
   refine ci ho (fun ho => ?_) fun ho => ?_
   ·refine ip 2 ho fun x35 ho p33 => ?_
    refine Z8.load see 0 rfl Tryz.underlying34 rfl sz34.h rfl rfl rfl (fun v36 v38 v40 => ?_)
    refine kv VF.ok ho fun t42 ho => ?_
    obtain ⟨t52, Z5B, ho⟩ := bind_some ho
    refine SP.jn 9 [1, 3] 42 (.bool t52) ?_ ?_
    ·clear Z5B
     refine gg ?_
     refine cb ho (fun ho => ?_) fun ho => ?_
     ·exact fin ho hr ▸ rt
     exact lw ho hr (fun _ z => ⟨(IntKind.i64.wrap (x31 + 1)), z⟩)
    refine bc 33 Z5B (fun hq44 ho => ?_) fun hq44 ho => ?_
    ·obtain rfl := Option.some.inj ho
     exact jn
    refine ip 6 ho fun x47 ho p45 => ?_
    refine SP.fieldP see 0 rfl Tryz.underlying34 rfl sz32.h Z8.Td rfl rfl rfl (fun p48 => ?_)
    refine SP.loadPS see 0 rfl Tryz.underlying32 rfl rfl rfl (fun v50 => gg ?_)
    obtain rfl := Option.some.inj ho
    exact QE.jn fun w2 hw => (St.selP [3, 4, 5, 6, 7, 8, 9] rfl hw)
   exact fin ho hr ▸ rt
  refine bb 14 (fun hq9 => ?_) fun hq9 => ?_
  ·exact jb (WL hq9)
  exact jb (WM hq9 rfl)
 refine bb 8 (fun hq7 => ?_) fun hq7 => ?_
 ·exact jb (WL hq7)
 exact jb (WM hq7 rfl)
def Wj.f (l_0 : List Zn) : Option (List Zn) :=
  if (([] : List Zn).length + l_0.length) * 24 ≤ 140737488355328 then (some (([] : List Zn) ++ l_0)) else none
theorem Wj.ok {l_0 Y2} (r) (ho : Wj.f l_0 = some r) : Ok Tryz.prog 45 [Y2] [slP Z5 Y2 l_0] fun v => HO.ex fun u0 : Value => HO.pand (v = u0) (HO.seps [slO Z5 100 u0 r]) := by
 refine oq 7 Tryz.func45 fun w hV see pb => ?_
 refine sn Z5 100 ?_
 refine ap 0 0 ho fun v3 ho => ?_
 exact Option.some.inj ho ▸ rt (sO [0])
def Vt.f (l_0 : List Z7) : Option (List Z7) :=
  if (([] : List Z7).length + l_0.length) * 24 ≤ 140737488355328 then (some (([] : List Z7) ++ l_0)) else none
theorem Vt.ok {l_0 Y2} (r) (ho : Vt.f l_0 = some r) : Ok Tryz.prog 46 [Y2] [slP Za Y2 l_0] fun v => HO.ex fun u0 : Value => HO.pand (v = u0) (HO.seps [slO Za 43 u0 r]) := by
 refine oq 7 Tryz.func46 fun w hV see pb => ?_
 refine sn Za 43 ?_
 refine ap 0 0 ho fun v3 ho => ?_
 exact Option.some.inj ho ▸ rt (sO [0])
inductive Xg.S where
  | start
  | l1 (t831 t1431 : List Zn) (x2565 : Int) (l2567 : List Zb)
def Xg.F (m_0 : Z9) : Xg.S → Option (Xg.S ⊕ Z9)
  | .start => (Wj.f m_0.Zj).bind fun t831 => (Wj.f m_0.Pool).bind fun t1431 => some (.inl (.l1 t831 t1431 0 []))
  | .l1 t831 t1431 x2565 l2567 => if x2565 < (m_0.Methods.length : Int) then ((elt m_0.Methods x2565).bind fun x2572 => if (([] : List Int).length + x2572.Args.length) * 1 ≤ 140737488355328 then (if (([] : List Int).length + x2572.Locals.length) * 1 ≤ 140737488355328 then ((Vt.f x2572.Code).bind fun t2589 => if (l2567.length + [(⟨([] : List Int) ++ x2572.Args, ([] : List Int) ++ x2572.Locals, x2572.Result, x2572.Reads, x2572.Fuel, x2572.Stack, x2572.Heap, t2589⟩ : Zb)].length) * 104 ≤ 140737488355328 then (some (.inl (.l1 t831 t1431 (IntKind.i64.wrap (x2565 + 1)) (l2567 ++ [(⟨([] : List Int) ++ x2572.Args, ([] : List Int) ++ x2572.Locals, x2572.Result, x2572.Reads, x2572.Fuel, x2572.Stack, x2572.Heap, t2589⟩ : Zb)])))) else none) else none) else none) else (some (.inr (⟨t831, t1431, l2567, m_0.Zd⟩ : Z9)))
def Xg.f (m_0 : Z9) : Option Z9 := runF (Xg.F m_0) .start
theorem Xg.ok {m_0 Z4 Z6 Z0} (r) (H : Xg.f m_0 = some r) : Ok Tryz.prog 22 [.agg #[Z4, Z6, Z0, .int .i64 m_0.Zd]] [slP Z5 Z4 m_0.Zj, slP Z5 Z6 m_0.Pool, slP Z8 Z0 m_0.Methods] fun v => HO.ex fun u0 : Value => HO.ex fun u1 : Value => HO.ex fun u2 : Value => HO.pand (v = .agg #[u0, u1, u2, .int .i64 r.Zd]) (HO.seps [slO Z5 100 u0 r.Zj, slO Z5 100 u1 r.Pool, slD VE 34 u2 r.Methods]) := by
 refine oq 48 Tryz.func22 fun w hV see pb => ?_
 obtain ⟨m0, o, ho, hr⟩ := rn H
 refine bx fun b4 => ?_
 refine al fun b6 => ?_
 refine dr ?_
 refine DA.ph 0 10 ?_
 refine DT.tk 0 ?_
 refine DT.tk 1 ?_
 refine DT.tk 3 ?_
 refine DT.tk 4 ?_
 refine DT.tk 6 ?_
 refine DT.tk 7 ?_
 obtain ⟨t831, Z4v, ho⟩ := bind_some ho
 obtain ⟨t1431, Z3q, ho⟩ := bind_some ho
 refine DT.list (l2 := #[true, true, false, true, true, false, true, true, false, false, false]) (by kernel_rfl) ?_
 refine DT.cut (ι := Value × Value × Nat) (fun z => [(1, .pointer (some ⟨b4, 0, none⟩)), (2, .pointer (some ⟨b6, 0, none⟩)), (3, .pointer (some ⟨z.2.2, 0, none⟩)), (14, .agg #[z.1, z.2.1, (.slice none 0 0), .int .i64 m_0.Zd])]) (fun z w2 => St w em hV [slP Z5 Z4 m_0.Zj, slP Z5 Z6 m_0.Pool, slP Z8 Z0 m_0.Methods] [boxO z.2.2 [(.slice none 0 0), (.slice none 0 0), (.slice none 0 0), .int .i64 0] 25, slO Z5 100 z.2.1 t1431, slO Z5 100 z.1 t831, boxO b6 [(.slice none 0 0), (.slice none 0 0), (.slice none 0 0), .int .i64 0] 25, boxO b4 [Z4, Z6, Z0, .int .i64 m_0.Zd] 25] w2) 1 #[true, true, true, true, true, true, true, true, true, true, false] (fun z => ?_) (fun J2535 => ?_)
 ·obtain ⟨v633, v1233, b2033⟩ := z
  refine dn ?_
  refine d1 (h := id) 10 ?_
  refine sh (h := id) 2 fun Z2b => ?_
  refine sh 1 fun Z1f => ?_
  refine st 0 ?_
  refine dz ?_
  refine lo ho hr (fun z => ∃ x2565 l2567 v2568, z (.l1 t831 t1431 x2565 l2567) [(1, .pointer (some ⟨b4, 0, none⟩)), (2, .pointer (some ⟨b6, 0, none⟩)), (3, .pointer (some ⟨b2033, 0, none⟩)), (4, .int .i64 x2565)] [slD VE 34 v2568 l2567, boxO b2033 [v633, v1233, v2568, .int .i64 m_0.Zd] 25, slO Z5 100 v1233 t1431, slO Z5 100 v633 t831, boxO b6 [(.slice none 0 0), (.slice none 0 0), (.slice none 0 0), .int .i64 0] 25, boxO b4 [Z4, Z6, Z0, .int .i64 m_0.Zd] 25]) (fun _ z => ⟨0, [], (.slice none 0 0), z⟩) ?_ (fun _ hw => (St.addO (slD.nil VE 34) hw))
  rintro _ _ _ ⟨x2565, l2567, v2568, m2569, o, _, _, ho, hr, h⟩
  refine en h ?_
  refine ci ho (fun ho => ?_) fun ho => ?_
  ·refine ip 2 ho fun x2572 ho p2570 => ?_
   refine Z8.load see 0 rfl Tryz.underlying34 rfl sz34.h rfl rfl rfl (fun v2573 v2575 v2577 => ?_)
   refine al (h := fun _ => id) fun b2579 => ?_
   refine sp (h := id) 0 fun Zaa => ?_
   refine sp (h := id) 1 fun Zab => ?_
   refine sp 2 fun Zac => ?_
   refine st 0 ?_
   refine SP.lit0 (k := (kInt .u8)) Tryz.underlying31 inf5.h rfl rfl (fun v2581 => gg ?_)
   refine ap 0 0 ho fun v2583 ho => ?_
   refine sh 0 fun Z3r => ?_
   refine st 1 ?_
   refine SP.lit0 (k := (kInt .u8)) Tryz.underlying31 inf5.h rfl rfl (fun v2585 => gg ?_)
   refine ap 0 1 ho fun v2587 ho => ?_
   refine sh 0 fun Z3s => ?_
   refine st 2 ?_
   refine k1 Vt.ok ho fun t2589 ho v2590 => ?_
   refine sh 0 fun Z3t => ?_
   refine st 3 ?_
   refine sh (h := id) 2 fun Z3r => ?_
   refine sh (h := id) 1 fun Z3s => ?_
   refine sh 0 fun Z3t => ?_
   refine SP.lit (k := kRaw 8) (xs := [[v2583, v2587, .int .u8 x2572.Result, .bool x2572.Reads, .int .i64 x2572.Fuel, .int .i64 x2572.Stack, .int .i64 x2572.Heap, v2590]]) (vs := [.agg #[v2583, v2587, .int .u8 x2572.Result, .bool x2572.Reads, .int .i64 x2572.Fuel, .int .i64 x2572.Stack, .int .i64 x2572.Heap, v2590]]) (cells := [v2583, v2587, .int .u8 x2572.Result, .bool x2572.Reads, .int .i64 x2572.Fuel, .int .i64 x2572.Stack, .int .i64 x2572.Heap, v2590]) Tryz.underlying23 inf34.h rfl rfl rfl rfl rfl rfl rfl rfl (fun _ ap => ⟨[v2583, v2587, .int .u8 x2572.Result, .bool x2572.Reads, .int .i64 x2572.Fuel, .int .i64 x2572.Stack, .int .i64 x2572.Heap, v2590], _, rfl, ⟨rfl, rfl, Vz Z3r (Vz Z3s (Vz rfl (Vz rfl (Vz rfl (Vz rfl (Vz rfl (Vz Z3t (rfl))))))))⟩, rfl⟩) rfl rfl rfl (fun v2592 => ?_)
   refine SP.imp (fun w2 hw => St.litD (k := VE) (c := [v2583, v2587, .int .u8 x2572.Result, .bool x2572.Reads, .int .i64 x2572.Fuel, .int .i64 x2572.Stack, .int .i64 x2572.Heap, v2590]) (x0 := (⟨([] : List Int) ++ x2572.Args, ([] : List Int) ++ x2572.Locals, x2572.Result, x2572.Reads, x2572.Fuel, x2572.Stack, x2572.Heap, t2589⟩ : Zb)) [slO (kInt .u8) 5 v2583 (([] : List Int) ++ x2572.Args), slO (kInt .u8) 5 v2587 (([] : List Int) ++ x2572.Locals), slO Za 43 v2590 t2589] (St.selO [0, 3, 2, 1, 4, 5, 6, 7, 8, 9, 10] rfl rfl hw) (fun a b q => ⟨_, _, _, rfl, q⟩)) ?_
   refine so [2, 0, 1, 3, 4, 5, 6, 7] ?_
   obtain ⟨hb, ho⟩ := X6 ho
   refine SP.Z7A see Tryz.underlying23 inf34.h rfl rfl hb rfl rfl rfl rfl rfl (fun v2594 => ?_)
   clear hb
   refine gg ?_
   refine SP.have (fun w2 hw => slD.shape (St.own 0 rfl see.sub see.dj hw)) (fun Zad => ?_)
   refine st 2 ?_
   exact lw ho hr (fun _ z => ⟨(IntKind.i64.wrap (x2565 + 1)), (l2567 ++ [(⟨([] : List Int) ++ x2572.Args, ([] : List Int) ++ x2572.Locals, x2572.Result, x2572.Reads, x2572.Fuel, x2572.Stack, x2572.Heap, t2589⟩ : Zb)]), v2594, z⟩) (sO [0, 2, 3, 4, 5, 6])
  refine sh (h := id) 3 fun Z2b => ?_
  refine sh (h := id) 2 fun Z1f => ?_
  refine SP.have (fun w2 hw => slD.shape (St.own 0 rfl see.sub see.dj hw)) (fun Zae => ?_)
  refine st 4 ?_
  exact fin ho hr ▸ rt (sO [3, 2, 0]) (rs := [.cell 2 25]) (vs := [.agg #[v633, v1233, v2568, .int .i64 m_0.Zd]]) (hv := ⟨RVs.cellA 4 rfl rfl Tryz.underlying25 rfl sz25.h, trivial⟩)
 refine DT.cut (ι := Value × Value) (fun z => [(1, .pointer (some ⟨b4, 0, none⟩)), (2, .pointer (some ⟨b6, 0, none⟩)), (14, .agg #[z.1, z.2, (.slice none 0 0), .int .i64 m_0.Zd])]) (fun z w2 => St w em hV [slP Z5 Z4 m_0.Zj, slP Z5 Z6 m_0.Pool, slP Z8 Z0 m_0.Methods] [slO Z5 100 z.2 t1431, slO Z5 100 z.1 t831, boxO b6 [(.slice none 0 0), (.slice none 0 0), (.slice none 0 0), .int .i64 0] 25, boxO b4 [Z4, Z6, Z0, .int .i64 m_0.Zd] 25] w2) 2 #[true, true, true, true, true, true, true, true, true, false, false] (fun z => ?_) (fun J2601 => ?_)
 ·obtain ⟨v633, v1233⟩ := z
  refine DT.one 9 rfl (by kernel_rfl) rfl ?_
  refine al fun b2033 => ?_
  refine QE.atT (fun w2 hw => (St.selO [3, 4] rfl rfl hw)) ?_
  refine DT.list (l2 := #[true, true, true, true, true, true, true, true, true, true, false]) (by kernel_rfl) ?_
  exact DT.weak (by exact ⟨rfl, rfl, rfl, rfl, trivial⟩) (by exact fun w2 hw => hw) (J2535 (v633, v1233, b2033))
 refine DT.cut (ι := Value × Value × Nat) (fun z => [(1, .pointer (some ⟨b4, 0, none⟩)), (2, .pointer (some ⟨b6, 0, none⟩)), (3, .pointer (some ⟨z.2.2, 0, none⟩)), (8, z.1), (11, z.2.1), (13, .int .i64 m_0.Zd)]) (fun z w2 => St w em hV [slP Z5 Z4 m_0.Zj, slP Z5 Z6 m_0.Pool, slP Z8 Z0 m_0.Methods] [boxO z.2.2 [(.slice none 0 0), (.slice none 0 0), (.slice none 0 0), .int .i64 0] 25, slO Z5 100 z.2.1 t1431, slO Z5 100 z.1 t831, boxO b6 [(.slice none 0 0), (.slice none 0 0), (.slice none 0 0), .int .i64 0] 25, boxO b4 [Z4, Z6, Z0, .int .i64 m_0.Zd] 25] w2) 2 #[true, true, true, true, true, true, true, true, false, true, false] (fun z => ?_) (fun J2602 => ?_)
 ·obtain ⟨v633, v1233, b2033⟩ := z
  refine DT.one 8 rfl (by kernel_rfl) rfl ?_
  refine sh (h := id) 2 fun Z2b => ?_
  refine sh 1 fun Z1f => ?_
  refine bd [v633, v1233, (.slice none 0 0), .int .i64 m_0.Zd] ?_
  refine QE.atT (fun w2 hw => (St.selO [3, 4] rfl rfl hw)) ?_
  refine DT.list (l2 := #[true, true, true, true, true, true, true, true, true, true, false]) (by kernel_rfl) ?_
  exact DT.weak (by exact ⟨rfl, rfl, rfl, rfl, trivial⟩) (by exact fun w2 hw => hw) (J2535 (v633, v1233, b2033))
 refine DT.cut (ι := Value × Value) (fun z => [(1, .pointer (some ⟨b4, 0, none⟩)), (2, .pointer (some ⟨b6, 0, none⟩)), (8, z.1), (11, z.2), (13, .int .i64 m_0.Zd)]) (fun z w2 => St w em hV [slP Z5 Z4 m_0.Zj, slP Z5 Z6 m_0.Pool, slP Z8 Z0 m_0.Methods] [slO Z5 100 z.2 t1431, slO Z5 100 z.1 t831, boxO b6 [(.slice none 0 0), (.slice none 0 0), (.slice none 0 0), .int .i64 0] 25, boxO b4 [Z4, Z6, Z0, .int .i64 m_0.Zd] 25] w2) 3 #[true, true, true, true, true, true, true, true, false, false, false] (fun z => ?_) (fun J2603 => ?_)
 ·obtain ⟨v633, v1233⟩ := z
  refine DT.any 8 [9] (by kernel_rfl) ⟨⟨_, rfl, rfl, ?_⟩, ⟨_, rfl, rfl, ?_⟩, trivial⟩
  ·refine sh (h := id) 1 fun Z2b => ?_
   refine sh 0 fun Z1f => ?_
   refine bd [v633, v1233, (.slice none 0 0), .int .i64 m_0.Zd] ?_
   refine QE.atT (fun w2 hw => (St.selO [2, 3] rfl rfl hw)) ?_
   refine DT.list (l2 := #[true, true, true, true, true, true, true, true, true, false, false]) (by kernel_rfl) ?_
   exact DT.weak (by exact ⟨rfl, rfl, rfl, trivial⟩) (by exact fun w2 hw => hw) (J2601 (v633, v1233))
  refine al fun b2033 => ?_
  refine QE.atT (fun w2 hw => (St.selO [3, 4] rfl rfl hw)) ?_
  refine DT.list (l2 := #[true, true, true, true, true, true, true, true, false, true, false]) (by kernel_rfl) ?_
  exact DT.weak (by exact ⟨rfl, rfl, rfl, rfl, rfl, rfl, trivial⟩) (by exact fun w2 hw => hw) (J2602 (v633, v1233, b2033))
 refine DT.cut (ι := Value × Nat) (fun z => [(1, .pointer (some ⟨b4, 0, none⟩)), (2, .pointer (some ⟨b6, 0, none⟩)), (3, .pointer (some ⟨z.2, 0, none⟩)), (8, z.1), (10, Z6), (13, .int .i64 m_0.Zd)]) (fun z w2 => St w em hV [slP Z5 Z4 m_0.Zj, slP Z5 Z6 m_0.Pool, slP Z8 Z0 m_0.Methods] [boxO z.2 [(.slice none 0 0), (.slice none 0 0), (.slice none 0 0), .int .i64 0] 25, slO Z5 100 z.1 t831, boxO b6 [(.slice none 0 0), (.slice none 0 0), (.slice none 0 0), .int .i64 0] 25, boxO b4 [Z4, Z6, Z0, .int .i64 m_0.Zd] 25] w2) 3 #[true, true, true, true, true, false, true, true, false, true, false] (fun z => ?_) (fun J2606 => ?_)
 ·obtain ⟨v633, b2033⟩ := z
  refine DT.one 5 rfl (by kernel_rfl) rfl ?_
  refine SP.callK see (caps := []) _ fn45.h rfl rfl rfl rfl (fun w2 hP hs sub ap => Wj.ok (l_0 := m_0.Pool) _ Z3q w2 hP sub (aS (ap.get 1 rfl) (All.nil _))) (SP.k1 fun v1233 => gg ?_)
  refine QE.atT (fun w2 hw => (St.selO [3, 4] rfl rfl hw)) ?_
  refine DT.list (l2 := #[true, true, true, true, true, true, true, true, false, true, false]) (by kernel_rfl) ?_
  exact DT.weak (by exact ⟨rfl, rfl, rfl, rfl, rfl, rfl, trivial⟩) (by exact fun w2 hw => (St.selO [1, 0, 2, 3, 4] rfl rfl hw)) (J2602 (v633, v1233, b2033))
 refine DT.cut (ι := Value) (fun z => [(1, .pointer (some ⟨b4, 0, none⟩)), (2, .pointer (some ⟨b6, 0, none⟩)), (8, z), (10, Z6), (13, .int .i64 m_0.Zd)]) (fun z w2 => St w em hV [slP Z5 Z4 m_0.Zj, slP Z5 Z6 m_0.Pool, slP Z8 Z0 m_0.Methods] [slO Z5 100 z t831, boxO b6 [(.slice none 0 0), (.slice none 0 0), (.slice none 0 0), .int .i64 0] 25, boxO b4 [Z4, Z6, Z0, .int .i64 m_0.Zd] 25] w2) 4 #[true, true, true, true, true, false, true, true, false, false, false] (fun z => ?_) (fun J2607 => ?_)
 ·rename Value => v633
  refine DT.any 5 [9] (by kernel_rfl) ⟨⟨_, rfl, rfl, ?_⟩, ⟨_, rfl, rfl, ?_⟩, trivial⟩
  ·refine SP.callK see (caps := []) _ fn45.h rfl rfl rfl rfl (fun w2 hP hs sub ap => Wj.ok (l_0 := m_0.Pool) _ Z3q w2 hP sub (aS (ap.get 1 rfl) (All.nil _))) (SP.k1 fun v1233 => gg ?_)
   refine QE.atT (fun w2 hw => (St.selO [2, 3] rfl rfl hw)) ?_
   refine DT.list (l2 := #[true, true, true, true, true, true, true, true, false, false, false]) (by kernel_rfl) ?_
   exact DT.weak (by exact ⟨rfl, rfl, rfl, rfl, rfl, trivial⟩) (by exact fun w2 hw => hw) (J2603 (v633, v1233))
  refine al fun b2033 => ?_
  refine QE.atT (fun w2 hw => (St.selO [2, 3] rfl rfl hw)) ?_
  refine DT.list (l2 := #[true, true, true, true, true, false, true, true, false, true, false]) (by kernel_rfl) ?_
  exact DT.weak (by exact ⟨rfl, rfl, rfl, rfl, rfl, rfl, trivial⟩) (by exact fun w2 hw => hw) (J2606 (v633, b2033))
 refine DT.cut (ι := Nat) (fun z => [(1, .pointer (some ⟨b4, 0, none⟩)), (2, .pointer (some ⟨b6, 0, none⟩)), (3, .pointer (some ⟨z, 0, none⟩)), (7, Z4), (10, Z6), (13, .int .i64 m_0.Zd)]) (fun z w2 => St w em hV [slP Z5 Z4 m_0.Zj, slP Z5 Z6 m_0.Pool, slP Z8 Z0 m_0.Methods] [boxO z [(.slice none 0 0), (.slice none 0 0), (.slice none 0 0), .int .i64 0] 25, boxO b6 [(.slice none 0 0), (.slice none 0 0), (.slice none 0 0), .int .i64 0] 25, boxO b4 [Z4, Z6, Z0, .int .i64 m_0.Zd] 25] w2) 4 #[true, true, false, true, true, false, true, true, false, true, false] (fun z => ?_) (fun J2613 => ?_)
 ·rename Nat => b2033
  refine DT.one 2 rfl (by kernel_rfl) rfl ?_
  refine SP.callK see (caps := []) _ fn45.h rfl rfl rfl rfl (fun w2 hP hs sub ap => Wj.ok (l_0 := m_0.Zj) _ Z4v w2 hP sub (aS (ap.get 0 rfl) (All.nil _))) (SP.k1 fun v633 => gg ?_)
  refine QE.atT (fun w2 hw => (St.selO [2, 3] rfl rfl hw)) ?_
  refine DT.list (l2 := #[true, true, true, true, true, false, true, true, false, true, false]) (by kernel_rfl) ?_
  exact DT.weak (by exact ⟨rfl, rfl, rfl, rfl, rfl, rfl, trivial⟩) (by exact fun w2 hw => (St.selO [1, 0, 2, 3] rfl rfl hw)) (J2606 (v633, b2033))
 refine DT.any 2 [9] (by kernel_rfl) ⟨⟨_, rfl, rfl, ?_⟩, ⟨_, rfl, rfl, ?_⟩, trivial⟩
 ·refine SP.callK see (caps := []) _ fn45.h rfl rfl rfl rfl (fun w2 hP hs sub ap => Wj.ok (l_0 := m_0.Zj) _ Z4v w2 hP sub (aS (ap.get 0 rfl) (All.nil _))) (SP.k1 fun v633 => gg ?_)
  refine QE.atT (fun w2 hw => (St.selO [1, 2] rfl rfl hw)) ?_
  refine DT.list (l2 := #[true, true, true, true, true, false, true, true, false, false, false]) (by kernel_rfl) ?_
  exact DT.weak (by exact ⟨rfl, rfl, rfl, rfl, rfl, trivial⟩) (by exact fun w2 hw => hw) (J2607 v633)
 refine al fun b2033 => ?_
 refine QE.atT (fun w2 hw => (St.selO [1, 2] rfl rfl hw)) ?_
 refine DT.list (l2 := #[true, true, false, true, true, false, true, true, false, true, false]) (by kernel_rfl) ?_
 exact DT.weak (by exact ⟨rfl, rfl, rfl, rfl, rfl, rfl, trivial⟩) (by exact fun w2 hw => hw) (J2613 b2033)
def U3.f (a_0 b_1 : Int) : Option Bool :=
  some ((((decide (a_0 ≥ (-1048576))) && (decide (a_0 ≤ 1048576))) && (decide (b_1 ≥ (-1048576)))) && (decide (b_1 ≤ 1048576)))
theorem U3.ok {a_0 b_1} (r) (ho : U3.f a_0 b_1 = some r) : Ok Tryz.prog 255 [.int .i64 a_0, .int .i64 b_1] [] fun v => HO.pure (v = .bool r) := by
 refine oq 19 Tryz.func255 fun w hV see pb => ?_
 refine SP.jn 3 [1] 10 (.bool ((decide (a_0 ≥ (-1048576))) && (decide (a_0 ≤ 1048576)))) ?_ ?_
 ·refine gg ?_
  refine SP.jn 3 [1] 14 (.bool (((decide (a_0 ≥ (-1048576))) && (decide (a_0 ≤ 1048576))) && (decide (b_1 ≥ (-1048576))))) ?_ ?_
  ·refine gg ?_
   refine SP.jn 3 [] 18 (.bool ((((decide (a_0 ≥ (-1048576))) && (decide (a_0 ≤ 1048576))) && (decide (b_1 ≥ (-1048576)))) && (decide (b_1 ≤ 1048576)))) ?_ ?_
   ·refine gg ?_
    exact Option.some.inj ho ▸ rt
   refine bb 15 (fun hq6 => ?_) fun hq6 => ?_
   ·exact jb (XT hq6 rfl)
   exact jb (XU hq6)
  refine bb 11 (fun hq4 => ?_) fun hq4 => ?_
  ·exact jb (XT hq4 rfl)
  exact jb (XU hq4)
 refine bb 7 (fun hq2 => ?_) fun hq2 => ?_
 ·exact jb (XT hq2 rfl)
 exact jb (XU hq2)
def WS.f (v_0 : Zn) : Option Bool :=
  (if ((decide (v_0.Kind = 1)) && (decide (v_0.B = 0))) = true then (some true) else ((if v_0.Kind = 2 then ((U3.f v_0.A v_0.B).bind fun t9 => some t9) else (some false)).bind fun t10 => some t10)).bind fun t11 => some t11
theorem WS.ok {v_0} (r) (ho : WS.f v_0 = some r) : Ok Tryz.prog 246 [.agg #[.int .u8 v_0.Kind, .int .i64 v_0.A, .int .i64 v_0.B]] [] fun v => HO.pure (v = .bool r) := by
 refine oq 23 Tryz.func246 fun w hV see pb => ?_
 refine bx fun b1 => ?_
 refine SP.jn 4 [1] 10 (.bool ((decide (v_0.Kind = 1)) && (decide (v_0.B = 0)))) ?_ ?_
 ·refine gg ?_
  obtain ⟨t11, Z09, ho⟩ := bind_some ho
  refine SP.jn 11 [] 22 (.bool t11) ?_ ?_
  ·clear Z09
   refine gg ?_
   exact Option.some.inj ho ▸ rt
  refine bc 11 Z09 (fun hq6 ho => ?_) fun hq6 ho => ?_
  ·obtain rfl := Option.some.inj ho
   exact jn
  obtain ⟨t10, Z0a, ho⟩ := bind_some ho
  refine SP.jn 6 [11] 21 (.bool t10) ?_ ?_
  ·clear Z0a
   refine gg ?_
   obtain rfl := Option.some.inj ho
   exact jn
  refine bi 15 Z0a (fun hq8 ho => ?_) fun hq8 ho => ?_
  ·refine kv U3.ok ho fun t9 ho => ?_
   obtain rfl := Option.some.inj ho
   exact jn
  obtain rfl := Option.some.inj ho
  exact jn
 refine bb 6 (fun hq4 => ?_) fun hq4 => ?_
 ·exact jb (XT hq4 rfl)
 exact jb (XU hq4)
inductive Xh.S where
  | start
  | l1 (x9 : Int)
def Xh.F (l_0 : List Zn) : Xh.S → Option (Xh.S ⊕ Bool)
  | .start => some (.inl (.l1 0))
  | .l1 x9 => if ((decide (x9 < (l_0.length : Int))) && (decide (x9 ≤ 32))) = true then ((elt l_0 x9).bind fun x15 => (WS.f x15).bind fun t16 => if (!t16) = true then (some (.inr false)) else (some (.inl (.l1 (IntKind.i64.wrap (x9 + 1)))))) else (some (.inr (decide ((l_0.length : Int) ≤ 32))))
def Xh.f (l_0 : List Zn) : Option Bool := runF (Xh.F l_0) .start
theorem Xh.ok {l_0 Y2} (r) (H : Xh.f l_0 = some r) : Ok Tryz.prog 209 [Y2] [slP Z5 Y2 l_0] fun v => HO.pure (v = .bool r) := by
 refine oq 23 Tryz.func209 fun w hV see pb => ?_
 obtain ⟨m0, o, ho, hr⟩ := rn H
 refine lo ho hr (fun z => ∃ x9, z (.l1 x9) [(0, Y2), (3, .int .i64 x9)] []) (fun _ z => ⟨0, z⟩) ?_
 rintro _ _ _ ⟨x9, m10, o, _, _, ho, hr, h⟩
 refine en h ?_
 refine SP.jn 3 [0, 3] 11 (.bool ((decide (x9 < (l_0.length : Int))) && (decide (x9 ≤ 32)))) ?_ ?_
 ·refine gg ?_
  refine cb ho (fun ho => ?_) fun ho => ?_
  ·refine ip 0 ho fun x15 ho p13 => ?_
   refine ld 0 ?_
   refine kv WS.ok ho fun t16 ho => ?_
   refine cb ho (fun ho => ?_) fun ho => ?_
   ·exact fin ho hr ▸ rt
   exact lw ho hr (fun _ z => ⟨(IntKind.i64.wrap (x9 + 1)), z⟩)
  exact fin ho hr ▸ rt
 refine bb 8 (fun hq12 => ?_) fun hq12 => ?_
 ·exact jb (XT hq12 rfl)
 exact jb (XU hq12)
def Zh.j9 (n_0 x1 x2 x8 x13 x18 x23 x28 x33 x38 : Int) : Option (List Int) :=
  if ((((((((([] : List Int) ++ [x2]) ++ [x8]) ++ [x13]) ++ [x18]) ++ [x23]) ++ [x28]) ++ [x33]).length + [x38].length) * 1 ≤ 140737488355328 then (some ((((((((([] : List Int) ++ [x2]) ++ [x8]) ++ [x13]) ++ [x18]) ++ [x23]) ++ [x28]) ++ [x33]) ++ [x38])) else none
def Zh.j8 (n_0 x1 x2 x8 x13 x18 x23 x28 x33 : Int) : Option (List Int) :=
  if (((((((([] : List Int) ++ [x2]) ++ [x8]) ++ [x13]) ++ [x18]) ++ [x23]) ++ [x28]).length + [x33].length) * 1 ≤ 140737488355328 then (if n_0 < 0 then (Zh.j9 n_0 x1 x2 x8 x13 x18 x23 x28 x33 (IntKind.u8.wrap (255 - (IntKind.u8.wrap (Int.tmod (IntKind.i64.wrap (Int.tdiv (IntKind.i64.wrap (Int.tdiv (IntKind.i64.wrap (Int.tdiv (IntKind.i64.wrap (Int.tdiv (IntKind.i64.wrap (Int.tdiv (IntKind.i64.wrap (Int.tdiv (IntKind.i64.wrap (Int.tdiv x1 256)) 256)) 256)) 256)) 256)) 256)) 256)) 256))))) else (Zh.j9 n_0 x1 x2 x8 x13 x18 x23 x28 x33 (IntKind.u8.wrap (Int.tmod (IntKind.i64.wrap (Int.tdiv (IntKind.i64.wrap (Int.tdiv (IntKind.i64.wrap (Int.tdiv (IntKind.i64.wrap (Int.tdiv (IntKind.i64.wrap (Int.tdiv (IntKind.i64.wrap (Int.tdiv (IntKind.i64.wrap (Int.tdiv x1 256)) 256)) 256)) 256)) 256)) 256)) 256)) 256)))) else none
def Zh.j7 (n_0 x1 x2 x8 x13 x18 x23 x28 : Int) : Option (List Int) :=
  if ((((((([] : List Int) ++ [x2]) ++ [x8]) ++ [x13]) ++ [x18]) ++ [x23]).length + [x28].length) * 1 ≤ 140737488355328 then (if n_0 < 0 then (Zh.j8 n_0 x1 x2 x8 x13 x18 x23 x28 (IntKind.u8.wrap (255 - (IntKind.u8.wrap (Int.tmod (IntKind.i64.wrap (Int.tdiv (IntKind.i64.wrap (Int.tdiv (IntKind.i64.wrap (Int.tdiv (IntKind.i64.wrap (Int.tdiv (IntKind.i64.wrap (Int.tdiv (IntKind.i64.wrap (Int.tdiv x1 256)) 256)) 256)) 256)) 256)) 256)) 256))))) else (Zh.j8 n_0 x1 x2 x8 x13 x18 x23 x28 (IntKind.u8.wrap (Int.tmod (IntKind.i64.wrap (Int.tdiv (IntKind.i64.wrap (Int.tdiv (IntKind.i64.wrap (Int.tdiv (IntKind.i64.wrap (Int.tdiv (IntKind.i64.wrap (Int.tdiv (IntKind.i64.wrap (Int.tdiv x1 256)) 256)) 256)) 256)) 256)) 256)) 256)))) else none
def Zh.j6 (n_0 x1 x2 x8 x13 x18 x23 : Int) : Option (List Int) :=
  if (((((([] : List Int) ++ [x2]) ++ [x8]) ++ [x13]) ++ [x18]).length + [x23].length) * 1 ≤ 140737488355328 then (if n_0 < 0 then (Zh.j7 n_0 x1 x2 x8 x13 x18 x23 (IntKind.u8.wrap (255 - (IntKind.u8.wrap (Int.tmod (IntKind.i64.wrap (Int.tdiv (IntKind.i64.wrap (Int.tdiv (IntKind.i64.wrap (Int.tdiv (IntKind.i64.wrap (Int.tdiv (IntKind.i64.wrap (Int.tdiv x1 256)) 256)) 256)) 256)) 256)) 256))))) else (Zh.j7 n_0 x1 x2 x8 x13 x18 x23 (IntKind.u8.wrap (Int.tmod (IntKind.i64.wrap (Int.tdiv (IntKind.i64.wrap (Int.tdiv (IntKind.i64.wrap (Int.tdiv (IntKind.i64.wrap (Int.tdiv (IntKind.i64.wrap (Int.tdiv x1 256)) 256)) 256)) 256)) 256)) 256)))) else none
def Zh.j5 (n_0 x1 x2 x8 x13 x18 : Int) : Option (List Int) :=
  if ((((([] : List Int) ++ [x2]) ++ [x8]) ++ [x13]).length + [x18].length) * 1 ≤ 140737488355328 then (if n_0 < 0 then (Zh.j6 n_0 x1 x2 x8 x13 x18 (IntKind.u8.wrap (255 - (IntKind.u8.wrap (Int.tmod (IntKind.i64.wrap (Int.tdiv (IntKind.i64.wrap (Int.tdiv (IntKind.i64.wrap (Int.tdiv (IntKind.i64.wrap (Int.tdiv x1 256)) 256)) 256)) 256)) 256))))) else (Zh.j6 n_0 x1 x2 x8 x13 x18 (IntKind.u8.wrap (Int.tmod (IntKind.i64.wrap (Int.tdiv (IntKind.i64.wrap (Int.tdiv (IntKind.i64.wrap (Int.tdiv (IntKind.i64.wrap (Int.tdiv x1 256)) 256)) 256)) 256)) 256)))) else none
def Zh.j4 (n_0 x1 x2 x8 x13 : Int) : Option (List Int) :=
  if (((([] : List Int) ++ [x2]) ++ [x8]).length + [x13].length) * 1 ≤ 140737488355328 then (if n_0 < 0 then (Zh.j5 n_0 x1 x2 x8 x13 (IntKind.u8.wrap (255 - (IntKind.u8.wrap (Int.tmod (IntKind.i64.wrap (Int.tdiv (IntKind.i64.wrap (Int.tdiv (IntKind.i64.wrap (Int.tdiv x1 256)) 256)) 256)) 256))))) else (Zh.j5 n_0 x1 x2 x8 x13 (IntKind.u8.wrap (Int.tmod (IntKind.i64.wrap (Int.tdiv (IntKind.i64.wrap (Int.tdiv (IntKind.i64.wrap (Int.tdiv x1 256)) 256)) 256)) 256)))) else none
def Zh.j3 (n_0 x1 x2 x8 : Int) : Option (List Int) :=
  if ((([] : List Int) ++ [x2]).length + [x8].length) * 1 ≤ 140737488355328 then (if n_0 < 0 then (Zh.j4 n_0 x1 x2 x8 (IntKind.u8.wrap (255 - (IntKind.u8.wrap (Int.tmod (IntKind.i64.wrap (Int.tdiv (IntKind.i64.wrap (Int.tdiv x1 256)) 256)) 256))))) else (Zh.j4 n_0 x1 x2 x8 (IntKind.u8.wrap (Int.tmod (IntKind.i64.wrap (Int.tdiv (IntKind.i64.wrap (Int.tdiv x1 256)) 256)) 256)))) else none
def Zh.j2 (n_0 x1 x2 : Int) : Option (List Int) :=
  if (([] : List Int).length + [x2].length) * 1 ≤ 140737488355328 then (if n_0 < 0 then (Zh.j3 n_0 x1 x2 (IntKind.u8.wrap (255 - (IntKind.u8.wrap (Int.tmod (IntKind.i64.wrap (Int.tdiv x1 256)) 256))))) else (Zh.j3 n_0 x1 x2 (IntKind.u8.wrap (Int.tmod (IntKind.i64.wrap (Int.tdiv x1 256)) 256)))) else none
def Zh.j1 (n_0 x1 : Int) : Option (List Int) :=
  if n_0 < 0 then (Zh.j2 n_0 x1 (IntKind.u8.wrap (255 - (IntKind.u8.wrap (Int.tmod x1 256))))) else (Zh.j2 n_0 x1 (IntKind.u8.wrap (Int.tmod x1 256)))
def Zh.f (n_0 : Int) : Option (List Int) :=
  if n_0 < 0 then (Zh.j1 n_0 (IntKind.i64.wrap (0 - (IntKind.i64.wrap (n_0 + 1))))) else (Zh.j1 n_0 n_0)
theorem Zh.ok {n_0} (r) (ho : Zh.f n_0 = some r) : Ok Tryz.prog 247 [.int .i64 n_0] [] fun v => HO.ex fun u0 : Value => HO.pand (v = u0) (HO.seps [slO (kInt .u8) 5 u0 r]) := by
 refine oq (h := fun _ _ _ => id) 30 Tryz.func247 fun w hV see pb => ?_
 refine go ?_
 refine oi r (fun z => ∃ x1, z (Zh.j1 n_0 x1) [(0, .int .i64 x1), (3, .bool (decide (n_0 < 0)))] []) ?_ ?_
 ·rintro _ _ ⟨x1, ho, h⟩
  refine en h ?_
  refine CP.rounds 10 ?_
  refine LP.step ?_
  refine (CP.seq ?_)
  refine CP.seq ?_
  refine CP.region ?_
  refine SP.val (Val.move rfl) rfl rfl rfl ?_
  refine cs (.bool true) ?_
  refine CP.condT rfl rfl (gg ?_)
  refine SP.val (Val.rem rfl rfl (by decide)) rfl rfl rfl ?_
  refine SP.val (Val.conv (by rw [Tryz.underlying2]; rfl) Tryz.underlying5 rfl) rfl rfl rfl ?_
  refine go ?_
  refine oi r (fun z => ∃ x2, z (Zh.j2 n_0 x1 x2) [(0, .int .i64 x1), (3, .bool (decide (n_0 < 0))), (4, (.slice none 0 0)), (5, .int .i64 0), (6, .int .u8 x2)] []) ?_ ?_
  ·rintro _ _ ⟨x2, ho, h⟩
   refine en h ?_
   refine li (h := fun _ => id) (kInt .u8) [x2] fun v3 => ?_
   refine sn (kInt .u8) 5 ?_
   refine fz 1 ?_
   refine ap 0 0 ho fun v6 ho => ?_
   refine SP.val (Val.quo rfl rfl (by decide)) rfl rfl rfl ?_
   refine SP.val (Val.assign rfl) rfl rfl rfl ?_
   refine SP.nil ?_
   refine QE.blockN ?_
   refine QE.then ?_
   refine CP.region ?_
   refine SP.val (Val.move rfl) rfl rfl rfl ?_
   refine cs (.int .i64 1) ?_
   refine QE.round ?_
   refine LP.step ?_
   refine (CP.seq ?_)
   refine CP.seq ?_
   refine CP.region ?_
   refine SP.val (Val.move rfl) rfl rfl rfl ?_
   refine cs (.bool true) ?_
   refine CP.condT rfl rfl (gg ?_)
   refine SP.val (Val.rem rfl rfl (by decide)) rfl rfl rfl ?_
   refine SP.val (Val.conv (by rw [Tryz.underlying2]; rfl) Tryz.underlying5 rfl) rfl rfl rfl ?_
   refine go ?_
   refine oi r (fun z => ∃ x8, z (Zh.j3 n_0 x1 x2 x8) [(0, .int .i64 (IntKind.i64.wrap (Int.tdiv x1 256))), (3, .bool (decide (n_0 < 0))), (4, v6), (5, .int .i64 1), (6, .int .u8 x8)] [slO (kInt .u8) 5 v6 (([] : List Int) ++ [x2])]) ?_ ?_
   ·rintro _ _ ⟨x8, ho, h⟩
    refine en h ?_
    refine li (h := fun _ => id) (kInt .u8) [x8] fun v9 => ?_
    refine fz 0 ?_
    refine ap 0 0 ho fun v11 ho => ?_
    refine SP.val (Val.quo rfl rfl (by decide)) rfl rfl rfl ?_
    refine SP.val (Val.assign rfl) rfl rfl rfl ?_
    refine SP.nil ?_
    refine QE.blockN ?_
    refine QE.then ?_
    refine CP.region ?_
    refine SP.val (Val.move rfl) rfl rfl rfl ?_
    refine cs (.int .i64 2) ?_
    refine QE.round ?_
    refine LP.step ?_
    refine (CP.seq ?_)
    refine CP.seq ?_
    refine CP.region ?_
    refine SP.val (Val.move rfl) rfl rfl rfl ?_
    refine cs (.bool true) ?_
    refine CP.condT rfl rfl (gg ?_)
    refine SP.val (Val.rem rfl rfl (by decide)) rfl rfl rfl ?_
    refine SP.val (Val.conv (by rw [Tryz.underlying2]; rfl) Tryz.underlying5 rfl) rfl rfl rfl ?_
    refine go ?_
    refine oi r (fun z => ∃ x13, z (Zh.j4 n_0 x1 x2 x8 x13) [(0, .int .i64 (IntKind.i64.wrap (Int.tdiv (IntKind.i64.wrap (Int.tdiv x1 256)) 256))), (3, .bool (decide (n_0 < 0))), (4, v11), (5, .int .i64 2), (6, .int .u8 x13)] [slO (kInt .u8) 5 v11 ((([] : List Int) ++ [x2]) ++ [x8])]) ?_ ?_
    ·rintro _ _ ⟨x13, ho, h⟩
     refine en h ?_
     refine li (h := fun _ => id) (kInt .u8) [x13] fun v14 => ?_
     refine fz 0 ?_
     refine ap 0 0 ho fun v16 ho => ?_
     refine SP.val (Val.quo rfl rfl (by decide)) rfl rfl rfl ?_
     refine SP.val (Val.assign rfl) rfl rfl rfl ?_
     refine SP.nil ?_
     refine QE.blockN ?_
     refine QE.then ?_
     refine CP.region ?_
     refine SP.val (Val.move rfl) rfl rfl rfl ?_
     refine cs (.int .i64 3) ?_
     refine QE.round ?_
     refine LP.step ?_
     refine (CP.seq ?_)
     refine CP.seq ?_
     refine CP.region ?_
     refine SP.val (Val.move rfl) rfl rfl rfl ?_
     refine cs (.bool true) ?_
     refine CP.condT rfl rfl (gg ?_)
     refine SP.val (Val.rem rfl rfl (by decide)) rfl rfl rfl ?_
     refine SP.val (Val.conv (by rw [Tryz.underlying2]; rfl) Tryz.underlying5 rfl) rfl rfl rfl ?_
     refine go ?_
     refine oi r (fun z => ∃ x18, z (Zh.j5 n_0 x1 x2 x8 x13 x18) [(0, .int .i64 (IntKind.i64.wrap (Int.tdiv (IntKind.i64.wrap (Int.tdiv (IntKind.i64.wrap (Int.tdiv x1 256)) 256)) 256))), (3, .bool (decide (n_0 < 0))), (4, v16), (5, .int .i64 3), (6, .int .u8 x18)] [slO (kInt .u8) 5 v16 (((([] : List Int) ++ [x2]) ++ [x8]) ++ [x13])]) ?_ ?_
     ·rintro _ _ ⟨x18, ho, h⟩
      refine en h ?_
      refine li (h := fun _ => id) (kInt .u8) [x18] fun v19 => ?_
      refine fz 0 ?_
      refine ap 0 0 ho fun v21 ho => ?_
      refine SP.val (Val.quo rfl rfl (by decide)) rfl rfl rfl ?_
      refine SP.val (Val.assign rfl) rfl rfl rfl ?_
      refine SP.nil ?_
      refine QE.blockN ?_
      refine QE.then ?_
      refine CP.region ?_
      refine SP.val (Val.move rfl) rfl rfl rfl ?_
      refine cs (.int .i64 4) ?_
      refine QE.round ?_
      refine LP.step ?_
      refine (CP.seq ?_)
      refine CP.seq ?_
      refine CP.region ?_
      refine SP.val (Val.move rfl) rfl rfl rfl ?_
      refine cs (.bool true) ?_
      refine CP.condT rfl rfl (gg ?_)
      refine SP.val (Val.rem rfl rfl (by decide)) rfl rfl rfl ?_
      refine SP.val (Val.conv (by rw [Tryz.underlying2]; rfl) Tryz.underlying5 rfl) rfl rfl rfl ?_
      refine go ?_
      refine oi r (fun z => ∃ x23, z (Zh.j6 n_0 x1 x2 x8 x13 x18 x23) [(0, .int .i64 (IntKind.i64.wrap (Int.tdiv (IntKind.i64.wrap (Int.tdiv (IntKind.i64.wrap (Int.tdiv (IntKind.i64.wrap (Int.tdiv x1 256)) 256)) 256)) 256))), (3, .bool (decide (n_0 < 0))), (4, v21), (5, .int .i64 4), (6, .int .u8 x23)] [slO (kInt .u8) 5 v21 ((((([] : List Int) ++ [x2]) ++ [x8]) ++ [x13]) ++ [x18])]) ?_ ?_
      ·rintro _ _ ⟨x23, ho, h⟩
       refine en h ?_
       refine li (h := fun _ => id) (kInt .u8) [x23] fun v24 => ?_
       refine fz 0 ?_
       refine ap 0 0 ho fun v26 ho => ?_
       refine SP.val (Val.quo rfl rfl (by decide)) rfl rfl rfl ?_
       refine SP.val (Val.assign rfl) rfl rfl rfl ?_
       refine SP.nil ?_
       refine QE.blockN ?_
       refine QE.then ?_
       refine CP.region ?_
       refine SP.val (Val.move rfl) rfl rfl rfl ?_
       refine cs (.int .i64 5) ?_
       refine QE.round ?_
       refine LP.step ?_
       refine (CP.seq ?_)
       refine CP.seq ?_
       refine CP.region ?_
       refine SP.val (Val.move rfl) rfl rfl rfl ?_
       refine cs (.bool true) ?_
       refine CP.condT rfl rfl (gg ?_)
       refine SP.val (Val.rem rfl rfl (by decide)) rfl rfl rfl ?_
       refine SP.val (Val.conv (by rw [Tryz.underlying2]; rfl) Tryz.underlying5 rfl) rfl rfl rfl ?_
       refine go ?_
       refine oi r (fun z => ∃ x28, z (Zh.j7 n_0 x1 x2 x8 x13 x18 x23 x28) [(0, .int .i64 (IntKind.i64.wrap (Int.tdiv (IntKind.i64.wrap (Int.tdiv (IntKind.i64.wrap (Int.tdiv (IntKind.i64.wrap (Int.tdiv (IntKind.i64.wrap (Int.tdiv x1 256)) 256)) 256)) 256)) 256))), (3, .bool (decide (n_0 < 0))), (4, v26), (5, .int .i64 5), (6, .int .u8 x28)] [slO (kInt .u8) 5 v26 (((((([] : List Int) ++ [x2]) ++ [x8]) ++ [x13]) ++ [x18]) ++ [x23])]) ?_ ?_
       ·rintro _ _ ⟨x28, ho, h⟩
        refine en h ?_
        refine li (h := fun _ => id) (kInt .u8) [x28] fun v29 => ?_
        refine fz 0 ?_
        refine ap 0 0 ho fun v31 ho => ?_
        refine SP.val (Val.quo rfl rfl (by decide)) rfl rfl rfl ?_
        refine SP.val (Val.assign rfl) rfl rfl rfl ?_
        refine SP.nil ?_
        refine QE.blockN ?_
        refine QE.then ?_
        refine CP.region ?_
        refine SP.val (Val.move rfl) rfl rfl rfl ?_
        refine cs (.int .i64 6) ?_
        refine QE.round ?_
        refine LP.step ?_
        refine (CP.seq ?_)
        refine CP.seq ?_
        refine CP.region ?_
        refine SP.val (Val.move rfl) rfl rfl rfl ?_
        refine cs (.bool true) ?_
        refine CP.condT rfl rfl (gg ?_)
        refine SP.val (Val.rem rfl rfl (by decide)) rfl rfl rfl ?_
        refine SP.val (Val.conv (by rw [Tryz.underlying2]; rfl) Tryz.underlying5 rfl) rfl rfl rfl ?_
        refine go ?_
        refine oi r (fun z => ∃ x33, z (Zh.j8 n_0 x1 x2 x8 x13 x18 x23 x28 x33) [(0, .int .i64 (IntKind.i64.wrap (Int.tdiv (IntKind.i64.wrap (Int.tdiv (IntKind.i64.wrap (Int.tdiv (IntKind.i64.wrap (Int.tdiv (IntKind.i64.wrap (Int.tdiv (IntKind.i64.wrap (Int.tdiv x1 256)) 256)) 256)) 256)) 256)) 256))), (3, .bool (decide (n_0 < 0))), (4, v31), (5, .int .i64 6), (6, .int .u8 x33)] [slO (kInt .u8) 5 v31 ((((((([] : List Int) ++ [x2]) ++ [x8]) ++ [x13]) ++ [x18]) ++ [x23]) ++ [x28])]) ?_ ?_
        ·rintro _ _ ⟨x33, ho, h⟩
         refine en h ?_
         refine li (h := fun _ => id) (kInt .u8) [x33] fun v34 => ?_
         refine fz 0 ?_
         refine ap 0 0 ho fun v36 ho => ?_
         refine SP.val (Val.quo rfl rfl (by decide)) rfl rfl rfl ?_
         refine SP.val (Val.assign rfl) rfl rfl rfl ?_
         refine SP.nil ?_
         refine QE.blockN ?_
         refine QE.then ?_
         refine CP.region ?_
         refine SP.val (Val.move rfl) rfl rfl rfl ?_
         refine cs (.int .i64 7) ?_
         refine QE.round ?_
         refine LP.step ?_
         refine (CP.seq ?_)
         refine CP.seq ?_
         refine CP.region ?_
         refine SP.val (Val.move rfl) rfl rfl rfl ?_
         refine cs (.bool true) ?_
         refine CP.condT rfl rfl (gg ?_)
         refine SP.val (Val.rem rfl rfl (by decide)) rfl rfl rfl ?_
         refine SP.val (Val.conv (by rw [Tryz.underlying2]; rfl) Tryz.underlying5 rfl) rfl rfl rfl ?_
         refine go ?_
         refine oi r (fun z => ∃ x38, z (Zh.j9 n_0 x1 x2 x8 x13 x18 x23 x28 x33 x38) [(0, .int .i64 (IntKind.i64.wrap (Int.tdiv (IntKind.i64.wrap (Int.tdiv (IntKind.i64.wrap (Int.tdiv (IntKind.i64.wrap (Int.tdiv (IntKind.i64.wrap (Int.tdiv (IntKind.i64.wrap (Int.tdiv (IntKind.i64.wrap (Int.tdiv x1 256)) 256)) 256)) 256)) 256)) 256)) 256))), (3, .bool (decide (n_0 < 0))), (4, v36), (5, .int .i64 7), (6, .int .u8 x38)] [slO (kInt .u8) 5 v36 (((((((([] : List Int) ++ [x2]) ++ [x8]) ++ [x13]) ++ [x18]) ++ [x23]) ++ [x28]) ++ [x33])]) ?_ ?_
         ·rintro _ _ ⟨x38, ho, h⟩
          refine en h ?_
          refine li (h := fun _ => id) (kInt .u8) [x38] fun v39 => ?_
          refine fz 0 ?_
          refine ap 0 0 ho fun v41 ho => ?_
          refine SP.val (Val.quo rfl rfl (by decide)) rfl rfl rfl ?_
          refine SP.val (Val.assign rfl) rfl rfl rfl ?_
          refine SP.nil ?_
          refine QE.blockN ?_
          refine QE.then ?_
          refine CP.region ?_
          refine SP.val (Val.move rfl) rfl rfl rfl ?_
          refine cs (.int .i64 8) ?_
          refine QE.round ?_
          refine LP.step ?_
          refine (CP.seq ?_)
          refine CP.seq ?_
          refine CP.region ?_
          refine SP.val (Val.move rfl) rfl rfl rfl ?_
          refine cs (.bool false) ?_
          refine CP.condF rfl rfl (gg ?_)
          exact Option.some.inj ho ▸ rt (sO [0])
         refine gg ?_
         refine ci ho (fun ho => ?_) fun ho => ?_
         ·exact mo ho (fun _ z => ⟨(IntKind.u8.wrap (255 - (IntKind.u8.wrap (Int.tmod (IntKind.i64.wrap (Int.tdiv (IntKind.i64.wrap (Int.tdiv (IntKind.i64.wrap (Int.tdiv (IntKind.i64.wrap (Int.tdiv (IntKind.i64.wrap (Int.tdiv (IntKind.i64.wrap (Int.tdiv (IntKind.i64.wrap (Int.tdiv x1 256)) 256)) 256)) 256)) 256)) 256)) 256)) 256)))), z⟩)
         exact mo ho (fun _ z => ⟨(IntKind.u8.wrap (Int.tmod (IntKind.i64.wrap (Int.tdiv (IntKind.i64.wrap (Int.tdiv (IntKind.i64.wrap (Int.tdiv (IntKind.i64.wrap (Int.tdiv (IntKind.i64.wrap (Int.tdiv (IntKind.i64.wrap (Int.tdiv (IntKind.i64.wrap (Int.tdiv x1 256)) 256)) 256)) 256)) 256)) 256)) 256)) 256)), z⟩)
        refine gg ?_
        refine ci ho (fun ho => ?_) fun ho => ?_
        ·exact mo ho (fun _ z => ⟨(IntKind.u8.wrap (255 - (IntKind.u8.wrap (Int.tmod (IntKind.i64.wrap (Int.tdiv (IntKind.i64.wrap (Int.tdiv (IntKind.i64.wrap (Int.tdiv (IntKind.i64.wrap (Int.tdiv (IntKind.i64.wrap (Int.tdiv (IntKind.i64.wrap (Int.tdiv x1 256)) 256)) 256)) 256)) 256)) 256)) 256)))), z⟩)
        exact mo ho (fun _ z => ⟨(IntKind.u8.wrap (Int.tmod (IntKind.i64.wrap (Int.tdiv (IntKind.i64.wrap (Int.tdiv (IntKind.i64.wrap (Int.tdiv (IntKind.i64.wrap (Int.tdiv (IntKind.i64.wrap (Int.tdiv (IntKind.i64.wrap (Int.tdiv x1 256)) 256)) 256)) 256)) 256)) 256)) 256)), z⟩)
       refine gg ?_
       refine ci ho (fun ho => ?_) fun ho => ?_
       ·exact mo ho (fun _ z => ⟨(IntKind.u8.wrap (255 - (IntKind.u8.wrap (Int.tmod (IntKind.i64.wrap (Int.tdiv (IntKind.i64.wrap (Int.tdiv (IntKind.i64.wrap (Int.tdiv (IntKind.i64.wrap (Int.tdiv (IntKind.i64.wrap (Int.tdiv x1 256)) 256)) 256)) 256)) 256)) 256)))), z⟩)
       exact mo ho (fun _ z => ⟨(IntKind.u8.wrap (Int.tmod (IntKind.i64.wrap (Int.tdiv (IntKind.i64.wrap (Int.tdiv (IntKind.i64.wrap (Int.tdiv (IntKind.i64.wrap (Int.tdiv (IntKind.i64.wrap (Int.tdiv x1 256)) 256)) 256)) 256)) 256)) 256)), z⟩)
      refine gg ?_
      refine ci ho (fun ho => ?_) fun ho => ?_
      ·exact mo ho (fun _ z => ⟨(IntKind.u8.wrap (255 - (IntKind.u8.wrap (Int.tmod (IntKind.i64.wrap (Int.tdiv (IntKind.i64.wrap (Int.tdiv (IntKind.i64.wrap (Int.tdiv (IntKind.i64.wrap (Int.tdiv x1 256)) 256)) 256)) 256)) 256)))), z⟩)
      exact mo ho (fun _ z => ⟨(IntKind.u8.wrap (Int.tmod (IntKind.i64.wrap (Int.tdiv (IntKind.i64.wrap (Int.tdiv (IntKind.i64.wrap (Int.tdiv (IntKind.i64.wrap (Int.tdiv x1 256)) 256)) 256)) 256)) 256)), z⟩)
     refine gg ?_
     refine ci ho (fun ho => ?_) fun ho => ?_
     ·exact mo ho (fun _ z => ⟨(IntKind.u8.wrap (255 - (IntKind.u8.wrap (Int.tmod (IntKind.i64.wrap (Int.tdiv (IntKind.i64.wrap (Int.tdiv (IntKind.i64.wrap (Int.tdiv x1 256)) 256)) 256)) 256)))), z⟩)
     exact mo ho (fun _ z => ⟨(IntKind.u8.wrap (Int.tmod (IntKind.i64.wrap (Int.tdiv (IntKind.i64.wrap (Int.tdiv (IntKind.i64.wrap (Int.tdiv x1 256)) 256)) 256)) 256)), z⟩)
    refine gg ?_
    refine ci ho (fun ho => ?_) fun ho => ?_
    ·exact mo ho (fun _ z => ⟨(IntKind.u8.wrap (255 - (IntKind.u8.wrap (Int.tmod (IntKind.i64.wrap (Int.tdiv (IntKind.i64.wrap (Int.tdiv x1 256)) 256)) 256)))), z⟩)
    exact mo ho (fun _ z => ⟨(IntKind.u8.wrap (Int.tmod (IntKind.i64.wrap (Int.tdiv (IntKind.i64.wrap (Int.tdiv x1 256)) 256)) 256)), z⟩)
   refine gg ?_
   refine ci ho (fun ho => ?_) fun ho => ?_
   ·exact mo ho (fun _ z => ⟨(IntKind.u8.wrap (255 - (IntKind.u8.wrap (Int.tmod (IntKind.i64.wrap (Int.tdiv x1 256)) 256)))), z⟩)
   exact mo ho (fun _ z => ⟨(IntKind.u8.wrap (Int.tmod (IntKind.i64.wrap (Int.tdiv x1 256)) 256)), z⟩)
  refine gg ?_
  refine ci ho (fun ho => ?_) fun ho => ?_
  ·exact mo ho (fun _ z => ⟨(IntKind.u8.wrap (255 - (IntKind.u8.wrap (Int.tmod x1 256)))), z⟩)
  exact mo ho (fun _ z => ⟨(IntKind.u8.wrap (Int.tmod x1 256)), z⟩)
 refine gg ?_
 refine ci ho (fun ho => ?_) fun ho => ?_
 ·refine SP.val (Val.neg rfl) rfl rfl rfl (gg ?_)
  exact mo ho (fun _ z => ⟨(IntKind.i64.wrap (0 - (IntKind.i64.wrap (n_0 + 1)))), z⟩)
 exact mo ho (fun _ z => ⟨n_0, z⟩)
inductive Yx.S where
  | start
  | l1 (x13 : Int) (l15 : List Int) (x17 : Int)
def Yx.F (XQ n_1 : Int) : Yx.S → Option (Yx.S ⊕ ((List Int) × Int))
  | .start => if ((decide (XQ < 1)) || (decide (XQ > 8))) = true then (some (.inr ([], 2))) else (if n_1 < 0 then (some (.inr ([], 11))) else (some (.inl (.l1 n_1 [] 0))))
  | .l1 x13 l15 x17 => if x17 < XQ then (if (l15.length + [IntKind.u8.wrap (Int.tmod x13 256)].length) * 1 ≤ 140737488355328 then (some (.inl (.l1 (IntKind.i64.wrap (Int.tdiv x13 256)) (l15 ++ [IntKind.u8.wrap (Int.tmod x13 256)]) (IntKind.i64.wrap (x17 + 1))))) else none) else (if x13 > 0 then (some (.inr ([], 11))) else (some (.inr (l15, 0))))
def Yx.f (XQ n_1 : Int) : Option ((List Int) × Int) := runF (Yx.F XQ n_1) .start
theorem Yx.ok {XQ n_1} (r) (H : Yx.f XQ n_1 = some r) : Ok Tryz.prog 211 [.int .i64 XQ, .int .i64 n_1] [] fun v => HO.ex fun u0 : Value => HO.pand (v = .tuple #[u0, .int .i64 r.2]) (HO.seps [slO (kInt .u8) 5 u0 r.1]) := by
 refine oq 32 Tryz.func211 fun w hV see pb => ?_
 obtain ⟨m0, o, ho, hr⟩ := rn H
 refine SP.jn 3 [0, 1] 13 (.bool ((decide (XQ < 1)) || (decide (XQ > 8)))) ?_ ?_
 ·refine gg ?_
  refine cb ho (fun ho => ?_) fun ho => ?_
  ·exact fin ho hr ▸ rt (fun _ h => St.selO [0] rfl rfl (St.addO (slO.nil (kInt .u8) 5) h))
  refine ci ho (fun ho => ?_) fun ho => ?_
  ·exact fin ho hr ▸ rt (fun _ h => St.selO [0] rfl rfl (St.addO (slO.nil (kInt .u8) 5) h))
  refine lo ho hr (fun z => ∃ x13 l15 x17 v16, z (.l1 x13 l15 x17) [(0, .int .i64 XQ), (1, .int .i64 x13), (6, v16), (7, .int .i64 x17)] [slO (kInt .u8) 5 v16 l15]) (fun _ z => ⟨n_1, [], 0, (.slice none 0 0), z⟩) ?_ (fun _ hw => (St.addO (slO.nil (kInt .u8) 5) hw))
  rintro _ _ _ ⟨x13, l15, x17, v16, m18, o, _, _, ho, hr, h⟩
  refine en h ?_
  refine ci ho (fun ho => ?_) fun ho => ?_
  ·refine SP.val (Val.rem rfl rfl (by decide)) rfl rfl rfl (gg ?_)
   refine li (h := fun _ => id) (kInt .u8) [IntKind.u8.wrap (Int.tmod x13 256)] fun v19 => ?_
   refine fz 0 ?_
   refine ap 0 0 ho fun v21 ho => ?_
   refine SP.val (Val.quo rfl rfl (by decide)) rfl rfl rfl (gg ?_)
   exact lw ho hr (fun _ z => ⟨(IntKind.i64.wrap (Int.tdiv x13 256)), (l15 ++ [IntKind.u8.wrap (Int.tmod x13 256)]), (IntKind.i64.wrap (x17 + 1)), v21, z⟩)
  refine ci ho (fun ho => ?_) fun ho => ?_
  ·exact fin ho hr ▸ rt (fun _ h => St.selO [0] rfl rfl (St.addO (slO.nil (kInt .u8) 5) h))
  exact fin ho hr ▸ rt (sO [0])
 refine bb 10 (fun hq2 => ?_) fun hq2 => ?_
 ·exact jb (WL hq2)
 exact jb (WM hq2 rfl)
def Vh.f (v_0 : Zn) : Option ((List Int) × Int) :=
  (WS.f v_0).bind fun t3 => if (!t3) = true then (some ([], 30)) else (if v_0.Kind = 1 then ((Zh.f v_0.A).bind fun t7 => if ([1].length + t7.length) * 1 ≤ 140737488355328 then (some ([1] ++ t7, 0)) else none) else ((Yx.f 3 (IntKind.i64.wrap (v_0.A + 1048576))).bind fun t12 => (Yx.f 3 (IntKind.i64.wrap (v_0.B + 1048576))).bind fun t15 => if ([2].length + t12.1.length) * 1 ≤ 140737488355328 then (if (([2] ++ t12.1).length + t15.1.length) * 1 ≤ 140737488355328 then (some (([2] ++ t12.1) ++ t15.1, 0)) else none) else none))
theorem Vh.ok {v_0} (r) (ho : Vh.f v_0 = some r) : Ok Tryz.prog 210 [.agg #[.int .u8 v_0.Kind, .int .i64 v_0.A, .int .i64 v_0.B]] [] fun v => HO.ex fun u0 : Value => HO.pand (v = .tuple #[u0, .int .i64 r.2]) (HO.seps [slO (kInt .u8) 5 u0 r.1]) := by
 refine oq 38 Tryz.func210 fun w hV see pb => ?_
 refine bx fun b1 => ?_
 refine kv WS.ok ho fun t3 ho => ?_
 refine cb ho (fun ho => ?_) fun ho => ?_
 ·exact Option.some.inj ho ▸ rt (fun _ h => St.selO [0] rfl rfl (St.addO (slO.nil (kInt .u8) 5) h))
 refine ci ho (fun ho => ?_) fun ho => ?_
 ·refine li (kInt .u8) [1] fun v5 => ?_
  refine k1 (h := fun _ _ => id) Zh.ok ho fun t7 ho v8 => ?_
  refine fz 0 ?_
  refine ap 0 0 ho fun v10 ho => ?_
  exact Option.some.inj ho ▸ rt (sO [0])
 refine k1 Yx.ok ho fun t12 ho v13 => ?_
 refine k1 Yx.ok ho fun t15 ho v16 => ?_
 refine li (kInt .u8) [2] fun v18 => ?_
 refine fz 2 ?_
 refine ap 0 0 ho fun v20 ho => ?_
 refine fz 1 ?_
 refine ap 0 0 ho fun v22 ho => ?_
 exact Option.some.inj ho ▸ rt (sO [0])
inductive YE.S where
  | start
  | l1 (l16 : List Int) (x18 : Int)
def YE.F (l_0 : List Zn) : YE.S → Option (YE.S ⊕ ((List Int) × Int))
  | .start => (Xh.f l_0).bind fun t2 => if (!t2) = true then (some (.inr ([], 60))) else (some (.inl (.l1 [IntKind.u8.wrap (l_0.length : Int)] 0)))
  | .l1 l16 x18 => if x18 < (l_0.length : Int) then ((elt l_0 x18).bind fun x22 => (Vh.f x22).bind fun t23 => if (l16.length + t23.1.length) * 1 ≤ 140737488355328 then (some (.inl (.l1 (l16 ++ t23.1) (IntKind.i64.wrap (x18 + 1))))) else none) else (some (.inr (l16, 0)))
def YE.f (l_0 : List Zn) : Option ((List Int) × Int) := runF (YE.F l_0) .start
theorem YE.ok {l_0 Y2} (r) (H : YE.f l_0 = some r) : Ok Tryz.prog 156 [Y2] [slP Z5 Y2 l_0] fun v => HO.ex fun u0 : Value => HO.pand (v = .tuple #[u0, .int .i64 r.2]) (HO.seps [slO (kInt .u8) 5 u0 r.1]) := by
 refine oq 33 Tryz.func156 fun w hV see pb => ?_
 obtain ⟨m0, o, ho, hr⟩ := rn H
 refine kv Xh.ok ho fun t2 ho => ?_
 refine cb ho (fun ho => ?_) fun ho => ?_
 ·exact fin ho hr ▸ rt (fun _ h => St.selO [0] rfl rfl (St.addO (slO.nil (kInt .u8) 5) h))
 refine li (kInt .u8) [IntKind.u8.wrap (l_0.length : Int)] fun v4 => ?_
 refine lo ho hr (fun z => ∃ l16 x18 v17, z (.l1 l16 x18) [(0, Y2), (4, v17), (5, .int .i64 x18)] [slO (kInt .u8) 5 v17 l16]) (fun _ z => ⟨[IntKind.u8.wrap (l_0.length : Int)], 0, v4, z⟩) ?_
 rintro _ _ _ ⟨l16, x18, v17, m19, o, _, _, ho, hr, h⟩
 refine en h ?_
 refine ci ho (fun ho => ?_) fun ho => ?_
 ·refine ip 0 ho fun x22 ho p20 => ?_
  refine ld 0 ?_
  refine k1 Vh.ok ho fun t23 ho v24 => ?_
  refine fz 0 ?_
  refine ap 0 0 ho fun v26 ho => ?_
  exact lw ho hr (fun _ z => ⟨(l16 ++ t23.1), (IntKind.i64.wrap (x18 + 1)), v26, z⟩)
 exact fin ho hr ▸ rt (sO [0])
inductive YN.S where
  | start
  | l1 (x18 : Int)
def YN.F (l_0 : List Int) : YN.S → Option (YN.S ⊕ Bool)
  | .start => some (.inl (.l1 0))
  | .l1 x18 => if x18 < (l_0.length : Int) then ((elt l_0 x18).bind fun x22 => (if x22 ≠ 1 then ((elt l_0 x18).bind fun x27 => some (decide (x27 ≠ 2))) else (some false)).bind fun t28 => (if t28 = true then ((elt l_0 x18).bind fun x33 => some (decide (x33 ≠ 3))) else (some false)).bind fun t34 => if t34 = true then (some (.inr false)) else (some (.inl (.l1 (IntKind.i64.wrap (x18 + 1)))))) else (some (.inr true))
def YN.f (l_0 : List Int) : Option Bool := runF (YN.F l_0) .start
theorem YN.ok {l_0 Y2} (r) (H : YN.f l_0 = some r) : Ok Tryz.prog 159 [Y2] [slP (kInt .u8) Y2 l_0] fun v => HO.pure (v = .bool r) := by
 refine oq 29 Tryz.func159 fun w hV see pb => ?_
 obtain ⟨m0, o, ho, hr⟩ := rn H
 refine lo ho hr (fun z => ∃ x18, z (.l1 x18) [(0, Y2), (3, .int .i64 x18)] []) (fun _ z => ⟨0, z⟩) ?_
 rintro _ _ _ ⟨x18, m19, o, _, _, ho, hr, h⟩
 refine en h ?_
 refine ci ho (fun ho => ?_) fun ho => ?_
 ·refine ip 0 ho fun x22 ho p20 => ?_
  refine SP.val (Val.loadP1 see 0 rfl (fun _ _ e => e) Tryz.underlying5 rfl rfl) rfl rfl rfl (gg ?_)
  obtain ⟨t28, Z5C, ho⟩ := bind_some ho
  refine SP.jn 6 [0, 3] 21 (.bool t28) ?_ ?_
  ·clear Z5C
   refine gg ?_
   obtain ⟨t34, Z0b, ho⟩ := bind_some ho
   refine SP.jn 6 [0, 3] 28 (.bool t34) ?_ ?_
   ·clear Z0b
    refine gg ?_
    refine cb ho (fun ho => ?_) fun ho => ?_
    ·exact fin ho hr ▸ rt
    exact lw ho hr (fun _ z => ⟨(IntKind.i64.wrap (x18 + 1)), z⟩)
   refine bc 22 Z0b (fun hq30 ho => ?_) fun hq30 ho => ?_
   ·refine ip 1 ho fun x33 ho p31 => ?_
    refine SP.val (Val.loadP1 see 0 rfl (fun _ _ e => e) Tryz.underlying5 rfl rfl) rfl rfl rfl (gg ?_)
    obtain rfl := Option.some.inj ho
    exact QE.jn fun w2 hw => (St.selP [1, 2] rfl hw)
   obtain rfl := Option.some.inj ho
   exact jn
  refine bi 15 Z5C (fun hq24 ho => ?_) fun hq24 ho => ?_
  ·refine ip 1 ho fun x27 ho p25 => ?_
   refine SP.val (Val.loadP1 see 0 rfl (fun _ _ e => e) Tryz.underlying5 rfl rfl) rfl rfl rfl (gg ?_)
   obtain rfl := Option.some.inj ho
   exact QE.jn fun w2 hw => (St.selP [1, 2] rfl hw)
  obtain rfl := Option.some.inj ho
  exact jn
 exact fin ho hr ▸ rt
def WT.f (m_0 : Zb) : Option Bool :=
  (if ((decide ((m_0.Args.length : Int) > 4)) || (decide ((m_0.Locals.length : Int) > (IntKind.i64.wrap (16 - (m_0.Args.length : Int)))))) = true then (some true) else ((YN.f m_0.Args).bind fun t10 => some (!t10))).bind fun t11 => (if t11 = true then (some true) else ((YN.f m_0.Locals).bind fun t14 => some (!t14))).bind fun t15 => if t15 = true then (some false) else (if ((decide (m_0.Result ≠ 1)) && (decide (m_0.Result ≠ 2))) = true then (some false) else (some ((((((decide (m_0.Fuel ≥ 0)) && (decide (m_0.Fuel ≤ 1048576))) && (decide (m_0.Stack ≥ 0))) && (decide (m_0.Stack ≤ 256))) && (decide (m_0.Heap ≥ 0))) && (decide (m_0.Heap ≤ 1024)))))
theorem WT.ok {m_0 YD Yf YL} (r) (ho : WT.f m_0 = some r) : Ok Tryz.prog 99 [.agg #[YD, Yf, .int .u8 m_0.Result, .bool m_0.Reads, .int .i64 m_0.Fuel, .int .i64 m_0.Stack, .int .i64 m_0.Heap, YL]] [slP (kInt .u8) YD m_0.Args, slP (kInt .u8) Yf m_0.Locals, slP Za YL m_0.Code] fun v => HO.pure (v = .bool r) := by
 refine oq 65 Tryz.func99 fun w hV see pb => ?_
 refine bx fun b4 => ?_
 refine SP.jn 9 [1] 16 (.bool ((decide ((m_0.Args.length : Int) > 4)) || (decide ((m_0.Locals.length : Int) > (IntKind.i64.wrap (16 - (m_0.Args.length : Int))))))) ?_ ?_
 ·refine gg ?_
  obtain ⟨t11, Z09, ho⟩ := bind_some ho
  refine SP.jn 5 [1] 22 (.bool t11) ?_ ?_
  ·clear Z09
   refine gg ?_
   obtain ⟨t15, KL, ho⟩ := bind_some ho
   refine SP.jn 5 [1] 28 (.bool t15) ?_ ?_
   ·clear KL
    refine gg ?_
    refine cb ho (fun ho => ?_) fun ho => ?_
    ·exact Option.some.inj ho ▸ rt
    refine SP.jn 4 [1] 36 (.bool ((decide (m_0.Result ≠ 1)) && (decide (m_0.Result ≠ 2)))) ?_ ?_
    ·refine gg ?_
     refine cb ho (fun ho => ?_) fun ho => ?_
     ·exact Option.some.inj ho ▸ rt
     refine SP.jn 4 [1] 44 (.bool ((decide (m_0.Fuel ≥ 0)) && (decide (m_0.Fuel ≤ 1048576)))) ?_ ?_
     ·refine gg ?_
      refine SP.jn 4 [1] 49 (.bool (((decide (m_0.Fuel ≥ 0)) && (decide (m_0.Fuel ≤ 1048576))) && (decide (m_0.Stack ≥ 0)))) ?_ ?_
      ·refine gg ?_
       refine SP.jn 4 [1] 54 (.bool ((((decide (m_0.Fuel ≥ 0)) && (decide (m_0.Fuel ≤ 1048576))) && (decide (m_0.Stack ≥ 0))) && (decide (m_0.Stack ≤ 256)))) ?_ ?_
       ·refine gg ?_
        refine SP.jn 4 [1] 59 (.bool (((((decide (m_0.Fuel ≥ 0)) && (decide (m_0.Fuel ≤ 1048576))) && (decide (m_0.Stack ≥ 0))) && (decide (m_0.Stack ≤ 256))) && (decide (m_0.Heap ≥ 0)))) ?_ ?_
        ·refine gg ?_
         refine SP.jn 4 [] 64 (.bool ((((((decide (m_0.Fuel ≥ 0)) && (decide (m_0.Fuel ≤ 1048576))) && (decide (m_0.Stack ≥ 0))) && (decide (m_0.Stack ≤ 256))) && (decide (m_0.Heap ≥ 0))) && (decide (m_0.Heap ≤ 1024)))) ?_ ?_
         ·refine gg ?_
          exact Option.some.inj ho ▸ rt
         refine bb 60 (fun hq27 => ?_) fun hq27 => ?_
         ·exact jb (XT hq27 rfl)
         exact jb (XU hq27)
        refine bb 55 (fun hq25 => ?_) fun hq25 => ?_
        ·exact jb (XT hq25 rfl)
        exact jb (XU hq25)
       refine bb 50 (fun hq23 => ?_) fun hq23 => ?_
       ·exact jb (XT hq23 rfl)
       exact jb (XU hq23)
      refine bb 45 (fun hq21 => ?_) fun hq21 => ?_
      ·exact jb (XT hq21 rfl)
      exact jb (XU hq21)
     refine bb 40 (fun hq19 => ?_) fun hq19 => ?_
     ·exact jb (XT hq19 rfl)
     exact jb (XU hq19)
    refine bb 32 (fun hq17 => ?_) fun hq17 => ?_
    ·exact jb (XT hq17 rfl)
    exact jb (XU hq17)
   refine bc 23 KL (fun hq13 ho => ?_) fun hq13 ho => ?_
   ·obtain rfl := Option.some.inj ho
    exact jn
   refine kv YN.ok ho fun t14 ho => ?_
   obtain rfl := Option.some.inj ho
   exact jn
  refine bc 17 Z09 (fun hq9 ho => ?_) fun hq9 ho => ?_
  ·obtain rfl := Option.some.inj ho
   exact jn
  refine kv YN.ok ho fun t10 ho => ?_
  obtain rfl := Option.some.inj ho
  exact jn
 refine bb 7 (fun hq7 => ?_) fun hq7 => ?_
 ·exact jb (WL hq7)
 exact jb (WM hq7 rfl)
def Xt.j1 (m_0 : Zb) (l31 : List Int) : Option ((List Int) × Int) :=
  (Yx.f 3 m_0.Fuel).bind fun t33 => (Yx.f 2 m_0.Stack).bind fun t36 => (Yx.f 2 m_0.Heap).bind fun t39 => if (l31.length + t33.1.length) * 1 ≤ 140737488355328 then (if ((l31 ++ t33.1).length + t36.1.length) * 1 ≤ 140737488355328 then (if (((l31 ++ t33.1) ++ t36.1).length + t39.1.length) * 1 ≤ 140737488355328 then (some (((l31 ++ t33.1) ++ t36.1) ++ t39.1, 0)) else none) else none) else none
def Xt.f (m_0 : Zb) : Option ((List Int) × Int) :=
  (WT.f m_0).bind fun t6 => if (!t6) = true then (some ([], 70)) else (if ([IntKind.u8.wrap (m_0.Args.length : Int)].length + m_0.Args.length) * 1 ≤ 140737488355328 then (if (([IntKind.u8.wrap (m_0.Args.length : Int)] ++ m_0.Args).length + [IntKind.u8.wrap (m_0.Locals.length : Int)].length) * 1 ≤ 140737488355328 then (if ((([IntKind.u8.wrap (m_0.Args.length : Int)] ++ m_0.Args) ++ [IntKind.u8.wrap (m_0.Locals.length : Int)]).length + m_0.Locals.length) * 1 ≤ 140737488355328 then (if (((([IntKind.u8.wrap (m_0.Args.length : Int)] ++ m_0.Args) ++ [IntKind.u8.wrap (m_0.Locals.length : Int)]) ++ m_0.Locals).length + [m_0.Result].length) * 1 ≤ 140737488355328 then (if m_0.Reads = true then (if ((((([IntKind.u8.wrap (m_0.Args.length : Int)] ++ m_0.Args) ++ [IntKind.u8.wrap (m_0.Locals.length : Int)]) ++ m_0.Locals) ++ [m_0.Result]).length + [1].length) * 1 ≤ 140737488355328 then (Xt.j1 m_0 ((((([IntKind.u8.wrap (m_0.Args.length : Int)] ++ m_0.Args) ++ [IntKind.u8.wrap (m_0.Locals.length : Int)]) ++ m_0.Locals) ++ [m_0.Result]) ++ [1])) else none) else (if ((((([IntKind.u8.wrap (m_0.Args.length : Int)] ++ m_0.Args) ++ [IntKind.u8.wrap (m_0.Locals.length : Int)]) ++ m_0.Locals) ++ [m_0.Result]).length + [0].length) * 1 ≤ 140737488355328 then (Xt.j1 m_0 ((((([IntKind.u8.wrap (m_0.Args.length : Int)] ++ m_0.Args) ++ [IntKind.u8.wrap (m_0.Locals.length : Int)]) ++ m_0.Locals) ++ [m_0.Result]) ++ [0])) else none)) else none) else none) else none) else none)
theorem Xt.ok {m_0 YD Yf YL} (r) (ho : Xt.f m_0 = some r) : Ok Tryz.prog 157 [.agg #[YD, Yf, .int .u8 m_0.Result, .bool m_0.Reads, .int .i64 m_0.Fuel, .int .i64 m_0.Stack, .int .i64 m_0.Heap, YL]] [slP (kInt .u8) YD m_0.Args, slP (kInt .u8) Yf m_0.Locals, slP Za YL m_0.Code] fun v => HO.ex fun u0 : Value => HO.pand (v = .tuple #[u0, .int .i64 r.2]) (HO.seps [slO (kInt .u8) 5 u0 r.1]) := by
 refine oq 74 Tryz.func157 fun w hV see pb => ?_
 refine bx fun b4 => ?_
 refine kv WT.ok ho fun t6 ho => ?_
 refine cb ho (fun ho => ?_) fun ho => ?_
 ·exact Option.some.inj ho ▸ rt (fun _ h => St.selO [0] rfl rfl (St.addO (slO.nil (kInt .u8) 5) h))
 refine li (kInt .u8) [IntKind.u8.wrap (m_0.Args.length : Int)] fun v8 => ?_
 refine ap 0 0 ho fun v10 ho => ?_
 refine li (h := fun _ => id) (kInt .u8) [IntKind.u8.wrap (m_0.Locals.length : Int)] fun v12 => ?_
 refine fz 0 ?_
 refine ap 0 0 ho fun v14 ho => ?_
 refine ap 0 2 ho fun v16 ho => ?_
 refine li (h := fun _ => id) (kInt .u8) [m_0.Result] fun v18 => ?_
 refine fz 0 ?_
 refine ap (h := fun _ => id) 0 0 ho fun v20 ho => ?_
 refine go ?_
 refine oi r (fun z => ∃ l31 v32, z (Xt.j1 m_0 l31) [(1, .pointer (some ⟨b4, 0, none⟩)), (4, v32)] [slO (kInt .u8) 5 v32 l31, boxO b4 [YD, Yf, .int .u8 m_0.Result, .bool m_0.Reads, .int .i64 m_0.Fuel, .int .i64 m_0.Stack, .int .i64 m_0.Heap, YL] 34]) ?_ ?_
 ·rintro _ _ ⟨l31, v32, ho, h⟩
  refine en h ?_
  refine k1 Yx.ok ho fun t33 ho v34 => ?_
  refine k1 Yx.ok ho fun t36 ho v37 => ?_
  refine k1 Yx.ok ho fun t39 ho v40 => ?_
  refine fz 2 ?_
  refine ap 2 0 ho fun v42 ho => ?_
  refine fz 1 ?_
  refine ap 1 0 ho fun v44 ho => ?_
  refine fz 0 ?_
  refine ap 0 0 ho fun v46 ho => ?_
  exact Option.some.inj ho ▸ rt (sO [0])
 refine gg ?_
 refine cb ho (fun ho => ?_) fun ho => ?_
 ·refine li (h := fun _ => id) (kInt .u8) [1] fun v22 => ?_
  refine fz 0 ?_
  refine ap 0 0 ho fun v24 ho => ?_
  exact mo ho (fun _ z => ⟨((((([IntKind.u8.wrap (m_0.Args.length : Int)] ++ m_0.Args) ++ [IntKind.u8.wrap (m_0.Locals.length : Int)]) ++ m_0.Locals) ++ [m_0.Result]) ++ [1]), v24, z⟩)
 refine li (h := fun _ => id) (kInt .u8) [0] fun v26 => ?_
 refine fz 0 ?_
 refine ap 0 0 ho fun v28 ho => ?_
 exact mo ho (fun _ z => ⟨((((([IntKind.u8.wrap (m_0.Args.length : Int)] ++ m_0.Args) ++ [IntKind.u8.wrap (m_0.Locals.length : Int)]) ++ m_0.Locals) ++ [m_0.Result]) ++ [0]), v28, z⟩)
def Ug.f (Zg : Int) : Option Bool :=
  some (decide (Zg < 33))
theorem Ug.ok {Zg} (r) (ho : Ug.f Zg = some r) : Ok Tryz.prog 180 [.int .u8 Zg] [] fun v => HO.pure (v = .bool r) := by
 refine oq 5 Tryz.func180 fun w hV see pb => ?_
 exact Option.some.inj ho ▸ rt
def Yb.j3 (Zg : Int) (b3 : Bool) : Option (Int × Int) :=
  if b3 = true then (some (0, 199)) else (if Zg = 32 then (some (0, 255)) else (if Zg = 28 then (some (1, 100)) else ((Ug.f Zg).bind fun t4 => if (!t4) = true then (some (0, (-1))) else (some (0, 0)))))
def Yb.j2 (Zg : Int) (b2 : Bool) : Option (Int × Int) :=
  if b2 = true then (some (0, 3)) else (if Zg = 22 then (some (0, 1024)) else (if Zg = 26 then (Yb.j3 Zg (decide (Zg = 26))) else (if Zg = 27 then (Yb.j3 Zg (decide (Zg = 27))) else (Yb.j3 Zg (decide (Zg = 29))))))
def Yb.j1 (Zg : Int) (b1 : Bool) : Option (Int × Int) :=
  if b1 = true then (some (0, 15)) else (if Zg = 4 then (Yb.j2 Zg (decide (Zg = 4))) else (Yb.j2 Zg (decide (Zg = 5))))
def Yb.f (Zg : Int) : Option (Int × Int) :=
  if Zg = 1 then (some (0, 31)) else (if Zg = 2 then (Yb.j1 Zg (decide (Zg = 2))) else (if Zg = 3 then (Yb.j1 Zg (decide (Zg = 3))) else (Yb.j1 Zg (decide (Zg = 30)))))
theorem Yb.ok {Zg} (r) (ho : Yb.f Zg = some r) : Ok Tryz.prog 213 [.int .u8 Zg] [] fun v => HO.pure (v = .tuple #[.int .i64 r.1, .int .i64 r.2]) := by
 refine oq 27 Tryz.func213 fun w hV see pb => ?_
 refine ci (hf := id) ho (fun ho => ?_) fun ho => ?_
 ·exact Option.some.inj ho ▸ rt
 refine oi r (fun z => ∃ b1, z (Yb.j1 Zg b1) [(0, .int .u8 Zg), (4, .int .u8 Zg), (7, .bool b1)] []) ?_ ?_
 ·rintro _ _ ⟨b1, ho, h⟩
  refine en h ?_
  refine cb (hf := id) ho (fun ho => ?_) fun ho => ?_
  ·exact Option.some.inj ho ▸ rt
  refine oi r (fun z => ∃ b2, z (Yb.j2 Zg b2) [(0, .int .u8 Zg), (4, .int .u8 Zg), (11, .bool b2)] []) ?_ ?_
  ·rintro _ _ ⟨b2, ho, h⟩
   refine en h ?_
   refine cb ho (fun ho => ?_) fun ho => ?_
   ·exact Option.some.inj ho ▸ rt
   refine ci (hf := id) ho (fun ho => ?_) fun ho => ?_
   ·exact Option.some.inj ho ▸ rt
   refine oi r (fun z => ∃ b3, z (Yb.j3 Zg b3) [(0, .int .u8 Zg), (4, .int .u8 Zg), (16, .bool b3)] []) ?_ ?_
   ·rintro _ _ ⟨b3, ho, h⟩
    refine en h ?_
    refine cb ho (fun ho => ?_) fun ho => ?_
    ·exact Option.some.inj ho ▸ rt
    refine ci ho (fun ho => ?_) fun ho => ?_
    ·exact Option.some.inj ho ▸ rt
    refine ci ho (fun ho => ?_) fun ho => ?_
    ·exact Option.some.inj ho ▸ rt
    refine kv Ug.ok ho fun t4 ho => ?_
    refine cb ho (fun ho => ?_) fun ho => ?_
    ·exact Option.some.inj ho ▸ rt
    exact Option.some.inj ho ▸ rt
   refine gg ?_
   refine ci ho (fun ho => ?_) fun ho => ?_
   ·exact mo ho (fun _ z => ⟨(decide (Zg = 26)), z⟩)
   refine ci ho (fun ho => ?_) fun ho => ?_
   ·exact mo ho (fun _ z => ⟨(decide (Zg = 27)), z⟩)
   exact mo ho (fun _ z => ⟨(decide (Zg = 29)), z⟩)
  refine gg ?_
  refine ci ho (fun ho => ?_) fun ho => ?_
  ·exact mo ho (fun _ z => ⟨(decide (Zg = 4)), z⟩)
  exact mo ho (fun _ z => ⟨(decide (Zg = 5)), z⟩)
 refine gg ?_
 refine ci ho (fun ho => ?_) fun ho => ?_
 ·exact mo ho (fun _ z => ⟨(decide (Zg = 2)), z⟩)
 refine ci ho (fun ho => ?_) fun ho => ?_
 ·exact mo ho (fun _ z => ⟨(decide (Zg = 3)), z⟩)
 exact mo ho (fun _ z => ⟨(decide (Zg = 30)), z⟩)
def WU.f (i_0 : Z7) : Option Bool :=
  (Yb.f i_0.Op).bind fun t3 => some (((decide (i_0.B = 0)) && (decide (t3.1 ≤ i_0.A))) && (decide (i_0.A ≤ t3.2)))
theorem WU.ok {i_0} (r) (ho : WU.f i_0 = some r) : Ok Tryz.prog 160 [.agg #[.int .u8 i_0.Op, .int .i64 i_0.A, .int .i64 i_0.B]] [] fun v => HO.pure (v = .bool r) := by
 refine oq 26 Tryz.func160 fun w hV see pb => ?_
 refine bx fun b1 => ?_
 refine kv Yb.ok ho fun t3 ho => ?_
 refine SP.jn 5 [1, 4] 19 (.bool ((decide (i_0.B = 0)) && (decide (t3.1 ≤ i_0.A)))) ?_ ?_
 ·refine gg ?_
  refine SP.jn 5 [] 25 (.bool (((decide (i_0.B = 0)) && (decide (t3.1 ≤ i_0.A))) && (decide (i_0.A ≤ t3.2)))) ?_ ?_
  ·refine gg ?_
   exact Option.some.inj ho ▸ rt
  refine bb 20 (fun hq7 => ?_) fun hq7 => ?_
  ·exact jb (XT hq7 rfl)
  exact jb (XU hq7)
 refine bb 14 (fun hq5 => ?_) fun hq5 => ?_
 ·exact jb (XT hq5 rfl)
 exact jb (XU hq5)
inductive Xi.S where
  | start
  | l1 (x11 : Int)
def Xi.F (l_0 : List Z7) : Xi.S → Option (Xi.S ⊕ Bool)
  | .start => some (.inl (.l1 0))
  | .l1 x11 => if ((decide (x11 < (l_0.length : Int))) && (decide (x11 ≤ 200))) = true then ((elt l_0 x11).bind fun x17 => (WU.f x17).bind fun t18 => if (!t18) = true then (some (.inr false)) else (some (.inl (.l1 (IntKind.i64.wrap (x11 + 1)))))) else (some (.inr ((decide ((l_0.length : Int) ≥ 1)) && (decide ((l_0.length : Int) ≤ 200)))))
def Xi.f (l_0 : List Z7) : Option Bool := runF (Xi.F l_0) .start
theorem Xi.ok {l_0 Y2} (r) (H : Xi.f l_0 = some r) : Ok Tryz.prog 212 [Y2] [slP Za Y2 l_0] fun v => HO.pure (v = .bool r) := by
 refine oq 28 Tryz.func212 fun w hV see pb => ?_
 obtain ⟨m0, o, ho, hr⟩ := rn H
 refine lo ho hr (fun z => ∃ x11, z (.l1 x11) [(0, Y2), (3, .int .i64 x11)] []) (fun _ z => ⟨0, z⟩) ?_
 rintro _ _ _ ⟨x11, m12, o, _, _, ho, hr, h⟩
 refine en h ?_
 refine SP.jn 3 [0, 3] 11 (.bool ((decide (x11 < (l_0.length : Int))) && (decide (x11 ≤ 200)))) ?_ ?_
 ·refine gg ?_
  refine cb ho (fun ho => ?_) fun ho => ?_
  ·refine ip 0 ho fun x17 ho p15 => ?_
   refine ld 0 ?_
   refine kv WU.ok ho fun t18 ho => ?_
   refine cb ho (fun ho => ?_) fun ho => ?_
   ·exact fin ho hr ▸ rt
   exact lw ho hr (fun _ z => ⟨(IntKind.i64.wrap (x11 + 1)), z⟩)
  refine SP.jn 4 [] 27 (.bool ((decide ((l_0.length : Int) ≥ 1)) && (decide ((l_0.length : Int) ≤ 200)))) ?_ ?_
  ·refine gg ?_
   exact fin ho hr ▸ rt
  refine bb 23 (fun hq20 => ?_) fun hq20 => ?_
  ·exact jb (XT hq20 rfl)
  exact jb (XU hq20)
 refine bb 8 (fun hq14 => ?_) fun hq14 => ?_
 ·exact jb (XT hq14 rfl)
 exact jb (XU hq14)
def Vu.f (Zg : Int) : Option Bool :=
  (Yb.f Zg).bind fun t1 => some (decide (t1.2 > 0))
theorem Vu.ok {Zg} (r) (ho : Vu.f Zg = some r) : Ok Tryz.prog 181 [.int .u8 Zg] [] fun v => HO.pure (v = .bool r) := by
 refine oq 12 Tryz.func181 fun w hV see pb => ?_
 refine kv Yb.ok ho fun t1 ho => ?_
 exact Option.some.inj ho ▸ rt
inductive Ya.S where
  | start
  | l1 (l47 : List Int) (x49 : Int)
def Ya.j1 (l_0 : List Z7) (x49 : Int) (l87 : List Int) : Option (Ya.S ⊕ ((List Int) × Int)) :=
  some (.inl (.l1 l87 (IntKind.i64.wrap (x49 + 1))))
def Ya.F (l_0 : List Z7) : Ya.S → Option (Ya.S ⊕ ((List Int) × Int))
  | .start => (Xi.f l_0).bind fun t2 => if (!t2) = true then (some (.inr ([], 40))) else (some (.inl (.l1 [IntKind.u8.wrap (l_0.length : Int)] 0)))
  | .l1 l47 x49 => if x49 < (l_0.length : Int) then ((elt l_0 x49).bind fun x53 => if (l47.length + [x53.Op].length) * 1 ≤ 140737488355328 then ((elt l_0 x49).bind fun x62 => (Vu.f x62.Op).bind fun t65 => if t65 = true then ((elt l_0 x49).bind fun x68 => (elt l_0 x49).bind fun x74 => if ((l47 ++ [x53.Op]).length + [IntKind.u8.wrap (Int.tmod x68.A 256), IntKind.u8.wrap (IntKind.i64.wrap (Int.tdiv x74.A 256))].length) * 1 ≤ 140737488355328 then (Ya.j1 l_0 x49 ((l47 ++ [x53.Op]) ++ [IntKind.u8.wrap (Int.tmod x68.A 256), IntKind.u8.wrap (IntKind.i64.wrap (Int.tdiv x74.A 256))])) else none) else (Ya.j1 l_0 x49 (l47 ++ [x53.Op]))) else none) else (some (.inr (l47, 0)))
def Ya.f (l_0 : List Z7) : Option ((List Int) × Int) := runF (Ya.F l_0) .start
theorem Ya.ok {l_0 Y2} (r) (H : Ya.f l_0 = some r) : Ok Tryz.prog 158 [Y2] [slP Za Y2 l_0] fun v => HO.ex fun u0 : Value => HO.pand (v = .tuple #[u0, .int .i64 r.2]) (HO.seps [slO (kInt .u8) 5 u0 r.1]) := by
 refine oq 51 Tryz.func158 fun w hV see pb => ?_
 obtain ⟨m0, o, ho, hr⟩ := rn H
 refine kv Xi.ok ho fun t2 ho => ?_
 refine cb ho (fun ho => ?_) fun ho => ?_
 ·exact fin ho hr ▸ rt (fun _ h => St.selO [0] rfl rfl (St.addO (slO.nil (kInt .u8) 5) h))
 refine li (kInt .u8) [IntKind.u8.wrap (l_0.length : Int)] fun v4 => ?_
 refine lo ho hr (fun z => ∃ l47 x49 v48, z (.l1 l47 x49) [(0, Y2), (4, v48), (5, .int .i64 x49)] [slO (kInt .u8) 5 v48 l47]) (fun _ z => ⟨[IntKind.u8.wrap (l_0.length : Int)], 0, v4, z⟩) ?_
 rintro _ _ _ ⟨l47, x49, v48, m50, o, _, _, ho, hr, h⟩
 refine en h ?_
 refine ci (ht := id) ho (fun ho => ?_) fun ho => ?_
 ·refine go ?_
  refine ji hr (fun z => ∃ l87 v88, z (Ya.j1 l_0 x49 l87) [(0, Y2), (4, v88), (5, .int .i64 x49)] [slO (kInt .u8) 5 v88 l87]) ?_ ?_
  ·rintro _ _ ⟨l87, v88, m89, o, _, ho, hr, h⟩
   refine en h ?_
   exact lw ho hr (fun _ z => ⟨l87, (IntKind.i64.wrap (x49 + 1)), v88, z⟩)
  refine gg ?_
  refine ip 0 ho fun x53 ho p51 => ?_
  refine SP.fieldP see 0 rfl Tryz.underlying43 rfl sz5.h Za.U1 rfl rfl rfl (fun p54 => ?_)
  refine SP.val (Val.loadP1 see 0 rfl (fun _ _ e => e) Tryz.underlying5 rfl rfl) rfl rfl rfl ?_
  refine li (h := fun _ => id) (kInt .u8) [x53.Op] fun v56 => ?_
  refine fz 0 ?_
  refine ap 0 0 ho fun v58 ho => ?_
  refine ip 3 ho fun x62 ho p60 => ?_
  refine SP.fieldP see 0 rfl Tryz.underlying43 rfl sz5.h Za.U1 rfl rfl rfl (fun p63 => ?_)
  refine SP.val (Val.loadP1 see 0 rfl (fun _ _ e => e) Tryz.underlying5 rfl rfl) rfl rfl rfl ?_
  refine kv Vu.ok ho fun t65 ho => ?_
  refine cb ho (fun ho => ?_) fun ho => ?_
  ·refine dr ?_
   refine ge 5 ho fun x68 ho p66 Z1B => ?_
   refine DA.ghost (fun w2 h => h.fieldE see 0 rfl Za.Uf) (fun p69 Z58 => ?_)
   refine gu 0 ?_
   refine ge 8 ho fun x74 ho p72 Z9J => ?_
   refine DA.ghost (fun w2 h => h.fieldE see 0 rfl Za.Uf) (fun p75 Z9K => ?_)
   refine gu 0 ?_
   refine DA.ph 0 16 ?_
   refine DT.tk 0 ?_
   refine DT.tk 1 ?_
   refine DT.tk 2 ?_
   refine DT.tv 3 rfl (Val.ie rfl rfl Z1B) ?_
   refine DT.tv 4 rfl (Val.fe rfl Z58) ?_
   refine tk 5 ?_
   refine DT.tv 6 rfl (Val.rem rfl rfl (by decide)) ?_
   refine tk 7 ?_
   refine DT.tk 8 ?_
   refine DT.tk 9 ?_
   refine DT.tv 10 rfl (Val.ie rfl rfl Z9J) ?_
   refine DT.tv 11 rfl (Val.fe rfl Z9K) ?_
   refine tk 12 ?_
   refine DT.tv 13 rfl (Val.quo rfl rfl (by decide)) ?_
   refine tk 14 ?_
   refine DT.one 15 rfl (by kernel_rfl) rfl ?_
   refine li (kInt .u8) [IntKind.u8.wrap (Int.tmod x68.A 256), IntKind.u8.wrap (IntKind.i64.wrap (Int.tdiv x74.A 256))] fun v82 => ?_
   refine QE.atT (fun w2 hw => (St.selO [1] rfl rfl hw)) ?_
   refine dn ?_
   refine d1 (h := id) 16 ?_
   refine fz 0 ?_
   refine ap 0 0 ho fun v84 ho => ?_
   refine d1 17 ?_
   refine dz ?_
   exact mi ho hr (fun _ z => ⟨((l47 ++ [x53.Op]) ++ [IntKind.u8.wrap (Int.tmod x68.A 256), IntKind.u8.wrap (IntKind.i64.wrap (Int.tdiv x74.A 256))]), v84, z⟩)
  exact mi ho hr (fun _ z => ⟨(l47 ++ [x53.Op]), v58, z⟩)
 exact fin ho hr ▸ rt (sO [0])
inductive ZH.S where
  | start
  | l1 (l70 : List Int) (x72 : Int)
def ZH.j1 (m_0 : Z9) (l111 : List Int) : Option (ZH.S ⊕ ((List Int) × Int)) :=
  if (l111.length : Int) > 2000 then (some (.inr ([], 3))) else (some (.inr (l111, 0)))
def ZH.F (m_0 : Z9) : ZH.S → Option (ZH.S ⊕ ((List Int) × Int))
  | .start => if ((((decide ((m_0.Zj.length : Int) > 4)) || (decide ((m_0.Methods.length : Int) > 16))) || (decide (m_0.Zd < (-1)))) || (decide (m_0.Zd ≥ (m_0.Methods.length : Int)))) = true then (some (.inr ([], 80))) else ((YE.f m_0.Zj).bind fun t13 => if t13.2 ≠ 0 then (some (.inr ([], t13.2))) else ((YE.f m_0.Pool).bind fun t17 => if t17.2 ≠ 0 then (some (.inr ([], t17.2))) else (if (t13.1.length + t17.1.length) * 1 ≤ 140737488355328 then (if ((t13.1 ++ t17.1).length + [IntKind.u8.wrap (m_0.Methods.length : Int)].length) * 1 ≤ 140737488355328 then (some (.inl (.l1 ((t13.1 ++ t17.1) ++ [IntKind.u8.wrap (m_0.Methods.length : Int)]) 0))) else none) else none)))
  | .l1 l70 x72 => if x72 < (m_0.Methods.length : Int) then ((elt m_0.Methods x72).bind fun x76 => (Xt.f x76).bind fun t83 => if t83.2 ≠ 0 then (some (.inr ([], t83.2))) else ((elt m_0.Methods x72).bind fun x89 => (Ya.f x89.Code).bind fun t94 => if t94.2 ≠ 0 then (some (.inr ([], t94.2))) else (if (l70.length + t83.1.length) * 1 ≤ 140737488355328 then (if ((l70 ++ t83.1).length + t94.1.length) * 1 ≤ 140737488355328 then (some (.inl (.l1 ((l70 ++ t83.1) ++ t94.1) (IntKind.i64.wrap (x72 + 1))))) else none) else none))) else (if m_0.Zd < 0 then (if (l70.length + [255].length) * 1 ≤ 140737488355328 then (ZH.j1 m_0 (l70 ++ [255])) else none) else (if (l70.length + [IntKind.u8.wrap m_0.Zd].length) * 1 ≤ 140737488355328 then (ZH.j1 m_0 (l70 ++ [IntKind.u8.wrap m_0.Zd])) else none))
def ZH.f (m_0 : Z9) : Option ((List Int) × Int) := runF (ZH.F m_0) .start
theorem ZH.ok {m_0 Z4 Z6 Z0} (r) (H : ZH.f m_0 = some r) : Ok Tryz.prog 98 [.agg #[Z4, Z6, Z0, .int .i64 m_0.Zd]] [slP Z5 Z4 m_0.Zj, slP Z5 Z6 m_0.Pool, slP Z8 Z0 m_0.Methods] fun v => HO.ex fun u0 : Value => HO.pand (v = .tuple #[u0, .int .i64 r.2]) (HO.seps [slO (kInt .u8) 5 u0 r.1]) := by
 refine oq 117 Tryz.func98 fun w hV see pb => ?_
 obtain ⟨m0, o, ho, hr⟩ := rn H
 refine bx fun b4 => ?_
 refine SP.jn 5 [1] 21 (.bool ((decide ((m_0.Zj.length : Int) > 4)) || (decide ((m_0.Methods.length : Int) > 16)))) ?_ ?_
 ·refine gg ?_
  refine SP.jn 4 [1] 26 (.bool (((decide ((m_0.Zj.length : Int) > 4)) || (decide ((m_0.Methods.length : Int) > 16))) || (decide (m_0.Zd < (-1))))) ?_ ?_
  ·refine gg ?_
   refine SP.jn 7 [1] 34 (.bool ((((decide ((m_0.Zj.length : Int) > 4)) || (decide ((m_0.Methods.length : Int) > 16))) || (decide (m_0.Zd < (-1)))) || (decide (m_0.Zd ≥ (m_0.Methods.length : Int))))) ?_ ?_
   ·refine gg ?_
    refine cb ho (fun ho => ?_) fun ho => ?_
    ·exact fin ho hr ▸ rt (fun _ h => St.selO [0] rfl rfl (St.addO (slO.nil (kInt .u8) 5) h))
    refine k1 YE.ok ho fun t13 ho v14 => ?_
    refine ci ho (fun ho => ?_) fun ho => ?_
    ·exact fin ho hr ▸ rt (fun _ h => St.selO [0] rfl rfl (St.addO (slO.nil (kInt .u8) 5) h))
    refine k1 YE.ok ho fun t17 ho v18 => ?_
    refine ci ho (fun ho => ?_) fun ho => ?_
    ·exact fin ho hr ▸ rt (fun _ h => St.selO [0] rfl rfl (St.addO (slO.nil (kInt .u8) 5) h))
    refine fz 0 ?_
    refine ap 0 0 ho fun v21 ho => ?_
    refine li (h := fun _ => id) (kInt .u8) [IntKind.u8.wrap (m_0.Methods.length : Int)] fun v23 => ?_
    refine fz 0 ?_
    refine ap 0 0 ho fun v25 ho => ?_
    refine lo ho hr (fun z => ∃ l70 x72 v71, z (.l1 l70 x72) [(1, .pointer (some ⟨b4, 0, none⟩)), (4, v71), (7, .int .i64 x72)] [slO (kInt .u8) 5 v71 l70, boxO b4 [Z4, Z6, Z0, .int .i64 m_0.Zd] 25]) (fun _ z => ⟨((t13.1 ++ t17.1) ++ [IntKind.u8.wrap (m_0.Methods.length : Int)]), 0, v25, z⟩) ?_
    rintro _ _ _ ⟨l70, x72, v71, m73, o, _, _, ho, hr, h⟩
    refine en h ?_
    refine ci (hf := id) ho (fun ho => ?_) fun ho => ?_
    ·refine ip 2 ho fun x76 ho p74 => ?_
     refine Z8.load see 0 rfl Tryz.underlying34 rfl sz34.h rfl rfl rfl (fun v77 v79 v81 => ?_)
     refine k1 Xt.ok ho fun t83 ho v84 => ?_
     refine ci ho (fun ho => ?_) fun ho => ?_
     ·exact fin ho hr ▸ rt (fun _ h => St.selO [0] rfl rfl (St.addO (slO.nil (kInt .u8) 5) h))
     refine ip 6 ho fun x89 ho p87 => ?_
     refine SP.fieldP see 0 rfl Tryz.underlying34 rfl sz32.h Z8.Td rfl rfl rfl (fun p90 => ?_)
     refine SP.loadPS see 0 rfl Tryz.underlying32 rfl rfl rfl (fun v92 => ?_)
     refine k1 Ya.ok ho fun t94 ho v95 => ?_
     refine ci ho (fun ho => ?_) fun ho => ?_
     ·exact fin ho hr ▸ rt (fun _ h => St.selO [0] rfl rfl (St.addO (slO.nil (kInt .u8) 5) h))
     refine fz 1 ?_
     refine ap 1 0 ho fun v98 ho => ?_
     refine fz 0 ?_
     refine ap 0 0 ho fun v100 ho => ?_
     exact lw ho hr (fun _ z => ⟨((l70 ++ t83.1) ++ t94.1), (IntKind.i64.wrap (x72 + 1)), v100, z⟩)
    refine go ?_
    refine ji hr (fun z => ∃ l111 v112, z (ZH.j1 m_0 l111) [(4, v112)] [slO (kInt .u8) 5 v112 l111]) ?_ ?_ (hb := pe [])
    ·rintro _ _ ⟨l111, v112, m113, o, _, ho, hr, h⟩
     refine en h ?_
     refine ci ho (fun ho => ?_) fun ho => ?_
     ·exact fin ho hr ▸ rt (fun _ h => St.selO [0] rfl rfl (St.addO (slO.nil (kInt .u8) 5) h))
     exact fin ho hr ▸ rt (sO [0])
    refine gg ?_
    refine ci ho (fun ho => ?_) fun ho => ?_
    ·refine li (h := fun _ => id) (kInt .u8) [255] fun v102 => ?_
     refine fz 0 ?_
     refine ap 0 0 ho fun v104 ho => ?_
     exact mi ho hr (fun _ z => ⟨(l70 ++ [255]), v104, z⟩) (sO [0])
    refine li (h := fun _ => id) (kInt .u8) [IntKind.u8.wrap m_0.Zd] fun v106 => ?_
    refine fz 0 ?_
    refine ap 0 0 ho fun v108 ho => ?_
    exact mi ho hr (fun _ z => ⟨(l70 ++ [IntKind.u8.wrap m_0.Zd]), v108, z⟩) (sO [0])
   refine bb 27 (fun hq11 => ?_) fun hq11 => ?_
   ·exact jb (WL hq11)
   exact jb (WM hq11 rfl)
  refine bb 22 (fun hq9 => ?_) fun hq9 => ?_
  ·exact jb (WL hq9)
  exact jb (WM hq9 rfl)
 refine bb 16 (fun hq7 => ?_) fun hq7 => ?_
 ·exact jb (WL hq7)
 exact jb (WM hq7 rfl)
def WV.f (m_0 : Z9) : Option Int :=
  (ZH.f m_0).bind fun t6 => some t6.2
theorem WV.ok {m_0 Z4 Z6 Z0} (r) (ho : WV.f m_0 = some r) : Ok Tryz.prog 50 [.agg #[Z4, Z6, Z0, .int .i64 m_0.Zd]] [slP Z5 Z4 m_0.Zj, slP Z5 Z6 m_0.Pool, slP Z8 Z0 m_0.Methods] fun v => HO.pure (v = .int .i64 r) := by
 refine oq 11 Tryz.func50 fun w hV see pb => ?_
 refine bx fun b4 => ?_
 refine k1 ZH.ok ho fun t6 ho v7 => ?_
 exact Option.some.inj ho ▸ rt
inductive Yk.S where
  | start
  | l1 (x11 : Int)
def Yk.F (m_0 : Zb) : Yk.S → Option (Yk.S ⊕ Bool)
  | .start => some (.inl (.l1 0))
  | .l1 x11 => if x11 < (m_0.Args.length : Int) then ((elt m_0.Args x11).bind fun x15 => if x15 = 3 then (some (.inr false)) else (some (.inl (.l1 (IntKind.i64.wrap (x11 + 1)))))) else ((WT.f m_0).bind fun t16 => some (.inr t16))
def Yk.f (m_0 : Zb) : Option Bool := runF (Yk.F m_0) .start
theorem Yk.ok {m_0 YD Yf YL} (r) (H : Yk.f m_0 = some r) : Ok Tryz.prog 51 [.agg #[YD, Yf, .int .u8 m_0.Result, .bool m_0.Reads, .int .i64 m_0.Fuel, .int .i64 m_0.Stack, .int .i64 m_0.Heap, YL]] [slP (kInt .u8) YD m_0.Args, slP (kInt .u8) Yf m_0.Locals, slP Za YL m_0.Code] fun v => HO.pure (v = .bool r) := by
 refine oq 19 Tryz.func51 fun w hV see pb => ?_
 obtain ⟨m0, o, ho, hr⟩ := rn H
 refine bx fun b4 => ?_
 refine lo ho hr (fun z => ∃ x11, z (.l1 x11) [(1, .pointer (some ⟨b4, 0, none⟩)), (3, .int .i64 x11)] [boxO b4 [YD, Yf, .int .u8 m_0.Result, .bool m_0.Reads, .int .i64 m_0.Fuel, .int .i64 m_0.Stack, .int .i64 m_0.Heap, YL] 34]) (fun _ z => ⟨0, z⟩) ?_
 rintro _ _ _ ⟨x11, m12, o, _, _, ho, hr, h⟩
 refine en h ?_
 refine ci ho (fun ho => ?_) fun ho => ?_
 ·refine ip 0 ho fun x15 ho p13 => ?_
  refine SP.val (Val.loadP1 see 0 rfl (fun _ _ e => e) Tryz.underlying5 rfl rfl) rfl rfl rfl (gg ?_)
  refine ci ho (fun ho => ?_) fun ho => ?_
  ·exact fin ho hr ▸ rt
  exact lw ho hr (fun _ z => ⟨(IntKind.i64.wrap (x11 + 1)), z⟩)
 refine kv WT.ok ho fun t16 ho => ?_
 exact fin ho hr ▸ rt
inductive Zy.S where
  | start
  | l1 (l151 : List Zr) (x153 : Int)
  | l2 (x153 : Int) (l190 : List Zr) (x192 x193 : Int)
  | l3 (l151 : List Zr) (x266 : Int)
def Zy.j1 (l_0 : List Z7) (x153 : Int) (l235 : List Zr) : Option (Zy.S ⊕ ((List Zr) × Bool)) :=
  some (.inl (.l1 l235 (IntKind.i64.wrap (x153 + 1))))
def Zy.j2 (l_0 : List Z7) (x153 x193 : Int) (l218 : List Zr) (x220 : Int) : Option (Zy.S ⊕ ((List Zr) × Bool)) :=
  some (.inl (.l2 x153 l218 x220 (IntKind.i64.wrap (x193 + 1))))
def Zy.F (l_0 : List Z7) : Zy.S → Option (Zy.S ⊕ ((List Zr) × Bool))
  | .start => some (.inl (.l1 [] 0))
  | .l1 l151 x153 => if x153 < (l_0.length : Int) then ((elt l_0 x153).bind fun x157 => if x157.Op ≠ 28 then (Zy.j1 l_0 x153 l151) else (some (.inl (.l2 x153 l151 0 0)))) else (some (.inl (.l3 l151 0)))
  | .l2 x153 l190 x192 x193 => if x193 < (l_0.length : Int) then ((elt l_0 x193).bind fun x197 => (if x197.Op = 29 then ((elt l_0 x193).bind fun x204 => some (decide (x204.A = x153))) else (some false)).bind fun t207 => if t207 = true then ((elt l_0 x153).bind fun x210 => if (l190.length + [(⟨x153, x193, x210.A⟩ : Zr)].length) * 24 ≤ 140737488355328 then (Zy.j2 l_0 x153 x193 (l190 ++ [(⟨x153, x193, x210.A⟩ : Zr)]) (IntKind.i64.wrap (x192 + 1))) else none) else (Zy.j2 l_0 x153 x193 l190 x192)) else ((if x192 ≠ 1 then (some true) else ((elt l190 (IntKind.i64.wrap ((l190.length : Int) - 1))).bind fun x225 => some (decide (x225.To < x153)))).bind fun t227 => if t227 = true then (some (.inr ([], false))) else (Zy.j1 l_0 x153 l190))
  | .l3 l151 x266 => if x266 < (l_0.length : Int) then ((elt l_0 x266).bind fun x270 => (if x270.Op = 29 then ((elt l_0 x266).bind fun x277 => (if x277.A ≥ (l_0.length : Int) then (some true) else ((elt l_0 x266).bind fun x284 => (elt l_0 x284.A).bind fun x289 => some (decide (x289.Op ≠ 28)))).bind fun t292 => some t292) else (some false)).bind fun t293 => if t293 = true then (some (.inr ([], false))) else (some (.inl (.l3 l151 (IntKind.i64.wrap (x266 + 1)))))) else (some (.inr (l151, true)))
def Zy.f (l_0 : List Z7) : Option ((List Zr) × Bool) := runF (Zy.F l_0) .start
theorem Zy.ok {l_0 Y2} (r) (H : Zy.f l_0 = some r) : Ok Tryz.prog 161 [Y2] [slP Za Y2 l_0] fun v => HO.ex fun u0 : Value => HO.pand (v = .tuple #[u0, .bool r.2]) (HO.seps [slO ZJ 218 u0 r.1]) := by
 refine oq 103 Tryz.func161 fun w hV see pb => ?_
 obtain ⟨m0, o, ho, hr⟩ := rn H
 refine lo ho hr (fun z => ∃ l151 x153 v152, z (.l1 l151 x153) [(0, Y2), (4, v152), (5, .int .i64 x153)] [slO ZJ 218 v152 l151]) (fun _ z => ⟨[], 0, (.slice none 0 0), z⟩) ?_ (fun _ hw => (St.addO (slO.nil ZJ 218) hw))
 rintro _ _ _ ⟨l151, x153, v152, m154, o, _, _, ho, hr, h⟩
 refine en h ?_
 refine ci (ht := id) ho (fun ho => ?_) fun ho => ?_
 ·refine go ?_
  refine ji hr (fun z => ∃ l235 v236, z (Zy.j1 l_0 x153 l235) [(0, Y2), (4, v236), (5, .int .i64 x153)] [slO ZJ 218 v236 l235]) ?_ ?_
  ·rintro _ _ ⟨l235, v236, m237, o, _, ho, hr, h⟩
   refine en h ?_
   exact lw ho hr (fun _ z => ⟨l235, (IntKind.i64.wrap (x153 + 1)), v236, z⟩)
  refine gg ?_
  refine ip 0 ho fun x157 ho p155 => ?_
  refine SP.fieldP see 0 rfl Tryz.underlying43 rfl sz5.h Za.U1 rfl rfl rfl (fun p158 => ?_)
  refine SP.val (Val.loadP1 see 0 rfl (fun _ _ e => e) Tryz.underlying5 rfl rfl) rfl rfl rfl (gg ?_)
  refine ci ho (fun ho => ?_) fun ho => ?_
  ·exact mi ho hr (fun _ z => ⟨l151, v152, z⟩)
  refine lo ho hr (fun z => ∃ l190 x192 x193 v191, z (.l2 x153 l190 x192 x193) [(0, Y2), (4, v191), (5, .int .i64 x153), (6, .int .i64 x192), (7, .int .i64 x193)] [slO ZJ 218 v191 l190]) (fun _ z => ⟨l151, 0, 0, v152, z⟩) ?_
  rintro _ _ _ ⟨l190, x192, x193, v191, m194, o, _, _, ho, hr, h⟩
  refine en h ?_
  refine ci (ht := id) ho (fun ho => ?_) fun ho => ?_
  ·refine go ?_
   refine ji hr (fun z => ∃ l218 x220 v219, z (Zy.j2 l_0 x153 x193 l218 x220) [(0, Y2), (4, v219), (5, .int .i64 x153), (6, .int .i64 x220), (7, .int .i64 x193)] [slO ZJ 218 v219 l218]) ?_ ?_
   ·rintro _ _ ⟨l218, x220, v219, m221, o, _, ho, hr, h⟩
    refine en h ?_
    exact lw ho hr (fun _ z => ⟨l218, x220, (IntKind.i64.wrap (x193 + 1)), v219, z⟩)
   refine gg ?_
   refine ip 0 ho fun x197 ho p195 => ?_
   refine SP.fieldP see 0 rfl Tryz.underlying43 rfl sz5.h Za.U1 rfl rfl rfl (fun p198 => ?_)
   refine SP.val (Val.loadP1 see 0 rfl (fun _ _ e => e) Tryz.underlying5 rfl rfl) rfl rfl rfl (gg ?_)
   obtain ⟨t207, Z4w, ho⟩ := bind_some ho
   refine SP.jn 8 [0, 4, 5, 6, 7] 41 (.bool t207) ?_ ?_
   ·clear Z4w
    refine gg ?_
    refine cb ho (fun ho => ?_) fun ho => ?_
    ·refine ip 2 ho fun x210 ho p208 => ?_
     refine SP.fieldP see 0 rfl Tryz.underlying43 rfl sz3.h Za.Uf rfl rfl rfl (fun p211 => ?_)
     refine SP.val (Val.loadP1 see 0 rfl (fun _ _ e => e) Tryz.underlying3 rfl rfl) rfl rfl rfl ?_
     refine bd [.int .i64 x153, .int .i64 x193, .int .i64 x210.A] ?_
     refine li (h := fun _ => id) ZJ [(⟨x153, x193, x210.A⟩ : Zr)] fun v213 => ?_
     refine fz 0 ?_
     refine ap 0 0 ho fun v215 ho => ?_
     exact mi ho hr (fun _ z => ⟨(l190 ++ [(⟨x153, x193, x210.A⟩ : Zr)]), (IntKind.i64.wrap (x192 + 1)), v215, z⟩)
    exact mi ho hr (fun _ z => ⟨l190, x192, v191, z⟩)
   refine bi 33 Z4w (fun hq201 ho => ?_) fun hq201 ho => ?_
   ·refine ip 2 ho fun x204 ho p202 => ?_
    refine SP.fieldP see 0 rfl Tryz.underlying43 rfl sz3.h Za.Uf rfl rfl rfl (fun p205 => ?_)
    refine SP.val (Val.loadP1 see 0 rfl (fun _ _ e => e) Tryz.underlying3 rfl rfl) rfl rfl rfl (gg ?_)
    obtain rfl := Option.some.inj ho
    exact QE.jn fun w2 hw => (St.selP [2, 3, 4] rfl hw)
   obtain rfl := Option.some.inj ho
   exact jn
  obtain ⟨t227, Z4x, ho⟩ := bind_some ho
  refine SP.jn 10 [0, 4, 5] 67 (.bool t227) ?_ ?_
  ·clear Z4x
   refine gg ?_
   refine cb ho (fun ho => ?_) fun ho => ?_
   ·exact fin ho hr ▸ rt (fun _ h => St.selO [0] rfl rfl (St.addO (slO.nil ZJ 218) h))
   exact mi ho hr (fun _ z => ⟨l190, v191, z⟩)
  refine bi 57 Z4x (fun hq223 ho => ?_) fun hq223 ho => ?_
  ·obtain rfl := Option.some.inj ho
   exact jn
  obtain ⟨x225, Z2c, ho⟩ := YG ho
  refine SP.indexW (fun w2 hw => slO.whole (St.own 0 rfl see.sub see.dj hw)) Tryz.underlying151 sz218.h Z2c.1 Z2c.2 rfl rfl rfl rfl (fun p224 Z8K => ?_)
  refine SP.fieldO Z8K Tryz.underlying218 rfl sz3.h rfl rfl rfl (fun p226 Z8L => ?_)
  refine SP.val (Val.loadW1 (off := 1) (k := ZJ) (fun w2 hw => slO.whole (St.own 0 rfl see.sub see.dj hw)) Z2c.2 Z8L (fun _ _ e => by subst e; rfl) Tryz.underlying3 rfl rfl) rfl rfl rfl (gg ?_)
  obtain rfl := Option.some.inj ho
  exact jn
 refine lo ho hr (fun z => ∃ x266, z (.l3 l151 x266) [(0, Y2), (4, v152), (8, .int .i64 x266)] [slO ZJ 218 v152 l151]) (fun _ z => ⟨0, z⟩) ?_
 rintro _ _ _ ⟨x266, m267, o, _, _, ho, hr, h⟩
 refine en h ?_
 refine ci ho (fun ho => ?_) fun ho => ?_
 ·refine ip 0 ho fun x270 ho p268 => ?_
  refine SP.fieldP see 0 rfl Tryz.underlying43 rfl sz5.h Za.U1 rfl rfl rfl (fun p271 => ?_)
  refine SP.val (Val.loadP1 see 0 rfl (fun _ _ e => e) Tryz.underlying5 rfl rfl) rfl rfl rfl (gg ?_)
  obtain ⟨t293, Z4y, ho⟩ := bind_some ho
  refine SP.jn 21 [0, 4, 8] 101 (.bool t293) ?_ ?_
  ·clear Z4y
   refine gg ?_
   refine cb ho (fun ho => ?_) fun ho => ?_
   ·exact fin ho hr ▸ rt (fun _ h => St.selO [0] rfl rfl (St.addO (slO.nil ZJ 218) h))
   exact lw ho hr (fun _ z => ⟨(IntKind.i64.wrap (x266 + 1)), z⟩)
  refine bi 80 Z4y (fun hq274 ho => ?_) fun hq274 ho => ?_
  ·refine ip 2 ho fun x277 ho p275 => ?_
   refine SP.fieldP see 0 rfl Tryz.underlying43 rfl sz3.h Za.Uf rfl rfl rfl (fun p278 => ?_)
   refine SP.val (Val.loadP1 see 0 rfl (fun _ _ e => e) Tryz.underlying3 rfl rfl) rfl rfl rfl (gg ?_)
   obtain ⟨t292, Z4z, ho⟩ := bind_some ho
   refine SP.jn 11 [0, 4, 8, 80, 81, 82, 83, 84, 85, 86, 87, 88, 89] 100 (.bool t292) ?_ ?_
   ·clear Z4z
    refine gg ?_
    obtain rfl := Option.some.inj ho
    exact QE.jn fun w2 hw => (St.selP [2, 3, 4] rfl hw)
   refine bi 89 Z4z (fun hq281 ho => ?_) fun hq281 ho => ?_
   ·obtain rfl := Option.some.inj ho
    exact QE.jn (s := ⟨rfl, rfl, rfl, rfl, rfl, rfl, rfl, rfl, rfl, rfl, rfl, rfl, rfl, congrArg (fun z => some (Value.bool z)) hq281.symm, trivial⟩) fun w2 hw => hw
   refine ip 4 ho fun x284 ho p282 => ?_
   refine SP.fieldP see 0 rfl Tryz.underlying43 rfl sz3.h Za.Uf rfl rfl rfl (fun p285 => ?_)
   refine SP.val (Val.loadP1 see 0 rfl (fun _ _ e => e) Tryz.underlying3 rfl rfl) rfl rfl rfl ?_
   refine ip 6 ho fun x289 ho p287 => ?_
   refine SP.fieldP see 0 rfl Tryz.underlying43 rfl sz5.h Za.U1 rfl rfl rfl (fun p290 => ?_)
   refine SP.val (Val.loadP1 see 0 rfl (fun _ _ e => e) Tryz.underlying5 rfl rfl) rfl rfl rfl (gg ?_)
   obtain rfl := Option.some.inj ho
   exact QE.jn (s := ⟨rfl, rfl, rfl, rfl, rfl, rfl, rfl, rfl, rfl, rfl, rfl, rfl, rfl, congrArg (fun z => some (Value.bool z)) hq281.symm, trivial⟩) fun w2 hw => (St.selP [4, 5, 6, 7, 8] rfl hw)
  obtain rfl := Option.some.inj ho
  exact jn
 exact fin ho hr ▸ rt (sO [0])
def X3.f (x_0 : Zr) (a1 : Int) : Option Bool :=
  some ((decide (x_0.From < a1)) && (decide (a1 ≤ x_0.To)))
theorem X3.ok {x_0 a1} (r) (ho : X3.f x_0 a1 = some r) : Ok Tryz.prog 163 [.agg #[.int .i64 x_0.From, .int .i64 x_0.To, .int .i64 x_0.Turns], .int .i64 a1] [] fun v => HO.pure (v = .bool r) := by
 refine oq 15 Tryz.func163 fun w hV see pb => ?_
 refine bx fun b1 => ?_
 refine SP.jn 5 [] 14 (.bool ((decide (x_0.From < a1)) && (decide (a1 ≤ x_0.To)))) ?_ ?_
 ·refine gg ?_
  exact Option.some.inj ho ▸ rt
 refine bb 9 (fun hq4 => ?_) fun hq4 => ?_
 ·exact jb (XT hq4 rfl)
 exact jb (XU hq4)
def Vy.f (x_0 y_1 : Zr) : Option Bool :=
  some ((decide (x_0.From < y_1.To)) && (decide (y_1.From < x_0.To)))
theorem Vy.ok {x_0 y_1} (r) (ho : Vy.f x_0 y_1 = some r) : Ok Tryz.prog 214 [.agg #[.int .i64 x_0.From, .int .i64 x_0.To, .int .i64 x_0.Turns], .agg #[.int .i64 y_1.From, .int .i64 y_1.To, .int .i64 y_1.Turns]] [] fun v => HO.pure (v = .bool r) := by
 refine oq 17 Tryz.func214 fun w hV see pb => ?_
 refine bx fun b1 => ?_
 refine bx fun b3 => ?_
 refine SP.jn 6 [] 16 (.bool ((decide (x_0.From < y_1.To)) && (decide (y_1.From < x_0.To)))) ?_ ?_
 ·refine gg ?_
  exact Option.some.inj ho ▸ rt
 refine bb 10 (fun hq6 => ?_) fun hq6 => ?_
 ·exact jb (XT hq6 rfl)
 exact jb (XU hq6)
def Wu.f (x_0 y_1 : Zr) : Option Bool :=
  (X3.f y_1 x_0.From).bind fun t5 => (if t5 = true then ((X3.f y_1 x_0.To).bind fun t8 => some t8) else (some false)).bind fun t9 => some t9
theorem Wu.ok {x_0 y_1} (r) (ho : Wu.f x_0 y_1 = some r) : Ok Tryz.prog 215 [.agg #[.int .i64 x_0.From, .int .i64 x_0.To, .int .i64 x_0.Turns], .agg #[.int .i64 y_1.From, .int .i64 y_1.To, .int .i64 y_1.Turns]] [] fun v => HO.pure (v = .bool r) := by
 refine oq 15 Tryz.func215 fun w hV see pb => ?_
 refine bx fun b1 => ?_
 refine bx fun b3 => ?_
 refine kv X3.ok ho fun t5 ho => ?_
 obtain ⟨t9, Z7q, ho⟩ := bind_some ho
 refine SP.jn 5 [] 14 (.bool t9) ?_ ?_
 ·clear Z7q
  refine gg ?_
  exact Option.some.inj ho ▸ rt
 refine bc 9 Z7q (fun hq7 ho => ?_) fun hq7 ho => ?_
 ·refine kv X3.ok ho fun t8 ho => ?_
  obtain rfl := Option.some.inj ho
  exact jn
 obtain rfl := Option.some.inj ho
 exact jn
inductive Zk.S where
  | start
  | l1 (x43 : Int)
  | l2 (x43 x79 : Int)
  | l3 (x134 : Int)
  | l4 (x134 x143 x144 : Int)
def Zk.j1 (Vl : List Zr) (V8 x43 x79 : Int) (b112 : Bool) : Option (Zk.S ⊕ Bool) :=
  if b112 = true then (some (.inr false)) else (some (.inl (.l2 x43 (IntKind.i64.wrap (x79 + 1)))))
def Zk.j2 (Vl : List Zr) (V8 x134 x144 x150 : Int) : Option (Zk.S ⊕ Bool) :=
  some (.inl (.l4 x134 x150 (IntKind.i64.wrap (x144 + 1))))
def Zk.F (Vl : List Zr) (V8 : Int) : Zk.S → Option (Zk.S ⊕ Bool)
  | .start => some (.inl (.l1 0))
  | .l1 x43 => if x43 < (Vl.length : Int) then (some (.inl (.l2 x43 0))) else (some (.inl (.l3 0)))
  | .l2 x43 x79 => if x79 < x43 then ((elt Vl x43).bind fun x83 => (elt Vl x79).bind fun x87 => (Vy.f x83 x87).bind fun t89 => if t89 = true then ((elt Vl x43).bind fun x93 => (elt Vl x79).bind fun x97 => (Wu.f x93 x97).bind fun t99 => if (!t99) = true then ((elt Vl x79).bind fun x103 => (elt Vl x43).bind fun x107 => (Wu.f x103 x107).bind fun t109 => Zk.j1 Vl V8 x43 x79 (!t109)) else (Zk.j1 Vl V8 x43 x79 false)) else (Zk.j1 Vl V8 x43 x79 false)) else (some (.inl (.l1 (IntKind.i64.wrap (x43 + 1)))))
  | .l3 x134 => if x134 < V8 then (some (.inl (.l4 x134 0 0))) else (some (.inr true))
  | .l4 x134 x143 x144 => if x144 < (Vl.length : Int) then ((elt Vl x144).bind fun x148 => (X3.f x148 x134).bind fun t149 => if t149 = true then (Zk.j2 Vl V8 x134 x144 (IntKind.i64.wrap (x143 + 1))) else (Zk.j2 Vl V8 x134 x144 x143)) else (if x143 > 4 then (some (.inr false)) else (some (.inl (.l3 (IntKind.i64.wrap (x134 + 1))))))
def Zk.f (Vl : List Zr) (V8 : Int) : Option Bool := runF (Zk.F Vl V8) .start
theorem Zk.ok {Vl V8 K3} (r) (H : Zk.f Vl V8 = some r) : Ok Tryz.prog 162 [K3, .int .i64 V8] [slP ZJ K3 Vl] fun v => HO.pure (v = .bool r) := by
 refine oq 75 Tryz.func162 fun w hV see pb => ?_
 obtain ⟨m0, o, ho, hr⟩ := rn H
 refine lo ho hr (fun z => ∃ x43, z (.l1 x43) [(0, K3), (1, .int .i64 V8), (5, .int .i64 x43)] []) (fun _ z => ⟨0, z⟩) ?_
 rintro _ _ _ ⟨x43, m44, o, _, _, ho, hr, h⟩
 refine en h ?_
 refine ci ho (fun ho => ?_) fun ho => ?_
 ·refine lo ho hr (fun z => ∃ x79, z (.l2 x43 x79) [(0, K3), (1, .int .i64 V8), (5, .int .i64 x43), (6, .int .i64 x79)] []) (fun _ z => ⟨0, z⟩) ?_
  rintro _ _ _ ⟨x79, m80, o, _, _, ho, hr, h⟩
  refine en h ?_
  refine ci (ht := id) ho (fun ho => ?_) fun ho => ?_
  ·refine go ?_
   refine CP.seq ?_
   refine go ?_
   refine ji hr (fun z => ∃ b112, z (Zk.j1 Vl V8 x43 x79 b112) [(0, K3), (1, .int .i64 V8), (5, .int .i64 x43), (6, .int .i64 x79), (53, .bool b112)] []) ?_ ?_
   ·rintro _ _ ⟨b112, m113, o, _, ho, hr, h⟩
    refine en h ?_
    refine cb ho (fun ho => ?_) fun ho => ?_
    ·exact fin ho hr ▸ rt
    exact lw ho hr (fun _ z => ⟨(IntKind.i64.wrap (x79 + 1)), z⟩)
   refine dr ?_
   refine ge 0 ho fun x83 ho p81 Z59 => ?_
   refine gu 0 ?_
   refine ge 2 ho fun x87 ho p85 Z9L => ?_
   refine gu 0 ?_
   refine DA.ph 0 8 ?_
   refine DT.tk 0 ?_
   refine DT.tk 1 ?_
   refine DT.tv 2 rfl (Val.ie rfl rfl Z59) ?_
   refine tk 3 ?_
   refine DT.tk 4 ?_
   refine DT.tk 5 ?_
   refine DT.tv 6 rfl (Val.ie rfl rfl Z9L) ?_
   refine tk 7 ?_
   refine dn ?_
   refine d1 8 ?_
   refine kv Vy.ok ho fun t89 ho => ?_
   refine d1 9 ?_
   rcases Ws ho with ⟨hc, ho⟩ | ⟨hc, ho⟩
   ·have hg90 := hc
    clear hc
    refine ge 4 ho fun x93 ho p91 Z1C => ?_
    refine gu 0 ?_
    refine ge 6 ho fun x97 ho p95 Z5a => ?_
    refine gu 0 ?_
    refine DA.ph 10 18 ?_
    refine DT.is (d := 30) (b := true) rfl hg90 ?_
    refine DT.tk 10 ?_
    refine DT.tk 11 ?_
    refine DT.tv 12 rfl (Val.ie rfl rfl Z1C) ?_
    refine tk 13 ?_
    refine DT.tk 14 ?_
    refine DT.tk 15 ?_
    refine DT.tv 16 rfl (Val.ie rfl rfl Z5a) ?_
    refine tk 17 ?_
    refine dn ?_
    refine d1 18 ?_
    refine kv Wu.ok ho fun t99 ho => ?_
    refine d1 19 ?_
    refine d1 20 ?_
    refine d1 21 ?_
    rcases Ws ho with ⟨hc, ho⟩ | ⟨hc, ho⟩
    ·have hg100 := hc
     clear hc
     refine ge 8 ho fun x103 ho p101 Z8M => ?_
     refine gu 0 ?_
     refine ge 10 ho fun x107 ho p105 Z8N => ?_
     refine gu 0 ?_
     refine DA.ph 22 30 ?_
     refine DT.is (d := 42) (b := true) rfl hg100 ?_
     refine DT.tk 22 ?_
     refine DT.tk 23 ?_
     refine DT.tv 24 rfl (Val.ie rfl rfl Z8M) ?_
     refine tk 25 ?_
     refine DT.tk 26 ?_
     refine DT.tk 27 ?_
     refine DT.tv 28 rfl (Val.ie rfl rfl Z8N) ?_
     refine tk 29 ?_
     refine dn ?_
     refine d1 30 ?_
     refine kv Wu.ok ho fun t109 ho => ?_
     refine d1 31 ?_
     refine d1 32 ?_
     refine dz ?_
     exact mi ho hr (fun _ z => ⟨(!t109), z⟩)
    have hg110 := (bf hc)
    clear hc
    refine DA.ph 22 30 ?_
    refine DT.is (d := 42) (b := false) rfl hg110 ?_
    refine DT.tn 22 ?_
    refine DT.tn 23 ?_
    refine DT.tn 24 ?_
    refine DT.tn 25 ?_
    refine DT.tn 26 ?_
    refine DT.tn 27 ?_
    refine DT.tn 28 ?_
    refine DT.tn 29 ?_
    refine dn ?_
    refine DA.ph 30 31 ?_
    refine DT.tn 30 ?_
    refine dn ?_
    refine DA.ph 31 32 ?_
    refine DT.tn 31 ?_
    refine dn ?_
    refine d1 32 ?_
    refine dz ?_
    exact mi ho hr (fun _ z => ⟨false, z⟩)
   have hg111 := (bf hc)
   clear hc
   refine DA.ph 10 18 ?_
   refine DT.is (d := 30) (b := false) rfl hg111 ?_
   refine DT.tn 10 ?_
   refine DT.tn 11 ?_
   refine DT.tn 12 ?_
   refine DT.tn 13 ?_
   refine DT.tn 14 ?_
   refine DT.tn 15 ?_
   refine DT.tn 16 ?_
   refine DT.tn 17 ?_
   refine dn ?_
   refine DA.ph 18 19 ?_
   refine DT.tn 18 ?_
   refine dn ?_
   refine DA.ph 19 20 ?_
   refine DT.tn 19 ?_
   refine dn ?_
   refine d1 20 ?_
   refine d1 21 ?_
   refine DA.ph 22 30 ?_
   refine DT.tn 22 ?_
   refine DT.tn 23 ?_
   refine DT.tn 24 ?_
   refine DT.tn 25 ?_
   refine DT.tn 26 ?_
   refine DT.tn 27 ?_
   refine DT.tn 28 ?_
   refine DT.tn 29 ?_
   refine dn ?_
   refine DA.ph 30 31 ?_
   refine DT.tn 30 ?_
   refine dn ?_
   refine DA.ph 31 32 ?_
   refine DT.tn 31 ?_
   refine dn ?_
   refine d1 32 ?_
   refine dz ?_
   exact mi ho hr (fun _ z => ⟨false, z⟩)
  exact lw ho hr (fun _ z => ⟨(IntKind.i64.wrap (x43 + 1)), z⟩)
 refine lo ho hr (fun z => ∃ x134, z (.l3 x134) [(0, K3), (1, .int .i64 V8), (7, .int .i64 x134)] []) (fun _ z => ⟨0, z⟩) ?_
 rintro _ _ _ ⟨x134, m135, o, _, _, ho, hr, h⟩
 refine en h ?_
 refine ci ho (fun ho => ?_) fun ho => ?_
 ·refine lo ho hr (fun z => ∃ x143 x144, z (.l4 x134 x143 x144) [(0, K3), (1, .int .i64 V8), (7, .int .i64 x134), (8, .int .i64 x143), (9, .int .i64 x144)] []) (fun _ z => ⟨0, 0, z⟩) ?_
  rintro _ _ _ ⟨x143, x144, m145, o, _, _, ho, hr, h⟩
  refine en h ?_
  refine ci (ht := id) ho (fun ho => ?_) fun ho => ?_
  ·refine go ?_
   refine ji hr (fun z => ∃ x150, z (Zk.j2 Vl V8 x134 x144 x150) [(0, K3), (1, .int .i64 V8), (7, .int .i64 x134), (8, .int .i64 x150), (9, .int .i64 x144)] []) ?_ ?_
   ·rintro _ _ ⟨x150, m151, o, _, ho, hr, h⟩
    refine en h ?_
    exact lw ho hr (fun _ z => ⟨x150, (IntKind.i64.wrap (x144 + 1)), z⟩)
   refine gg ?_
   refine ip 0 ho fun x148 ho p146 => ?_
   refine ld 0 ?_
   refine kv X3.ok ho fun t149 ho => ?_
   refine cb ho (fun ho => ?_) fun ho => ?_
   ·exact mi ho hr (fun _ z => ⟨(IntKind.i64.wrap (x143 + 1)), z⟩)
   exact mi ho hr (fun _ z => ⟨x143, z⟩)
  refine ci ho (fun ho => ?_) fun ho => ?_
  ·exact fin ho hr ▸ rt
  exact lw ho hr (fun _ z => ⟨(IntKind.i64.wrap (x134 + 1)), z⟩)
 exact fin ho hr ▸ rt
inductive Zi.S where
  | start
  | l1 (x211 : Int)
  | l2 (l336 : List Zr) (x338 : Int)
  | l3 (l336 : List Zr) (x338 x389 : Int)
def Zi.j1 (l_0 : List Z7) (l336 : List Zr) (x338 : Int) : Option (Zi.S ⊕ ((List Zr) × Int)) :=
  some (.inl (.l2 l336 (IntKind.i64.wrap (x338 + 1))))
def Zi.j2 (l_0 : List Z7) (l336 : List Zr) (x338 x389 : Int) (b409 : Bool) : Option (Zi.S ⊕ ((List Zr) × Int)) :=
  if b409 = true then (some (.inr ([], 90))) else (some (.inl (.l3 l336 x338 (IntKind.i64.wrap (x389 + 1)))))
def Zi.F (l_0 : List Z7) : Zi.S → Option (Zi.S ⊕ ((List Zr) × Int))
  | .start => if ((decide ((l_0.length : Int) < 1)) || (decide ((l_0.length : Int) > 200))) = true then (some (.inr ([], 40))) else (some (.inl (.l1 0)))
  | .l1 x211 => if x211 < (l_0.length : Int) then ((elt l_0 x211).bind fun x215 => (WU.f x215).bind fun t216 => if (!t216) = true then (some (.inr ([], 40))) else (some (.inl (.l1 (IntKind.i64.wrap (x211 + 1)))))) else ((Zy.f l_0).bind fun t218 => (elt l_0 (IntKind.i64.wrap ((l_0.length : Int) - 1))).bind fun x223 => (if (!t218.2) = true then (some true) else ((Zk.f t218.1 (l_0.length : Int)).bind fun t228 => some (!t228))).bind fun t229 => if (t229 || ((decide (x223.Op ≠ 31)) && (decide (x223.Op ≠ 32)))) = true then (some (.inr ([], 90))) else (some (.inl (.l2 t218.1 0))))
  | .l2 l336 x338 => if x338 < (l_0.length : Int) then ((elt l_0 x338).bind fun x342 => (if x342.Op ≠ 26 then ((elt l_0 x338).bind fun x349 => some (decide (x349.Op ≠ 27))) else (some false)).bind fun t352 => if t352 = true then (Zi.j1 l_0 l336 x338) else ((elt l_0 x338).bind fun x355 => (if x355.A ≤ x338 then (some true) else ((elt l_0 x338).bind fun x362 => some (decide (x362.A ≥ (l_0.length : Int))))).bind fun t365 => if t365 = true then (some (.inr ([], 90))) else (some (.inl (.l3 l336 x338 0))))) else (some (.inr (l336, 0)))
  | .l3 l336 x338 x389 => if x389 < (l336.length : Int) then ((elt l336 x389).bind fun x393 => (elt l_0 x338).bind fun x397 => (X3.f x393 x397.A).bind fun t401 => if t401 = true then ((elt l336 x389).bind fun x405 => (X3.f x405 x338).bind fun t407 => Zi.j2 l_0 l336 x338 x389 (!t407)) else (Zi.j2 l_0 l336 x338 x389 false)) else (Zi.j1 l_0 l336 x338)
def Zi.f (l_0 : List Z7) : Option ((List Zr) × Int) := runF (Zi.F l_0) .start
theorem Zi.ok {l_0 Y2} (r) (H : Zi.f l_0 = some r) : Ok Tryz.prog 100 [Y2] [slP Za Y2 l_0] fun v => HO.ex fun u0 : Value => HO.pand (v = .tuple #[u0, .int .i64 r.2]) (HO.seps [HO.ofP (slP ZJ u0 r.1)]) := by
 refine oq 122 Tryz.func100 fun w hV see pb => ?_
 obtain ⟨m0, o, ho, hr⟩ := rn H
 refine SP.jn 4 [0] 17 (.bool ((decide ((l_0.length : Int) < 1)) || (decide ((l_0.length : Int) > 200)))) ?_ ?_
 ·refine gg ?_
  refine cb ho (fun ho => ?_) fun ho => ?_
  ·exact fin ho hr ▸ rt (fun _ h => St.selO [] rfl rfl (St.know (fun h _ => slP.nil ZJ h) h)) (hk := fun a b p s => ⟨_, rfl, ⟨em, em, Dj.Yw _, Sub.em _, Sub.em _, p.get 0 rfl, trivial⟩⟩)
  obtain rfl := Option.some.inj ho
  refine CP.loop (fun cl1 a w2 => ∃ x211 : Int, cl1 ≤ m0 ∧ iter (Zi.F l_0) cl1 (.l1 x211) = some r ∧ Env ⟨122, []⟩ [(0, Y2), (4, .int .i64 x211)] a ∧ St w em hV [slP Za Y2 l_0] [] w2) m0 (fun a w2 ha hw => ⟨0, Nat.le_refl _, hr, ha.sub sb, hw⟩) ?_
  clear hr
  rintro cl1 a w2 ⟨x211, Z1D, hi, ha, hw⟩
  obtain ⟨m212, o, Z87, ho, hr⟩ := Ud hi
  refine CP.app ha hw ?_
  clear ha hw a w2 hi
  refine gg ?_
  refine ci ho (fun ho => ?_) fun ho => ?_
  ·refine ip 0 ho fun x215 ho p213 => ?_
   refine ld 0 ?_
   refine kv WU.ok ho fun t216 ho => ?_
   refine cb ho (fun ho => ?_) fun ho => ?_
   ·exact fin ho hr ▸ rt (fun _ h => St.selO [] rfl rfl (St.know (fun h _ => slP.nil ZJ h) h)) (hk := fun a b p s => ⟨_, rfl, ⟨em, em, Dj.Yw _, Sub.em _, Sub.em _, p.get 0 rfl, trivial⟩⟩)
   obtain rfl := Option.some.inj ho
   exact QE.lower m212 (by omega) fun a w2 ha hw => ⟨(IntKind.i64.wrap (x211 + 1)), (by omega), hr, ha.sub sb, (St.selP [1] rfl hw)⟩
  refine k1 Zy.ok ho fun t218 ho v219 => ?_
  refine ip 0 ho fun x223 ho p221 => ?_
  refine SP.fieldP see 0 rfl Tryz.underlying43 rfl sz5.h Za.U1 rfl rfl rfl (fun p224 => ?_)
  refine SP.val (Val.loadP1 see 0 rfl (fun _ _ e => e) Tryz.underlying5 rfl rfl) rfl rfl rfl (gg ?_)
  obtain ⟨t229, Z4A, ho⟩ := bind_some ho
  refine SP.jn 6 [0, 5, 7] 50 (.bool t229) ?_ ?_
  ·clear Z4A
   refine gg ?_
   refine SP.jn 7 [0, 5] 58 (.bool (t229 || ((decide (x223.Op ≠ 31)) && (decide (x223.Op ≠ 32))))) ?_ ?_
   ·refine gg ?_
    refine cb ho (fun ho => ?_) fun ho => ?_
    ·exact fin ho hr ▸ rt (fun _ h => St.selO [] rfl rfl (St.know (fun h _ => slP.nil ZJ h) h)) (hk := fun a b p s => ⟨_, rfl, ⟨em, em, Dj.Yw _, Sub.em _, Sub.em _, p.get 0 rfl, trivial⟩⟩)
    obtain rfl := Option.some.inj ho
    refine CP.loop (fun cl2 a w2 => ∃ l336 : List Zr, ∃ x338 : Int, ∃ v337 : Value, cl2 ≤ m212 ∧ iter (Zi.F l_0) cl2 (.l2 l336 x338) = some r ∧ Env ⟨122, []⟩ [(0, Y2), (5, v337), (8, .int .i64 x338)] a ∧ St w em hV [slP ZJ v337 l336, slP Za Y2 l_0] [] w2) m212 (fun a w2 ha hw => ⟨t218.1, 0, v219, Nat.le_refl _, hr, ha.sub sb, (St.selP [0, 3] rfl (St.W9 hw 0 rfl see))⟩) ?_
    clear hr
    rintro cl2 a w2 ⟨l336, x338, v337, Z9M, hi, ha, hw⟩
    obtain ⟨m339, o, Zau, ho, hr⟩ := Ud hi
    refine CP.app ha hw ?_
    clear ha hw a w2 hi
    refine gg ?_
    refine ci (ht := id) ho (fun ho => ?_) fun ho => ?_
    ·refine go ?_
     refine ji hr (fun z => z (Zi.j1 l_0 l336 x338) [(0, Y2), (5, v337), (8, .int .i64 x338)] []) ?_ ?_ (hb := pe [slP ZJ v337 l336, slP Za Y2 l_0])
     ·rintro _ _ ⟨m413, o, _, ho, hr, h⟩
      refine en h ?_
      obtain rfl := Option.some.inj ho
      exact QE.lower m413 (by omega) fun a w2 ha hw => ⟨l336, (IntKind.i64.wrap (x338 + 1)), v337, (by omega), hr, ha.sub sb, hw⟩
     refine gg ?_
     refine ip 1 ho fun x342 ho p340 => ?_
     refine SP.fieldP see 0 rfl Tryz.underlying43 rfl sz5.h Za.U1 rfl rfl rfl (fun p343 => ?_)
     refine SP.val (Val.loadP1 see 0 rfl (fun _ _ e => e) Tryz.underlying5 rfl rfl) rfl rfl rfl (gg ?_)
     obtain ⟨t352, Z4B, ho⟩ := bind_some ho
     refine SP.jn 7 [0, 5, 8] 78 (.bool t352) ?_ ?_
     ·clear Z4B
      refine gg ?_
      refine cb ho (fun ho => ?_) fun ho => ?_
      ·exact mi ho hr (fun _ z => z)
      refine ip 3 ho fun x355 ho p353 => ?_
      refine SP.fieldP see 0 rfl Tryz.underlying43 rfl sz3.h Za.Uf rfl rfl rfl (fun p356 => ?_)
      refine SP.val (Val.loadP1 see 0 rfl (fun _ _ e => e) Tryz.underlying3 rfl rfl) rfl rfl rfl (gg ?_)
      obtain ⟨t365, Z4C, ho⟩ := bind_some ho
      refine SP.jn 9 [0, 5, 8] 95 (.bool t365) ?_ ?_
      ·clear Z4C
       refine gg ?_
       refine cb ho (fun ho => ?_) fun ho => ?_
       ·exact fin ho hr ▸ rt (fun _ h => St.selO [] rfl rfl (St.know (fun h _ => slP.nil ZJ h) h)) (hk := fun a b p s => ⟨_, rfl, ⟨em, em, Dj.Yw _, Sub.em _, Sub.em _, p.get 0 rfl, trivial⟩⟩)
       obtain rfl := Option.some.inj ho
       refine CP.loop (fun cl3 a w2 => ∃ x389 : Int, cl3 ≤ m339 ∧ iter (Zi.F l_0) cl3 (.l3 l336 x338 x389) = some r ∧ Env ⟨122, []⟩ [(0, Y2), (5, v337), (8, .int .i64 x338), (9, .int .i64 x389)] a ∧ St w em hV [slP ZJ v337 l336, slP Za Y2 l_0] [] w2) m339 (fun a w2 ha hw => ⟨0, Nat.le_refl _, hr, ha.sub sb, (St.selP [4, 5] rfl hw)⟩) ?_
       clear hr
       rintro cl3 a w2 ⟨x389, Z9N, hi, ha, hw⟩
       obtain ⟨m390, o, Zav, ho, hr⟩ := Ud hi
       refine CP.app ha hw ?_
       clear ha hw a w2 hi
       refine gg ?_
       refine ci (ht := id) ho (fun ho => ?_) fun ho => ?_
       ·refine go ?_
        refine CP.seq ?_
        refine go ?_
        refine ji hr (fun z => ∃ b409, z (Zi.j2 l_0 l336 x338 x389 b409) [(0, Y2), (5, v337), (8, .int .i64 x338), (9, .int .i64 x389), (120, .bool b409)] []) ?_ ?_ (hb := pe [slP ZJ v337 l336, slP Za Y2 l_0])
        ·rintro _ _ ⟨b409, m410, o, _, ho, hr, h⟩
         refine en h ?_
         refine cb ho (fun ho => ?_) fun ho => ?_
         ·exact fin ho hr ▸ rt (fun _ h => St.selO [] rfl rfl (St.know (fun h _ => slP.nil ZJ h) h)) (hk := fun a b p s => ⟨_, rfl, ⟨em, em, Dj.Yw _, Sub.em _, Sub.em _, p.get 0 rfl, trivial⟩⟩)
         obtain rfl := Option.some.inj ho
         exact QE.lower m410 (by omega) fun a w2 ha hw => ⟨(IntKind.i64.wrap (x389 + 1)), (by omega), hr, ha.sub sb, hw⟩
        refine dr ?_
        refine ge 0 ho fun x393 ho p391 Z3u => ?_
        refine gu 0 ?_
        refine ge 3 ho fun x397 ho p395 Z8O => ?_
        refine DA.ghost (fun w2 h => h.fieldE see 0 rfl Za.Uf) (fun p398 Z8P => ?_)
        refine gu 0 ?_
        refine DA.ph 0 9 ?_
        refine DT.tk 0 ?_
        refine DT.tk 1 ?_
        refine DT.tv 2 rfl (Val.ie rfl rfl Z3u) ?_
        refine tk 3 ?_
        refine DT.tk 4 ?_
        refine DT.tk 5 ?_
        refine DT.tv 6 rfl (Val.ie rfl rfl Z8O) ?_
        refine DT.tv 7 rfl (Val.fe rfl Z8P) ?_
        refine tk 8 ?_
        refine dn ?_
        refine d1 9 ?_
        refine kv X3.ok ho fun t401 ho => ?_
        refine d1 10 ?_
        rcases Ws ho with ⟨hc, ho⟩ | ⟨hc, ho⟩
        ·have hg402 := hc
         clear hc
         refine ge 5 ho fun x405 ho p403 Z8Q => ?_
         refine gu 0 ?_
         refine DA.ph 11 16 ?_
         refine DT.is (d := 112) (b := true) rfl hg402 ?_
         refine DT.tk 11 ?_
         refine DT.tk 12 ?_
         refine DT.tv 13 rfl (Val.ie rfl rfl Z8Q) ?_
         refine tk 14 ?_
         refine DT.tk 15 ?_
         refine dn ?_
         refine d1 16 ?_
         refine kv X3.ok ho fun t407 ho => ?_
         refine d1 17 ?_
         refine d1 18 ?_
         refine dz ?_
         exact mi ho hr (fun _ z => ⟨(!t407), z⟩)
        have hg408 := (bf hc)
        clear hc
        refine DA.ph 11 16 ?_
        refine DT.is (d := 112) (b := false) rfl hg408 ?_
        refine DT.tn 11 ?_
        refine DT.tn 12 ?_
        refine DT.tn 13 ?_
        refine DT.tn 14 ?_
        refine DT.tn 15 ?_
        refine dn ?_
        refine DA.ph 16 17 ?_
        refine DT.tn 16 ?_
        refine dn ?_
        refine DA.ph 17 18 ?_
        refine DT.tn 17 ?_
        refine dn ?_
        refine d1 18 ?_
        refine dz ?_
        exact mi ho hr (fun _ z => ⟨false, z⟩)
       exact mi ho hr (fun _ z => z)
      refine bi 86 Z4C (fun hq359 ho => ?_) fun hq359 ho => ?_
      ·obtain rfl := Option.some.inj ho
       exact jn
      refine ip 5 ho fun x362 ho p360 => ?_
      refine SP.fieldP see 0 rfl Tryz.underlying43 rfl sz3.h Za.Uf rfl rfl rfl (fun p363 => ?_)
      refine SP.val (Val.loadP1 see 0 rfl (fun _ _ e => e) Tryz.underlying3 rfl rfl) rfl rfl rfl (gg ?_)
      obtain rfl := Option.some.inj ho
      exact QE.jn fun w2 hw => (St.selP [2, 3, 4, 5, 6, 7] rfl hw)
     refine bi 71 Z4B (fun hq346 ho => ?_) fun hq346 ho => ?_
     ·refine ip 3 ho fun x349 ho p347 => ?_
      refine SP.fieldP see 0 rfl Tryz.underlying43 rfl sz5.h Za.U1 rfl rfl rfl (fun p350 => ?_)
      refine SP.val (Val.loadP1 see 0 rfl (fun _ _ e => e) Tryz.underlying5 rfl rfl) rfl rfl rfl (gg ?_)
      obtain rfl := Option.some.inj ho
      exact QE.jn fun w2 hw => (St.selP [2, 3, 4, 5] rfl hw)
     obtain rfl := Option.some.inj ho
     exact jn
    exact fin ho hr ▸ rt (sO []) (hk := fun a b p s => ⟨_, rfl, ⟨em, em, Dj.Yw _, Sub.em _, Sub.em _, p.get 0 rfl, trivial⟩⟩)
   refine bb 51 (fun hq231 => ?_) fun hq231 => ?_
   ·exact jb (WL hq231)
   refine SP.jn 3 [0, 5, 51] 57 (.bool ((decide (x223.Op ≠ 31)) && (decide (x223.Op ≠ 32)))) ?_ ?_
   ·refine gg ?_
    exact jb (WM hq231 rfl)
   refine bb 54 (fun hq233 => ?_) fun hq233 => ?_
   ·exact jb (XT hq233 rfl)
   exact jb (XU hq233)
  refine bc 44 Z4A (fun hq227 ho => ?_) fun hq227 ho => ?_
  ·obtain rfl := Option.some.inj ho
   exact jn
  obtain ⟨t228, hc, ho⟩ := bind_some ho
  refine SP.callVO see (caps := []) (.bool t228) fn162.h rfl rfl rfl rfl (fun w2 hs => Zk.ok _ hc w2 (hp w2) (Sub.refl _) (aS (slO.read (St.own 0 rfl see.sub see.dj hs) (Sub.refl _) (Sub.refl _)) (All.nil _))) ?_
  clear hc
  refine gg ?_
  obtain rfl := Option.some.inj ho
  exact jn
 refine bb 13 (fun hq3 => ?_) fun hq3 => ?_
 ·exact jb (WL hq3)
 exact jb (WM hq3 rfl)
def YV.j2 (m_0 : Z9) (x_1 : Zb) (i_2 : Z7) (b14 : Bool) : Option Bool :=
  if b14 = true then (some (decide (i_2.A < (m_0.Zj.length : Int)))) else (if i_2.Op = 30 then (some (decide (i_2.A < (m_0.Methods.length : Int)))) else (some true))
def YV.j1 (m_0 : Z9) (x_1 : Zb) (i_2 : Z7) (b13 : Bool) : Option Bool :=
  if b13 = true then (some (decide (i_2.A < (IntKind.i64.wrap ((x_1.Args.length : Int) + (x_1.Locals.length : Int)))))) else (if i_2.Op = 4 then (YV.j2 m_0 x_1 i_2 (decide (i_2.Op = 4))) else (YV.j2 m_0 x_1 i_2 (decide (i_2.Op = 5))))
def YV.f (m_0 : Z9) (x_1 : Zb) (i_2 : Z7) : Option Bool :=
  if i_2.Op = 1 then (some (decide (i_2.A < (m_0.Pool.length : Int)))) else (if i_2.Op = 2 then (YV.j1 m_0 x_1 i_2 (decide (i_2.Op = 2))) else (YV.j1 m_0 x_1 i_2 (decide (i_2.Op = 3))))
theorem YV.ok {m_0 x_1 i_2 Z4 Z6 Z0 Va WA Vb} (r) (ho : YV.f m_0 x_1 i_2 = some r) : Ok Tryz.prog 101 [.agg #[Z4, Z6, Z0, .int .i64 m_0.Zd], .agg #[Va, WA, .int .u8 x_1.Result, .bool x_1.Reads, .int .i64 x_1.Fuel, .int .i64 x_1.Stack, .int .i64 x_1.Heap, Vb], .agg #[.int .u8 i_2.Op, .int .i64 i_2.A, .int .i64 i_2.B]] [slP Z5 Z4 m_0.Zj, slP Z5 Z6 m_0.Pool, slP Z8 Z0 m_0.Methods, slP (kInt .u8) Va x_1.Args, slP (kInt .u8) WA x_1.Locals, slP Za Vb x_1.Code] fun v => HO.pure (v = .bool r) := by
 refine oq 47 Tryz.func101 fun w hV see pb => ?_
 refine bx fun b7 => ?_
 refine bx fun b9 => ?_
 refine bx fun b11 => ?_
 refine ci (hf := id) ho (fun ho => ?_) fun ho => ?_
 ·exact Option.some.inj ho ▸ rt
 refine oi r (fun z => ∃ b13, z (YV.j1 m_0 x_1 i_2 b13) [(3, .pointer (some ⟨b7, 0, none⟩)), (4, .pointer (some ⟨b9, 0, none⟩)), (5, .pointer (some ⟨b11, 0, none⟩)), (8, .int .u8 i_2.Op), (17, .bool b13)] [boxO b11 [.int .u8 i_2.Op, .int .i64 i_2.A, .int .i64 i_2.B] 43, boxO b9 [Va, WA, .int .u8 x_1.Result, .bool x_1.Reads, .int .i64 x_1.Fuel, .int .i64 x_1.Stack, .int .i64 x_1.Heap, Vb] 34, boxO b7 [Z4, Z6, Z0, .int .i64 m_0.Zd] 25]) ?_ ?_
 ·rintro _ _ ⟨b13, ho, h⟩
  refine en h ?_
  refine cb (hf := id) ho (fun ho => ?_) fun ho => ?_
  ·exact Option.some.inj ho ▸ rt
  refine oi r (fun z => ∃ b14, z (YV.j2 m_0 x_1 i_2 b14) [(3, .pointer (some ⟨b7, 0, none⟩)), (5, .pointer (some ⟨b11, 0, none⟩)), (8, .int .u8 i_2.Op), (30, .bool b14)] [boxO b11 [.int .u8 i_2.Op, .int .i64 i_2.A, .int .i64 i_2.B] 43, boxO b7 [Z4, Z6, Z0, .int .i64 m_0.Zd] 25]) ?_ ?_ (hb := pe [slP Z5 Z4 m_0.Zj, slP Z5 Z6 m_0.Pool, slP Z8 Z0 m_0.Methods])
  ·rintro _ _ ⟨b14, ho, h⟩
   refine en h ?_
   refine cb ho (fun ho => ?_) fun ho => ?_
   ·exact Option.some.inj ho ▸ rt
   refine ci ho (fun ho => ?_) fun ho => ?_
   ·exact Option.some.inj ho ▸ rt
   exact Option.some.inj ho ▸ rt
  refine gg ?_
  refine ci ho (fun ho => ?_) fun ho => ?_
  ·exact mo ho (fun _ z => ⟨(decide (i_2.Op = 4)), z⟩) (sO [0, 2])
  exact mo ho (fun _ z => ⟨(decide (i_2.Op = 5)), z⟩) (sO [0, 2])
 refine gg ?_
 refine ci ho (fun ho => ?_) fun ho => ?_
 ·exact mo ho (fun _ z => ⟨(decide (i_2.Op = 2)), z⟩)
 exact mo ho (fun _ z => ⟨(decide (i_2.Op = 3)), z⟩)
def YB.f (WO : List Int) (Wt : Int) : Option (List Int) :=
  if (([] : List Int).length + WO.length) * 1 ≤ 140737488355328 then (if ((([] : List Int) ++ WO).length + [Wt].length) * 1 ≤ 140737488355328 then (some ((([] : List Int) ++ WO) ++ [Wt])) else none) else none
theorem YB.ok {WO Wt TH} (r) (ho : YB.f WO Wt = some r) : Ok Tryz.prog 164 [TH, .int .u8 Wt] [slP (kInt .u8) TH WO] fun v => HO.ex fun u0 : Value => HO.pand (v = u0) (HO.seps [slO (kInt .u8) 5 u0 r]) := by
 refine oq 13 Tryz.func164 fun w hV see pb => ?_
 refine SP.lit0 (k := (kInt .u8)) Tryz.underlying31 inf5.h rfl rfl (fun v2 => gg ?_)
 refine ap 0 0 ho fun v4 ho => ?_
 refine li (h := fun _ => id) (kInt .u8) [Wt] fun v6 => ?_
 refine fz 0 ?_
 refine ap 0 0 ho fun v8 ho => ?_
 exact Option.some.inj ho ▸ rt (sO [0])
def Vi.f (m_0 : Zb) : Option (List Int) :=
  if (([] : List Int).length + m_0.Args.length) * 1 ≤ 140737488355328 then (if ((([] : List Int) ++ m_0.Args).length + m_0.Locals.length) * 1 ≤ 140737488355328 then (some ((([] : List Int) ++ m_0.Args) ++ m_0.Locals)) else none) else none
theorem Vi.ok {m_0 YD Yf YL} (r) (ho : Vi.f m_0 = some r) : Ok Tryz.prog 216 [.agg #[YD, Yf, .int .u8 m_0.Result, .bool m_0.Reads, .int .i64 m_0.Fuel, .int .i64 m_0.Stack, .int .i64 m_0.Heap, YL]] [slP (kInt .u8) YD m_0.Args, slP (kInt .u8) Yf m_0.Locals, slP Za YL m_0.Code] fun v => HO.ex fun u0 : Value => HO.pand (v = u0) (HO.seps [slO (kInt .u8) 5 u0 r]) := by
 refine oq 12 Tryz.func216 fun w hV see pb => ?_
 refine bx fun b4 => ?_
 refine sn (kInt .u8) 5 ?_
 refine ap 0 0 ho fun v7 ho => ?_
 refine ap 0 1 ho fun v9 ho => ?_
 exact Option.some.inj ho ▸ rt (sO [0])
def Ww.f (x_0 : Zb) (n_1 : Int) : Option Int :=
  (Vi.f x_0).bind fun t6 => (elt t6 n_1).bind fun x10 => some x10
theorem Ww.ok {x_0 n_1 VT Vm VU} (r) (ho : Ww.f x_0 n_1 = some r) : Ok Tryz.prog 165 [.agg #[VT, Vm, .int .u8 x_0.Result, .bool x_0.Reads, .int .i64 x_0.Fuel, .int .i64 x_0.Stack, .int .i64 x_0.Heap, VU], .int .i64 n_1] [slP (kInt .u8) VT x_0.Args, slP (kInt .u8) Vm x_0.Locals, slP Za VU x_0.Code] fun v => HO.pure (v = .int .u8 r) := by
 refine oq 10 Tryz.func165 fun w hV see pb => ?_
 refine bx fun b4 => ?_
 refine k1 Vi.ok ho fun t6 ho v7 => ?_
 obtain ⟨x10, Z3v, ho⟩ := YG ho
 refine SP.indexW (fun w2 hw => slO.whole (St.own 0 rfl see.sub see.dj hw)) Tryz.underlying31 sz5.h Z3v.1 Z3v.2 rfl rfl rfl rfl (fun p9 Zaf => ?_)
 refine SP.val (Val.loadW1 (off := 0) (k := (kInt .u8)) (fun w2 hw => slO.whole (St.own 0 rfl see.sub see.dj hw)) Z3v.2 Zaf (fun _ _ e => by subst e; rfl) Tryz.underlying5 rfl rfl) rfl rfl rfl (gg ?_)
 exact Option.some.inj ho ▸ rt
def Xl.f (WO : List Int) (Wt : Int) : Option ((List Int) × Int) :=
  if (WO.length : Int) = 0 then (some ([], 101)) else ((if Wt ≠ 0 then ((elt WO (IntKind.i64.wrap ((WO.length : Int) - 1))).bind fun x7 => some (decide (x7 ≠ Wt))) else (some false)).bind fun t8 => if t8 = true then (some ([], 100)) else (if (0 : Int) ≤ (IntKind.i64.wrap ((WO.length : Int) - 1)) ∧ (IntKind.i64.wrap ((WO.length : Int) - 1)) ≤ (WO.length : Int) then (some ((WO.take (IntKind.i64.wrap ((WO.length : Int) - 1) : Int).toNat), 0)) else none))
theorem Xl.ok {WO Wt TH} (r) (ho : Xl.f WO Wt = some r) : Ok Tryz.prog 166 [TH, .int .u8 Wt] [slP (kInt .u8) TH WO] fun v => HO.ex fun u0 : Value => HO.pand (v = .tuple #[u0, .int .i64 r.2]) (HO.seps [HO.ofP (slP (kInt .u8) u0 r.1)]) := by
 refine oq 26 Tryz.func166 fun w hV see pb => ?_
 refine ci ho (fun ho => ?_) fun ho => ?_
 ·exact Option.some.inj ho ▸ rt (fun _ h => St.selO [] rfl rfl (St.know (fun h _ => slP.nil (kInt .u8) h) h)) (hk := fun a b p s => ⟨_, rfl, ⟨em, em, Dj.Yw _, Sub.em _, Sub.em _, p.get 0 rfl, trivial⟩⟩)
 obtain ⟨t8, Z7r, ho⟩ := bind_some ho
 refine SP.jn 7 [0, 6] 22 (.bool t8) ?_ ?_
 ·clear Z7r
  refine gg ?_
  refine cb ho (fun ho => ?_) fun ho => ?_
  ·exact Option.some.inj ho ▸ rt (fun _ h => St.selO [] rfl rfl (St.know (fun h _ => slP.nil (kInt .u8) h) h)) (hk := fun a b p s => ⟨_, rfl, ⟨em, em, Dj.Yw _, Sub.em _, Sub.em _, p.get 0 rfl, trivial⟩⟩)
  obtain ⟨hz, ho⟩ := X6 ho
  refine SP.Z1e see 0 rfl Tryz.underlying31 sz5.h rfl rfl hz rfl rfl (fun v10 => ?_)
  clear hz
  refine gg ?_
  exact Option.some.inj ho ▸ rt (sO []) (hk := fun a b p s => ⟨_, rfl, ⟨em, em, Dj.Yw _, Sub.em _, Sub.em _, p.get 0 rfl, trivial⟩⟩)
 refine bi 15 Z7r (fun hq4 ho => ?_) fun hq4 ho => ?_
 ·refine ip 0 ho fun x7 ho p5 => ?_
  refine SP.val (Val.loadP1 see 0 rfl (fun _ _ e => e) Tryz.underlying5 rfl rfl) rfl rfl rfl (gg ?_)
  obtain rfl := Option.some.inj ho
  exact QE.jn fun w2 hw => (St.selP [1] rfl hw)
 obtain rfl := Option.some.inj ho
 exact jn
inductive Yl.S where
  | start
  | l1 (l13 : List Int) (x15 : Int)
def Yl.F (WO Un : List Int) : Yl.S → Option (Yl.S ⊕ ((List Int) × Int))
  | .start => if (WO.length : Int) < (Un.length : Int) then (some (.inr ([], 101))) else (some (.inl (.l1 WO (IntKind.i64.wrap ((Un.length : Int) - 1)))))
  | .l1 l13 x15 => if x15 ≥ 0 then ((elt Un x15).bind fun x19 => (Xl.f l13 x19).bind fun t20 => if t20.2 ≠ 0 then (some (.inr ([], t20.2))) else (some (.inl (.l1 t20.1 (IntKind.i64.wrap (x15 - 1)))))) else (some (.inr (l13, 0)))
def Yl.f (WO Un : List Int) : Option ((List Int) × Int) := runF (Yl.F WO Un) .start
theorem Yl.ok {WO Un TH Jg} (r) (H : Yl.f WO Un = some r) : Ok Tryz.prog 167 [TH, Jg] [slP (kInt .u8) TH WO, slP (kInt .u8) Jg Un] fun v => HO.ex fun u0 : Value => HO.pand (v = .tuple #[u0, .int .i64 r.2]) (HO.seps [HO.ofP (slP (kInt .u8) u0 r.1)]) := by
 refine oq 35 Tryz.func167 fun w hV see pb => ?_
 obtain ⟨m0, o, ho, hr⟩ := rn H
 refine ci ho (fun ho => ?_) fun ho => ?_
 ·exact fin ho hr ▸ rt (fun _ h => St.selO [] rfl rfl (St.know (fun h _ => slP.nil (kInt .u8) h) h)) (hk := fun a b p s => ⟨_, rfl, ⟨em, em, Dj.Yw _, Sub.em _, Sub.em _, p.get 0 rfl, trivial⟩⟩)
 obtain rfl := Option.some.inj ho
 refine CP.loop (fun cl1 a w2 => ∃ l13 : List Int, ∃ x15 : Int, ∃ v14 : Value, cl1 ≤ m0 ∧ iter (Yl.F WO Un) cl1 (.l1 l13 x15) = some r ∧ Env ⟨35, []⟩ [(0, v14), (1, Jg), (6, .int .i64 x15)] a ∧ St w em hV [slP (kInt .u8) v14 l13, slP (kInt .u8) Jg Un] [] w2) m0 (fun a w2 ha hw => ⟨WO, (IntKind.i64.wrap ((Un.length : Int) - 1)), TH, Nat.le_refl _, hr, ha.sub sb, hw⟩) ?_
 clear hr
 rintro cl1 a w2 ⟨l13, x15, v14, Z1D, hi, ha, hw⟩
 obtain ⟨m16, o, ZaH, ho, hr⟩ := Ud hi
 refine CP.app ha hw ?_
 clear ha hw a w2 hi
 refine gg ?_
 refine ci ho (fun ho => ?_) fun ho => ?_
 ·refine ip 1 ho fun x19 ho p17 => ?_
  refine SP.val (Val.loadP1 see 0 rfl (fun _ _ e => e) Tryz.underlying5 rfl rfl) rfl rfl rfl ?_
  obtain ⟨t20, hc, ho⟩ := bind_some ho
  refine SP.callK see (caps := []) _ fn166.h rfl rfl rfl rfl (fun w2 hP hs sub ap => Xl.ok _ hc w2 hP sub (aS (ap.get 1 rfl) (All.nil _))) (SP.k1 fun v21 => ?_)
  refine SP.imp (fun w2 h => St.toP 0 rfl h) ?_
  clear hc
  refine gg ?_
  refine ci ho (fun ho => ?_) fun ho => ?_
  ·exact fin ho hr ▸ rt (fun _ h => St.selO [] rfl rfl (St.know (fun h _ => slP.nil (kInt .u8) h) h)) (hk := fun a b p s => ⟨_, rfl, ⟨em, em, Dj.Yw _, Sub.em _, Sub.em _, p.get 0 rfl, trivial⟩⟩)
  obtain rfl := Option.some.inj ho
  exact QE.lower m16 (by omega) fun a w2 ha hw => ⟨t20.1, (IntKind.i64.wrap (x15 - 1)), v21, (by omega), hr, ha.sub sb, (St.selP [0, 3] rfl hw)⟩
 exact fin ho hr ▸ rt (sO []) (hk := fun a b p s => ⟨_, rfl, ⟨em, em, Dj.Yw _, Sub.em _, Sub.em _, p.get 0 rfl, trivial⟩⟩)
def ZL.j4 (Zg : Int) (b4 : Bool) : Option (ByteArray × ByteArray) :=
  if b4 = true then (some ((⟨#[112, 112]⟩ : ByteArray), (⟨#[112]⟩ : ByteArray))) else (if Zg = 21 then (some ((⟨#[112]⟩ : ByteArray), (⟨#[112]⟩ : ByteArray))) else (if Zg = 22 then (some ((⟨#[110]⟩ : ByteArray), (⟨#[114]⟩ : ByteArray))) else (if Zg = 23 then (some ((⟨#[114, 110]⟩ : ByteArray), (⟨#[110]⟩ : ByteArray))) else (if Zg = 24 then (some ((⟨#[114, 110, 110]⟩ : ByteArray), (⟨#[]⟩ : ByteArray))) else (if Zg = 25 then (some ((⟨#[114]⟩ : ByteArray), (⟨#[110]⟩ : ByteArray))) else (if Zg = 27 then (some ((⟨#[110]⟩ : ByteArray), (⟨#[]⟩ : ByteArray))) else (if Zg = 6 then (some ((⟨#[46]⟩ : ByteArray), (⟨#[]⟩ : ByteArray))) else (some ((⟨#[63]⟩ : ByteArray), (⟨#[63]⟩ : ByteArray))))))))))
def ZL.j3 (Zg : Int) (b3 : Bool) : Option (ByteArray × ByteArray) :=
  if b3 = true then (some ((⟨#[112]⟩ : ByteArray), (⟨#[110]⟩ : ByteArray))) else (if Zg = 19 then (ZL.j4 Zg (decide (Zg = 19))) else (ZL.j4 Zg (decide (Zg = 20))))
def ZL.j2 (Zg : Int) (b2 : Bool) : Option (ByteArray × ByteArray) :=
  if b2 = true then (some ((⟨#[110, 110]⟩ : ByteArray), (⟨#[110]⟩ : ByteArray))) else (if Zg = 16 then (some ((⟨#[110, 110]⟩ : ByteArray), (⟨#[112]⟩ : ByteArray))) else (if Zg = 17 then (ZL.j3 Zg (decide (Zg = 17))) else (ZL.j3 Zg (decide (Zg = 18)))))
def ZL.j1 (Zg : Int) (b1 : Bool) : Option (ByteArray × ByteArray) :=
  if b1 = true then (some ((⟨#[]⟩ : ByteArray), (⟨#[]⟩ : ByteArray))) else (if Zg = 9 then (ZL.j2 Zg (decide (Zg = 9))) else (if Zg = 10 then (ZL.j2 Zg (decide (Zg = 10))) else (if Zg = 11 then (ZL.j2 Zg (decide (Zg = 11))) else (if Zg = 12 then (ZL.j2 Zg (decide (Zg = 12))) else (if Zg = 13 then (ZL.j2 Zg (decide (Zg = 13))) else (if Zg = 14 then (ZL.j2 Zg (decide (Zg = 14))) else (ZL.j2 Zg (decide (Zg = 15)))))))))
def ZL.f (Zg : Int) : Option (ByteArray × ByteArray) :=
  if Zg = 0 then (ZL.j1 Zg (decide (Zg = 0))) else (if Zg = 26 then (ZL.j1 Zg (decide (Zg = 26))) else (if Zg = 28 then (ZL.j1 Zg (decide (Zg = 28))) else (if Zg = 29 then (ZL.j1 Zg (decide (Zg = 29))) else (ZL.j1 Zg (decide (Zg = 32))))))
theorem ZL.ok {Zg} (r) (ho : ZL.f Zg = some r) : Ok Tryz.prog 217 [.int .u8 Zg] [] fun v => HO.pure (v = .tuple #[.string r.1, .string r.2]) := by
 refine oq (h := fun _ _ _ => id) 41 Tryz.func217 fun w hV see pb => ?_
 refine go ?_
 refine CP.seq ?_
 refine go ?_
 refine oi r (fun z => ∃ b1, z (ZL.j1 Zg b1) [(4, .int .u8 Zg), (5, .bool b1)] []) ?_ ?_
 ·rintro _ _ ⟨b1, ho, h⟩
  refine en h ?_
  refine cb (hf := id) ho (fun ho => ?_) fun ho => ?_
  ·exact Option.some.inj ho ▸ rt
  refine oi r (fun z => ∃ b2, z (ZL.j2 Zg b2) [(4, .int .u8 Zg), (11, .bool b2)] []) ?_ ?_
  ·rintro _ _ ⟨b2, ho, h⟩
   refine en h ?_
   refine cb ho (fun ho => ?_) fun ho => ?_
   ·exact Option.some.inj ho ▸ rt
   refine ci (hf := id) ho (fun ho => ?_) fun ho => ?_
   ·exact Option.some.inj ho ▸ rt
   refine oi r (fun z => ∃ b3, z (ZL.j3 Zg b3) [(4, .int .u8 Zg), (21, .bool b3)] []) ?_ ?_
   ·rintro _ _ ⟨b3, ho, h⟩
    refine en h ?_
    refine cb (hf := id) ho (fun ho => ?_) fun ho => ?_
    ·exact Option.some.inj ho ▸ rt
    refine oi r (fun z => ∃ b4, z (ZL.j4 Zg b4) [(4, .int .u8 Zg), (24, .bool b4)] []) ?_ ?_
    ·rintro _ _ ⟨b4, ho, h⟩
     refine en h ?_
     refine cb ho (fun ho => ?_) fun ho => ?_
     ·exact Option.some.inj ho ▸ rt
     refine ci ho (fun ho => ?_) fun ho => ?_
     ·exact Option.some.inj ho ▸ rt
     refine ci ho (fun ho => ?_) fun ho => ?_
     ·exact Option.some.inj ho ▸ rt
     refine ci ho (fun ho => ?_) fun ho => ?_
     ·exact Option.some.inj ho ▸ rt
     refine ci ho (fun ho => ?_) fun ho => ?_
     ·exact Option.some.inj ho ▸ rt
     refine ci ho (fun ho => ?_) fun ho => ?_
     ·exact Option.some.inj ho ▸ rt
     refine ci ho (fun ho => ?_) fun ho => ?_
     ·exact Option.some.inj ho ▸ rt
     refine ci ho (fun ho => ?_) fun ho => ?_
     ·exact Option.some.inj ho ▸ rt
     exact Option.some.inj ho ▸ rt
    refine gg ?_
    refine ci ho (fun ho => ?_) fun ho => ?_
    ·exact mo ho (fun _ z => ⟨(decide (Zg = 19)), z⟩)
    exact mo ho (fun _ z => ⟨(decide (Zg = 20)), z⟩)
   refine gg ?_
   refine ci ho (fun ho => ?_) fun ho => ?_
   ·exact mo ho (fun _ z => ⟨(decide (Zg = 17)), z⟩)
   exact mo ho (fun _ z => ⟨(decide (Zg = 18)), z⟩)
  refine gg ?_
  refine ci ho (fun ho => ?_) fun ho => ?_
  ·exact mo ho (fun _ z => ⟨(decide (Zg = 9)), z⟩)
  refine ci ho (fun ho => ?_) fun ho => ?_
  ·exact mo ho (fun _ z => ⟨(decide (Zg = 10)), z⟩)
  refine ci ho (fun ho => ?_) fun ho => ?_
  ·exact mo ho (fun _ z => ⟨(decide (Zg = 11)), z⟩)
  refine ci ho (fun ho => ?_) fun ho => ?_
  ·exact mo ho (fun _ z => ⟨(decide (Zg = 12)), z⟩)
  refine ci ho (fun ho => ?_) fun ho => ?_
  ·exact mo ho (fun _ z => ⟨(decide (Zg = 13)), z⟩)
  refine ci ho (fun ho => ?_) fun ho => ?_
  ·exact mo ho (fun _ z => ⟨(decide (Zg = 14)), z⟩)
  exact mo ho (fun _ z => ⟨(decide (Zg = 15)), z⟩)
 refine gg ?_
 refine ci ho (fun ho => ?_) fun ho => ?_
 ·exact mo ho (fun _ z => ⟨(decide (Zg = 0)), z⟩)
 refine ci ho (fun ho => ?_) fun ho => ?_
 ·exact mo ho (fun _ z => ⟨(decide (Zg = 26)), z⟩)
 refine ci ho (fun ho => ?_) fun ho => ?_
 ·exact mo ho (fun _ z => ⟨(decide (Zg = 28)), z⟩)
 refine ci ho (fun ho => ?_) fun ho => ?_
 ·exact mo ho (fun _ z => ⟨(decide (Zg = 29)), z⟩)
 exact mo ho (fun _ z => ⟨(decide (Zg = 32)), z⟩)
def V6.f (c_0 : Int) : Option Int :=
  if c_0 = 110 then (some 1) else (if c_0 = 112 then (some 2) else (if c_0 = 114 then (some 3) else (some 0)))
theorem V6.ok {c_0} (r) (ho : V6.f c_0 = some r) : Ok Tryz.prog 248 [.int .u8 c_0] [] fun v => HO.pure (v = .int .u8 r) := by
 refine oq 10 Tryz.func248 fun w hV see pb => ?_
 refine ci ho (fun ho => ?_) fun ho => ?_
 ·exact Option.some.inj ho ▸ rt
 refine ci ho (fun ho => ?_) fun ho => ?_
 ·exact Option.some.inj ho ▸ rt
 refine ci ho (fun ho => ?_) fun ho => ?_
 ·exact Option.some.inj ho ▸ rt
 exact Option.some.inj ho ▸ rt
inductive YW.S where
  | start
  | l1 (l11 : List Int) (x13 : Int)
def YW.F (s_0 : ByteArray) : YW.S → Option (YW.S ⊕ (List Int))
  | .start => some (.inl (.l1 [] 0))
  | .l1 l11 x13 => if x13 < (s_0.size : Int) then ((strAt s_0 x13).bind fun x15 => (V6.f x15).bind fun t16 => if (l11.length + [t16].length) * 1 ≤ 140737488355328 then (some (.inl (.l1 (l11 ++ [t16]) (IntKind.i64.wrap (x13 + 1))))) else none) else (some (.inr l11))
def YW.f (s_0 : ByteArray) : Option (List Int) := runF (YW.F s_0) .start
theorem YW.ok {s_0} (r) (H : YW.f s_0 = some r) : Ok Tryz.prog 218 [.string s_0] [] fun v => HO.ex fun u0 : Value => HO.pand (v = u0) (HO.seps [slO (kInt .u8) 5 u0 r]) := by
 refine oq 19 Tryz.func218 fun w hV see pb => ?_
 obtain ⟨m0, o, ho, hr⟩ := rn H
 refine lo ho hr (fun z => ∃ l11 x13 v12, z (.l1 l11 x13) [(0, .string s_0), (3, v12), (4, .int .i64 x13)] [slO (kInt .u8) 5 v12 l11]) (fun _ z => ⟨[], 0, (.slice none 0 0), z⟩) ?_ (fun _ hw => (St.addO (slO.nil (kInt .u8) 5) hw))
 rintro _ _ _ ⟨l11, x13, v12, m14, o, _, _, ho, hr, h⟩
 refine en h ?_
 refine SP.val (Val.lenS Tryz.underlying9 rfl) rfl rfl rfl (gg ?_)
 refine ci ho (fun ho => ?_) fun ho => ?_
 ·obtain ⟨x15, hx, ho⟩ := bind_some ho
  refine SP.val (Val.indexS Tryz.underlying9 hx rfl rfl) rfl rfl rfl ?_
  clear hx
  refine kv V6.ok ho fun t16 ho => ?_
  refine li (h := fun _ => id) (kInt .u8) [t16] fun v17 => ?_
  refine fz 0 ?_
  refine ap 0 0 ho fun v19 ho => ?_
  exact lw ho hr (fun _ z => ⟨(l11 ++ [t16]), (IntKind.i64.wrap (x13 + 1)), v19, z⟩)
 exact fin ho hr ▸ rt (sO [0])
def VK.f (Zg : Int) : Option ((List Int) × (List Int) × Bool) :=
  (ZL.f Zg).bind fun t1 => if (t1.1.toList == (⟨#[63]⟩ : ByteArray).toList) = true then (some ([], [], false)) else ((YW.f t1.1).bind fun t4 => (YW.f t1.2).bind fun t7 => some (t4, t7, true))
theorem VK.ok {Zg} (r) (ho : VK.f Zg = some r) : Ok Tryz.prog 168 [.int .u8 Zg] [] fun v => HO.ex fun u0 : Value => HO.ex fun u1 : Value => HO.pand (v = .tuple #[u0, u1, .bool r.2.2]) (HO.seps [slO (kInt .u8) 5 u0 r.1, slO (kInt .u8) 5 u1 r.2.1]) := by
 refine oq 18 Tryz.func168 fun w hV see pb => ?_
 refine kv ZL.ok ho fun t1 ho => ?_
 refine SP.val (Val.eqlS rfl rfl) rfl rfl rfl (gg ?_)
 refine cb ho (fun ho => ?_) fun ho => ?_
 ·exact Option.some.inj ho ▸ rt (fun _ h => St.selO [1, 0] rfl rfl (St.addO (slO.nil (kInt .u8) 5) (St.addO (slO.nil (kInt .u8) 5) h)))
 refine k1 YW.ok ho fun t4 ho v5 => ?_
 refine k1 YW.ok ho fun t7 ho v8 => ?_
 exact Option.some.inj ho ▸ rt (sO [1, 0])
inductive ZT.S where
  | start
  | l1 (t117 : (List Int) × (List Int) × Bool) (l133 : List Int) (x135 : Int)
def ZT.F (m_0 : Z9) (x_1 : Zb) (i_2 : Z7) (WQ : List Int) : ZT.S → Option (ZT.S ⊕ ((List Int) × Int))
  | .start => if i_2.Op = 1 then ((elt m_0.Pool i_2.A).bind fun x16 => (YB.f WQ x16.Kind).bind fun t19 => some (.inr (t19, 0))) else (if i_2.Op = 2 then ((Ww.f x_1 i_2.A).bind fun t22 => (YB.f WQ t22).bind fun t23 => some (.inr (t23, 0))) else (if i_2.Op = 3 then ((Ww.f x_1 i_2.A).bind fun t26 => (Xl.f WQ t26).bind fun t27 => some (.inr (t27.1, t27.2))) else (if i_2.Op = 4 then ((elt m_0.Zj i_2.A).bind fun x32 => (YB.f WQ x32.Kind).bind fun t35 => some (.inr (t35, 0))) else (if i_2.Op = 5 then ((elt m_0.Zj i_2.A).bind fun x40 => (Xl.f WQ x40.Kind).bind fun t43 => some (.inr (t43.1, t43.2))) else (if i_2.Op = 7 then (if (WQ.length : Int) < 1 then (some (.inr ([], 101))) else ((elt WQ (IntKind.i64.wrap ((WQ.length : Int) - 1))).bind fun x49 => (YB.f WQ x49).bind fun t50 => some (.inr (t50, 0)))) else (if i_2.Op = 8 then (if (WQ.length : Int) < 2 then (some (.inr ([], 101))) else ((elt WQ (IntKind.i64.wrap ((WQ.length : Int) - 1))).bind fun x58 => (elt WQ (IntKind.i64.wrap ((WQ.length : Int) - 2))).bind fun x62 => if (0 : Int) ≤ (IntKind.i64.wrap ((WQ.length : Int) - 2)) ∧ (IntKind.i64.wrap ((WQ.length : Int) - 2)) ≤ (WQ.length : Int) then ((YB.f (WQ.take (IntKind.i64.wrap ((WQ.length : Int) - 2) : Int).toNat) x58).bind fun t89 => (YB.f t89 x62).bind fun t92 => some (.inr (t92, 0))) else none)) else (if i_2.Op = 30 then ((elt m_0.Methods i_2.A).bind fun x97 => (Yl.f WQ x97.Args).bind fun t102 => if t102.2 ≠ 0 then (some (.inr ([], t102.2))) else ((elt m_0.Methods i_2.A).bind fun x108 => (YB.f t102.1 x108.Result).bind fun t111 => some (.inr (t111, 0)))) else (if i_2.Op = 31 then ((Xl.f WQ x_1.Result).bind fun t114 => some (.inr (t114.1, t114.2))) else ((VK.f i_2.Op).bind fun t117 => (Yl.f WQ t117.1).bind fun t122 => if t122.2 ≠ 0 then (some (.inr ([], t122.2))) else (some (.inl (.l1 t117 t122.1 0))))))))))))
  | .l1 t117 l133 x135 => if x135 < (t117.2.1.length : Int) then ((elt t117.2.1 x135).bind fun x138 => (YB.f l133 x138).bind fun t139 => some (.inl (.l1 t117 t139 (IntKind.i64.wrap (x135 + 1))))) else (some (.inr (l133, 0)))
def ZT.f (m_0 : Z9) (x_1 : Zb) (i_2 : Z7) (WQ : List Int) : Option ((List Int) × Int) := runF (ZT.F m_0 x_1 i_2 WQ) .start
theorem ZT.ok {m_0 x_1 i_2 WQ Z4 Z6 Z0 Va WA Vb Z4D} (r) (H : ZT.f m_0 x_1 i_2 WQ = some r) : Ok Tryz.prog 102 [.agg #[Z4, Z6, Z0, .int .i64 m_0.Zd], .agg #[Va, WA, .int .u8 x_1.Result, .bool x_1.Reads, .int .i64 x_1.Fuel, .int .i64 x_1.Stack, .int .i64 x_1.Heap, Vb], .agg #[.int .u8 i_2.Op, .int .i64 i_2.A, .int .i64 i_2.B], Z4D] [slP Z5 Z4 m_0.Zj, slP Z5 Z6 m_0.Pool, slP Z8 Z0 m_0.Methods, slP (kInt .u8) Va x_1.Args, slP (kInt .u8) WA x_1.Locals, slP Za Vb x_1.Code, slP (kInt .u8) Z4D WQ] fun v => HO.ex fun u0 : Value => HO.pand (v = .tuple #[u0, .int .i64 r.2]) (HO.seps [HO.ofP (slP (kInt .u8) u0 r.1)]) := by
 refine oq 172 Tryz.func102 fun w hV see pb => ?_
 obtain ⟨m0, o, ho, hr⟩ := rn H
 refine bx fun b8 => ?_
 refine bx fun b10 => ?_
 refine bx fun b12 => ?_
 refine ci ho (fun ho => ?_) fun ho => ?_
 ·refine ip 1 ho fun x16 ho p14 => ?_
  refine SP.fieldP see 0 rfl Tryz.underlying100 rfl sz5.h Z5.KJ rfl rfl rfl (fun p17 => ?_)
  refine SP.val (Val.loadP1 see 0 rfl (fun _ _ e => e) Tryz.underlying5 rfl rfl) rfl rfl rfl ?_
  refine k1 YB.ok ho fun t19 ho v20 => ?_
  exact fin ho hr ▸ rt (fun _ h => St.selO [] rfl rfl (St.W9 h 0 rfl see)) (hk := fun a b p s => ⟨_, rfl, ⟨em, em, Dj.Yw _, Sub.em _, Sub.em _, p.get 0 rfl, trivial⟩⟩)
 refine ci ho (fun ho => ?_) fun ho => ?_
 ·refine kv Ww.ok ho fun t22 ho => ?_
  refine k1 YB.ok ho fun t23 ho v24 => ?_
  exact fin ho hr ▸ rt (fun _ h => St.selO [] rfl rfl (St.W9 h 0 rfl see)) (hk := fun a b p s => ⟨_, rfl, ⟨em, em, Dj.Yw _, Sub.em _, Sub.em _, p.get 0 rfl, trivial⟩⟩)
 refine ci ho (fun ho => ?_) fun ho => ?_
 ·refine kv Ww.ok ho fun t26 ho => ?_
  obtain ⟨t27, hc, ho⟩ := bind_some ho
  refine SP.callK see (caps := []) _ fn166.h rfl rfl rfl rfl (fun w2 hP hs sub ap => Xl.ok _ hc w2 hP sub (aS (ap.get 6 rfl) (All.nil _))) (SP.k1 fun v28 => ?_)
  refine SP.imp (fun w2 h => St.toP 0 rfl h) ?_
  clear hc
  refine gg ?_
  exact fin ho hr ▸ rt (sO []) (hk := fun a b p s => ⟨_, rfl, ⟨em, em, Dj.Yw _, Sub.em _, Sub.em _, p.get 0 rfl, trivial⟩⟩)
 refine ci ho (fun ho => ?_) fun ho => ?_
 ·refine ip 0 ho fun x32 ho p30 => ?_
  refine SP.fieldP see 0 rfl Tryz.underlying100 rfl sz5.h Z5.KJ rfl rfl rfl (fun p33 => ?_)
  refine SP.val (Val.loadP1 see 0 rfl (fun _ _ e => e) Tryz.underlying5 rfl rfl) rfl rfl rfl ?_
  refine k1 YB.ok ho fun t35 ho v36 => ?_
  exact fin ho hr ▸ rt (fun _ h => St.selO [] rfl rfl (St.W9 h 0 rfl see)) (hk := fun a b p s => ⟨_, rfl, ⟨em, em, Dj.Yw _, Sub.em _, Sub.em _, p.get 0 rfl, trivial⟩⟩)
 refine ci ho (fun ho => ?_) fun ho => ?_
 ·refine ip 0 ho fun x40 ho p38 => ?_
  refine SP.fieldP see 0 rfl Tryz.underlying100 rfl sz5.h Z5.KJ rfl rfl rfl (fun p41 => ?_)
  refine SP.val (Val.loadP1 see 0 rfl (fun _ _ e => e) Tryz.underlying5 rfl rfl) rfl rfl rfl ?_
  obtain ⟨t43, hc, ho⟩ := bind_some ho
  refine SP.callK see (caps := []) _ fn166.h rfl rfl rfl rfl (fun w2 hP hs sub ap => Xl.ok _ hc w2 hP sub (aS (ap.get 8 rfl) (All.nil _))) (SP.k1 fun v44 => ?_)
  refine SP.imp (fun w2 h => St.toP 0 rfl h) ?_
  clear hc
  refine gg ?_
  exact fin ho hr ▸ rt (sO []) (hk := fun a b p s => ⟨_, rfl, ⟨em, em, Dj.Yw _, Sub.em _, Sub.em _, p.get 0 rfl, trivial⟩⟩)
 refine ci ho (fun ho => ?_) fun ho => ?_
 ·refine ci ho (fun ho => ?_) fun ho => ?_
  ·exact fin ho hr ▸ rt (fun _ h => St.selO [] rfl rfl (St.know (fun h _ => slP.nil (kInt .u8) h) h)) (hk := fun a b p s => ⟨_, rfl, ⟨em, em, Dj.Yw _, Sub.em _, Sub.em _, p.get 0 rfl, trivial⟩⟩)
  refine ip 6 ho fun x49 ho p47 => ?_
  refine SP.val (Val.loadP1 see 0 rfl (fun _ _ e => e) Tryz.underlying5 rfl rfl) rfl rfl rfl ?_
  refine k1 YB.ok ho fun t50 ho v51 => ?_
  exact fin ho hr ▸ rt (fun _ h => St.selO [] rfl rfl (St.W9 h 0 rfl see)) (hk := fun a b p s => ⟨_, rfl, ⟨em, em, Dj.Yw _, Sub.em _, Sub.em _, p.get 0 rfl, trivial⟩⟩)
 refine ci ho (fun ho => ?_) fun ho => ?_
 ·refine ci ho (fun ho => ?_) fun ho => ?_
  ·exact fin ho hr ▸ rt (fun _ h => St.selO [] rfl rfl (St.know (fun h _ => slP.nil (kInt .u8) h) h)) (hk := fun a b p s => ⟨_, rfl, ⟨em, em, Dj.Yw _, Sub.em _, Sub.em _, p.get 0 rfl, trivial⟩⟩)
  refine dr ?_
  refine ge 6 ho fun x58 ho p56 Z9O => ?_
  refine gu 0 ?_
  refine ge 8 ho fun x62 ho p60 Z9P => ?_
  refine gu 0 ?_
  refine DA.ph 0 15 ?_
  refine DT.tk 0 ?_
  refine DT.tk 1 ?_
  refine DT.tk 2 ?_
  refine DT.tk 4 ?_
  refine DT.tk 5 ?_
  refine DT.tk 6 ?_
  refine DT.tv 7 rfl (Val.ie rfl rfl Z9O) ?_
  refine tk 8 ?_
  refine DT.tk 10 ?_
  refine DT.tk 11 ?_
  refine DT.tk 12 ?_
  refine DT.tv 13 rfl (Val.ie rfl rfl Z9P) ?_
  refine tk 14 ?_
  refine DT.one 3 rfl (by kernel_rfl) rfl ?_
  obtain ⟨hz, ho⟩ := X6 ho
  refine SP.Z1e see 10 rfl Tryz.underlying31 sz5.h rfl rfl hz rfl rfl (fun v86 => ?_)
  clear hz
  refine gg ?_
  refine QE.atT (fun w2 hw => (St.selP [1, 2, 3, 4, 5, 6, 7, 8, 9, 10, 11] rfl hw)) ?_
  refine DT.one 9 rfl (by kernel_rfl) rfl ?_
  refine k1 YB.ok ho fun t89 ho v90 => ?_
  refine QE.atT (fun w2 hw => (St.selP [1, 2, 3, 4, 5, 6, 7, 8, 9, 10, 11] rfl (St.selO [1, 2, 3] rfl rfl hw))) ?_
  refine dn ?_
  refine d1 15 ?_
  obtain ⟨t92, hc, ho⟩ := bind_some ho
  refine SP.callKO see (caps := []) _ fn164.h rfl rfl rfl rfl (fun w2 hs => YB.ok _ hc w2 (hp w2) (Sub.refl _) (aS (slO.read (St.own 0 rfl see.sub see.dj hs) (Sub.refl _) (Sub.refl _)) (All.nil _))) (fun v a a2 b ⟨v93, e, h⟩ => ⟨v93, e, (Sep.fcons (fun _ => slO.flip (fun _ _ _ _ h => h)) (fun _ => Sep.fnil)) h⟩) (SP.k1 fun v93 => ?_)
  clear hc
  refine gg ?_
  refine d1 16 ?_
  refine d1 17 ?_
  refine dz ?_
  exact fin ho hr ▸ rt (fun _ h => St.selO [] rfl rfl (St.W9 h 0 rfl see)) (hk := fun a b p s => ⟨_, rfl, ⟨em, em, Dj.Yw _, Sub.em _, Sub.em _, p.get 0 rfl, trivial⟩⟩)
 refine ci ho (fun ho => ?_) fun ho => ?_
 ·refine ip 2 ho fun x97 ho p95 => ?_
  refine SP.fieldP see 0 rfl Tryz.underlying34 rfl sz31.h Z8.Z08 rfl rfl rfl (fun p98 => ?_)
  refine SP.loadPS see 0 rfl Tryz.underlying31 rfl rfl rfl (fun v100 => ?_)
  obtain ⟨t102, hc, ho⟩ := bind_some ho
  refine SP.callK see (caps := []) _ fn167.h rfl rfl rfl rfl (fun w2 hP hs sub ap => Yl.ok _ hc w2 hP sub (aS (ap.get 9 rfl) (aS (ap.get 0 rfl) (All.nil _)))) (SP.k1 fun v103 => ?_)
  refine SP.imp (fun w2 h => St.toP 0 rfl h) ?_
  clear hc
  refine gg ?_
  refine ci ho (fun ho => ?_) fun ho => ?_
  ·exact fin ho hr ▸ rt (fun _ h => St.selO [] rfl rfl (St.know (fun h _ => slP.nil (kInt .u8) h) h)) (hk := fun a b p s => ⟨_, rfl, ⟨em, em, Dj.Yw _, Sub.em _, Sub.em _, p.get 0 rfl, trivial⟩⟩)
  refine ip 6 ho fun x108 ho p106 => ?_
  refine SP.fieldP see 0 rfl Tryz.underlying34 rfl sz5.h Z8.Z12 rfl rfl rfl (fun p109 => ?_)
  refine SP.val (Val.loadP1 see 0 rfl (fun _ _ e => e) Tryz.underlying5 rfl rfl) rfl rfl rfl ?_
  refine k1 YB.ok ho fun t111 ho v112 => ?_
  exact fin ho hr ▸ rt (fun _ h => St.selO [] rfl rfl (St.W9 h 0 rfl see)) (hk := fun a b p s => ⟨_, rfl, ⟨em, em, Dj.Yw _, Sub.em _, Sub.em _, p.get 0 rfl, trivial⟩⟩)
 refine ci ho (fun ho => ?_) fun ho => ?_
 ·obtain ⟨t114, hc, ho⟩ := bind_some ho
  refine SP.callK see (caps := []) _ fn166.h rfl rfl rfl rfl (fun w2 hP hs sub ap => Xl.ok _ hc w2 hP sub (aS (ap.get 6 rfl) (All.nil _))) (SP.k1 fun v115 => ?_)
  refine SP.imp (fun w2 h => St.toP 0 rfl h) ?_
  clear hc
  refine gg ?_
  exact fin ho hr ▸ rt (sO []) (hk := fun a b p s => ⟨_, rfl, ⟨em, em, Dj.Yw _, Sub.em _, Sub.em _, p.get 0 rfl, trivial⟩⟩)
 refine k2 VK.ok ho fun t117 ho v118 v119 => ?_
 refine fz 0 ?_
 obtain ⟨t122, hc, ho⟩ := bind_some ho
 refine SP.callK see (caps := []) _ fn167.h rfl rfl rfl rfl (fun w2 hP hs sub ap => Yl.ok _ hc w2 hP sub (aS (ap.get 7 rfl) (aS (ap.get 0 rfl) (All.nil _)))) (SP.k1 fun v123 => ?_)
 refine SP.imp (fun w2 h => St.toP 0 rfl h) ?_
 clear hc
 refine gg ?_
 refine ci ho (fun ho => ?_) fun ho => ?_
 ·exact fin ho hr ▸ rt (fun _ h => St.selO [] rfl rfl (St.know (fun h _ => slP.nil (kInt .u8) h) h)) (hk := fun a b p s => ⟨_, rfl, ⟨em, em, Dj.Yw _, Sub.em _, Sub.em _, p.get 0 rfl, trivial⟩⟩)
 obtain rfl := Option.some.inj ho
 refine CP.loop (fun cl1 a w2 => ∃ l133 : List Int, ∃ x135 : Int, ∃ v134 : Value, cl1 ≤ m0 ∧ iter (ZT.F m_0 x_1 i_2 WQ) cl1 (.l1 t117 l133 x135) = some r ∧ Env ⟨172, []⟩ [(14, v119), (16, v134), (18, .int .i64 x135)] a ∧ St w em hV [slP (kInt .u8) v134 l133] [slO (kInt .u8) 5 v119 t117.2.1] w2) m0 (fun a w2 ha hw => ⟨t122.1, 0, v123, Nat.le_refl _, hr, ha.sub sb, (St.selP [0] rfl (St.selO [0] rfl rfl hw))⟩) ?_
 clear hr
 rintro cl1 a w2 ⟨l133, x135, v134, Z1D, hi, ha, hw⟩
 obtain ⟨m136, o, Zaw, ho, hr⟩ := Ud hi
 refine CP.app ha hw ?_
 clear ha hw a w2 hi
 refine gg ?_
 refine ci ho (fun ho => ?_) fun ho => ?_
 ·obtain ⟨x138, Z2d, ho⟩ := YG ho
  refine SP.indexW (fun w2 hw => slO.whole (St.own 0 rfl see.sub see.dj hw)) Tryz.underlying31 sz5.h Z2d.1 Z2d.2 rfl rfl rfl rfl (fun p137 Z8R => ?_)
  refine SP.val (Val.loadW1 (off := 0) (k := (kInt .u8)) (fun w2 hw => slO.whole (St.own 0 rfl see.sub see.dj hw)) Z2d.2 Z8R (fun _ _ e => by subst e; rfl) Tryz.underlying5 rfl rfl) rfl rfl rfl ?_
  refine k1 YB.ok ho fun t139 ho v140 => ?_
  obtain rfl := Option.some.inj ho
  exact QE.lower m136 (by omega) fun a w2 ha hw => ⟨t139, (IntKind.i64.wrap (x135 + 1)), v140, (by omega), hr, ha.sub sb, (St.selP [0] rfl (St.W9 hw 0 rfl see))⟩
 exact fin ho hr ▸ rt (sO []) (hk := fun a b p s => ⟨_, rfl, ⟨em, em, Dj.Yw _, Sub.em _, Sub.em _, p.get 0 rfl, trivial⟩⟩)
def Xq.j1 (l_0 : List Z7) (a1 : Int) (x11 x16 : Z7) (b19 : Bool) : Option ((List Int) × Int) :=
  if b19 = true then (some ([], 0)) else (if x16.Op = 26 then (some ([x11.A], 0)) else (if x16.Op = 27 then (if x11.A = (IntKind.i64.wrap (a1 + 1)) then (some ([x11.A], 0)) else (some ([IntKind.i64.wrap (a1 + 1), x11.A], 0))) else (if x16.Op = 29 then (some ([IntKind.i64.wrap (x11.A + 1), IntKind.i64.wrap (a1 + 1)], 0)) else (some ([IntKind.i64.wrap (a1 + 1)], 0)))))
def Xq.f (l_0 : List Z7) (a1 : Int) : Option ((List Int) × Int) :=
  (Zi.f l_0).bind fun t2 => if t2.2 ≠ 0 then (some ([], t2.2)) else (if ((decide (a1 < 0)) || (decide (a1 ≥ (l_0.length : Int)))) = true then (some ([], 2)) else ((elt l_0 a1).bind fun x11 => (elt l_0 a1).bind fun x16 => if x16.Op = 31 then (Xq.j1 l_0 a1 x11 x16 (decide (x16.Op = 31))) else (Xq.j1 l_0 a1 x11 x16 (decide (x16.Op = 32)))))
theorem Xq.ok {l_0 a1 Y2} (r) (ho : Xq.f l_0 a1 = some r) : Ok Tryz.prog 103 [Y2, .int .i64 a1] [slP Za Y2 l_0] fun v => HO.ex fun u0 : Value => HO.pand (v = .tuple #[u0, .int .i64 r.2]) (HO.seps [slO (kInt .i64) 3 u0 r.1]) := by
 refine oq 64 Tryz.func103 fun w hV see pb => ?_
 obtain ⟨t2, hc, ho⟩ := bind_some ho
 refine SP.callK see (caps := []) _ fn100.h rfl rfl rfl rfl (fun w2 hP hs sub ap => Zi.ok _ hc w2 hP sub (aS (ap.get 0 rfl) (All.nil _))) (SP.k1 fun v3 => ?_)
 refine SP.imp (fun w2 h => St.toP 0 rfl h) ?_
 clear hc
 refine gg ?_
 refine ci ho (fun ho => ?_) fun ho => ?_
 ·exact Option.some.inj ho ▸ rt (fun _ h => St.selO [0] rfl rfl (St.addO (slO.nil (kInt .i64) 3) h))
 refine SP.jn 5 [0, 1] 24 (.bool ((decide (a1 < 0)) || (decide (a1 ≥ (l_0.length : Int))))) ?_ ?_
 ·refine gg ?_
  refine cb ho (fun ho => ?_) fun ho => ?_
  ·exact Option.some.inj ho ▸ rt (fun _ h => St.selO [0] rfl rfl (St.addO (slO.nil (kInt .i64) 3) h))
  refine ip 1 ho fun x11 ho p9 => ?_
  refine SP.fieldP see 0 rfl Tryz.underlying43 rfl sz3.h Za.Uf rfl rfl rfl (fun p12 => ?_)
  refine SP.val (Val.loadP1 see 0 rfl (fun _ _ e => e) Tryz.underlying3 rfl rfl) rfl rfl rfl (gg ?_)
  refine ip 3 ho fun x16 ho p14 => ?_
  refine SP.fieldP see 0 rfl Tryz.underlying43 rfl sz5.h Za.U1 rfl rfl rfl (fun p17 => ?_)
  refine SP.val (Val.loadP1 see 0 rfl (fun _ _ e => e) Tryz.underlying5 rfl rfl) rfl rfl rfl ?_
  refine go ?_
  refine oi r (fun z => ∃ b19, z (Xq.j1 l_0 a1 x11 x16 b19) [(1, .int .i64 a1), (8, .int .i64 x11.A), (34, .int .u8 x16.Op), (35, .bool b19)] []) ?_ ?_ (hb := pe [])
  ·rintro _ _ ⟨b19, ho, h⟩
   refine en h ?_
   refine cb ho (fun ho => ?_) fun ho => ?_
   ·exact Option.some.inj ho ▸ rt (fun _ h => St.selO [0] rfl rfl (St.addO (slO.nil (kInt .i64) 3) h))
   refine ci ho (fun ho => ?_) fun ho => ?_
   ·refine li (kInt .i64) [x11.A] fun v21 => ?_
    exact Option.some.inj ho ▸ rt (sO [0])
   refine ci ho (fun ho => ?_) fun ho => ?_
   ·refine ci ho (fun ho => ?_) fun ho => ?_
    ·refine li (kInt .i64) [x11.A] fun v23 => ?_
     exact Option.some.inj ho ▸ rt (sO [0])
    refine li (kInt .i64) [IntKind.i64.wrap (a1 + 1), x11.A] fun v25 => ?_
    exact Option.some.inj ho ▸ rt (sO [0])
   refine ci ho (fun ho => ?_) fun ho => ?_
   ·refine li (kInt .i64) [IntKind.i64.wrap (x11.A + 1), IntKind.i64.wrap (a1 + 1)] fun v27 => ?_
    exact Option.some.inj ho ▸ rt (sO [0])
   refine li (kInt .i64) [IntKind.i64.wrap (a1 + 1)] fun v29 => ?_
   exact Option.some.inj ho ▸ rt (sO [0])
  refine gg ?_
  refine ci ho (fun ho => ?_) fun ho => ?_
  ·exact mo ho (fun _ z => ⟨(decide (x16.Op = 31)), z⟩)
  exact mo ho (fun _ z => ⟨(decide (x16.Op = 32)), z⟩)
 refine bb 19 (fun hq7 => ?_) fun hq7 => ?_
 ·exact jb (WL hq7)
 exact jb (WM hq7 rfl)
inductive ZB.S where
  | start
  | l1 (x12 : Int)
def ZB.F (a_0 b_1 : List Int) : ZB.S → Option (ZB.S ⊕ Bool)
  | .start => if (a_0.length : Int) ≠ (b_1.length : Int) then (some (.inr false)) else (some (.inl (.l1 0)))
  | .l1 x12 => if x12 < (a_0.length : Int) then ((elt a_0 x12).bind fun x16 => (elt b_1 x12).bind fun x20 => if x16 ≠ x20 then (some (.inr false)) else (some (.inl (.l1 (IntKind.i64.wrap (x12 + 1)))))) else (some (.inr true))
def ZB.f (a_0 b_1 : List Int) : Option Bool := runF (ZB.F a_0 b_1) .start
theorem ZB.ok {a_0 b_1 UG UH} (r) (H : ZB.f a_0 b_1 = some r) : Ok Tryz.prog 104 [UG, UH] [slP (kInt .u8) UG a_0, slP (kInt .u8) UH b_1] fun v => HO.pure (v = .bool r) := by
 refine oq 26 Tryz.func104 fun w hV see pb => ?_
 obtain ⟨m0, o, ho, hr⟩ := rn H
 refine ci ho (fun ho => ?_) fun ho => ?_
 ·exact fin ho hr ▸ rt
 refine lo ho hr (fun z => ∃ x12, z (.l1 x12) [(0, UG), (1, UH), (5, .int .i64 x12)] []) (fun _ z => ⟨0, z⟩) ?_
 rintro _ _ _ ⟨x12, m13, o, _, _, ho, hr, h⟩
 refine en h ?_
 refine ci ho (fun ho => ?_) fun ho => ?_
 ·refine dr ?_
  refine ge 0 ho fun x16 ho p14 KS => ?_
  refine gu 0 ?_
  refine ge 3 ho fun x20 ho p18 KT => ?_
  refine gu 0 ?_
  refine DA.ph 0 8 ?_
  refine DT.tk 0 ?_
  refine DT.tk 1 ?_
  refine DT.tv 2 rfl (Val.ie rfl rfl KS) ?_
  refine tk 3 ?_
  refine DT.tk 4 ?_
  refine DT.tk 5 ?_
  refine DT.tv 6 rfl (Val.ie rfl rfl KT) ?_
  refine tk 7 ?_
  refine dn ?_
  refine d1 8 ?_
  refine dz ?_
  refine ci ho (fun ho => ?_) fun ho => ?_
  ·exact fin ho hr ▸ rt
  exact lw ho hr (fun _ z => ⟨(IntKind.i64.wrap (x12 + 1)), z⟩)
 exact fin ho hr ▸ rt
inductive Zo.S where
  | start
  | l1 (x11 : Zb) (x217 : Int)
  | l2 (x11 : Zb) (l318 : List Zx) (x320 : Int)
  | l3 (x11 : Zb) (x320 : Int) (t338 t342 : (List Int) × Int) (l372 : List Zx) (x374 : Int)
def Zo.j1 (m_0 : Z9) (k_1 : Int) (x11 : Zb) (x320 : Int) (l405 : List Zx) : Option (Zo.S ⊕ ((List Zx) × Int)) :=
  some (.inl (.l2 x11 l405 (IntKind.i64.wrap (x320 + 1))))
def Zo.F (m_0 : Z9) (k_1 : Int) : Zo.S → Option (Zo.S ⊕ ((List Zx) × Int))
  | .start => if ((decide (k_1 < 0)) || (decide (k_1 ≥ (m_0.Methods.length : Int)))) = true then (some (.inr ([], 2))) else ((elt m_0.Methods k_1).bind fun x11 => (Zi.f x11.Code).bind fun t20 => if t20.2 ≠ 0 then (some (.inr ([], t20.2))) else (some (.inl (.l1 x11 0))))
  | .l1 x11 x217 => if x217 < (x11.Code.length : Int) then ((elt x11.Code x217).bind fun x221 => (YV.f m_0 x11 x221).bind fun t223 => if (!t223) = true then (some (.inr ([], 100))) else (some (.inl (.l1 x11 (IntKind.i64.wrap (x217 + 1)))))) else (if (0 : Int) ≤ (x11.Code.length : Int) ∧ (32 : Int) * (x11.Code.length : Int) ≤ 281474976710656 ∧ ((x11.Code.length : Int) : Int) ≤ 9223372036854775807 then ((elt (List.replicate ((x11.Code.length : Int) : Int).toNat Zx.zero : List Zx) 0).bind fun x228 => some (.inl (.l2 x11 ((List.replicate ((x11.Code.length : Int) : Int).toNat Zx.zero : List Zx).set (0 : Int).toNat ({ x228 with Reached := true } : Zx)) 0))) else none)
  | .l2 x11 l318 x320 => if x320 < (l318.length : Int) then ((elt l318 x320).bind fun x323 => if (!x323.Reached) = true then (Zo.j1 m_0 k_1 x11 x320 l318) else ((elt x11.Code x320).bind fun x327 => (elt l318 x320).bind fun x330 => (ZT.f m_0 x11 x327 x330.Kinds).bind fun t338 => if t338.2 ≠ 0 then (some (.inr ([], t338.2))) else ((Xq.f x11.Code x320).bind fun t342 => some (.inl (.l3 x11 x320 t338 t342 l318 0))))) else (some (.inr (l318, 0)))
  | .l3 x11 x320 t338 t342 l372 x374 => if x374 < (t342.1.length : Int) then ((elt t342.1 x374).bind fun x377 => (elt l372 x377).bind fun x379 => (if x379.Reached = true then ((elt l372 x377).bind fun x384 => (ZB.f x384.Kinds t338.1).bind fun t388 => some (!t388)) else (some false)).bind fun t389 => if t389 = true then (some (.inr ([], 100))) else ((elt l372 x377).bind fun x392 => if (([] : List Int).length + t338.1.length) * 1 ≤ 140737488355328 then ((elt (l372.set x377.toNat ({ x392 with Reached := true } : Zx)) x377).bind fun x400 => some (.inl (.l3 x11 x320 t338 t342 ((l372.set x377.toNat ({ x392 with Reached := true } : Zx)).set x377.toNat ({ x400 with Kinds := ([] : List Int) ++ t338.1 } : Zx)) (IntKind.i64.wrap (x374 + 1))))) else none)) else (Zo.j1 m_0 k_1 x11 x320 l372)
def Zo.f (m_0 : Z9) (k_1 : Int) : Option ((List Zx) × Int) := runF (Zo.F m_0 k_1) .start
theorem Zo.ok {m_0 k_1 Z4 Z6 Z0} (r) (H : Zo.f m_0 k_1 = some r) : Ok Tryz.prog 52 [.agg #[Z4, Z6, Z0, .int .i64 m_0.Zd], .int .i64 k_1] [slP Z5 Z4 m_0.Zj, slP Z5 Z6 m_0.Pool, slP Z8 Z0 m_0.Methods] fun v => HO.ex fun u0 : Value => HO.pand (v = .tuple #[u0, .int .i64 r.2]) (HO.seps [slO Y9 155 u0 r.1]) := by
 refine oq 139 Tryz.func52 fun w hV see pb => ?_
 obtain ⟨m0, o, ho, hr⟩ := rn H
 refine bx fun b4 => ?_
 refine SP.jn 6 [1, 2] 26 (.bool ((decide (k_1 < 0)) || (decide (k_1 ≥ (m_0.Methods.length : Int))))) ?_ ?_
 ·refine gg ?_
  refine cb ho (fun ho => ?_) fun ho => ?_
  ·exact fin ho hr ▸ rt (fun _ h => St.selO [0] rfl rfl (St.addO (slO.nil Y9 155) h))
  refine ip 2 ho fun x11 ho p9 => ?_
  refine Z8.load see 0 rfl Tryz.underlying34 rfl sz34.h rfl rfl rfl (fun v12 v14 v16 => ?_)
  refine al (h := fun _ => id) fun b18 => ?_
  refine sp (h := id) 0 fun Z1E => ?_
  refine sp (h := id) 1 fun Z1F => ?_
  refine sp 2 fun Z0c => ?_
  refine st 0 ?_
  obtain ⟨t20, hc, ho⟩ := bind_some ho
  refine SP.callK see (caps := []) _ fn100.h rfl rfl rfl rfl (fun w2 hP hs sub ap => Zi.ok _ hc w2 hP sub (aS (ap.get 2 rfl) (All.nil _))) (SP.k1 fun v21 => ?_)
  refine SP.imp (fun w2 h => St.toP 0 rfl h) ?_
  clear hc
  refine gg ?_
  refine ci ho (fun ho => ?_) fun ho => ?_
  ·exact fin ho hr ▸ rt (fun _ h => St.selO [0] rfl rfl (St.addO (slO.nil Y9 155) h))
  refine lo ho hr (fun z => ∃ x217, z (.l1 x11 x217) [(2, .pointer (some ⟨b4, 0, none⟩)), (6, .pointer (some ⟨b18, 0, none⟩)), (9, .int .i64 x217)] [boxO b18 [v12, v14, .int .u8 x11.Result, .bool x11.Reads, .int .i64 x11.Fuel, .int .i64 x11.Stack, .int .i64 x11.Heap, v16] 34, boxO b4 [Z4, Z6, Z0, .int .i64 m_0.Zd] 25]) (fun _ z => ⟨0, z⟩) ?_ (hb := pe [slP (kInt .u8) v12 x11.Args, slP (kInt .u8) v14 x11.Locals, slP Za v16 x11.Code, slP Z5 Z4 m_0.Zj, slP Z5 Z6 m_0.Pool, slP Z8 Z0 m_0.Methods])
  rintro _ _ _ ⟨x217, m218, o, _, _, ho, hr, h⟩
  refine en h ?_
  refine ci ho (fun ho => ?_) fun ho => ?_
  ·refine dr ?_
   refine ge 2 ho fun x221 ho p219 Z8S => ?_
   refine gu 0 ?_
   refine DA.ph 0 7 ?_
   refine tk 0 ?_
   refine tk 1 ?_
   refine DT.tk 2 ?_
   refine DT.tk 3 ?_
   refine DT.tk 4 ?_
   refine DT.tv 5 rfl (Val.ie rfl rfl Z8S) ?_
   refine tk 6 ?_
   refine dn ?_
   refine d1 7 ?_
   refine kv YV.ok ho fun t223 ho => ?_
   refine d1 8 ?_
   refine dz ?_
   refine cb ho (fun ho => ?_) fun ho => ?_
   ·exact fin ho hr ▸ rt (fun _ h => St.selO [0] rfl rfl (St.addO (slO.nil Y9 155) h))
   exact lw ho hr (fun _ z => ⟨(IntKind.i64.wrap (x217 + 1)), z⟩)
  obtain ⟨hb, ho⟩ := X6 ho
  refine SP.makeS (k := Y9) (z := Zx.zero) Tryz.underlying87 inf155.h rfl rfl (fun _ => ⟨_, rfl, slP.nil _ _⟩) rfl rfl rfl rfl hb (fun v225 => ?_)
  clear hb
  refine gg ?_
  obtain ⟨x228, Z0M, ho⟩ := YG ho
  refine SP.indexW (fun w2 hw => slO.whole (St.own 0 rfl see.sub see.dj hw)) Tryz.underlying87 sz155.h Z0M.1 Z0M.2 rfl rfl rfl rfl (fun p227 Z8T => ?_)
  refine SP.fieldO Z8T Tryz.underlying155 rfl sz4.h rfl rfl rfl (fun p229 Z8U => ?_)
  refine SP.storeO (z0 := ({ x228 with Reached := true } : Zx)) (off := 0) (vs := [.bool true]) see 0 rfl Z0M.2 Z8U rfl (by rfl) sz4.h rfl (fun a cs ap r => by obtain ⟨v0_, e, p0_⟩ := r; subst e; exact ⟨v0_, rfl, p0_⟩) rfl rfl rfl ?_
  have hs230 := Z5A ({ x228 with Reached := true } : Zx) Z0M.2
  refine gg ?_
  refine lo ho hr (fun z => ∃ l318 x320 v319, z (.l2 x11 l318 x320) [(2, .pointer (some ⟨b4, 0, none⟩)), (6, .pointer (some ⟨b18, 0, none⟩)), (10, v319), (11, .int .i64 x320)] [slO Y9 155 v319 l318, boxO b18 [v12, v14, .int .u8 x11.Result, .bool x11.Reads, .int .i64 x11.Fuel, .int .i64 x11.Stack, .int .i64 x11.Heap, v16] 34, boxO b4 [Z4, Z6, Z0, .int .i64 m_0.Zd] 25]) (fun _ z => ⟨((List.replicate ((x11.Code.length : Int) : Int).toNat Zx.zero : List Zx).set (0 : Int).toNat ({ x228 with Reached := true } : Zx)), 0, v225, z⟩) ?_ (hb := pe [slP (kInt .u8) v12 x11.Args, slP (kInt .u8) v14 x11.Locals, slP Za v16 x11.Code, slP Z5 Z4 m_0.Zj, slP Z5 Z6 m_0.Pool, slP Z8 Z0 m_0.Methods])
  rintro _ _ _ ⟨l318, x320, v319, m321, o, _, _, ho, hr, h⟩
  refine en h ?_
  refine ci (ht := id) ho (fun ho => ?_) fun ho => ?_
  ·refine go ?_
   refine ji hr (fun z => ∃ l405 v406, z (Zo.j1 m_0 k_1 x11 x320 l405) [(2, .pointer (some ⟨b4, 0, none⟩)), (6, .pointer (some ⟨b18, 0, none⟩)), (10, v406), (11, .int .i64 x320)] [slO Y9 155 v406 l405, boxO b18 [v12, v14, .int .u8 x11.Result, .bool x11.Reads, .int .i64 x11.Fuel, .int .i64 x11.Stack, .int .i64 x11.Heap, v16] 34, boxO b4 [Z4, Z6, Z0, .int .i64 m_0.Zd] 25]) ?_ ?_ (hb := pe [slP (kInt .u8) v12 x11.Args, slP (kInt .u8) v14 x11.Locals, slP Za v16 x11.Code, slP Z5 Z4 m_0.Zj, slP Z5 Z6 m_0.Pool, slP Z8 Z0 m_0.Methods])
   ·rintro _ _ ⟨l405, v406, m407, o, _, ho, hr, h⟩
    refine en h ?_
    exact lw ho hr (fun _ z => ⟨l405, (IntKind.i64.wrap (x320 + 1)), v406, z⟩)
   refine gg ?_
   obtain ⟨x323, Z2e, ho⟩ := YG ho
   refine SP.indexW (fun w2 hw => slO.whole (St.own 0 rfl see.sub see.dj hw)) Tryz.underlying87 sz155.h Z2e.1 Z2e.2 rfl rfl rfl rfl (fun p322 Z8V => ?_)
   refine SP.fieldO Z8V Tryz.underlying155 rfl sz4.h rfl rfl rfl (fun p324 Z8W => ?_)
   refine SP.val (Val.loadW1 (off := 0) (k := Y9) (fun w2 hw => slO.whole (St.own 0 rfl see.sub see.dj hw)) Z2e.2 Z8W (fun _ _ ⟨_, e, _⟩ => by subst e; rfl) Tryz.underlying4 rfl rfl) rfl rfl rfl (gg ?_)
   refine cb ho (fun ho => ?_) fun ho => ?_
   ·exact mi ho hr (fun _ z => ⟨l318, v319, z⟩)
   refine dr ?_
   refine ge 2 ho fun x327 ho p325 Z8X => ?_
   refine gu 0 ?_
   obtain ⟨x330, Z2f, ho⟩ := YG ho
   refine DA.ghost (fun w2 hw => let ⟨z, hz⟩ := ixC ((fun w2 hw => slO.whole (St.own 0 rfl see.sub see.dj hw)) w2 hw) Z2f.1 Z2f.2; ⟨z, hz, hw⟩) (fun p329 Z5D => ?_)
   have Z5E := Z5D.1
   obtain ⟨p331, Z5F⟩ := PtC.more Z5E 1
   refine DA.ph 0 12 ?_
   refine tk 0 ?_
   refine tk 1 ?_
   refine DT.tk 2 ?_
   refine DT.tk 3 ?_
   refine DT.tk 4 ?_
   refine DT.tv 5 rfl (Val.ie rfl rfl Z8X) ?_
   refine tk 6 ?_
   refine DT.tk 7 ?_
   refine DT.tk 8 ?_
   refine DT.tv 9 rfl (Val.Z0K Z5D Tryz.underlying87 sz155.h rfl rfl) ?_
   refine DT.tv 10 rfl (Val.fieldC Z5E Z5F Tryz.underlying155 rfl rfl sz31.h rfl) ?_
   refine DT.one 11 rfl (by kernel_rfl) rfl ?_
   refine SP.loadOS (j := x320) see 0 1 rfl Z2f.2 Z5F (fun _ _ ⟨v0_, e, p0_⟩ => ⟨v0_, by subst e; rfl, p0_⟩) Tryz.underlying31 rfl rfl rfl (fun v336 => gg ?_)
   refine QE.atT (fun w2 hw => (St.selP [1, 2, 3, 4, 5, 6, 7, 8] rfl hw)) ?_
   refine dn ?_
   refine d1 12 ?_
   obtain ⟨t338, hc, ho⟩ := bind_some ho
   refine SP.callK see (caps := []) _ fn102.h rfl rfl rfl rfl (fun w2 hP hs sub ap => ZT.ok _ hc w2 hP sub (aS (ap.get 6 rfl) (aS (ap.get 7 rfl) (aS (ap.get 8 rfl) (aS (ap.get 3 rfl) (aS (ap.get 4 rfl) (aS (ap.get 5 rfl) (aS (ap.get 0 rfl) (All.nil _))))))))) (SP.k1 fun v339 => ?_)
   refine SP.imp (fun w2 h => St.toP 0 rfl h) ?_
   clear hc
   refine gg ?_
   refine d1 13 ?_
   refine DA.ph 14 17 ?_
   refine DT.tk 14 ?_
   refine DT.tk 15 ?_
   refine DT.tk 16 ?_
   refine dn ?_
   refine d1 17 ?_
   refine dz ?_
   refine ci ho (fun ho => ?_) fun ho => ?_
   ·exact fin ho hr ▸ rt (fun _ h => St.selO [0] rfl rfl (St.addO (slO.nil Y9 155) h))
   refine k1 Xq.ok ho fun t342 ho v343 => ?_
   refine lo ho hr (fun z => ∃ l372 x374 v373, z (.l3 x11 x320 t338 t342 l372 x374) [(2, .pointer (some ⟨b4, 0, none⟩)), (6, .pointer (some ⟨b18, 0, none⟩)), (10, v373), (11, .int .i64 x320), (12, v339), (14, v343), (16, .int .i64 x374)] [slO (kInt .i64) 3 v343 t342.1, slO Y9 155 v373 l372, boxO b18 [v12, v14, .int .u8 x11.Result, .bool x11.Reads, .int .i64 x11.Fuel, .int .i64 x11.Stack, .int .i64 x11.Heap, v16] 34, boxO b4 [Z4, Z6, Z0, .int .i64 m_0.Zd] 25]) (fun _ z => ⟨l318, 0, v319, z⟩) ?_ (hb := pe [slP (kInt .u8) v339 t338.1, slP (kInt .u8) v12 x11.Args, slP (kInt .u8) v14 x11.Locals, slP Za v16 x11.Code, slP Z5 Z4 m_0.Zj, slP Z5 Z6 m_0.Pool, slP Z8 Z0 m_0.Methods])
   rintro _ _ _ ⟨l372, x374, v373, m375, o, _, _, ho, hr, h⟩
   refine en h ?_
   refine ci ho (fun ho => ?_) fun ho => ?_
   ·obtain ⟨x377, Z2g, ho⟩ := YG ho
    refine SP.indexW (fun w2 hw => slO.whole (St.own 0 rfl see.sub see.dj hw)) Tryz.underlying48 sz3.h Z2g.1 Z2g.2 rfl rfl rfl rfl (fun p376 Z8Y => ?_)
    refine SP.val (Val.loadW1 (off := 0) (k := (kInt .i64)) (fun w2 hw => slO.whole (St.own 0 rfl see.sub see.dj hw)) Z2g.2 Z8Y (fun _ _ e => by subst e; rfl) Tryz.underlying3 rfl rfl) rfl rfl rfl (gg ?_)
    obtain ⟨x379, Z2h, ho⟩ := YG ho
    refine SP.indexW (fun w2 hw => slO.whole (St.own 1 rfl see.sub see.dj hw)) Tryz.underlying87 sz155.h Z2h.1 Z2h.2 rfl rfl rfl rfl (fun p378 Z8Z => ?_)
    refine SP.fieldO Z8Z Tryz.underlying155 rfl sz4.h rfl rfl rfl (fun p380 Z90 => ?_)
    refine SP.val (Val.loadW1 (off := 0) (k := Y9) (fun w2 hw => slO.whole (St.own 1 rfl see.sub see.dj hw)) Z2h.2 Z90 (fun _ _ ⟨_, e, _⟩ => by subst e; rfl) Tryz.underlying4 rfl rfl) rfl rfl rfl (gg ?_)
    obtain ⟨t389, Z4E, ho⟩ := bind_some ho
    refine SP.jn 9 [2, 6, 10, 11, 12, 14, 16, 17] 126 (.bool t389) ?_ ?_
    ·clear Z4E
     refine gg ?_
     refine cb ho (fun ho => ?_) fun ho => ?_
     ·exact fin ho hr ▸ rt (fun _ h => St.selO [0] rfl rfl (St.addO (slO.nil Y9 155) h))
     obtain ⟨x392, Z0N, ho⟩ := YG ho
     refine SP.indexW (fun w2 hw => slO.whole (St.own 1 rfl see.sub see.dj hw)) Tryz.underlying87 sz155.h Z0N.1 Z0N.2 rfl rfl rfl rfl (fun p391 Z3u => ?_)
     refine SP.fieldO Z3u Tryz.underlying155 rfl sz4.h rfl rfl rfl (fun p393 Z91 => ?_)
     refine SP.storeO (z0 := ({ x392 with Reached := true } : Zx)) (off := 0) (vs := [.bool true]) see 1 rfl Z0N.2 Z91 rfl (by rfl) sz4.h rfl (fun a cs ap r => by obtain ⟨v0_, e, p0_⟩ := r; subst e; exact ⟨v0_, rfl, p0_⟩) rfl rfl rfl ?_
     have hs394 := Z5A ({ x392 with Reached := true } : Zx) Z0N.2
     refine gg ?_
     refine SP.lit0 (k := (kInt .u8)) Tryz.underlying31 inf5.h rfl rfl (fun v395 => gg ?_)
     refine ap 0 0 ho fun v397 ho => ?_
     obtain ⟨x400, Z2i, ho⟩ := YG ho
     refine SP.indexW (fun w2 hw => slO.whole (St.own 2 rfl see.sub see.dj hw)) Tryz.underlying87 sz155.h Z2i.1 Z2i.2 rfl rfl rfl rfl (fun p399 Z92 => ?_)
     refine SP.fieldO Z92 Tryz.underlying155 rfl sz31.h rfl rfl rfl (fun p401 Z93 => ?_)
     refine fz (h := id) 0 ?_
     refine sp 0 fun Z4F => ?_
     refine SP.storeO (z0 := ({ x400 with Kinds := ([] : List Int) ++ t338.1 } : Zx)) (off := 1) (vs := [v397]) see 1 rfl Z2i.2 Z93 (Z01 Z4F) (Vz Z4F (rfl)) sz31.h rfl (fun a cs ap r => by obtain ⟨v0_, e, p0_⟩ := r; subst e; exact ⟨v397, rfl, ap.get 0 rfl⟩) rfl rfl rfl (gg ?_)
     exact lw ho hr (fun _ z => ⟨((l372.set x377.toNat ({ x392 with Reached := true } : Zx)).set x377.toNat ({ x400 with Kinds := ([] : List Int) ++ t338.1 } : Zx)), (IntKind.i64.wrap (x374 + 1)), v373, z⟩)
    refine bc 117 Z4E (fun hq382 ho => ?_) fun hq382 ho => ?_
    ·obtain ⟨x384, Z2j, ho⟩ := YG ho
     refine SP.indexW (fun w2 hw => slO.whole (St.own 1 rfl see.sub see.dj hw)) Tryz.underlying87 sz155.h Z2j.1 Z2j.2 rfl rfl rfl rfl (fun p383 Z94 => ?_)
     refine SP.fieldO Z94 Tryz.underlying155 rfl sz31.h rfl rfl rfl (fun p385 Z95 => ?_)
     refine SP.loadOS (j := x377) see 1 1 rfl Z2j.2 Z95 (fun _ _ ⟨v0_, e, p0_⟩ => ⟨v0_, by subst e; rfl, p0_⟩) Tryz.underlying31 rfl rfl rfl (fun v386 => gg ?_)
     refine kv ZB.ok ho fun t388 ho => ?_
     obtain rfl := Option.some.inj ho
     exact QE.jn fun w2 hw => (St.selP [1, 2, 3, 4, 5, 6, 7] rfl hw)
    obtain rfl := Option.some.inj ho
    exact jn
   exact mi ho hr (fun _ z => ⟨l372, v373, z⟩) (sO [1, 2, 3])
  exact fin ho hr ▸ rt (sO [0])
 refine bb 20 (fun hq7 => ?_) fun hq7 => ?_
 ·exact jb (WL hq7)
 exact jb (WM hq7 rfl)
inductive Xc.S where
  | start
  | l1 (x20 : Int)
def Xc.F (x_0 : Zb) (n_1 : Int) : Xc.S → Option (Xc.S ⊕ Bool)
  | .start => some (.inl (.l1 0))
  | .l1 x20 => if x20 < (x_0.Code.length : Int) then ((elt x_0.Code x20).bind fun x24 => (if x24.Op = 30 then ((elt x_0.Code x20).bind fun x31 => some (decide (x31.A = n_1))) else (some false)).bind fun t34 => if t34 = true then (some (.inr true)) else (some (.inl (.l1 (IntKind.i64.wrap (x20 + 1)))))) else (some (.inr false))
def Xc.f (x_0 : Zb) (n_1 : Int) : Option Bool := runF (Xc.F x_0 n_1) .start
theorem Xc.ok {x_0 n_1 VT Vm VU} (r) (H : Xc.f x_0 n_1 = some r) : Ok Tryz.prog 169 [.agg #[VT, Vm, .int .u8 x_0.Result, .bool x_0.Reads, .int .i64 x_0.Fuel, .int .i64 x_0.Stack, .int .i64 x_0.Heap, VU], .int .i64 n_1] [slP (kInt .u8) VT x_0.Args, slP (kInt .u8) Vm x_0.Locals, slP Za VU x_0.Code] fun v => HO.pure (v = .bool r) := by
 refine oq 30 Tryz.func169 fun w hV see pb => ?_
 obtain ⟨m0, o, ho, hr⟩ := rn H
 refine bx fun b4 => ?_
 refine lo ho hr (fun z => ∃ x20, z (.l1 x20) [(1, .int .i64 n_1), (2, .pointer (some ⟨b4, 0, none⟩)), (5, .int .i64 x20)] [boxO b4 [VT, Vm, .int .u8 x_0.Result, .bool x_0.Reads, .int .i64 x_0.Fuel, .int .i64 x_0.Stack, .int .i64 x_0.Heap, VU] 34]) (fun _ z => ⟨0, z⟩) ?_
 rintro _ _ _ ⟨x20, m21, o, _, _, ho, hr, h⟩
 refine en h ?_
 refine ci ho (fun ho => ?_) fun ho => ?_
 ·refine ip 2 ho fun x24 ho p22 => ?_
  refine SP.fieldP see 0 rfl Tryz.underlying43 rfl sz5.h Za.U1 rfl rfl rfl (fun p25 => ?_)
  refine SP.val (Val.loadP1 see 0 rfl (fun _ _ e => e) Tryz.underlying5 rfl rfl) rfl rfl rfl (gg ?_)
  obtain ⟨t34, Z0b, ho⟩ := bind_some ho
  refine SP.jn 9 [1, 2, 5] 29 (.bool t34) ?_ ?_
  ·clear Z0b
   refine gg ?_
   refine cb ho (fun ho => ?_) fun ho => ?_
   ·exact fin ho hr ▸ rt
   exact lw ho hr (fun _ z => ⟨(IntKind.i64.wrap (x20 + 1)), z⟩)
  refine bi 20 Z0b (fun hq28 ho => ?_) fun hq28 ho => ?_
  ·refine ip 4 ho fun x31 ho p29 => ?_
   refine SP.fieldP see 0 rfl Tryz.underlying43 rfl sz3.h Za.Uf rfl rfl rfl (fun p32 => ?_)
   refine SP.val (Val.loadP1 see 0 rfl (fun _ _ e => e) Tryz.underlying3 rfl rfl) rfl rfl rfl (gg ?_)
   obtain rfl := Option.some.inj ho
   exact QE.jn fun w2 hw => (St.selP [2, 3, 4, 5, 6] rfl hw)
  obtain rfl := Option.some.inj ho
  exact jn
 exact fin ho hr ▸ rt
end Go.Proofs.YtehjiiebjkkcmaaGreatDoor
end
