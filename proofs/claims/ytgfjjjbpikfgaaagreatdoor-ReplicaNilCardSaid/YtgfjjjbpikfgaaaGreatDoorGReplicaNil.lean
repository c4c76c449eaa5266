/- Functions of the program as plain functions, with the proof that the code computes them: printed by gen.py of this session. -/
import Derived.Test.YtgfjjjbpikfgaaaGreatDoorProg
import Derived.Test.YtgfjjjbpikfgaaaGreatDoorQ22v188945
set_option linter.unusedVariables false
set_option linter.unusedSimpArgs false
set_option maxRecDepth 20000
set_option maxHeartbeats 2000000
noncomputable section
namespace Go.Proofs.YtgfjjjbpikfgaaaGreatDoor
open Go.Q
structure api_Value where
  Kind : Int
  A : Int
  B : Int
def api_Value.zero : api_Value := ⟨0, 0, 0⟩
def k_api_Value : Kd api_Value := ⟨3, fun h cs x => cs = [.int .u8 x.Kind, .int .i64 x.A, .int .i64 x.B], fun _ _ _ _ _ h => h, fun _ _ _ h => by simp [h], fun _ _ _ h => by subst h; rfl⟩
theorem k_api_Value.part_Kind : Part k_api_Value 0 (kInt .u8) (fun x => x.Kind) := fun h cs x e => ⟨[.int .u8 x.Kind], rfl, by subst e; exact seg_get [.int .u8 x.Kind, .int .i64 x.A, .int .i64 x.B] 0 1⟩
theorem k_api_Value.part_A : Part k_api_Value 1 (kInt .i64) (fun x => x.A) := fun h cs x e => ⟨[.int .i64 x.A], rfl, by subst e; exact seg_get [.int .u8 x.Kind, .int .i64 x.A, .int .i64 x.B] 1 1⟩
theorem k_api_Value.part_B : Part k_api_Value 2 (kInt .i64) (fun x => x.B) := fun h cs x e => ⟨[.int .i64 x.B], rfl, by subst e; exact seg_get [.int .u8 x.Kind, .int .i64 x.A, .int .i64 x.B] 2 1⟩
theorem k_api_Value.load {P : Program} {n : Fr} {ρ : Option Nat} {σ : List (Nat × Value)} {w0 : World} {hA hV : Hp} {ps : List HP} {os : List HO} {L l : List Oper} {Q : Cont} {d : Nat} {t tr : TypeId} {x : Operand} {pos : String} {af : Array Edge} {g : Option (Nat × Bool)} {v : Value} (see : Sees w0 hA hV) (i : Nat) {x0 : api_Value} (hi : ps[i]? = some (elP k_api_Value v x0)) {dsc : TypeDesc} (hu : P.underlying t = some dsc) (hd : (match dsc with | .struct _ | .array _ _ => true | _ => false) = true) (hs : (P.info? t).map (·.size) = some 3) (hg : gd L σ g = some true) (hn : Nat.blt d n.n = true) (hx : ev σ x = some v)
    (h : SP P n ρ ((d, .agg [.int .u8 x0.Kind, .int .i64 x0.A, .int .i64 x0.B].toArray) :: σ) (St w0 hA hV (ps) os) L l Q) : SP P n ρ σ (St w0 hA hV ps os) L (⟨some d, .load t x, tr, pos, af, g⟩ :: l) Q :=
  SP.loadP see i hi hu hd hs hg hn hx fun cs a w ha hw => by
    obtain ⟨m, fr, hN, hO, n1, n2, dj, s1, s2, ap, s⟩ := hw
    obtain rfl := ap.get 0 rfl
    exact h a w ha ⟨m, fr, hN, hO, n1, n2, dj, s1, s2, (fun y hy => ap y (List.mem_cons_of_mem _ hy)), s⟩
structure api_Op where
  Kind : Int
  Method : Int
  Args : (List api_Value)
  Bytes : (List Int)
def api_Op.zero : api_Op := ⟨0, 0, [], []⟩
def k_api_Op : Kd api_Op := ⟨4, fun h cs x => ∃ v0 v1 : Value, cs = [.int .u8 x.Kind, .int .i64 x.Method, v0, v1] ∧ slR k_api_Value h v0 x.Args ∧ slR (kInt .u8) h v1 x.Bytes,
  fun _ _ _ _ s ⟨v0, v1, e, p0, p1⟩ => ⟨v0, v1, e, slR.mono s p0, slR.mono s p1⟩, fun _ _ _ ⟨v0, v1, e, p0, p1⟩ => by simp [e],
  fun _ _ _ ⟨v0, v1, e, p0, p1⟩ => by subst e; obtain ⟨_, _, rfl, -⟩ := p0; obtain ⟨_, _, rfl, -⟩ := p1; rfl⟩
def o_api_Op : Ko api_Op := ⟨k_api_Op, fun cs x => HO.ex fun v0 : Value => HO.ex fun v1 : Value => HO.pand (cs = [.int .u8 x.Kind, .int .i64 x.Method, v0, v1]) (HO.seps [slO k_api_Value 35 v0 x.Args, slO (kInt .u8) 5 v1 x.Bytes]), fun ⟨v0, v1, e, q⟩ sa sh => ⟨v0, v1, e, slO.read (Sep.get 0 rfl q) sa sh, slO.read (Sep.get 1 rfl q) sa sh⟩⟩
@[reducible] def api_Op.set_Args (x : api_Op) (l : (List api_Value)) : api_Op := { x with Args := l }
theorem o_api_Op.leaf2 : Leaf o_api_Op 2 k_api_Value 35 (fun x => x.Args) api_Op.set_Args := fun a h c x ⟨v0, v1, e, q⟩ => by
  subst e
  obtain ⟨h1, h2, dj, s1, s2, p, rest⟩ := Sep.take 0 _ rfl q
  exact ⟨v0, h1, h2, rfl, dj, s1, s2, p, fun a' h' l' sa dj' r => ⟨v0, v1, rfl, Sep.back 0 [slO k_api_Value 35 v0 x.Args, slO (kInt .u8) 5 v1 x.Bytes] (x := slO k_api_Value 35 v0 l') (Nat.le_of_ble_eq_true rfl) dj' r (Sep.mono _ sa (Sub.refl _) rest)⟩⟩
@[reducible] def api_Op.set_Bytes (x : api_Op) (l : (List Int)) : api_Op := { x with Bytes := l }
theorem o_api_Op.leaf3 : Leaf o_api_Op 3 (kInt .u8) 5 (fun x => x.Bytes) api_Op.set_Bytes := fun a h c x ⟨v0, v1, e, q⟩ => by
  subst e
  obtain ⟨h1, h2, dj, s1, s2, p, rest⟩ := Sep.take 1 _ rfl q
  exact ⟨v1, h1, h2, rfl, dj, s1, s2, p, fun a' h' l' sa dj' r => ⟨v0, v1, rfl, Sep.back 1 [slO k_api_Value 35 v0 x.Args, slO (kInt .u8) 5 v1 x.Bytes] (x := slO (kInt .u8) 5 v1 l') (Nat.le_of_ble_eq_true rfl) dj' r (Sep.mono _ sa (Sub.refl _) rest)⟩⟩
theorem k_api_Op.part_Kind : Part k_api_Op 0 (kInt .u8) (fun x => x.Kind) := fun h cs x ⟨v0, v1, e, p0, p1⟩ => ⟨[.int .u8 x.Kind], rfl, by subst e; exact seg_get [.int .u8 x.Kind, .int .i64 x.Method, v0, v1] 0 1⟩
theorem k_api_Op.part_Method : Part k_api_Op 1 (kInt .i64) (fun x => x.Method) := fun h cs x ⟨v0, v1, e, p0, p1⟩ => ⟨[.int .i64 x.Method], rfl, by subst e; exact seg_get [.int .u8 x.Kind, .int .i64 x.Method, v0, v1] 1 1⟩
theorem k_api_Op.part_Args : Part k_api_Op 2 (kSl k_api_Value) (fun x => x.Args) := fun h cs x ⟨v0, v1, e, p0, p1⟩ => ⟨[v0], ⟨v0, rfl, p0⟩, by subst e; exact seg_get [.int .u8 x.Kind, .int .i64 x.Method, v0, v1] 2 1⟩
theorem k_api_Op.part_Bytes : Part k_api_Op 3 (kSl (kInt .u8)) (fun x => x.Bytes) := fun h cs x ⟨v0, v1, e, p0, p1⟩ => ⟨[v1], ⟨v1, rfl, p1⟩, by subst e; exact seg_get [.int .u8 x.Kind, .int .i64 x.Method, v0, v1] 3 1⟩
theorem k_api_Op.load {P : Program} {n : Fr} {ρ : Option Nat} {σ : List (Nat × Value)} {w0 : World} {hA hV : Hp} {ps : List HP} {os : List HO} {L l : List Oper} {Q : Cont} {d : Nat} {t tr : TypeId} {x : Operand} {pos : String} {af : Array Edge} {g : Option (Nat × Bool)} {v : Value} (see : Sees w0 hA hV) (i : Nat) {x0 : api_Op} (hi : ps[i]? = some (elP k_api_Op v x0)) {dsc : TypeDesc} (hu : P.underlying t = some dsc) (hd : (match dsc with | .struct _ | .array _ _ => true | _ => false) = true) (hs : (P.info? t).map (·.size) = some 4) (hg : gd L σ g = some true) (hn : Nat.blt d n.n = true) (hx : ev σ x = some v)
    (h : ∀ v0 v1, SP P n ρ ((d, .agg [.int .u8 x0.Kind, .int .i64 x0.Method, v0, v1].toArray) :: σ) (St w0 hA hV (slP k_api_Value v0 x0.Args :: slP (kInt .u8) v1 x0.Bytes :: ps) os) L l Q) : SP P n ρ σ (St w0 hA hV ps os) L (⟨some d, .load t x, tr, pos, af, g⟩ :: l) Q :=
  SP.loadP see i hi hu hd hs hg hn hx fun cs a w ha hw => by
    obtain ⟨m, fr, hN, hO, n1, n2, dj, s1, s2, ap, s⟩ := hw
    obtain ⟨v0, v1, e, p0, p1⟩ := ap.get 0 rfl
    subst e
    exact h v0 v1 a w ha ⟨m, fr, hN, hO, n1, n2, dj, s1, s2, All.cons p0 (All.cons p1 ((fun y hy => ap y (List.mem_cons_of_mem _ hy)))), s⟩
structure api_Entry where
  Proc : Int
  Seq : Int
  Op : api_Op
def api_Entry.zero : api_Entry := ⟨0, 0, api_Op.zero⟩
def k_api_Entry : Kd api_Entry := ⟨6, fun h cs x => ∃ v0 v1 : Value, cs = [.int .i64 x.Proc, .int .i64 x.Seq, .int .u8 x.Op.Kind, .int .i64 x.Op.Method, v0, v1] ∧ slR k_api_Value h v0 x.Op.Args ∧ slR (kInt .u8) h v1 x.Op.Bytes,
  fun _ _ _ _ s ⟨v0, v1, e, p0, p1⟩ => ⟨v0, v1, e, slR.mono s p0, slR.mono s p1⟩, fun _ _ _ ⟨v0, v1, e, p0, p1⟩ => by simp [e],
  fun _ _ _ ⟨v0, v1, e, p0, p1⟩ => by subst e; obtain ⟨_, _, rfl, -⟩ := p0; obtain ⟨_, _, rfl, -⟩ := p1; rfl⟩
def o_api_Entry : Ko api_Entry := ⟨k_api_Entry, fun cs x => HO.ex fun v0 : Value => HO.ex fun v1 : Value => HO.pand (cs = [.int .i64 x.Proc, .int .i64 x.Seq, .int .u8 x.Op.Kind, .int .i64 x.Op.Method, v0, v1]) (HO.seps [slO k_api_Value 35 v0 x.Op.Args, slO (kInt .u8) 5 v1 x.Op.Bytes]), fun ⟨v0, v1, e, q⟩ sa sh => ⟨v0, v1, e, slO.read (Sep.get 0 rfl q) sa sh, slO.read (Sep.get 1 rfl q) sa sh⟩⟩
@[reducible] def api_Entry.set_Op_Args (x : api_Entry) (l : (List api_Value)) : api_Entry := { x with Op := { x.Op with Args := l } }
theorem o_api_Entry.leaf4 : Leaf o_api_Entry 4 k_api_Value 35 (fun x => x.Op.Args) api_Entry.set_Op_Args := fun a h c x ⟨v0, v1, e, q⟩ => by
  subst e
  obtain ⟨h1, h2, dj, s1, s2, p, rest⟩ := Sep.take 0 _ rfl q
  exact ⟨v0, h1, h2, rfl, dj, s1, s2, p, fun a' h' l' sa dj' r => ⟨v0, v1, rfl, Sep.back 0 [slO k_api_Value 35 v0 x.Op.Args, slO (kInt .u8) 5 v1 x.Op.Bytes] (x := slO k_api_Value 35 v0 l') (Nat.le_of_ble_eq_true rfl) dj' r (Sep.mono _ sa (Sub.refl _) rest)⟩⟩
@[reducible] def api_Entry.set_Op_Bytes (x : api_Entry) (l : (List Int)) : api_Entry := { x with Op := { x.Op with Bytes := l } }
theorem o_api_Entry.leaf5 : Leaf o_api_Entry 5 (kInt .u8) 5 (fun x => x.Op.Bytes) api_Entry.set_Op_Bytes := fun a h c x ⟨v0, v1, e, q⟩ => by
  subst e
  obtain ⟨h1, h2, dj, s1, s2, p, rest⟩ := Sep.take 1 _ rfl q
  exact ⟨v1, h1, h2, rfl, dj, s1, s2, p, fun a' h' l' sa dj' r => ⟨v0, v1, rfl, Sep.back 1 [slO k_api_Value 35 v0 x.Op.Args, slO (kInt .u8) 5 v1 x.Op.Bytes] (x := slO (kInt .u8) 5 v1 l') (Nat.le_of_ble_eq_true rfl) dj' r (Sep.mono _ sa (Sub.refl _) rest)⟩⟩
theorem k_api_Entry.part_Proc : Part k_api_Entry 0 (kInt .i64) (fun x => x.Proc) := fun h cs x ⟨v0, v1, e, p0, p1⟩ => ⟨[.int .i64 x.Proc], rfl, by subst e; exact seg_get [.int .i64 x.Proc, .int .i64 x.Seq, .int .u8 x.Op.Kind, .int .i64 x.Op.Method, v0, v1] 0 1⟩
theorem k_api_Entry.part_Seq : Part k_api_Entry 1 (kInt .i64) (fun x => x.Seq) := fun h cs x ⟨v0, v1, e, p0, p1⟩ => ⟨[.int .i64 x.Seq], rfl, by subst e; exact seg_get [.int .i64 x.Proc, .int .i64 x.Seq, .int .u8 x.Op.Kind, .int .i64 x.Op.Method, v0, v1] 1 1⟩
theorem k_api_Entry.part_Op : Part k_api_Entry 2 k_api_Op (fun x => x.Op) := fun h cs x ⟨v0, v1, e, p0, p1⟩ => ⟨[.int .u8 x.Op.Kind, .int .i64 x.Op.Method, v0, v1], ⟨v0, v1, rfl, p0, p1⟩, by subst e; exact seg_get [.int .i64 x.Proc, .int .i64 x.Seq, .int .u8 x.Op.Kind, .int .i64 x.Op.Method, v0, v1] 2 4⟩
theorem k_api_Entry.load {P : Program} {n : Fr} {ρ : Option Nat} {σ : List (Nat × Value)} {w0 : World} {hA hV : Hp} {ps : List HP} {os : List HO} {L l : List Oper} {Q : Cont} {d : Nat} {t tr : TypeId} {x : Operand} {pos : String} {af : Array Edge} {g : Option (Nat × Bool)} {v : Value} (see : Sees w0 hA hV) (i : Nat) {x0 : api_Entry} (hi : ps[i]? = some (elP k_api_Entry v x0)) {dsc : TypeDesc} (hu : P.underlying t = some dsc) (hd : (match dsc with | .struct _ | .array _ _ => true | _ => false) = true) (hs : (P.info? t).map (·.size) = some 6) (hg : gd L σ g = some true) (hn : Nat.blt d n.n = true) (hx : ev σ x = some v)
    (h : ∀ v0 v1, SP P n ρ ((d, .agg [.int .i64 x0.Proc, .int .i64 x0.Seq, .int .u8 x0.Op.Kind, .int .i64 x0.Op.Method, v0, v1].toArray) :: σ) (St w0 hA hV (slP k_api_Value v0 x0.Op.Args :: slP (kInt .u8) v1 x0.Op.Bytes :: ps) os) L l Q) : SP P n ρ σ (St w0 hA hV ps os) L (⟨some d, .load t x, tr, pos, af, g⟩ :: l) Q :=
  SP.loadP see i hi hu hd hs hg hn hx fun cs a w ha hw => by
    obtain ⟨m, fr, hN, hO, n1, n2, dj, s1, s2, ap, s⟩ := hw
    obtain ⟨v0, v1, e, p0, p1⟩ := ap.get 0 rfl
    subst e
    exact h v0 v1 a w ha ⟨m, fr, hN, hO, n1, n2, dj, s1, s2, All.cons p0 (All.cons p1 ((fun y hy => ap y (List.mem_cons_of_mem _ hy)))), s⟩
structure api_Outcome where
  Trap : Int
  Result : api_Value
def api_Outcome.zero : api_Outcome := ⟨0, api_Value.zero⟩
def k_api_Outcome : Kd api_Outcome := ⟨4, fun h cs x => cs = [.int .i64 x.Trap, .int .u8 x.Result.Kind, .int .i64 x.Result.A, .int .i64 x.Result.B], fun _ _ _ _ _ h => h, fun _ _ _ h => by simp [h], fun _ _ _ h => by subst h; rfl⟩
theorem k_api_Outcome.part_Trap : Part k_api_Outcome 0 (kInt .i64) (fun x => x.Trap) := fun h cs x e => ⟨[.int .i64 x.Trap], rfl, by subst e; exact seg_get [.int .i64 x.Trap, .int .u8 x.Result.Kind, .int .i64 x.Result.A, .int .i64 x.Result.B] 0 1⟩
theorem k_api_Outcome.part_Result : Part k_api_Outcome 1 k_api_Value (fun x => x.Result) := fun h cs x e => ⟨[.int .u8 x.Result.Kind, .int .i64 x.Result.A, .int .i64 x.Result.B], rfl, by subst e; exact seg_get [.int .i64 x.Trap, .int .u8 x.Result.Kind, .int .i64 x.Result.A, .int .i64 x.Result.B] 1 3⟩
theorem k_api_Outcome.load {P : Program} {n : Fr} {ρ : Option Nat} {σ : List (Nat × Value)} {w0 : World} {hA hV : Hp} {ps : List HP} {os : List HO} {L l : List Oper} {Q : Cont} {d : Nat} {t tr : TypeId} {x : Operand} {pos : String} {af : Array Edge} {g : Option (Nat × Bool)} {v : Value} (see : Sees w0 hA hV) (i : Nat) {x0 : api_Outcome} (hi : ps[i]? = some (elP k_api_Outcome v x0)) {dsc : TypeDesc} (hu : P.underlying t = some dsc) (hd : (match dsc with | .struct _ | .array _ _ => true | _ => false) = true) (hs : (P.info? t).map (·.size) = some 4) (hg : gd L σ g = some true) (hn : Nat.blt d n.n = true) (hx : ev σ x = some v)
    (h : SP P n ρ ((d, .agg [.int .i64 x0.Trap, .int .u8 x0.Result.Kind, .int .i64 x0.Result.A, .int .i64 x0.Result.B].toArray) :: σ) (St w0 hA hV (ps) os) L l Q) : SP P n ρ σ (St w0 hA hV ps os) L (⟨some d, .load t x, tr, pos, af, g⟩ :: l) Q :=
  SP.loadP see i hi hu hd hs hg hn hx fun cs a w ha hw => by
    obtain ⟨m, fr, hN, hO, n1, n2, dj, s1, s2, ap, s⟩ := hw
    obtain rfl := ap.get 0 rfl
    exact h a w ha ⟨m, fr, hN, hO, n1, n2, dj, s1, s2, (fun y hy => ap y (List.mem_cons_of_mem _ hy)), s⟩
structure api_Reply where
  Err : Int
  Out : api_Outcome
def api_Reply.zero : api_Reply := ⟨0, api_Outcome.zero⟩
def k_api_Reply : Kd api_Reply := ⟨5, fun h cs x => cs = [.int .i64 x.Err, .int .i64 x.Out.Trap, .int .u8 x.Out.Result.Kind, .int .i64 x.Out.Result.A, .int .i64 x.Out.Result.B], fun _ _ _ _ _ h => h, fun _ _ _ h => by simp [h], fun _ _ _ h => by subst h; rfl⟩
theorem k_api_Reply.part_Err : Part k_api_Reply 0 (kInt .i64) (fun x => x.Err) := fun h cs x e => ⟨[.int .i64 x.Err], rfl, by subst e; exact seg_get [.int .i64 x.Err, .int .i64 x.Out.Trap, .int .u8 x.Out.Result.Kind, .int .i64 x.Out.Result.A, .int .i64 x.Out.Result.B] 0 1⟩
theorem k_api_Reply.part_Out : Part k_api_Reply 1 k_api_Outcome (fun x => x.Out) := fun h cs x e => ⟨[.int .i64 x.Out.Trap, .int .u8 x.Out.Result.Kind, .int .i64 x.Out.Result.A, .int .i64 x.Out.Result.B], rfl, by subst e; exact seg_get [.int .i64 x.Err, .int .i64 x.Out.Trap, .int .u8 x.Out.Result.Kind, .int .i64 x.Out.Result.A, .int .i64 x.Out.Result.B] 1 4⟩
theorem k_api_Reply.load {P : Program} {n : Fr} {ρ : Option Nat} {σ : List (Nat × Value)} {w0 : World} {hA hV : Hp} {ps : List HP} {os : List HO} {L l : List Oper} {Q : Cont} {d : Nat} {t tr : TypeId} {x : Operand} {pos : String} {af : Array Edge} {g : Option (Nat × Bool)} {v : Value} (see : Sees w0 hA hV) (i : Nat) {x0 : api_Reply} (hi : ps[i]? = some (elP k_api_Reply v x0)) {dsc : TypeDesc} (hu : P.underlying t = some dsc) (hd : (match dsc with | .struct _ | .array _ _ => true | _ => false) = true) (hs : (P.info? t).map (·.size) = some 5) (hg : gd L σ g = some true) (hn : Nat.blt d n.n = true) (hx : ev σ x = some v)
    (h : SP P n ρ ((d, .agg [.int .i64 x0.Err, .int .i64 x0.Out.Trap, .int .u8 x0.Out.Result.Kind, .int .i64 x0.Out.Result.A, .int .i64 x0.Out.Result.B].toArray) :: σ) (St w0 hA hV (ps) os) L l Q) : SP P n ρ σ (St w0 hA hV ps os) L (⟨some d, .load t x, tr, pos, af, g⟩ :: l) Q :=
  SP.loadP see i hi hu hd hs hg hn hx fun cs a w ha hw => by
    obtain ⟨m, fr, hN, hO, n1, n2, dj, s1, s2, ap, s⟩ := hw
    obtain rfl := ap.get 0 rfl
    exact h a w ha ⟨m, fr, hN, hO, n1, n2, dj, s1, s2, (fun y hy => ap y (List.mem_cons_of_mem _ hy)), s⟩
structure api_Instr where
  Op : Int
  A : Int
  B : Int
def api_Instr.zero : api_Instr := ⟨0, 0, 0⟩
def k_api_Instr : Kd api_Instr := ⟨3, fun h cs x => cs = [.int .u8 x.Op, .int .i64 x.A, .int .i64 x.B], fun _ _ _ _ _ h => h, fun _ _ _ h => by simp [h], fun _ _ _ h => by subst h; rfl⟩
theorem k_api_Instr.part_Op : Part k_api_Instr 0 (kInt .u8) (fun x => x.Op) := fun h cs x e => ⟨[.int .u8 x.Op], rfl, by subst e; exact seg_get [.int .u8 x.Op, .int .i64 x.A, .int .i64 x.B] 0 1⟩
theorem k_api_Instr.part_A : Part k_api_Instr 1 (kInt .i64) (fun x => x.A) := fun h cs x e => ⟨[.int .i64 x.A], rfl, by subst e; exact seg_get [.int .u8 x.Op, .int .i64 x.A, .int .i64 x.B] 1 1⟩
theorem k_api_Instr.part_B : Part k_api_Instr 2 (kInt .i64) (fun x => x.B) := fun h cs x e => ⟨[.int .i64 x.B], rfl, by subst e; exact seg_get [.int .u8 x.Op, .int .i64 x.A, .int .i64 x.B] 2 1⟩
theorem k_api_Instr.load {P : Program} {n : Fr} {ρ : Option Nat} {σ : List (Nat × Value)} {w0 : World} {hA hV : Hp} {ps : List HP} {os : List HO} {L l : List Oper} {Q : Cont} {d : Nat} {t tr : TypeId} {x : Operand} {pos : String} {af : Array Edge} {g : Option (Nat × Bool)} {v : Value} (see : Sees w0 hA hV) (i : Nat) {x0 : api_Instr} (hi : ps[i]? = some (elP k_api_Instr v x0)) {dsc : TypeDesc} (hu : P.underlying t = some dsc) (hd : (match dsc with | .struct _ | .array _ _ => true | _ => false) = true) (hs : (P.info? t).map (·.size) = some 3) (hg : gd L σ g = some true) (hn : Nat.blt d n.n = true) (hx : ev σ x = some v)
    (h : SP P n ρ ((d, .agg [.int .u8 x0.Op, .int .i64 x0.A, .int .i64 x0.B].toArray) :: σ) (St w0 hA hV (ps) os) L l Q) : SP P n ρ σ (St w0 hA hV ps os) L (⟨some d, .load t x, tr, pos, af, g⟩ :: l) Q :=
  SP.loadP see i hi hu hd hs hg hn hx fun cs a w ha hw => by
    obtain ⟨m, fr, hN, hO, n1, n2, dj, s1, s2, ap, s⟩ := hw
    obtain rfl := ap.get 0 rfl
    exact h a w ha ⟨m, fr, hN, hO, n1, n2, dj, s1, s2, (fun y hy => ap y (List.mem_cons_of_mem _ hy)), s⟩
structure api_Method where
  Args : (List Int)
  Locals : (List Int)
  Result : Int
  Reads : Bool
  Fuel : Int
  Stack : Int
  Heap : Int
  Code : (List api_Instr)
def api_Method.zero : api_Method := ⟨[], [], 0, false, 0, 0, 0, []⟩
def k_api_Method : Kd api_Method := ⟨8, fun h cs x => ∃ v0 v1 v2 : Value, cs = [v0, v1, .int .u8 x.Result, .bool x.Reads, .int .i64 x.Fuel, .int .i64 x.Stack, .int .i64 x.Heap, v2] ∧ slR (kInt .u8) h v0 x.Args ∧ slR (kInt .u8) h v1 x.Locals ∧ slR k_api_Instr h v2 x.Code,
  fun _ _ _ _ s ⟨v0, v1, v2, e, p0, p1, p2⟩ => ⟨v0, v1, v2, e, slR.mono s p0, slR.mono s p1, slR.mono s p2⟩, fun _ _ _ ⟨v0, v1, v2, e, p0, p1, p2⟩ => by simp [e],
  fun _ _ _ ⟨v0, v1, v2, e, p0, p1, p2⟩ => by subst e; obtain ⟨_, _, rfl, -⟩ := p0; obtain ⟨_, _, rfl, -⟩ := p1; obtain ⟨_, _, rfl, -⟩ := p2; rfl⟩
def o_api_Method : Ko api_Method := ⟨k_api_Method, fun cs x => HO.ex fun v0 : Value => HO.ex fun v1 : Value => HO.ex fun v2 : Value => HO.pand (cs = [v0, v1, .int .u8 x.Result, .bool x.Reads, .int .i64 x.Fuel, .int .i64 x.Stack, .int .i64 x.Heap, v2]) (HO.seps [slO (kInt .u8) 5 v0 x.Args, slO (kInt .u8) 5 v1 x.Locals, slO k_api_Instr 128 v2 x.Code]), fun ⟨v0, v1, v2, e, q⟩ sa sh => ⟨v0, v1, v2, e, slO.read (Sep.get 0 rfl q) sa sh, slO.read (Sep.get 1 rfl q) sa sh, slO.read (Sep.get 2 rfl q) sa sh⟩⟩
@[reducible] def api_Method.set_Args (x : api_Method) (l : (List Int)) : api_Method := { x with Args := l }
theorem o_api_Method.leaf0 : Leaf o_api_Method 0 (kInt .u8) 5 (fun x => x.Args) api_Method.set_Args := fun a h c x ⟨v0, v1, v2, e, q⟩ => by
  subst e
  obtain ⟨h1, h2, dj, s1, s2, p, rest⟩ := Sep.take 0 _ rfl q
  exact ⟨v0, h1, h2, rfl, dj, s1, s2, p, fun a' h' l' sa dj' r => ⟨v0, v1, v2, rfl, Sep.back 0 [slO (kInt .u8) 5 v0 x.Args, slO (kInt .u8) 5 v1 x.Locals, slO k_api_Instr 128 v2 x.Code] (x := slO (kInt .u8) 5 v0 l') (Nat.le_of_ble_eq_true rfl) dj' r (Sep.mono _ sa (Sub.refl _) rest)⟩⟩
@[reducible] def api_Method.set_Locals (x : api_Method) (l : (List Int)) : api_Method := { x with Locals := l }
theorem o_api_Method.leaf1 : Leaf o_api_Method 1 (kInt .u8) 5 (fun x => x.Locals) api_Method.set_Locals := fun a h c x ⟨v0, v1, v2, e, q⟩ => by
  subst e
  obtain ⟨h1, h2, dj, s1, s2, p, rest⟩ := Sep.take 1 _ rfl q
  exact ⟨v1, h1, h2, rfl, dj, s1, s2, p, fun a' h' l' sa dj' r => ⟨v0, v1, v2, rfl, Sep.back 1 [slO (kInt .u8) 5 v0 x.Args, slO (kInt .u8) 5 v1 x.Locals, slO k_api_Instr 128 v2 x.Code] (x := slO (kInt .u8) 5 v1 l') (Nat.le_of_ble_eq_true rfl) dj' r (Sep.mono _ sa (Sub.refl _) rest)⟩⟩
@[reducible] def api_Method.set_Code (x : api_Method) (l : (List api_Instr)) : api_Method := { x with Code := l }
theorem o_api_Method.leaf7 : Leaf o_api_Method 7 k_api_Instr 128 (fun x => x.Code) api_Method.set_Code := fun a h c x ⟨v0, v1, v2, e, q⟩ => by
  subst e
  obtain ⟨h1, h2, dj, s1, s2, p, rest⟩ := Sep.take 2 _ rfl q
  exact ⟨v2, h1, h2, rfl, dj, s1, s2, p, fun a' h' l' sa dj' r => ⟨v0, v1, v2, rfl, Sep.back 2 [slO (kInt .u8) 5 v0 x.Args, slO (kInt .u8) 5 v1 x.Locals, slO k_api_Instr 128 v2 x.Code] (x := slO k_api_Instr 128 v2 l') (Nat.le_of_ble_eq_true rfl) dj' r (Sep.mono _ sa (Sub.refl _) rest)⟩⟩
theorem k_api_Method.part_Args : Part k_api_Method 0 (kSl (kInt .u8)) (fun x => x.Args) := fun h cs x ⟨v0, v1, v2, e, p0, p1, p2⟩ => ⟨[v0], ⟨v0, rfl, p0⟩, by subst e; exact seg_get [v0, v1, .int .u8 x.Result, .bool x.Reads, .int .i64 x.Fuel, .int .i64 x.Stack, .int .i64 x.Heap, v2] 0 1⟩
theorem k_api_Method.part_Locals : Part k_api_Method 1 (kSl (kInt .u8)) (fun x => x.Locals) := fun h cs x ⟨v0, v1, v2, e, p0, p1, p2⟩ => ⟨[v1], ⟨v1, rfl, p1⟩, by subst e; exact seg_get [v0, v1, .int .u8 x.Result, .bool x.Reads, .int .i64 x.Fuel, .int .i64 x.Stack, .int .i64 x.Heap, v2] 1 1⟩
theorem k_api_Method.part_Result : Part k_api_Method 2 (kInt .u8) (fun x => x.Result) := fun h cs x ⟨v0, v1, v2, e, p0, p1, p2⟩ => ⟨[.int .u8 x.Result], rfl, by subst e; exact seg_get [v0, v1, .int .u8 x.Result, .bool x.Reads, .int .i64 x.Fuel, .int .i64 x.Stack, .int .i64 x.Heap, v2] 2 1⟩
theorem k_api_Method.part_Reads : Part k_api_Method 3 kBool (fun x => x.Reads) := fun h cs x ⟨v0, v1, v2, e, p0, p1, p2⟩ => ⟨[.bool x.Reads], rfl, by subst e; exact seg_get [v0, v1, .int .u8 x.Result, .bool x.Reads, .int .i64 x.Fuel, .int .i64 x.Stack, .int .i64 x.Heap, v2] 3 1⟩
theorem k_api_Method.part_Fuel : Part k_api_Method 4 (kInt .i64) (fun x => x.Fuel) := fun h cs x ⟨v0, v1, v2, e, p0, p1, p2⟩ => ⟨[.int .i64 x.Fuel], rfl, by subst e; exact seg_get [v0, v1, .int .u8 x.Result, .bool x.Reads, .int .i64 x.Fuel, .int .i64 x.Stack, .int .i64 x.Heap, v2] 4 1⟩
theorem k_api_Method.part_Stack : Part k_api_Method 5 (kInt .i64) (fun x => x.Stack) := fun h cs x ⟨v0, v1, v2, e, p0, p1, p2⟩ => ⟨[.int .i64 x.Stack], rfl, by subst e; exact seg_get [v0, v1, .int .u8 x.Result, .bool x.Reads, .int .i64 x.Fuel, .int .i64 x.Stack, .int .i64 x.Heap, v2] 5 1⟩
theorem k_api_Method.part_Heap : Part k_api_Method 6 (kInt .i64) (fun x => x.Heap) := fun h cs x ⟨v0, v1, v2, e, p0, p1, p2⟩ => ⟨[.int .i64 x.Heap], rfl, by subst e; exact seg_get [v0, v1, .int .u8 x.Result, .bool x.Reads, .int .i64 x.Fuel, .int .i64 x.Stack, .int .i64 x.Heap, v2] 6 1⟩
theorem k_api_Method.part_Code : Part k_api_Method 7 (kSl k_api_Instr) (fun x => x.Code) := fun h cs x ⟨v0, v1, v2, e, p0, p1, p2⟩ => ⟨[v2], ⟨v2, rfl, p2⟩, by subst e; exact seg_get [v0, v1, .int .u8 x.Result, .bool x.Reads, .int .i64 x.Fuel, .int .i64 x.Stack, .int .i64 x.Heap, v2] 7 1⟩
theorem k_api_Method.load {P : Program} {n : Fr} {ρ : Option Nat} {σ : List (Nat × Value)} {w0 : World} {hA hV : Hp} {ps : List HP} {os : List HO} {L l : List Oper} {Q : Cont} {d : Nat} {t tr : TypeId} {x : Operand} {pos : String} {af : Array Edge} {g : Option (Nat × Bool)} {v : Value} (see : Sees w0 hA hV) (i : Nat) {x0 : api_Method} (hi : ps[i]? = some (elP k_api_Method v x0)) {dsc : TypeDesc} (hu : P.underlying t = some dsc) (hd : (match dsc with | .struct _ | .array _ _ => true | _ => false) = true) (hs : (P.info? t).map (·.size) = some 8) (hg : gd L σ g = some true) (hn : Nat.blt d n.n = true) (hx : ev σ x = some v)
    (h : ∀ v0 v1 v2, SP P n ρ ((d, .agg [v0, v1, .int .u8 x0.Result, .bool x0.Reads, .int .i64 x0.Fuel, .int .i64 x0.Stack, .int .i64 x0.Heap, v2].toArray) :: σ) (St w0 hA hV (slP (kInt .u8) v0 x0.Args :: slP (kInt .u8) v1 x0.Locals :: slP k_api_Instr v2 x0.Code :: ps) os) L l Q) : SP P n ρ σ (St w0 hA hV ps os) L (⟨some d, .load t x, tr, pos, af, g⟩ :: l) Q :=
  SP.loadP see i hi hu hd hs hg hn hx fun cs a w ha hw => by
    obtain ⟨m, fr, hN, hO, n1, n2, dj, s1, s2, ap, s⟩ := hw
    obtain ⟨v0, v1, v2, e, p0, p1, p2⟩ := ap.get 0 rfl
    subst e
    exact h v0 v1 v2 a w ha ⟨m, fr, hN, hO, n1, n2, dj, s1, s2, All.cons p0 (All.cons p1 (All.cons p2 ((fun y hy => ap y (List.mem_cons_of_mem _ hy))))), s⟩
structure api_Module where
  Globals : (List api_Value)
  Pool : (List api_Value)
  Methods : (List api_Method)
  Migrate : Int
def api_Module.zero : api_Module := ⟨[], [], [], 0⟩
def k_api_Module : Kd api_Module := ⟨4, fun h cs x => ∃ v0 v1 v2 : Value, cs = [v0, v1, v2, .int .i64 x.Migrate] ∧ slR k_api_Value h v0 x.Globals ∧ slR k_api_Value h v1 x.Pool ∧ slR k_api_Method h v2 x.Methods,
  fun _ _ _ _ s ⟨v0, v1, v2, e, p0, p1, p2⟩ => ⟨v0, v1, v2, e, slR.mono s p0, slR.mono s p1, slR.mono s p2⟩, fun _ _ _ ⟨v0, v1, v2, e, p0, p1, p2⟩ => by simp [e],
  fun _ _ _ ⟨v0, v1, v2, e, p0, p1, p2⟩ => by subst e; obtain ⟨_, _, rfl, -⟩ := p0; obtain ⟨_, _, rfl, -⟩ := p1; obtain ⟨_, _, rfl, -⟩ := p2; rfl⟩
def o_api_Module : Ko api_Module := ⟨k_api_Module, fun cs x => HO.ex fun v0 : Value => HO.ex fun v1 : Value => HO.ex fun v2 : Value => HO.pand (cs = [v0, v1, v2, .int .i64 x.Migrate]) (HO.seps [slO k_api_Value 35 v0 x.Globals, slO k_api_Value 35 v1 x.Pool, slO k_api_Method 121 v2 x.Methods]), fun ⟨v0, v1, v2, e, q⟩ sa sh => ⟨v0, v1, v2, e, slO.read (Sep.get 0 rfl q) sa sh, slO.read (Sep.get 1 rfl q) sa sh, slO.read (Sep.get 2 rfl q) sa sh⟩⟩
@[reducible] def api_Module.set_Globals (x : api_Module) (l : (List api_Value)) : api_Module := { x with Globals := l }
theorem o_api_Module.leaf0 : Leaf o_api_Module 0 k_api_Value 35 (fun x => x.Globals) api_Module.set_Globals := fun a h c x ⟨v0, v1, v2, e, q⟩ => by
  subst e
  obtain ⟨h1, h2, dj, s1, s2, p, rest⟩ := Sep.take 0 _ rfl q
  exact ⟨v0, h1, h2, rfl, dj, s1, s2, p, fun a' h' l' sa dj' r => ⟨v0, v1, v2, rfl, Sep.back 0 [slO k_api_Value 35 v0 x.Globals, slO k_api_Value 35 v1 x.Pool, slO k_api_Method 121 v2 x.Methods] (x := slO k_api_Value 35 v0 l') (Nat.le_of_ble_eq_true rfl) dj' r (Sep.mono _ sa (Sub.refl _) rest)⟩⟩
@[reducible] def api_Module.set_Pool (x : api_Module) (l : (List api_Value)) : api_Module := { x with Pool := l }
theorem o_api_Module.leaf1 : Leaf o_api_Module 1 k_api_Value 35 (fun x => x.Pool) api_Module.set_Pool := fun a h c x ⟨v0, v1, v2, e, q⟩ => by
  subst e
  obtain ⟨h1, h2, dj, s1, s2, p, rest⟩ := Sep.take 1 _ rfl q
  exact ⟨v1, h1, h2, rfl, dj, s1, s2, p, fun a' h' l' sa dj' r => ⟨v0, v1, v2, rfl, Sep.back 1 [slO k_api_Value 35 v0 x.Globals, slO k_api_Value 35 v1 x.Pool, slO k_api_Method 121 v2 x.Methods] (x := slO k_api_Value 35 v1 l') (Nat.le_of_ble_eq_true rfl) dj' r (Sep.mono _ sa (Sub.refl _) rest)⟩⟩
@[reducible] def api_Module.set_Methods (x : api_Module) (l : (List api_Method)) : api_Module := { x with Methods := l }
theorem o_api_Module.leaf2 : Leaf o_api_Module 2 k_api_Method 121 (fun x => x.Methods) api_Module.set_Methods := fun a h c x ⟨v0, v1, v2, e, q⟩ => by
  subst e
  obtain ⟨h1, h2, dj, s1, s2, p, rest⟩ := Sep.take 2 _ rfl q
  exact ⟨v2, h1, h2, rfl, dj, s1, s2, p, fun a' h' l' sa dj' r => ⟨v0, v1, v2, rfl, Sep.back 2 [slO k_api_Value 35 v0 x.Globals, slO k_api_Value 35 v1 x.Pool, slO k_api_Method 121 v2 x.Methods] (x := slO k_api_Method 121 v2 l') (Nat.le_of_ble_eq_true rfl) dj' r (Sep.mono _ sa (Sub.refl _) rest)⟩⟩
theorem k_api_Module.part_Globals : Part k_api_Module 0 (kSl k_api_Value) (fun x => x.Globals) := fun h cs x ⟨v0, v1, v2, e, p0, p1, p2⟩ => ⟨[v0], ⟨v0, rfl, p0⟩, by subst e; exact seg_get [v0, v1, v2, .int .i64 x.Migrate] 0 1⟩
theorem k_api_Module.part_Pool : Part k_api_Module 1 (kSl k_api_Value) (fun x => x.Pool) := fun h cs x ⟨v0, v1, v2, e, p0, p1, p2⟩ => ⟨[v1], ⟨v1, rfl, p1⟩, by subst e; exact seg_get [v0, v1, v2, .int .i64 x.Migrate] 1 1⟩
theorem k_api_Module.part_Methods : Part k_api_Module 2 (kSl k_api_Method) (fun x => x.Methods) := fun h cs x ⟨v0, v1, v2, e, p0, p1, p2⟩ => ⟨[v2], ⟨v2, rfl, p2⟩, by subst e; exact seg_get [v0, v1, v2, .int .i64 x.Migrate] 2 1⟩
theorem k_api_Module.part_Migrate : Part k_api_Module 3 (kInt .i64) (fun x => x.Migrate) := fun h cs x ⟨v0, v1, v2, e, p0, p1, p2⟩ => ⟨[.int .i64 x.Migrate], rfl, by subst e; exact seg_get [v0, v1, v2, .int .i64 x.Migrate] 3 1⟩
theorem k_api_Module.load {P : Program} {n : Fr} {ρ : Option Nat} {σ : List (Nat × Value)} {w0 : World} {hA hV : Hp} {ps : List HP} {os : List HO} {L l : List Oper} {Q : Cont} {d : Nat} {t tr : TypeId} {x : Operand} {pos : String} {af : Array Edge} {g : Option (Nat × Bool)} {v : Value} (see : Sees w0 hA hV) (i : Nat) {x0 : api_Module} (hi : ps[i]? = some (elP k_api_Module v x0)) {dsc : TypeDesc} (hu : P.underlying t = some dsc) (hd : (match dsc with | .struct _ | .array _ _ => true | _ => false) = true) (hs : (P.info? t).map (·.size) = some 4) (hg : gd L σ g = some true) (hn : Nat.blt d n.n = true) (hx : ev σ x = some v)
    (h : ∀ v0 v1 v2, SP P n ρ ((d, .agg [v0, v1, v2, .int .i64 x0.Migrate].toArray) :: σ) (St w0 hA hV (slP k_api_Value v0 x0.Globals :: slP k_api_Value v1 x0.Pool :: slP k_api_Method v2 x0.Methods :: ps) os) L l Q) : SP P n ρ σ (St w0 hA hV ps os) L (⟨some d, .load t x, tr, pos, af, g⟩ :: l) Q :=
  SP.loadP see i hi hu hd hs hg hn hx fun cs a w ha hw => by
    obtain ⟨m, fr, hN, hO, n1, n2, dj, s1, s2, ap, s⟩ := hw
    obtain ⟨v0, v1, v2, e, p0, p1, p2⟩ := ap.get 0 rfl
    subst e
    exact h v0 v1 v2 a w ha ⟨m, fr, hN, hO, n1, n2, dj, s1, s2, All.cons p0 (All.cons p1 (All.cons p2 ((fun y hy => ap y (List.mem_cons_of_mem _ hy))))), s⟩
structure api_Cert where
  Fuel : Int
  Stack : Int
  Heap : Int
def api_Cert.zero : api_Cert := ⟨0, 0, 0⟩
def k_api_Cert : Kd api_Cert := ⟨3, fun h cs x => cs = [.int .i64 x.Fuel, .int .i64 x.Stack, .int .i64 x.Heap], fun _ _ _ _ _ h => h, fun _ _ _ h => by simp [h], fun _ _ _ h => by subst h; rfl⟩
theorem k_api_Cert.part_Fuel : Part k_api_Cert 0 (kInt .i64) (fun x => x.Fuel) := fun h cs x e => ⟨[.int .i64 x.Fuel], rfl, by subst e; exact seg_get [.int .i64 x.Fuel, .int .i64 x.Stack, .int .i64 x.Heap] 0 1⟩
theorem k_api_Cert.part_Stack : Part k_api_Cert 1 (kInt .i64) (fun x => x.Stack) := fun h cs x e => ⟨[.int .i64 x.Stack], rfl, by subst e; exact seg_get [.int .i64 x.Fuel, .int .i64 x.Stack, .int .i64 x.Heap] 1 1⟩
theorem k_api_Cert.part_Heap : Part k_api_Cert 2 (kInt .i64) (fun x => x.Heap) := fun h cs x e => ⟨[.int .i64 x.Heap], rfl, by subst e; exact seg_get [.int .i64 x.Fuel, .int .i64 x.Stack, .int .i64 x.Heap] 2 1⟩
theorem k_api_Cert.load {P : Program} {n : Fr} {ρ : Option Nat} {σ : List (Nat × Value)} {w0 : World} {hA hV : Hp} {ps : List HP} {os : List HO} {L l : List Oper} {Q : Cont} {d : Nat} {t tr : TypeId} {x : Operand} {pos : String} {af : Array Edge} {g : Option (Nat × Bool)} {v : Value} (see : Sees w0 hA hV) (i : Nat) {x0 : api_Cert} (hi : ps[i]? = some (elP k_api_Cert v x0)) {dsc : TypeDesc} (hu : P.underlying t = some dsc) (hd : (match dsc with | .struct _ | .array _ _ => true | _ => false) = true) (hs : (P.info? t).map (·.size) = some 3) (hg : gd L σ g = some true) (hn : Nat.blt d n.n = true) (hx : ev σ x = some v)
    (h : SP P n ρ ((d, .agg [.int .i64 x0.Fuel, .int .i64 x0.Stack, .int .i64 x0.Heap].toArray) :: σ) (St w0 hA hV (ps) os) L l Q) : SP P n ρ σ (St w0 hA hV ps os) L (⟨some d, .load t x, tr, pos, af, g⟩ :: l) Q :=
  SP.loadP see i hi hu hd hs hg hn hx fun cs a w ha hw => by
    obtain ⟨m, fr, hN, hO, n1, n2, dj, s1, s2, ap, s⟩ := hw
    obtain rfl := ap.get 0 rfl
    exact h a w ha ⟨m, fr, hN, hO, n1, n2, dj, s1, s2, (fun y hy => ap y (List.mem_cons_of_mem _ hy)), s⟩
structure object_Object where
  made : Bool
  m : api_Module
  certs : (List api_Cert)
  globals : (List api_Value)
def object_Object.zero : object_Object := ⟨false, api_Module.zero, [], []⟩
def k_object_Object : Kd object_Object := ⟨7, fun h cs x => ∃ v0 v1 v2 v3 v4 : Value, cs = [.bool x.made, v0, v1, v2, .int .i64 x.m.Migrate, v3, v4] ∧ slR k_api_Value h v0 x.m.Globals ∧ slR k_api_Value h v1 x.m.Pool ∧ slR k_api_Method h v2 x.m.Methods ∧ slR k_api_Cert h v3 x.certs ∧ slR k_api_Value h v4 x.globals,
  fun _ _ _ _ s ⟨v0, v1, v2, v3, v4, e, p0, p1, p2, p3, p4⟩ => ⟨v0, v1, v2, v3, v4, e, slR.mono s p0, slR.mono s p1, slR.mono s p2, slR.mono s p3, slR.mono s p4⟩, fun _ _ _ ⟨v0, v1, v2, v3, v4, e, p0, p1, p2, p3, p4⟩ => by simp [e],
  fun _ _ _ ⟨v0, v1, v2, v3, v4, e, p0, p1, p2, p3, p4⟩ => by subst e; obtain ⟨_, _, rfl, -⟩ := p0; obtain ⟨_, _, rfl, -⟩ := p1; obtain ⟨_, _, rfl, -⟩ := p2; obtain ⟨_, _, rfl, -⟩ := p3; obtain ⟨_, _, rfl, -⟩ := p4; rfl⟩
def o_object_Object : Ko object_Object := ⟨k_object_Object, fun cs x => HO.ex fun v0 : Value => HO.ex fun v1 : Value => HO.ex fun v2 : Value => HO.ex fun v3 : Value => HO.ex fun v4 : Value => HO.pand (cs = [.bool x.made, v0, v1, v2, .int .i64 x.m.Migrate, v3, v4]) (HO.seps [slO k_api_Value 35 v0 x.m.Globals, slO k_api_Value 35 v1 x.m.Pool, slO k_api_Method 121 v2 x.m.Methods, slO k_api_Cert 112 v3 x.certs, slO k_api_Value 35 v4 x.globals]), fun ⟨v0, v1, v2, v3, v4, e, q⟩ sa sh => ⟨v0, v1, v2, v3, v4, e, slO.read (Sep.get 0 rfl q) sa sh, slO.read (Sep.get 1 rfl q) sa sh, slO.read (Sep.get 2 rfl q) sa sh, slO.read (Sep.get 3 rfl q) sa sh, slO.read (Sep.get 4 rfl q) sa sh⟩⟩
@[reducible] def object_Object.set_m_Globals (x : object_Object) (l : (List api_Value)) : object_Object := { x with m := { x.m with Globals := l } }
theorem o_object_Object.leaf1 : Leaf o_object_Object 1 k_api_Value 35 (fun x => x.m.Globals) object_Object.set_m_Globals := fun a h c x ⟨v0, v1, v2, v3, v4, e, q⟩ => by
  subst e
  obtain ⟨h1, h2, dj, s1, s2, p, rest⟩ := Sep.take 0 _ rfl q
  exact ⟨v0, h1, h2, rfl, dj, s1, s2, p, fun a' h' l' sa dj' r => ⟨v0, v1, v2, v3, v4, rfl, Sep.back 0 [slO k_api_Value 35 v0 x.m.Globals, slO k_api_Value 35 v1 x.m.Pool, slO k_api_Method 121 v2 x.m.Methods, slO k_api_Cert 112 v3 x.certs, slO k_api_Value 35 v4 x.globals] (x := slO k_api_Value 35 v0 l') (Nat.le_of_ble_eq_true rfl) dj' r (Sep.mono _ sa (Sub.refl _) rest)⟩⟩
@[reducible] def object_Object.set_m_Pool (x : object_Object) (l : (List api_Value)) : object_Object := { x with m := { x.m with Pool := l } }
theorem o_object_Object.leaf2 : Leaf o_object_Object 2 k_api_Value 35 (fun x => x.m.Pool) object_Object.set_m_Pool := fun a h c x ⟨v0, v1, v2, v3, v4, e, q⟩ => by
  subst e
  obtain ⟨h1, h2, dj, s1, s2, p, rest⟩ := Sep.take 1 _ rfl q
  exact ⟨v1, h1, h2, rfl, dj, s1, s2, p, fun a' h' l' sa dj' r => ⟨v0, v1, v2, v3, v4, rfl, Sep.back 1 [slO k_api_Value 35 v0 x.m.Globals, slO k_api_Value 35 v1 x.m.Pool, slO k_api_Method 121 v2 x.m.Methods, slO k_api_Cert 112 v3 x.certs, slO k_api_Value 35 v4 x.globals] (x := slO k_api_Value 35 v1 l') (Nat.le_of_ble_eq_true rfl) dj' r (Sep.mono _ sa (Sub.refl _) rest)⟩⟩
@[reducible] def object_Object.set_m_Methods (x : object_Object) (l : (List api_Method)) : object_Object := { x with m := { x.m with Methods := l } }
theorem o_object_Object.leaf3 : Leaf o_object_Object 3 k_api_Method 121 (fun x => x.m.Methods) object_Object.set_m_Methods := fun a h c x ⟨v0, v1, v2, v3, v4, e, q⟩ => by
  subst e
  obtain ⟨h1, h2, dj, s1, s2, p, rest⟩ := Sep.take 2 _ rfl q
  exact ⟨v2, h1, h2, rfl, dj, s1, s2, p, fun a' h' l' sa dj' r => ⟨v0, v1, v2, v3, v4, rfl, Sep.back 2 [slO k_api_Value 35 v0 x.m.Globals, slO k_api_Value 35 v1 x.m.Pool, slO k_api_Method 121 v2 x.m.Methods, slO k_api_Cert 112 v3 x.certs, slO k_api_Value 35 v4 x.globals] (x := slO k_api_Method 121 v2 l') (Nat.le_of_ble_eq_true rfl) dj' r (Sep.mono _ sa (Sub.refl _) rest)⟩⟩
@[reducible] def object_Object.set_certs (x : object_Object) (l : (List api_Cert)) : object_Object := { x with certs := l }
theorem o_object_Object.leaf5 : Leaf o_object_Object 5 k_api_Cert 112 (fun x => x.certs) object_Object.set_certs := fun a h c x ⟨v0, v1, v2, v3, v4, e, q⟩ => by
  subst e
  obtain ⟨h1, h2, dj, s1, s2, p, rest⟩ := Sep.take 3 _ rfl q
  exact ⟨v3, h1, h2, rfl, dj, s1, s2, p, fun a' h' l' sa dj' r => ⟨v0, v1, v2, v3, v4, rfl, Sep.back 3 [slO k_api_Value 35 v0 x.m.Globals, slO k_api_Value 35 v1 x.m.Pool, slO k_api_Method 121 v2 x.m.Methods, slO k_api_Cert 112 v3 x.certs, slO k_api_Value 35 v4 x.globals] (x := slO k_api_Cert 112 v3 l') (Nat.le_of_ble_eq_true rfl) dj' r (Sep.mono _ sa (Sub.refl _) rest)⟩⟩
@[reducible] def object_Object.set_globals (x : object_Object) (l : (List api_Value)) : object_Object := { x with globals := l }
theorem o_object_Object.leaf6 : Leaf o_object_Object 6 k_api_Value 35 (fun x => x.globals) object_Object.set_globals := fun a h c x ⟨v0, v1, v2, v3, v4, e, q⟩ => by
  subst e
  obtain ⟨h1, h2, dj, s1, s2, p, rest⟩ := Sep.take 4 _ rfl q
  exact ⟨v4, h1, h2, rfl, dj, s1, s2, p, fun a' h' l' sa dj' r => ⟨v0, v1, v2, v3, v4, rfl, Sep.back 4 [slO k_api_Value 35 v0 x.m.Globals, slO k_api_Value 35 v1 x.m.Pool, slO k_api_Method 121 v2 x.m.Methods, slO k_api_Cert 112 v3 x.certs, slO k_api_Value 35 v4 x.globals] (x := slO k_api_Value 35 v4 l') (Nat.le_of_ble_eq_true rfl) dj' r (Sep.mono _ sa (Sub.refl _) rest)⟩⟩
theorem k_object_Object.part_made : Part k_object_Object 0 kBool (fun x => x.made) := fun h cs x ⟨v0, v1, v2, v3, v4, e, p0, p1, p2, p3, p4⟩ => ⟨[.bool x.made], rfl, by subst e; exact seg_get [.bool x.made, v0, v1, v2, .int .i64 x.m.Migrate, v3, v4] 0 1⟩
theorem k_object_Object.part_m : Part k_object_Object 1 k_api_Module (fun x => x.m) := fun h cs x ⟨v0, v1, v2, v3, v4, e, p0, p1, p2, p3, p4⟩ => ⟨[v0, v1, v2, .int .i64 x.m.Migrate], ⟨v0, v1, v2, rfl, p0, p1, p2⟩, by subst e; exact seg_get [.bool x.made, v0, v1, v2, .int .i64 x.m.Migrate, v3, v4] 1 4⟩
theorem k_object_Object.part_certs : Part k_object_Object 5 (kSl k_api_Cert) (fun x => x.certs) := fun h cs x ⟨v0, v1, v2, v3, v4, e, p0, p1, p2, p3, p4⟩ => ⟨[v3], ⟨v3, rfl, p3⟩, by subst e; exact seg_get [.bool x.made, v0, v1, v2, .int .i64 x.m.Migrate, v3, v4] 5 1⟩
theorem k_object_Object.part_globals : Part k_object_Object 6 (kSl k_api_Value) (fun x => x.globals) := fun h cs x ⟨v0, v1, v2, v3, v4, e, p0, p1, p2, p3, p4⟩ => ⟨[v4], ⟨v4, rfl, p4⟩, by subst e; exact seg_get [.bool x.made, v0, v1, v2, .int .i64 x.m.Migrate, v3, v4] 6 1⟩
theorem k_object_Object.load {P : Program} {n : Fr} {ρ : Option Nat} {σ : List (Nat × Value)} {w0 : World} {hA hV : Hp} {ps : List HP} {os : List HO} {L l : List Oper} {Q : Cont} {d : Nat} {t tr : TypeId} {x : Operand} {pos : String} {af : Array Edge} {g : Option (Nat × Bool)} {v : Value} (see : Sees w0 hA hV) (i : Nat) {x0 : object_Object} (hi : ps[i]? = some (elP k_object_Object v x0)) {dsc : TypeDesc} (hu : P.underlying t = some dsc) (hd : (match dsc with | .struct _ | .array _ _ => true | _ => false) = true) (hs : (P.info? t).map (·.size) = some 7) (hg : gd L σ g = some true) (hn : Nat.blt d n.n = true) (hx : ev σ x = some v)
    (h : ∀ v0 v1 v2 v3 v4, SP P n ρ ((d, .agg [.bool x0.made, v0, v1, v2, .int .i64 x0.m.Migrate, v3, v4].toArray) :: σ) (St w0 hA hV (slP k_api_Value v0 x0.m.Globals :: slP k_api_Value v1 x0.m.Pool :: slP k_api_Method v2 x0.m.Methods :: slP k_api_Cert v3 x0.certs :: slP k_api_Value v4 x0.globals :: ps) os) L l Q) : SP P n ρ σ (St w0 hA hV ps os) L (⟨some d, .load t x, tr, pos, af, g⟩ :: l) Q :=
  SP.loadP see i hi hu hd hs hg hn hx fun cs a w ha hw => by
    obtain ⟨m, fr, hN, hO, n1, n2, dj, s1, s2, ap, s⟩ := hw
    obtain ⟨v0, v1, v2, v3, v4, e, p0, p1, p2, p3, p4⟩ := ap.get 0 rfl
    subst e
    exact h v0 v1 v2 v3 v4 a w ha ⟨m, fr, hN, hO, n1, n2, dj, s1, s2, All.cons p0 (All.cons p1 (All.cons p2 (All.cons p3 (All.cons p4 ((fun y hy => ap y (List.mem_cons_of_mem _ hy))))))), s⟩
structure mem_Image where
  Module : api_Module
  Globals : (List api_Value)
  Seqs : (List Int)
def mem_Image.zero : mem_Image := ⟨api_Module.zero, [], []⟩
def k_mem_Image : Kd mem_Image := ⟨6, fun h cs x => ∃ v0 v1 v2 v3 v4 : Value, cs = [v0, v1, v2, .int .i64 x.Module.Migrate, v3, v4] ∧ slR k_api_Value h v0 x.Module.Globals ∧ slR k_api_Value h v1 x.Module.Pool ∧ slR k_api_Method h v2 x.Module.Methods ∧ slR k_api_Value h v3 x.Globals ∧ slR (kInt .i64) h v4 x.Seqs,
  fun _ _ _ _ s ⟨v0, v1, v2, v3, v4, e, p0, p1, p2, p3, p4⟩ => ⟨v0, v1, v2, v3, v4, e, slR.mono s p0, slR.mono s p1, slR.mono s p2, slR.mono s p3, slR.mono s p4⟩, fun _ _ _ ⟨v0, v1, v2, v3, v4, e, p0, p1, p2, p3, p4⟩ => by simp [e],
  fun _ _ _ ⟨v0, v1, v2, v3, v4, e, p0, p1, p2, p3, p4⟩ => by subst e; obtain ⟨_, _, rfl, -⟩ := p0; obtain ⟨_, _, rfl, -⟩ := p1; obtain ⟨_, _, rfl, -⟩ := p2; obtain ⟨_, _, rfl, -⟩ := p3; obtain ⟨_, _, rfl, -⟩ := p4; rfl⟩
def o_mem_Image : Ko mem_Image := ⟨k_mem_Image, fun cs x => HO.ex fun v0 : Value => HO.ex fun v1 : Value => HO.ex fun v2 : Value => HO.ex fun v3 : Value => HO.ex fun v4 : Value => HO.pand (cs = [v0, v1, v2, .int .i64 x.Module.Migrate, v3, v4]) (HO.seps [slO k_api_Value 35 v0 x.Module.Globals, slO k_api_Value 35 v1 x.Module.Pool, slO k_api_Method 121 v2 x.Module.Methods, slO k_api_Value 35 v3 x.Globals, slO (kInt .i64) 3 v4 x.Seqs]), fun ⟨v0, v1, v2, v3, v4, e, q⟩ sa sh => ⟨v0, v1, v2, v3, v4, e, slO.read (Sep.get 0 rfl q) sa sh, slO.read (Sep.get 1 rfl q) sa sh, slO.read (Sep.get 2 rfl q) sa sh, slO.read (Sep.get 3 rfl q) sa sh, slO.read (Sep.get 4 rfl q) sa sh⟩⟩
@[reducible] def mem_Image.set_Module_Globals (x : mem_Image) (l : (List api_Value)) : mem_Image := { x with Module := { x.Module with Globals := l } }
theorem o_mem_Image.leaf0 : Leaf o_mem_Image 0 k_api_Value 35 (fun x => x.Module.Globals) mem_Image.set_Module_Globals := fun a h c x ⟨v0, v1, v2, v3, v4, e, q⟩ => by
  subst e
  obtain ⟨h1, h2, dj, s1, s2, p, rest⟩ := Sep.take 0 _ rfl q
  exact ⟨v0, h1, h2, rfl, dj, s1, s2, p, fun a' h' l' sa dj' r => ⟨v0, v1, v2, v3, v4, rfl, Sep.back 0 [slO k_api_Value 35 v0 x.Module.Globals, slO k_api_Value 35 v1 x.Module.Pool, slO k_api_Method 121 v2 x.Module.Methods, slO k_api_Value 35 v3 x.Globals, slO (kInt .i64) 3 v4 x.Seqs] (x := slO k_api_Value 35 v0 l') (Nat.le_of_ble_eq_true rfl) dj' r (Sep.mono _ sa (Sub.refl _) rest)⟩⟩
@[reducible] def mem_Image.set_Module_Pool (x : mem_Image) (l : (List api_Value)) : mem_Image := { x with Module := { x.Module with Pool := l } }
theorem o_mem_Image.leaf1 : Leaf o_mem_Image 1 k_api_Value 35 (fun x => x.Module.Pool) mem_Image.set_Module_Pool := fun a h c x ⟨v0, v1, v2, v3, v4, e, q⟩ => by
  subst e
  obtain ⟨h1, h2, dj, s1, s2, p, rest⟩ := Sep.take 1 _ rfl q
  exact ⟨v1, h1, h2, rfl, dj, s1, s2, p, fun a' h' l' sa dj' r => ⟨v0, v1, v2, v3, v4, rfl, Sep.back 1 [slO k_api_Value 35 v0 x.Module.Globals, slO k_api_Value 35 v1 x.Module.Pool, slO k_api_Method 121 v2 x.Module.Methods, slO k_api_Value 35 v3 x.Globals, slO (kInt .i64) 3 v4 x.Seqs] (x := slO k_api_Value 35 v1 l') (Nat.le_of_ble_eq_true rfl) dj' r (Sep.mono _ sa (Sub.refl _) rest)⟩⟩
@[reducible] def mem_Image.set_Module_Methods (x : mem_Image) (l : (List api_Method)) : mem_Image := { x with Module := { x.Module with Methods := l } }
theorem o_mem_Image.leaf2 : Leaf o_mem_Image 2 k_api_Method 121 (fun x => x.Module.Methods) mem_Image.set_Module_Methods := fun a h c x ⟨v0, v1, v2, v3, v4, e, q⟩ => by
  subst e
  obtain ⟨h1, h2, dj, s1, s2, p, rest⟩ := Sep.take 2 _ rfl q
  exact ⟨v2, h1, h2, rfl, dj, s1, s2, p, fun a' h' l' sa dj' r => ⟨v0, v1, v2, v3, v4, rfl, Sep.back 2 [slO k_api_Value 35 v0 x.Module.Globals, slO k_api_Value 35 v1 x.Module.Pool, slO k_api_Method 121 v2 x.Module.Methods, slO k_api_Value 35 v3 x.Globals, slO (kInt .i64) 3 v4 x.Seqs] (x := slO k_api_Method 121 v2 l') (Nat.le_of_ble_eq_true rfl) dj' r (Sep.mono _ sa (Sub.refl _) rest)⟩⟩
@[reducible] def mem_Image.set_Globals (x : mem_Image) (l : (List api_Value)) : mem_Image := { x with Globals := l }
theorem o_mem_Image.leaf4 : Leaf o_mem_Image 4 k_api_Value 35 (fun x => x.Globals) mem_Image.set_Globals := fun a h c x ⟨v0, v1, v2, v3, v4, e, q⟩ => by
  subst e
  obtain ⟨h1, h2, dj, s1, s2, p, rest⟩ := Sep.take 3 _ rfl q
  exact ⟨v3, h1, h2, rfl, dj, s1, s2, p, fun a' h' l' sa dj' r => ⟨v0, v1, v2, v3, v4, rfl, Sep.back 3 [slO k_api_Value 35 v0 x.Module.Globals, slO k_api_Value 35 v1 x.Module.Pool, slO k_api_Method 121 v2 x.Module.Methods, slO k_api_Value 35 v3 x.Globals, slO (kInt .i64) 3 v4 x.Seqs] (x := slO k_api_Value 35 v3 l') (Nat.le_of_ble_eq_true rfl) dj' r (Sep.mono _ sa (Sub.refl _) rest)⟩⟩
@[reducible] def mem_Image.set_Seqs (x : mem_Image) (l : (List Int)) : mem_Image := { x with Seqs := l }
theorem o_mem_Image.leaf5 : Leaf o_mem_Image 5 (kInt .i64) 3 (fun x => x.Seqs) mem_Image.set_Seqs := fun a h c x ⟨v0, v1, v2, v3, v4, e, q⟩ => by
  subst e
  obtain ⟨h1, h2, dj, s1, s2, p, rest⟩ := Sep.take 4 _ rfl q
  exact ⟨v4, h1, h2, rfl, dj, s1, s2, p, fun a' h' l' sa dj' r => ⟨v0, v1, v2, v3, v4, rfl, Sep.back 4 [slO k_api_Value 35 v0 x.Module.Globals, slO k_api_Value 35 v1 x.Module.Pool, slO k_api_Method 121 v2 x.Module.Methods, slO k_api_Value 35 v3 x.Globals, slO (kInt .i64) 3 v4 x.Seqs] (x := slO (kInt .i64) 3 v4 l') (Nat.le_of_ble_eq_true rfl) dj' r (Sep.mono _ sa (Sub.refl _) rest)⟩⟩
theorem k_mem_Image.part_Module : Part k_mem_Image 0 k_api_Module (fun x => x.Module) := fun h cs x ⟨v0, v1, v2, v3, v4, e, p0, p1, p2, p3, p4⟩ => ⟨[v0, v1, v2, .int .i64 x.Module.Migrate], ⟨v0, v1, v2, rfl, p0, p1, p2⟩, by subst e; exact seg_get [v0, v1, v2, .int .i64 x.Module.Migrate, v3, v4] 0 4⟩
theorem k_mem_Image.part_Globals : Part k_mem_Image 4 (kSl k_api_Value) (fun x => x.Globals) := fun h cs x ⟨v0, v1, v2, v3, v4, e, p0, p1, p2, p3, p4⟩ => ⟨[v3], ⟨v3, rfl, p3⟩, by subst e; exact seg_get [v0, v1, v2, .int .i64 x.Module.Migrate, v3, v4] 4 1⟩
theorem k_mem_Image.part_Seqs : Part k_mem_Image 5 (kSl (kInt .i64)) (fun x => x.Seqs) := fun h cs x ⟨v0, v1, v2, v3, v4, e, p0, p1, p2, p3, p4⟩ => ⟨[v4], ⟨v4, rfl, p4⟩, by subst e; exact seg_get [v0, v1, v2, .int .i64 x.Module.Migrate, v3, v4] 5 1⟩
theorem k_mem_Image.load {P : Program} {n : Fr} {ρ : Option Nat} {σ : List (Nat × Value)} {w0 : World} {hA hV : Hp} {ps : List HP} {os : List HO} {L l : List Oper} {Q : Cont} {d : Nat} {t tr : TypeId} {x : Operand} {pos : String} {af : Array Edge} {g : Option (Nat × Bool)} {v : Value} (see : Sees w0 hA hV) (i : Nat) {x0 : mem_Image} (hi : ps[i]? = some (elP k_mem_Image v x0)) {dsc : TypeDesc} (hu : P.underlying t = some dsc) (hd : (match dsc with | .struct _ | .array _ _ => true | _ => false) = true) (hs : (P.info? t).map (·.size) = some 6) (hg : gd L σ g = some true) (hn : Nat.blt d n.n = true) (hx : ev σ x = some v)
    (h : ∀ v0 v1 v2 v3 v4, SP P n ρ ((d, .agg [v0, v1, v2, .int .i64 x0.Module.Migrate, v3, v4].toArray) :: σ) (St w0 hA hV (slP k_api_Value v0 x0.Module.Globals :: slP k_api_Value v1 x0.Module.Pool :: slP k_api_Method v2 x0.Module.Methods :: slP k_api_Value v3 x0.Globals :: slP (kInt .i64) v4 x0.Seqs :: ps) os) L l Q) : SP P n ρ σ (St w0 hA hV ps os) L (⟨some d, .load t x, tr, pos, af, g⟩ :: l) Q :=
  SP.loadP see i hi hu hd hs hg hn hx fun cs a w ha hw => by
    obtain ⟨m, fr, hN, hO, n1, n2, dj, s1, s2, ap, s⟩ := hw
    obtain ⟨v0, v1, v2, v3, v4, e, p0, p1, p2, p3, p4⟩ := ap.get 0 rfl
    subst e
    exact h v0 v1 v2 v3 v4 a w ha ⟨m, fr, hN, hO, n1, n2, dj, s1, s2, All.cons p0 (All.cons p1 (All.cons p2 (All.cons p3 (All.cons p4 ((fun y hy => ap y (List.mem_cons_of_mem _ hy))))))), s⟩
structure mem_Snap where
  Pos : Int
  Image : mem_Image
def mem_Snap.zero : mem_Snap := ⟨0, mem_Image.zero⟩
def k_mem_Snap : Kd mem_Snap := ⟨7, fun h cs x => ∃ v0 v1 v2 v3 v4 : Value, cs = [.int .i64 x.Pos, v0, v1, v2, .int .i64 x.Image.Module.Migrate, v3, v4] ∧ slR k_api_Value h v0 x.Image.Module.Globals ∧ slR k_api_Value h v1 x.Image.Module.Pool ∧ slR k_api_Method h v2 x.Image.Module.Methods ∧ slR k_api_Value h v3 x.Image.Globals ∧ slR (kInt .i64) h v4 x.Image.Seqs,
  fun _ _ _ _ s ⟨v0, v1, v2, v3, v4, e, p0, p1, p2, p3, p4⟩ => ⟨v0, v1, v2, v3, v4, e, slR.mono s p0, slR.mono s p1, slR.mono s p2, slR.mono s p3, slR.mono s p4⟩, fun _ _ _ ⟨v0, v1, v2, v3, v4, e, p0, p1, p2, p3, p4⟩ => by simp [e],
  fun _ _ _ ⟨v0, v1, v2, v3, v4, e, p0, p1, p2, p3, p4⟩ => by subst e; obtain ⟨_, _, rfl, -⟩ := p0; obtain ⟨_, _, rfl, -⟩ := p1; obtain ⟨_, _, rfl, -⟩ := p2; obtain ⟨_, _, rfl, -⟩ := p3; obtain ⟨_, _, rfl, -⟩ := p4; rfl⟩
def o_mem_Snap : Ko mem_Snap := ⟨k_mem_Snap, fun cs x => HO.ex fun v0 : Value => HO.ex fun v1 : Value => HO.ex fun v2 : Value => HO.ex fun v3 : Value => HO.ex fun v4 : Value => HO.pand (cs = [.int .i64 x.Pos, v0, v1, v2, .int .i64 x.Image.Module.Migrate, v3, v4]) (HO.seps [slO k_api_Value 35 v0 x.Image.Module.Globals, slO k_api_Value 35 v1 x.Image.Module.Pool, slO k_api_Method 121 v2 x.Image.Module.Methods, slO k_api_Value 35 v3 x.Image.Globals, slO (kInt .i64) 3 v4 x.Image.Seqs]), fun ⟨v0, v1, v2, v3, v4, e, q⟩ sa sh => ⟨v0, v1, v2, v3, v4, e, slO.read (Sep.get 0 rfl q) sa sh, slO.read (Sep.get 1 rfl q) sa sh, slO.read (Sep.get 2 rfl q) sa sh, slO.read (Sep.get 3 rfl q) sa sh, slO.read (Sep.get 4 rfl q) sa sh⟩⟩
@[reducible] def mem_Snap.set_Image_Module_Globals (x : mem_Snap) (l : (List api_Value)) : mem_Snap := { x with Image := { x.Image with Module := { x.Image.Module with Globals := l } } }
theorem o_mem_Snap.leaf1 : Leaf o_mem_Snap 1 k_api_Value 35 (fun x => x.Image.Module.Globals) mem_Snap.set_Image_Module_Globals := fun a h c x ⟨v0, v1, v2, v3, v4, e, q⟩ => by
  subst e
  obtain ⟨h1, h2, dj, s1, s2, p, rest⟩ := Sep.take 0 _ rfl q
  exact ⟨v0, h1, h2, rfl, dj, s1, s2, p, fun a' h' l' sa dj' r => ⟨v0, v1, v2, v3, v4, rfl, Sep.back 0 [slO k_api_Value 35 v0 x.Image.Module.Globals, slO k_api_Value 35 v1 x.Image.Module.Pool, slO k_api_Method 121 v2 x.Image.Module.Methods, slO k_api_Value 35 v3 x.Image.Globals, slO (kInt .i64) 3 v4 x.Image.Seqs] (x := slO k_api_Value 35 v0 l') (Nat.le_of_ble_eq_true rfl) dj' r (Sep.mono _ sa (Sub.refl _) rest)⟩⟩
@[reducible] def mem_Snap.set_Image_Module_Pool (x : mem_Snap) (l : (List api_Value)) : mem_Snap := { x with Image := { x.Image with Module := { x.Image.Module with Pool := l } } }
theorem o_mem_Snap.leaf2 : Leaf o_mem_Snap 2 k_api_Value 35 (fun x => x.Image.Module.Pool) mem_Snap.set_Image_Module_Pool := fun a h c x ⟨v0, v1, v2, v3, v4, e, q⟩ => by
  subst e
  obtain ⟨h1, h2, dj, s1, s2, p, rest⟩ := Sep.take 1 _ rfl q
  exact ⟨v1, h1, h2, rfl, dj, s1, s2, p, fun a' h' l' sa dj' r => ⟨v0, v1, v2, v3, v4, rfl, Sep.back 1 [slO k_api_Value 35 v0 x.Image.Module.Globals, slO k_api_Value 35 v1 x.Image.Module.Pool, slO k_api_Method 121 v2 x.Image.Module.Methods, slO k_api_Value 35 v3 x.Image.Globals, slO (kInt .i64) 3 v4 x.Image.Seqs] (x := slO k_api_Value 35 v1 l') (Nat.le_of_ble_eq_true rfl) dj' r (Sep.mono _ sa (Sub.refl _) rest)⟩⟩
@[reducible] def mem_Snap.set_Image_Module_Methods (x : mem_Snap) (l : (List api_Method)) : mem_Snap := { x with Image := { x.Image with Module := { x.Image.Module with Methods := l } } }
theorem o_mem_Snap.leaf3 : Leaf o_mem_Snap 3 k_api_Method 121 (fun x => x.Image.Module.Methods) mem_Snap.set_Image_Module_Methods := fun a h c x ⟨v0, v1, v2, v3, v4, e, q⟩ => by
  subst e
  obtain ⟨h1, h2, dj, s1, s2, p, rest⟩ := Sep.take 2 _ rfl q
  exact ⟨v2, h1, h2, rfl, dj, s1, s2, p, fun a' h' l' sa dj' r => ⟨v0, v1, v2, v3, v4, rfl, Sep.back 2 [slO k_api_Value 35 v0 x.Image.Module.Globals, slO k_api_Value 35 v1 x.Image.Module.Pool, slO k_api_Method 121 v2 x.Image.Module.Methods, slO k_api_Value 35 v3 x.Image.Globals, slO (kInt .i64) 3 v4 x.Image.Seqs] (x := slO k_api_Method 121 v2 l') (Nat.le_of_ble_eq_true rfl) dj' r (Sep.mono _ sa (Sub.refl _) rest)⟩⟩
@[reducible] def mem_Snap.set_Image_Globals (x : mem_Snap) (l : (List api_Value)) : mem_Snap := { x with Image := { x.Image with Globals := l } }
theorem o_mem_Snap.leaf5 : Leaf o_mem_Snap 5 k_api_Value 35 (fun x => x.Image.Globals) mem_Snap.set_Image_Globals := fun a h c x ⟨v0, v1, v2, v3, v4, e, q⟩ => by
  subst e
  obtain ⟨h1, h2, dj, s1, s2, p, rest⟩ := Sep.take 3 _ rfl q
  exact ⟨v3, h1, h2, rfl, dj, s1, s2, p, fun a' h' l' sa dj' r => ⟨v0, v1, v2, v3, v4, rfl, Sep.back 3 [slO k_api_Value 35 v0 x.Image.Module.Globals, slO k_api_Value 35 v1 x.Image.Module.Pool, slO k_api_Method 121 v2 x.Image.Module.Methods, slO k_api_Value 35 v3 x.Image.Globals, slO (kInt .i64) 3 v4 x.Image.Seqs] (x := slO k_api_Value 35 v3 l') (Nat.le_of_ble_eq_true rfl) dj' r (Sep.mono _ sa (Sub.refl _) rest)⟩⟩
@[reducible] def mem_Snap.set_Image_Seqs (x : mem_Snap) (l : (List Int)) : mem_Snap := { x with Image := { x.Image with Seqs := l } }
theorem o_mem_Snap.leaf6 : Leaf o_mem_Snap 6 (kInt .i64) 3 (fun x => x.Image.Seqs) mem_Snap.set_Image_Seqs := fun a h c x ⟨v0, v1, v2, v3, v4, e, q⟩ => by
  subst e
  obtain ⟨h1, h2, dj, s1, s2, p, rest⟩ := Sep.take 4 _ rfl q
  exact ⟨v4, h1, h2, rfl, dj, s1, s2, p, fun a' h' l' sa dj' r => ⟨v0, v1, v2, v3, v4, rfl, Sep.back 4 [slO k_api_Value 35 v0 x.Image.Module.Globals, slO k_api_Value 35 v1 x.Image.Module.Pool, slO k_api_Method 121 v2 x.Image.Module.Methods, slO k_api_Value 35 v3 x.Image.Globals, slO (kInt .i64) 3 v4 x.Image.Seqs] (x := slO (kInt .i64) 3 v4 l') (Nat.le_of_ble_eq_true rfl) dj' r (Sep.mono _ sa (Sub.refl _) rest)⟩⟩
theorem k_mem_Snap.part_Pos : Part k_mem_Snap 0 (kInt .i64) (fun x => x.Pos) := fun h cs x ⟨v0, v1, v2, v3, v4, e, p0, p1, p2, p3, p4⟩ => ⟨[.int .i64 x.Pos], rfl, by subst e; exact seg_get [.int .i64 x.Pos, v0, v1, v2, .int .i64 x.Image.Module.Migrate, v3, v4] 0 1⟩
theorem k_mem_Snap.part_Image : Part k_mem_Snap 1 k_mem_Image (fun x => x.Image) := fun h cs x ⟨v0, v1, v2, v3, v4, e, p0, p1, p2, p3, p4⟩ => ⟨[v0, v1, v2, .int .i64 x.Image.Module.Migrate, v3, v4], ⟨v0, v1, v2, v3, v4, rfl, p0, p1, p2, p3, p4⟩, by subst e; exact seg_get [.int .i64 x.Pos, v0, v1, v2, .int .i64 x.Image.Module.Migrate, v3, v4] 1 6⟩
theorem k_mem_Snap.load {P : Program} {n : Fr} {ρ : Option Nat} {σ : List (Nat × Value)} {w0 : World} {hA hV : Hp} {ps : List HP} {os : List HO} {L l : List Oper} {Q : Cont} {d : Nat} {t tr : TypeId} {x : Operand} {pos : String} {af : Array Edge} {g : Option (Nat × Bool)} {v : Value} (see : Sees w0 hA hV) (i : Nat) {x0 : mem_Snap} (hi : ps[i]? = some (elP k_mem_Snap v x0)) {dsc : TypeDesc} (hu : P.underlying t = some dsc) (hd : (match dsc with | .struct _ | .array _ _ => true | _ => false) = true) (hs : (P.info? t).map (·.size) = some 7) (hg : gd L σ g = some true) (hn : Nat.blt d n.n = true) (hx : ev σ x = some v)
    (h : ∀ v0 v1 v2 v3 v4, SP P n ρ ((d, .agg [.int .i64 x0.Pos, v0, v1, v2, .int .i64 x0.Image.Module.Migrate, v3, v4].toArray) :: σ) (St w0 hA hV (slP k_api_Value v0 x0.Image.Module.Globals :: slP k_api_Value v1 x0.Image.Module.Pool :: slP k_api_Method v2 x0.Image.Module.Methods :: slP k_api_Value v3 x0.Image.Globals :: slP (kInt .i64) v4 x0.Image.Seqs :: ps) os) L l Q) : SP P n ρ σ (St w0 hA hV ps os) L (⟨some d, .load t x, tr, pos, af, g⟩ :: l) Q :=
  SP.loadP see i hi hu hd hs hg hn hx fun cs a w ha hw => by
    obtain ⟨m, fr, hN, hO, n1, n2, dj, s1, s2, ap, s⟩ := hw
    obtain ⟨v0, v1, v2, v3, v4, e, p0, p1, p2, p3, p4⟩ := ap.get 0 rfl
    subst e
    exact h v0 v1 v2 v3 v4 a w ha ⟨m, fr, hN, hO, n1, n2, dj, s1, s2, All.cons p0 (All.cons p1 (All.cons p2 (All.cons p3 (All.cons p4 ((fun y hy => ap y (List.mem_cons_of_mem _ hy))))))), s⟩
theorem sz3 : (Tryz.prog.info? 3).map (·.size) = some 1 := by kernel_rfl
theorem sz4 : (Tryz.prog.info? 4).map (·.size) = some 1 := by kernel_rfl
theorem sz22 : (Tryz.prog.info? 22).map (·.size) = some 1 := by kernel_rfl
theorem sz23 : (Tryz.prog.info? 23).map (·.size) = some 1 := by kernel_rfl
theorem sz25 : (Tryz.prog.info? 25).map (·.size) = some 4 := by kernel_rfl
theorem sz27 : (Tryz.prog.info? 27).map (·.size) = some 1 := by kernel_rfl
theorem sz29 : (Tryz.prog.info? 29).map (·.size) = some 4 := by kernel_rfl
theorem sz32 : (Tryz.prog.info? 32).map (·.size) = some 7 := by kernel_rfl
theorem sz39 : (Tryz.prog.info? 39).map (·.size) = some 5 := by kernel_rfl
theorem sz48 : (Tryz.prog.info? 48).map (·.size) = some 6 := by kernel_rfl
theorem sz51 : (Tryz.prog.info? 51).map (·.size) = some 1 := by kernel_rfl
theorem sz52 : (Tryz.prog.info? 52).map (·.size) = some 1 := by kernel_rfl
theorem sz64 : (Tryz.prog.info? 64).map (·.size) = some 7 := by kernel_rfl
theorem inf32 : (Tryz.prog.info? 32).map (fun i => ((i.zero.map fun z => z.cells.toList), i.size, i.bytes)) = some (some [.bool false, (.slice none 0 0), (.slice none 0 0), (.slice none 0 0), .int .i64 0, (.slice none 0 0), (.slice none 0 0)], 7, 136) := by kernel_rfl
theorem inf39 : (Tryz.prog.info? 39).map (fun i => ((i.zero.map fun z => z.cells.toList), i.size, i.bytes)) = some (some [.int .i64 0, .int .i64 0, .int .u8 0, .int .i64 0, .int .i64 0], 5, 40) := by kernel_rfl
theorem inf48 : (Tryz.prog.info? 48).map (fun i => ((i.zero.map fun z => z.cells.toList), i.size, i.bytes)) = some (some [.int .i64 0, .int .i64 0, .int .u8 0, .int .i64 0, (.slice none 0 0), (.slice none 0 0)], 6, 80) := by kernel_rfl
theorem inf51 : (Tryz.prog.info? 51).map (fun i => ((i.zero.map fun z => z.cells.toList), i.size, i.bytes)) = some (some [.pointer none], 1, 8) := by kernel_rfl
theorem inf64 : (Tryz.prog.info? 64).map (fun i => ((i.zero.map fun z => z.cells.toList), i.size, i.bytes)) = some (some [.int .i64 0, (.slice none 0 0), (.slice none 0 0), (.slice none 0 0), .int .i64 0, (.slice none 0 0), (.slice none 0 0)], 7, 136) := by kernel_rfl
theorem bt32 : shapeOf Tryz.prog 32 = some ([.bool false, (.slice none 0 0), (.slice none 0 0), (.slice none 0 0), .int .i64 0, (.slice none 0 0), (.slice none 0 0)], [(0, 1), (1, 4), (5, 1), (6, 1)]) := by kernel_rfl
theorem bt39 : shapeOf Tryz.prog 39 = some ([.int .i64 0, .int .i64 0, .int .u8 0, .int .i64 0, .int .i64 0], [(0, 1), (1, 4)]) := by kernel_rfl
theorem bt54 : shapeOf Tryz.prog 54 = some ([.int .i64 0, .bool false, (.slice none 0 0), (.slice none 0 0), (.slice none 0 0), .int .i64 0, (.slice none 0 0), (.slice none 0 0), (.slice none 0 0)], [(0, 1), (1, 7), (8, 1)]) := by kernel_rfl
theorem bt64 : shapeOf Tryz.prog 64 = some ([.int .i64 0, (.slice none 0 0), (.slice none 0 0), (.slice none 0 0), .int .i64 0, (.slice none 0 0), (.slice none 0 0)], [(0, 1), (1, 6)]) := by kernel_rfl
theorem fn8 : ((Tryz.prog.funcs[8]?).map fun fn => fn.body.isSome && !(fn.name == "runtime.NumGoroutine")) = some true := by rw [Tryz.func8]; rfl
theorem fn17 : ((Tryz.prog.funcs[17]?).map fun fn => fn.body.isSome && !(fn.name == "runtime.NumGoroutine")) = some true := by rw [Tryz.func17]; rfl
theorem fn66 : ((Tryz.prog.funcs[66]?).map fun fn => fn.body.isSome && !(fn.name == "runtime.NumGoroutine")) = some true := by rw [Tryz.func66]; rfl
theorem fn18 : ((Tryz.prog.funcs[18]?).map fun fn => fn.body.isSome && !(fn.name == "runtime.NumGoroutine")) = some true := by rw [Tryz.func18]; rfl
theorem fn19 : ((Tryz.prog.funcs[19]?).map fun fn => fn.body.isSome && !(fn.name == "runtime.NumGoroutine")) = some true := by rw [Tryz.func19]; rfl
theorem fn20 : ((Tryz.prog.funcs[20]?).map fun fn => fn.body.isSome && !(fn.name == "runtime.NumGoroutine")) = some true := by rw [Tryz.func20]; rfl
theorem fn24 : ((Tryz.prog.funcs[24]?).map fun fn => fn.body.isSome && !(fn.name == "runtime.NumGoroutine")) = some true := by rw [Tryz.func24]; rfl
theorem fn51 : ((Tryz.prog.funcs[51]?).map fun fn => fn.body.isSome && !(fn.name == "runtime.NumGoroutine")) = some true := by rw [Tryz.func51]; rfl
theorem fn12 : ((Tryz.prog.funcs[12]?).map fun fn => fn.body.isSome && !(fn.name == "runtime.NumGoroutine")) = some true := by rw [Tryz.func12]; rfl
theorem fn21 : ((Tryz.prog.funcs[21]?).map fun fn => fn.body.isSome && !(fn.name == "runtime.NumGoroutine")) = some true := by rw [Tryz.func21]; rfl
theorem fn22 : ((Tryz.prog.funcs[22]?).map fun fn => fn.body.isSome && !(fn.name == "runtime.NumGoroutine")) = some true := by rw [Tryz.func22]; rfl
theorem fn23 : ((Tryz.prog.funcs[23]?).map fun fn => fn.body.isSome && !(fn.name == "runtime.NumGoroutine")) = some true := by rw [Tryz.func23]; rfl
theorem fn60 : ((Tryz.prog.funcs[60]?).map fun fn => fn.body.isSome && !(fn.name == "runtime.NumGoroutine")) = some true := by rw [Tryz.func60]; rfl
theorem fn61 : ((Tryz.prog.funcs[61]?).map fun fn => fn.body.isSome && !(fn.name == "runtime.NumGoroutine")) = some true := by rw [Tryz.func61]; rfl
theorem fn62 : ((Tryz.prog.funcs[62]?).map fun fn => fn.body.isSome && !(fn.name == "runtime.NumGoroutine")) = some true := by rw [Tryz.func62]; rfl
theorem fn13 : ((Tryz.prog.funcs[13]?).map fun fn => fn.body.isSome && !(fn.name == "runtime.NumGoroutine")) = some true := by rw [Tryz.func13]; rfl
theorem fn4 : ((Tryz.prog.funcs[4]?).map fun fn => fn.body.isSome && !(fn.name == "runtime.NumGoroutine")) = some true := by rw [Tryz.func4]; rfl
/-! ### capstan/capstanlaw20.Great: function 8 -/
def capstanlaw20_Great.f (op_0 : api_Op) : Option Bool :=
  some ((decide ((op_0.Args.length : Int) > 20)) || (decide ((op_0.Bytes.length : Int) > 3000)))
theorem capstanlaw20_Great.ok (op_0 : api_Op) (v_op_0_Args : Value) (v_op_0_Bytes : Value) (r : Bool) (H : capstanlaw20_Great.f op_0 = some r) (w : World) (hV : Hp) (sV : Sub hV (hp w)) (h0 : slR k_api_Value hV v_op_0_Args op_0.Args) (h1 : slR (kInt .u8) hV v_op_0_Bytes op_0.Bytes) :
    Trip Tryz.prog 8 [.agg #[.int .u8 op_0.Kind, .int .i64 op_0.Method, v_op_0_Args, v_op_0_Bytes]].toArray em hV w (fun v => HO.pure (v = .bool r)) := by
  have see : Sees w em hV := ⟨sV, Dj.em_right _⟩
  refine Trip.of (P := Tryz.prog) (n := ⟨13, []⟩) Tryz.func8 rfl ⟨rfl, rfl⟩ rfl (St.begin (All.cons (x := slP k_api_Value v_op_0_Args op_0.Args) h0 (All.cons (x := slP (kInt .u8) v_op_0_Bytes op_0.Bytes) h1 (All.nil _)))) ?_
  have ho := H
  refine CP.seq ?_
  refine CP.region ?_
  refine SP.box (cs := [.int .u8 op_0.Kind, .int .i64 op_0.Method, v_op_0_Args, v_op_0_Bytes]) rfl rfl rfl rfl (fun b3 => ?_)
  refine SP.val (Val.assign rfl) rfl rfl rfl ?_
  refine SP.nil ?_
  refine QE.then ?_
  refine CP.seq ?_
  refine CP.region ?_
  refine SP.val (Val.fieldAddr Tryz.underlying25 rfl sz22 rfl) rfl rfl rfl ?_
  refine SP.val (Val.load1 0 rfl Tryz.underlying22 rfl rfl rfl) rfl rfl rfl ?_
  refine SP.val (Val.lenP see 0 rfl Tryz.underlying22 rfl) rfl rfl rfl ?_
  refine SP.val (Val.gtr rfl rfl) rfl rfl rfl ?_
  refine SP.val (Val.move rfl) rfl rfl rfl ?_
  refine SP.join 5 (fun a w2 => Env ⟨13, []⟩ [(12, .bool ((decide ((op_0.Args.length : Int) > 20)) || (decide ((op_0.Bytes.length : Int) > 3000))))] a ∧ St w em hV [slP k_api_Value v_op_0_Args op_0.Args, slP (kInt .u8) v_op_0_Bytes op_0.Bytes] [boxO b3 [.int .u8 op_0.Kind, .int .i64 op_0.Method, v_op_0_Args, v_op_0_Bytes] 25] w2) ?_ ?_
  · rintro a w2 ⟨ha, hw⟩
    refine SP.app ha hw ?_
    clear ha hw a w2
    refine SP.val (Val.assign rfl) rfl rfl rfl ?_
    refine SP.nil ?_
    refine QE.then ?_
    refine CP.ret ?_
    obtain rfl := Option.some.inj ho
    exact QE.rets (rs := [.tmp 2]) (vs := [.bool ((decide ((op_0.Args.length : Int) > 20)) || (decide ((op_0.Bytes.length : Int) > 3000)))]) Tryz.results8 rfl ⟨RVs.tmp rfl, trivial⟩ (fun w2 h => St.done (fun a b p s => rfl) h)
  · intro J
    by_cases hc : (op_0.Args.length : Int) > 20
    · have hq6 := (decide_eq_true hc)
      refine SP.isT (d := 7) rfl hq6 ?_
      refine SP.not rfl rfl rfl ?_
      refine SP.not rfl rfl rfl ?_
      refine SP.not rfl rfl rfl ?_
      refine SP.not rfl rfl rfl ?_
      refine SP.val (Val.pickT rfl rfl) rfl rfl rfl ?_
      exact J fun a w2 ha hw => ⟨ha.sub ⟨congrArg (fun z => some (Value.bool z)) (or_t hq6), trivial⟩, hw⟩
    · have hq6 := (decide_eq_false hc)
      refine SP.isF (d := 7) rfl hq6 ?_
      refine SP.val (Val.fieldAddr Tryz.underlying25 rfl sz23 rfl) rfl rfl rfl ?_
      refine SP.val (Val.load1 0 rfl Tryz.underlying23 rfl rfl rfl) rfl rfl rfl ?_
      refine SP.val (Val.lenP see 1 rfl Tryz.underlying23 rfl) rfl rfl rfl ?_
      refine SP.val (Val.gtr rfl rfl) rfl rfl rfl ?_
      refine SP.val (Val.pickF rfl rfl) rfl rfl rfl ?_
      exact J fun a w2 ha hw => ⟨ha.sub ⟨congrArg (fun z => some (Value.bool z)) (or_f hq6 rfl), trivial⟩, hw⟩
/-! ### capstan/capstanlaw25.Great: function 17 -/
inductive capstanlaw25_Great.S where
  | start
  | l1 (x13 : Int)

def capstanlaw25_Great.F (l_0 : (List api_Entry)) : capstanlaw25_Great.S → Option (capstanlaw25_Great.S ⊕ Bool)
  | .start => if (l_0.length : Int) > 25 then (some (.inr true)) else (some (.inl (.l1 0)))
  | .l1 x13 => if x13 < (l_0.length : Int) then ((elt l_0 x13).bind fun x17 => (capstanlaw20_Great.f x17.Op).bind fun t24 => if t24 = true then (some (.inr true)) else (some (.inl (.l1 (IntKind.i64.wrap (x13 + 1)))))) else (some (.inr false))

def capstanlaw25_Great.f (l_0 : (List api_Entry)) : Option Bool := runF (capstanlaw25_Great.F l_0) .start
theorem capstanlaw25_Great.ok (l_0 : (List api_Entry)) (v_l_0 : Value) (r : Bool) (H : capstanlaw25_Great.f l_0 = some r) (w : World) (hV : Hp) (sV : Sub hV (hp w)) (h0 : slR k_api_Entry hV v_l_0 l_0) :
    Trip Tryz.prog 17 [v_l_0].toArray em hV w (fun v => HO.pure (v = .bool r)) := by
  have see : Sees w em hV := ⟨sV, Dj.em_right _⟩
  refine Trip.of (P := Tryz.prog) (n := ⟨19, []⟩) Tryz.func17 rfl ⟨rfl, rfl⟩ rfl (St.begin (All.cons (x := slP k_api_Entry v_l_0 l_0) h0 (All.nil _))) ?_
  obtain ⟨n0, hi⟩ := runF_iff.1 H
  obtain ⟨m0, o, hm0, ho, hr⟩ := iter_some hi
  clear hi
  refine CP.seq ?_
  refine CP.region ?_
  refine SP.val (Val.assign rfl) rfl rfl rfl ?_
  refine SP.nil ?_
  refine QE.then ?_
  refine CP.seq ?_
  refine CP.seq ?_
  refine CP.region ?_
  refine SP.val (Val.move rfl) rfl rfl rfl ?_
  refine SP.val (Val.lenP see 0 rfl Tryz.underlying50 rfl) rfl rfl rfl ?_
  refine SP.val (Val.gtr rfl rfl) rfl rfl rfl ?_
  refine SP.nil ?_
  refine QE.then ?_
  rcases if_some ho with ⟨hc, ho⟩ | ⟨hc, ho⟩
  · refine CP.condT rfl (decide_eq_true hc) ?_
    refine CP.seq ?_
    refine CP.region ?_
    refine SP.val (Val.assign rfl) rfl rfl rfl ?_
    refine SP.nil ?_
    refine QE.then ?_
    refine CP.ret ?_
    refine QE.thru (by intro e; cases e) ?_
    obtain rfl := Option.some.inj ho
    obtain rfl := Option.some.inj hr
    exact QE.rets (rs := [.tmp 2]) (vs := [.bool true]) Tryz.results17 rfl ⟨RVs.tmp rfl, trivial⟩ (fun w2 h => St.done (fun a b p s => rfl) h)
  · refine CP.condF rfl (decide_eq_false hc) ?_
    refine CP.skip ?_
    refine QE.then ?_
    refine CP.seq ?_
    refine CP.seq ?_
    refine CP.region ?_
    refine SP.val (Val.assign rfl) rfl rfl rfl ?_
    refine SP.nil ?_
    refine QE.then ?_
    refine CP.block ?_
    obtain rfl := Option.some.inj ho
    refine CP.loop (fun cl1 a w2 => ∃ x13 : Int, cl1 ≤ m0 ∧ iter (capstanlaw25_Great.F l_0) cl1 (.l1 x13) = some r ∧ Env ⟨19, []⟩ [(0, v_l_0), (3, .int .i64 x13)] a ∧ St w em hV [slP k_api_Entry v_l_0 l_0] [] w2) m0 (fun a w2 ha hw => ⟨0, Nat.le_refl _, hr, ha.sub ⟨rfl, rfl, trivial⟩, hw⟩) ?_
    clear hr
    rintro cl1 a w2 ⟨x13, hc_l1, hi, ha, hw⟩
    obtain ⟨m14, o, hm_m14, ho, hr⟩ := iter_some hi
    refine CP.app ha hw ?_
    clear ha hw a w2 hi
    refine CP.seq ?_
    refine CP.seq ?_
    refine CP.region ?_
    refine SP.val (Val.move rfl) rfl rfl rfl ?_
    refine SP.val (Val.move rfl) rfl rfl rfl ?_
    refine SP.val (Val.lenP see 0 rfl Tryz.underlying50 rfl) rfl rfl rfl ?_
    refine SP.val (Val.lss rfl rfl) rfl rfl rfl ?_
    refine SP.nil ?_
    refine QE.then ?_
    rcases if_some ho with ⟨hc, ho⟩ | ⟨hc, ho⟩
    · refine CP.condT rfl (decide_eq_true hc) ?_
      refine CP.skip ?_
      refine QE.then ?_
      refine CP.seq ?_
      refine CP.block ?_
      refine CP.seq ?_
      refine CP.region ?_
      refine SP.val (Val.move rfl) rfl rfl rfl ?_
      refine SP.val (Val.move rfl) rfl rfl rfl ?_
      obtain ⟨x17, hx, ho⟩ := bind_some ho
      have hx := elt_some hx
      refine SP.indexP see 0 rfl Tryz.underlying50 sz48 hx.1 hx.2 rfl rfl rfl rfl (fun p15 => ?_)
      clear hx
      refine SP.fieldP see 0 rfl Tryz.underlying48 rfl sz25 k_api_Entry.part_Op rfl rfl rfl (fun p18 => ?_)
      refine k_api_Op.load see 0 rfl Tryz.underlying25 rfl sz25 rfl rfl rfl (fun v20 v22 => ?_)
      obtain ⟨t24, hc, ho⟩ := bind_some (x := capstanlaw20_Great.f x17.Op) ho
      refine SP.callV see (caps := []) (.bool t24) fn8 rfl rfl rfl rfl (fun w2 hP hs sub ap => capstanlaw20_Great.ok x17.Op _ _ _ hc w2 hP sub (ap.get 0 rfl) (ap.get 1 rfl)) ?_
      clear hc
      refine SP.nil ?_
      refine QE.then ?_
      rcases if_some ho with ⟨hc, ho⟩ | ⟨hc, ho⟩
      · refine CP.condT rfl hc ?_
        refine CP.seq ?_
        refine CP.region ?_
        refine SP.val (Val.assign rfl) rfl rfl rfl ?_
        refine SP.nil ?_
        refine QE.then ?_
        refine CP.ret ?_
        refine QE.blockR ?_
        refine QE.thru (by intro e; cases e) ?_
        refine QE.thru (by intro e; cases e) ?_
        refine QE.blockR ?_
        refine QE.thru (by intro e; cases e) ?_
        obtain rfl := Option.some.inj ho
        obtain rfl := Option.some.inj hr
        exact QE.rets (rs := [.tmp 2]) (vs := [.bool true]) Tryz.results17 rfl ⟨RVs.tmp rfl, trivial⟩ (fun w2 h => St.done (fun a b p s => rfl) h)
      · refine CP.condF rfl (bf hc) ?_
        refine CP.skip ?_
        refine QE.blockN ?_
        refine QE.then ?_
        refine CP.region ?_
        refine SP.val (Val.move rfl) rfl rfl rfl ?_
        refine SP.val (Val.add rfl rfl) rfl rfl rfl ?_
        refine SP.val (Val.assign rfl) rfl rfl rfl ?_
        refine SP.nil ?_
        obtain rfl := Option.some.inj ho
        exact QE.lower m14 (by omega) fun a w2 ha hw => ⟨(IntKind.i64.wrap (x13 + 1)), (by omega), hr, ha.sub ⟨rfl, rfl, trivial⟩, (St.selP [4] rfl hw)⟩
    · refine CP.condF rfl (decide_eq_false hc) ?_
      refine CP.exit ?_
      refine QE.thru (by intro e; cases e) ?_
      refine QE.thru (by intro e; cases e) ?_
      refine QE.blockE ?_
      refine QE.then ?_
      refine CP.seq ?_
      refine CP.region ?_
      refine SP.val (Val.assign rfl) rfl rfl rfl ?_
      refine SP.nil ?_
      refine QE.then ?_
      refine CP.ret ?_
      obtain rfl := Option.some.inj ho
      obtain rfl := Option.some.inj hr
      exact QE.rets (rs := [.tmp 2]) (vs := [.bool false]) Tryz.results17 rfl ⟨RVs.tmp rfl, trivial⟩ (fun w2 h => St.done (fun a b p s => rfl) h)
/-! ### (*capstan/replica.Replica).none: function 66 -/
def replica_Replica_none_s1.f  : Option Unit :=
  some ()
theorem replica_Replica_none_s1.ok   (r : Unit) (H : replica_Replica_none_s1.f  = some r) (w : World) (hV : Hp) (sV : Sub hV (hp w))  :
    Trip Tryz.prog 66 [.pointer none].toArray em hV w (fun v => HO.pure (v = .bool true)) := by
  have see : Sees w em hV := ⟨sV, Dj.em_right _⟩
  refine Trip.of (P := Tryz.prog) (n := ⟨13, []⟩) Tryz.func66 rfl ⟨rfl, rfl⟩ rfl (St.begin (All.nil _)) ?_
  have ho := H
  refine CP.seq ?_
  refine CP.region ?_
  refine SP.val (Val.assign rfl) rfl rfl rfl ?_
  refine SP.nil ?_
  refine QE.then ?_
  refine CP.seq ?_
  refine CP.region ?_
  refine SP.val (Val.move rfl) rfl rfl rfl ?_
  refine SP.val (Val.cast (v := .bool true) (Val.eqlPN Tryz.underlying51 rfl rfl) rfl) rfl rfl rfl ?_
  refine SP.val (Val.move rfl) rfl rfl rfl ?_
  refine SP.not rfl rfl rfl ?_
  refine SP.not rfl rfl rfl ?_
  refine SP.not rfl rfl rfl ?_
  refine SP.not rfl rfl rfl ?_
  refine SP.not rfl rfl rfl ?_
  refine SP.not rfl rfl rfl ?_
  refine SP.val (Val.pickT rfl rfl) rfl rfl rfl ?_
  refine SP.val (Val.assign rfl) rfl rfl rfl ?_
  refine SP.nil ?_
  refine QE.then ?_
  refine CP.ret ?_
  obtain rfl := Option.some.inj ho
  exact QE.rets (rs := [.tmp 2]) (vs := [.bool true]) Tryz.results66 rfl ⟨RVs.tmp rfl, trivial⟩ (fun w2 h => St.done (fun a b p s => rfl) h)
/-! ### (*capstan/replica.Replica).Do: function 18 -/
def replica_Replica_Do_s1.f (e_1 : api_Entry) : Option Unit :=
  (replica_Replica_none_s1.f ).bind fun t7 => some ()
theorem replica_Replica_Do_s1.ok (e_1 : api_Entry) (v_e_1_Op_Args : Value) (v_e_1_Op_Bytes : Value) (r : Unit) (H : replica_Replica_Do_s1.f e_1 = some r) (w : World) (hV : Hp) (sV : Sub hV (hp w)) (h0 : slR k_api_Value hV v_e_1_Op_Args e_1.Op.Args) (h1 : slR (kInt .u8) hV v_e_1_Op_Bytes e_1.Op.Bytes) :
    Trip Tryz.prog 18 [.pointer none, .agg #[.int .i64 e_1.Proc, .int .i64 e_1.Seq, .int .u8 e_1.Op.Kind, .int .i64 e_1.Op.Method, v_e_1_Op_Args, v_e_1_Op_Bytes]].toArray em hV w (fun v => HO.pure (v = .tuple #[.agg #[.int .i64 0, .int .i64 0, .int .u8 0, .int .i64 0, .int .i64 0], .int .i64 1])) := by
  have see : Sees w em hV := ⟨sV, Dj.em_right _⟩
  refine Trip.of (P := Tryz.prog) (n := ⟨74, []⟩) Tryz.func18 rfl ⟨rfl, rfl⟩ rfl (St.begin (All.cons (x := slP k_api_Value v_e_1_Op_Args e_1.Op.Args) h0 (All.cons (x := slP (kInt .u8) v_e_1_Op_Bytes e_1.Op.Bytes) h1 (All.nil _)))) ?_
  have ho := H
  refine CP.seq ?_
  refine CP.region ?_
  refine SP.box (cs := [.int .i64 e_1.Proc, .int .i64 e_1.Seq, .int .u8 e_1.Op.Kind, .int .i64 e_1.Op.Method, v_e_1_Op_Args, v_e_1_Op_Bytes]) rfl rfl rfl rfl (fun b3 => ?_)
  refine SP.alloc (cs := [.int .i64 0, .int .i64 0, .int .u8 0, .int .i64 0, .int .i64 0]) inf39 rfl rfl (fun b5 => ?_)
  refine SP.val (Val.assign rfl) rfl rfl rfl ?_
  refine SP.nil ?_
  refine QE.then ?_
  refine CP.seq ?_
  refine CP.block ?_
  refine CP.seq ?_
  refine CP.region ?_
  refine SP.val (Val.move rfl) rfl rfl rfl ?_
  obtain ⟨t7, hc, ho⟩ := bind_some (x := replica_Replica_none_s1.f ) ho
  refine SP.callV see (caps := []) (.bool true) fn66 rfl rfl rfl rfl (fun w2 hP hs sub ap => replica_Replica_none_s1.ok   _ hc w2 hP sub ) ?_
  clear hc
  refine SP.val (Val.assign rfl) rfl rfl rfl ?_
  refine SP.nil ?_
  refine QE.then ?_
  refine CP.condT rfl rfl ?_
  refine CP.seq ?_
  refine CP.region ?_
  refine SP.val (Val.buildC (us := []) (ucs := []) (cs := [.int .i64 0, .int .i64 0, .int .u8 0, .int .i64 0, .int .i64 0]) bt39 rfl rfl trivial (by rfl)) rfl rfl rfl ?_
  refine SP.store (v := .agg #[.int .i64 0, .int .i64 0, .int .u8 0, .int .i64 0, .int .i64 0]) (vs := [.int .i64 0, .int .i64 0, .int .u8 0, .int .i64 0, .int .i64 0]) 0 (by rfl) sz39 (by rfl) (by rfl) (by rfl) (by rfl) (by rfl) (by rfl) ?_
  refine SP.val (Val.assign rfl) rfl rfl rfl ?_
  refine SP.nil ?_
  refine QE.then ?_
  refine CP.ret ?_
  refine QE.blockR ?_
  refine QE.thru (by intro e; cases e) ?_
  obtain rfl := Option.some.inj ho
  exact QE.rets (rs := [.cell 4 39, .tmp 5]) (vs := [.agg #[.int .i64 0, .int .i64 0, .int .u8 0, .int .i64 0, .int .i64 0], .int .i64 1]) Tryz.results18 rfl ⟨RVs.cellA 0 rfl rfl Tryz.underlying39 rfl sz39, RVs.tmp rfl, trivial⟩ (fun w2 h => St.done (fun a b p s => rfl) h)
/-! ### (*capstan/replica.Replica).Pos: function 19 -/
def replica_Replica_Pos_s1.f  : Option Unit :=
  (replica_Replica_none_s1.f ).bind fun t1 => some ()
theorem replica_Replica_Pos_s1.ok   (r : Unit) (H : replica_Replica_Pos_s1.f  = some r) (w : World) (hV : Hp) (sV : Sub hV (hp w))  :
    Trip Tryz.prog 19 [.pointer none].toArray em hV w (fun v => HO.pure (v = .int .i64 0)) := by
  have see : Sees w em hV := ⟨sV, Dj.em_right _⟩
  refine Trip.of (P := Tryz.prog) (n := ⟨9, []⟩) Tryz.func19 rfl ⟨rfl, rfl⟩ rfl (St.begin (All.nil _)) ?_
  have ho := H
  refine CP.seq ?_
  refine CP.region ?_
  refine SP.val (Val.assign rfl) rfl rfl rfl ?_
  refine SP.nil ?_
  refine QE.then ?_
  refine CP.seq ?_
  refine CP.seq ?_
  refine CP.region ?_
  refine SP.val (Val.move rfl) rfl rfl rfl ?_
  obtain ⟨t1, hc, ho⟩ := bind_some (x := replica_Replica_none_s1.f ) ho
  refine SP.callV see (caps := []) (.bool true) fn66 rfl rfl rfl rfl (fun w2 hP hs sub ap => replica_Replica_none_s1.ok   _ hc w2 hP sub ) ?_
  clear hc
  refine SP.nil ?_
  refine QE.then ?_
  refine CP.condT rfl rfl ?_
  refine CP.seq ?_
  refine CP.region ?_
  refine SP.val (Val.assign rfl) rfl rfl rfl ?_
  refine SP.nil ?_
  refine QE.then ?_
  refine CP.ret ?_
  refine QE.thru (by intro e; cases e) ?_
  obtain rfl := Option.some.inj ho
  exact QE.rets (rs := [.tmp 2]) (vs := [.int .i64 0]) Tryz.results19 rfl ⟨RVs.tmp rfl, trivial⟩ (fun w2 h => St.done (fun a b p s => rfl) h)
/-! ### (*capstan/replica.Replica).Seqs: function 20 -/
def replica_Replica_Seqs_s1.f  : Option Unit :=
  (replica_Replica_none_s1.f ).bind fun t1 => some ()
theorem replica_Replica_Seqs_s1.ok   (r : Unit) (H : replica_Replica_Seqs_s1.f  = some r) (w : World) (hV : Hp) (sV : Sub hV (hp w))  :
    Trip Tryz.prog 20 [.pointer none].toArray em hV w (fun v => HO.pure (v = (.slice none 0 0))) := by
  have see : Sees w em hV := ⟨sV, Dj.em_right _⟩
  refine Trip.of (P := Tryz.prog) (n := ⟨19, []⟩) Tryz.func20 rfl ⟨rfl, rfl⟩ rfl (St.begin (All.nil _)) ?_
  have ho := H
  refine CP.seq ?_
  refine CP.region ?_
  refine SP.val (Val.assign rfl) rfl rfl rfl ?_
  refine SP.nil ?_
  refine QE.then ?_
  refine CP.seq ?_
  refine CP.seq ?_
  refine CP.region ?_
  refine SP.val (Val.move rfl) rfl rfl rfl ?_
  obtain ⟨t1, hc, ho⟩ := bind_some (x := replica_Replica_none_s1.f ) ho
  refine SP.callV see (caps := []) (.bool true) fn66 rfl rfl rfl rfl (fun w2 hP hs sub ap => replica_Replica_none_s1.ok   _ hc w2 hP sub ) ?_
  clear hc
  refine SP.nil ?_
  refine QE.then ?_
  refine CP.condT rfl rfl ?_
  refine CP.seq ?_
  refine CP.region ?_
  refine SP.val (Val.assign rfl) rfl rfl rfl ?_
  refine SP.nil ?_
  refine QE.then ?_
  refine CP.ret ?_
  refine QE.thru (by intro e; cases e) ?_
  obtain rfl := Option.some.inj ho
  exact QE.rets (rs := [.tmp 2]) (vs := [(.slice none 0 0)]) Tryz.results20 rfl ⟨RVs.tmp rfl, trivial⟩ (fun w2 h => St.done (fun a b p s => rfl) h)
/-! ### (*capstan/replica.Replica).Object: function 24 -/
def replica_Replica_Object_s1.f  : Option Unit :=
  (replica_Replica_none_s1.f ).bind fun t3 => some ()
theorem replica_Replica_Object_s1.ok   (r : Unit) (H : replica_Replica_Object_s1.f  = some r) (w : World) (hV : Hp) (sV : Sub hV (hp w))  :
    Trip Tryz.prog 24 [.pointer none].toArray em hV w (fun v => HO.pure (v = .agg #[.bool false, (.slice none 0 0), (.slice none 0 0), (.slice none 0 0), .int .i64 0, (.slice none 0 0), (.slice none 0 0)])) := by
  have see : Sees w em hV := ⟨sV, Dj.em_right _⟩
  refine Trip.of (P := Tryz.prog) (n := ⟨10, []⟩) Tryz.func24 rfl ⟨rfl, rfl⟩ rfl (St.begin (All.nil _)) ?_
  have ho := H
  refine CP.seq ?_
  refine CP.region ?_
  refine SP.alloc (cs := [.bool false, (.slice none 0 0), (.slice none 0 0), (.slice none 0 0), .int .i64 0, (.slice none 0 0), (.slice none 0 0)]) inf32 rfl rfl (fun b1 => ?_)
  refine SP.nil ?_
  refine QE.then ?_
  refine CP.seq ?_
  refine CP.seq ?_
  refine CP.region ?_
  refine SP.val (Val.move rfl) rfl rfl rfl ?_
  obtain ⟨t3, hc, ho⟩ := bind_some (x := replica_Replica_none_s1.f ) ho
  refine SP.callV see (caps := []) (.bool true) fn66 rfl rfl rfl rfl (fun w2 hP hs sub ap => replica_Replica_none_s1.ok   _ hc w2 hP sub ) ?_
  clear hc
  refine SP.nil ?_
  refine QE.then ?_
  refine CP.condT rfl rfl ?_
  refine CP.seq ?_
  refine CP.region ?_
  refine SP.val (Val.buildC (us := []) (ucs := []) (cs := [.bool false, (.slice none 0 0), (.slice none 0 0), (.slice none 0 0), .int .i64 0, (.slice none 0 0), (.slice none 0 0)]) bt32 rfl rfl trivial (by rfl)) rfl rfl rfl ?_
  refine SP.store (v := .agg #[.bool false, (.slice none 0 0), (.slice none 0 0), (.slice none 0 0), .int .i64 0, (.slice none 0 0), (.slice none 0 0)]) (vs := [.bool false, (.slice none 0 0), (.slice none 0 0), (.slice none 0 0), .int .i64 0, (.slice none 0 0), (.slice none 0 0)]) 0 (by rfl) sz32 (by rfl) (by rfl) (by rfl) (by rfl) (by rfl) (by rfl) ?_
  refine SP.nil ?_
  refine QE.then ?_
  refine CP.ret ?_
  refine QE.thru (by intro e; cases e) ?_
  obtain rfl := Option.some.inj ho
  exact QE.rets (rs := [.cell 2 32]) (vs := [.agg #[.bool false, (.slice none 0 0), (.slice none 0 0), (.slice none 0 0), .int .i64 0, (.slice none 0 0), (.slice none 0 0)]]) Tryz.results24 rfl ⟨RVs.cellA 0 rfl rfl Tryz.underlying32 rfl sz32, trivial⟩ (fun w2 h => St.done (fun a b p s => rfl) h)
/-! ### (capstan/object.Object).fits: function 51 -/
def object_Object_fits_s1.f (op_1 : api_Op) : Option Unit :=
  some ()
theorem object_Object_fits_s1.ok (op_1 : api_Op) (v_op_1_Args : Value) (v_op_1_Bytes : Value) (r : Unit) (H : object_Object_fits_s1.f op_1 = some r) (w : World) (hV : Hp) (sV : Sub hV (hp w)) (h0 : slR k_api_Value hV v_op_1_Args op_1.Args) (h1 : slR (kInt .u8) hV v_op_1_Bytes op_1.Bytes) :
    Trip Tryz.prog 51 [.agg #[.bool false, (.slice none 0 0), (.slice none 0 0), (.slice none 0 0), .int .i64 0, (.slice none 0 0), (.slice none 0 0)], .agg #[.int .u8 op_1.Kind, .int .i64 op_1.Method, v_op_1_Args, v_op_1_Bytes]].toArray em hV w (fun v => HO.pure (v = .int .i64 1)) := by
  have see : Sees w em hV := ⟨sV, Dj.em_right _⟩
  refine Trip.of (P := Tryz.prog) (n := ⟨48, []⟩) Tryz.func51 rfl ⟨rfl, rfl⟩ rfl (St.begin (All.cons (x := slP k_api_Value v_op_1_Args op_1.Args) h0 (All.cons (x := slP (kInt .u8) v_op_1_Bytes op_1.Bytes) h1 (All.nil _)))) ?_
  have ho := H
  refine CP.seq ?_
  refine CP.region ?_
  refine SP.box (cs := [.bool false, (.slice none 0 0), (.slice none 0 0), (.slice none 0 0), .int .i64 0, (.slice none 0 0), (.slice none 0 0)]) rfl rfl rfl rfl (fun b3 => ?_)
  refine SP.box (cs := [.int .u8 op_1.Kind, .int .i64 op_1.Method, v_op_1_Args, v_op_1_Bytes]) rfl rfl rfl rfl (fun b5 => ?_)
  refine SP.val (Val.assign rfl) rfl rfl rfl ?_
  refine SP.nil ?_
  refine QE.then ?_
  refine CP.seq ?_
  refine CP.region ?_
  refine SP.val (Val.assign rfl) rfl rfl rfl ?_
  refine SP.nil ?_
  refine QE.then ?_
  refine CP.seq ?_
  refine CP.block ?_
  refine CP.seq ?_
  refine CP.region ?_
  refine SP.val (Val.fieldAddr Tryz.underlying32 rfl sz4 rfl) rfl rfl rfl ?_
  refine SP.val (Val.load1 1 rfl Tryz.underlying4 rfl rfl rfl) rfl rfl rfl ?_
  refine SP.val (Val.cast (v := .bool true) (Val.notB rfl) rfl) rfl rfl rfl ?_
  refine SP.val (Val.assign rfl) rfl rfl rfl ?_
  refine SP.nil ?_
  refine QE.then ?_
  refine CP.condT rfl rfl ?_
  refine CP.seq ?_
  refine CP.region ?_
  refine SP.val (Val.assign rfl) rfl rfl rfl ?_
  refine SP.nil ?_
  refine QE.then ?_
  refine CP.ret ?_
  refine QE.blockR ?_
  refine QE.thru (by intro e; cases e) ?_
  obtain rfl := Option.some.inj ho
  exact QE.rets (rs := [.tmp 4]) (vs := [.int .i64 1]) Tryz.results51 rfl ⟨RVs.tmp rfl, trivial⟩ (fun w2 h => St.done (fun a b p s => rfl) h)
/-! ### (capstan/object.Object).Read: function 12 -/
def object_Object_Read_s1.f (op_1 : api_Op) : Option Unit :=
  (object_Object_fits_s1.f op_1).bind fun t9 => some ()
theorem object_Object_Read_s1.ok (op_1 : api_Op) (v_op_1_Args : Value) (v_op_1_Bytes : Value) (r : Unit) (H : object_Object_Read_s1.f op_1 = some r) (w : World) (hV : Hp) (sV : Sub hV (hp w)) (h0 : slR k_api_Value hV v_op_1_Args op_1.Args) (h1 : slR (kInt .u8) hV v_op_1_Bytes op_1.Bytes) :
    Trip Tryz.prog 12 [.agg #[.bool false, (.slice none 0 0), (.slice none 0 0), (.slice none 0 0), .int .i64 0, (.slice none 0 0), (.slice none 0 0)], .agg #[.int .u8 op_1.Kind, .int .i64 op_1.Method, v_op_1_Args, v_op_1_Bytes]].toArray em hV w (fun v => HO.pure (v = .agg #[.int .i64 1, .int .i64 0, .int .u8 0, .int .i64 0, .int .i64 0])) := by
  have see : Sees w em hV := ⟨sV, Dj.em_right _⟩
  refine Trip.of (P := Tryz.prog) (n := ⟨32, []⟩) Tryz.func12 rfl ⟨rfl, rfl⟩ rfl (St.begin (All.cons (x := slP k_api_Value v_op_1_Args op_1.Args) h0 (All.cons (x := slP (kInt .u8) v_op_1_Bytes op_1.Bytes) h1 (All.nil _)))) ?_
  have ho := H
  refine CP.seq ?_
  refine CP.region ?_
  refine SP.box (cs := [.bool false, (.slice none 0 0), (.slice none 0 0), (.slice none 0 0), .int .i64 0, (.slice none 0 0), (.slice none 0 0)]) rfl rfl rfl rfl (fun b3 => ?_)
  refine SP.box (cs := [.int .u8 op_1.Kind, .int .i64 op_1.Method, v_op_1_Args, v_op_1_Bytes]) rfl rfl rfl rfl (fun b5 => ?_)
  refine SP.alloc (cs := [.int .i64 0, .int .i64 0, .int .u8 0, .int .i64 0, .int .i64 0]) inf39 rfl rfl (fun b7 => ?_)
  refine SP.nil ?_
  refine QE.then ?_
  refine CP.seq ?_
  refine CP.seq ?_
  refine CP.region ?_
  refine SP.val (Val.loadA 2 rfl Tryz.underlying32 rfl sz32 rfl rfl rfl) rfl rfl rfl ?_
  refine SP.val (Val.loadA 1 rfl Tryz.underlying25 rfl sz25 rfl rfl rfl) rfl rfl rfl ?_
  obtain ⟨t9, hc, ho⟩ := bind_some (x := object_Object_fits_s1.f op_1) ho
  refine SP.callV see (caps := []) (.int .i64 1) fn51 rfl rfl rfl rfl (fun w2 hP hs sub ap => object_Object_fits_s1.ok op_1 _ _ _ hc w2 hP sub (ap.get 0 rfl) (ap.get 1 rfl)) ?_
  clear hc
  refine SP.val (Val.assign rfl) rfl rfl rfl ?_
  refine SP.nil ?_
  refine QE.then ?_
  refine CP.seq ?_
  refine CP.region ?_
  refine SP.val (Val.move rfl) rfl rfl rfl ?_
  refine SP.val (Val.cast (v := .bool true) (Val.neq rfl rfl) rfl) rfl rfl rfl ?_
  refine SP.nil ?_
  refine QE.then ?_
  refine CP.condT rfl rfl ?_
  refine CP.seq ?_
  refine CP.region ?_
  refine SP.val (Val.move rfl) rfl rfl rfl ?_
  refine SP.val (Val.buildC (us := [(0, .int .i64 1)]) (ucs := [(0, [.int .i64 1])]) (cs := [.int .i64 1, .int .i64 0, .int .u8 0, .int .i64 0, .int .i64 0]) bt39 rfl rfl ⟨rfl, rfl, trivial⟩ (by rfl)) rfl rfl rfl ?_
  refine SP.store (v := .agg #[.int .i64 1, .int .i64 0, .int .u8 0, .int .i64 0, .int .i64 0]) (vs := [.int .i64 1, .int .i64 0, .int .u8 0, .int .i64 0, .int .i64 0]) 0 (by rfl) sz39 (by rfl) (by rfl) (by rfl) (by rfl) (by rfl) (by rfl) ?_
  refine SP.nil ?_
  refine QE.then ?_
  refine CP.ret ?_
  refine QE.thru (by intro e; cases e) ?_
  obtain rfl := Option.some.inj ho
  exact QE.rets (rs := [.cell 4 39]) (vs := [.agg #[.int .i64 1, .int .i64 0, .int .u8 0, .int .i64 0, .int .i64 0]]) Tryz.results12 rfl ⟨RVs.cellA 0 rfl rfl Tryz.underlying39 rfl sz39, trivial⟩ (fun w2 h => St.done (fun a b p s => rfl) h)
/-! ### (*capstan/replica.Replica).Read: function 21 -/
def replica_Replica_Read_s1.f (op_1 : api_Op) : Option Unit :=
  (replica_Replica_Object_s1.f ).bind fun t7 => (object_Object_Read_s1.f op_1).bind fun t8 => some ()
theorem replica_Replica_Read_s1.ok (op_1 : api_Op) (v_op_1_Args : Value) (v_op_1_Bytes : Value) (r : Unit) (H : replica_Replica_Read_s1.f op_1 = some r) (w : World) (hV : Hp) (sV : Sub hV (hp w)) (h0 : slR k_api_Value hV v_op_1_Args op_1.Args) (h1 : slR (kInt .u8) hV v_op_1_Bytes op_1.Bytes) :
    Trip Tryz.prog 21 [.pointer none, .agg #[.int .u8 op_1.Kind, .int .i64 op_1.Method, v_op_1_Args, v_op_1_Bytes]].toArray em hV w (fun v => HO.pure (v = .agg #[.int .i64 1, .int .i64 0, .int .u8 0, .int .i64 0, .int .i64 0])) := by
  have see : Sees w em hV := ⟨sV, Dj.em_right _⟩
  refine Trip.of (P := Tryz.prog) (n := ⟨12, []⟩) Tryz.func21 rfl ⟨rfl, rfl⟩ rfl (St.begin (All.cons (x := slP k_api_Value v_op_1_Args op_1.Args) h0 (All.cons (x := slP (kInt .u8) v_op_1_Bytes op_1.Bytes) h1 (All.nil _)))) ?_
  have ho := H
  refine CP.seq ?_
  refine CP.region ?_
  refine SP.box (cs := [.int .u8 op_1.Kind, .int .i64 op_1.Method, v_op_1_Args, v_op_1_Bytes]) rfl rfl rfl rfl (fun b3 => ?_)
  refine SP.alloc (cs := [.int .i64 0, .int .i64 0, .int .u8 0, .int .i64 0, .int .i64 0]) inf39 rfl rfl (fun b5 => ?_)
  refine SP.nil ?_
  refine QE.then ?_
  refine CP.seq ?_
  refine CP.region ?_
  refine SP.val (Val.move rfl) rfl rfl rfl ?_
  obtain ⟨t7, hc, ho⟩ := bind_some (x := replica_Replica_Object_s1.f ) ho
  refine SP.callV see (caps := []) (.agg #[.bool false, (.slice none 0 0), (.slice none 0 0), (.slice none 0 0), .int .i64 0, (.slice none 0 0), (.slice none 0 0)]) fn24 rfl rfl rfl rfl (fun w2 hP hs sub ap => replica_Replica_Object_s1.ok   _ hc w2 hP sub ) ?_
  clear hc
  refine SP.val (Val.makeFunc (us := [.agg #[.bool false, (.slice none 0 0), (.slice none 0 0), (.slice none 0 0), .int .i64 0, (.slice none 0 0), (.slice none 0 0)]]) (vs := []) rfl rfl) rfl rfl rfl ?_
  refine SP.val (Val.assign rfl) rfl rfl rfl ?_
  refine SP.nil ?_
  refine QE.then ?_
  refine CP.seq ?_
  refine CP.region ?_
  refine SP.val (Val.move rfl) rfl rfl rfl ?_
  refine SP.val (Val.loadA 1 rfl Tryz.underlying25 rfl sz25 rfl rfl rfl) rfl rfl rfl ?_
  obtain ⟨t8, hc, ho⟩ := bind_some (x := object_Object_Read_s1.f op_1) ho
  refine SP.rebind (us := [.agg #[.bool false, (.slice none 0 0), (.slice none 0 0), (.slice none 0 0), .int .i64 0, (.slice none 0 0), (.slice none 0 0)]]) (caps := []) fn12 rfl rfl rfl ?_
  refine SP.callV see (caps := []) (.agg #[.int .i64 1, .int .i64 0, .int .u8 0, .int .i64 0, .int .i64 0]) fn12 rfl rfl rfl rfl (fun w2 hP hs sub ap => object_Object_Read_s1.ok op_1 _ _ _ hc w2 hP sub (ap.get 0 rfl) (ap.get 1 rfl)) ?_
  clear hc
  refine SP.store (v := .agg #[.int .i64 1, .int .i64 0, .int .u8 0, .int .i64 0, .int .i64 0]) (vs := [.int .i64 1, .int .i64 0, .int .u8 0, .int .i64 0, .int .i64 0]) 0 (by rfl) sz39 (by rfl) (by rfl) (by rfl) (by rfl) (by rfl) (by rfl) ?_
  refine SP.nil ?_
  refine QE.then ?_
  refine CP.ret ?_
  obtain rfl := Option.some.inj ho
  exact QE.rets (rs := [.cell 4 39]) (vs := [.agg #[.int .i64 1, .int .i64 0, .int .u8 0, .int .i64 0, .int .i64 0]]) Tryz.results21 rfl ⟨RVs.cellA 0 rfl rfl Tryz.underlying39 rfl sz39, trivial⟩ (fun w2 h => St.done (fun a b p s => rfl) h)
/-! ### (*capstan/replica.Replica).Become: function 22 -/
def replica_Replica_Become_s1.f  : Option Unit :=
  (replica_Replica_none_s1.f ).bind fun t3 => some ()
theorem replica_Replica_Become_s1.ok   (r : Unit) (H : replica_Replica_Become_s1.f  = some r) (w : World) (hV : Hp) (sV : Sub hV (hp w))  :
    Trip Tryz.prog 22 [.pointer none, .agg #[.int .i64 1, (.slice none 0 0), (.slice none 0 0), (.slice none 0 0), .int .i64 0, (.slice none 0 0), (.slice none 0 0)]].toArray em hV w (fun v => HO.pure (v = .int .i64 1)) := by
  have see : Sees w em hV := ⟨sV, Dj.em_right _⟩
  refine Trip.of (P := Tryz.prog) (n := ⟨58, []⟩) Tryz.func22 rfl ⟨rfl, rfl⟩ rfl (St.begin (All.nil _)) ?_
  have ho := H
  refine CP.seq ?_
  refine CP.region ?_
  refine SP.box (cs := [.int .i64 1, (.slice none 0 0), (.slice none 0 0), (.slice none 0 0), .int .i64 0, (.slice none 0 0), (.slice none 0 0)]) rfl rfl rfl rfl (fun b1 => ?_)
  refine SP.val (Val.assign rfl) rfl rfl rfl ?_
  refine SP.nil ?_
  refine QE.then ?_
  refine CP.seq ?_
  refine CP.block ?_
  refine CP.seq ?_
  refine CP.region ?_
  refine SP.val (Val.move rfl) rfl rfl rfl ?_
  obtain ⟨t3, hc, ho⟩ := bind_some (x := replica_Replica_none_s1.f ) ho
  refine SP.callV see (caps := []) (.bool true) fn66 rfl rfl rfl rfl (fun w2 hP hs sub ap => replica_Replica_none_s1.ok   _ hc w2 hP sub ) ?_
  clear hc
  refine SP.val (Val.assign rfl) rfl rfl rfl ?_
  refine SP.nil ?_
  refine QE.then ?_
  refine CP.condT rfl rfl ?_
  refine CP.seq ?_
  refine CP.region ?_
  refine SP.val (Val.assign rfl) rfl rfl rfl ?_
  refine SP.nil ?_
  refine QE.then ?_
  refine CP.ret ?_
  refine QE.blockR ?_
  refine QE.thru (by intro e; cases e) ?_
  obtain rfl := Option.some.inj ho
  exact QE.rets (rs := [.tmp 4]) (vs := [.int .i64 1]) Tryz.results22 rfl ⟨RVs.tmp rfl, trivial⟩ (fun w2 h => St.done (fun a b p s => rfl) h)
/-! ### (*capstan/replica.Replica).Snap: function 23 -/
def replica_Replica_Snap_s1.f  : Option Unit :=
  (replica_Replica_none_s1.f ).bind fun t3 => some ()
theorem replica_Replica_Snap_s1.ok   (r : Unit) (H : replica_Replica_Snap_s1.f  = some r) (w : World) (hV : Hp) (sV : Sub hV (hp w))  :
    Trip Tryz.prog 23 [.pointer none].toArray em hV w (fun v => HO.pure (v = .agg #[.int .i64 0, (.slice none 0 0), (.slice none 0 0), (.slice none 0 0), .int .i64 0, (.slice none 0 0), (.slice none 0 0)])) := by
  have see : Sees w em hV := ⟨sV, Dj.em_right _⟩
  refine Trip.of (P := Tryz.prog) (n := ⟨24, []⟩) Tryz.func23 rfl ⟨rfl, rfl⟩ rfl (St.begin (All.nil _)) ?_
  have ho := H
  refine CP.seq ?_
  refine CP.region ?_
  refine SP.alloc (cs := [.int .i64 0, (.slice none 0 0), (.slice none 0 0), (.slice none 0 0), .int .i64 0, (.slice none 0 0), (.slice none 0 0)]) inf64 rfl rfl (fun b1 => ?_)
  refine SP.nil ?_
  refine QE.then ?_
  refine CP.seq ?_
  refine CP.seq ?_
  refine CP.region ?_
  refine SP.val (Val.move rfl) rfl rfl rfl ?_
  obtain ⟨t3, hc, ho⟩ := bind_some (x := replica_Replica_none_s1.f ) ho
  refine SP.callV see (caps := []) (.bool true) fn66 rfl rfl rfl rfl (fun w2 hP hs sub ap => replica_Replica_none_s1.ok   _ hc w2 hP sub ) ?_
  clear hc
  refine SP.nil ?_
  refine QE.then ?_
  refine CP.condT rfl rfl ?_
  refine CP.seq ?_
  refine CP.region ?_
  refine SP.val (Val.buildC (us := []) (ucs := []) (cs := [.int .i64 0, (.slice none 0 0), (.slice none 0 0), (.slice none 0 0), .int .i64 0, (.slice none 0 0), (.slice none 0 0)]) bt64 rfl rfl trivial (by rfl)) rfl rfl rfl ?_
  refine SP.store (v := .agg #[.int .i64 0, (.slice none 0 0), (.slice none 0 0), (.slice none 0 0), .int .i64 0, (.slice none 0 0), (.slice none 0 0)]) (vs := [.int .i64 0, (.slice none 0 0), (.slice none 0 0), (.slice none 0 0), .int .i64 0, (.slice none 0 0), (.slice none 0 0)]) 0 (by rfl) sz64 (by rfl) (by rfl) (by rfl) (by rfl) (by rfl) (by rfl) ?_
  refine SP.nil ?_
  refine QE.then ?_
  refine CP.ret ?_
  refine QE.thru (by intro e; cases e) ?_
  obtain rfl := Option.some.inj ho
  exact QE.rets (rs := [.cell 2 64]) (vs := [.agg #[.int .i64 0, (.slice none 0 0), (.slice none 0 0), (.slice none 0 0), .int .i64 0, (.slice none 0 0), (.slice none 0 0)]]) Tryz.results23 rfl ⟨RVs.cellA 0 rfl rfl Tryz.underlying64 rfl sz64, trivial⟩ (fun w2 h => St.done (fun a b p s => rfl) h)
/-! ### slices.Equal[[]capstan/api.Value,capstan/api.Value]: function 60 -/
def slices_Equal_api_Value_api_Value_s1.f  : Option Unit :=
  some ()
theorem slices_Equal_api_Value_api_Value_s1.ok   (r : Unit) (H : slices_Equal_api_Value_api_Value_s1.f  = some r) (w : World) (hV : Hp) (sV : Sub hV (hp w))  :
    Trip Tryz.prog 60 [(.slice none 0 0), (.slice none 0 0)].toArray em hV w (fun v => HO.pure (v = .bool true)) := by
  have see : Sees w em hV := ⟨sV, Dj.em_right _⟩
  refine Trip.of (P := Tryz.prog) (n := ⟨26, []⟩) Tryz.func60 rfl ⟨rfl, rfl⟩ rfl (St.begin (All.nil _)) ?_
  have ho := H
  refine CP.seq ?_
  refine CP.region ?_
  refine SP.val (Val.assign rfl) rfl rfl rfl ?_
  refine SP.nil ?_
  refine QE.then ?_
  refine CP.seq ?_
  refine CP.seq ?_
  refine CP.region ?_
  refine SP.val (Val.move rfl) rfl rfl rfl ?_
  refine SP.val (Val.lenN Tryz.underlying22 rfl) rfl rfl rfl ?_
  refine SP.val (Val.move rfl) rfl rfl rfl ?_
  refine SP.val (Val.lenN Tryz.underlying22 rfl) rfl rfl rfl ?_
  refine SP.val (Val.cast (v := .bool false) (Val.neq rfl rfl) rfl) rfl rfl rfl ?_
  refine SP.nil ?_
  refine QE.then ?_
  refine CP.condF rfl rfl ?_
  refine CP.skip ?_
  refine QE.then ?_
  refine CP.seq ?_
  refine CP.seq ?_
  refine CP.region ?_
  refine SP.val (Val.move rfl) rfl rfl rfl ?_
  refine SP.val (Val.lenN Tryz.underlying22 rfl) rfl rfl rfl ?_
  refine SP.val (Val.move rfl) rfl rfl rfl ?_
  refine SP.nil ?_
  refine QE.then ?_
  refine CP.block ?_
  refine CP.rounds 2 ?_
  refine LP.step ?_
  refine CP.seq ?_
  refine CP.region ?_
  refine SP.val (Val.cast (v := .bool false) (Val.lss rfl rfl) rfl) rfl rfl rfl ?_
  refine SP.nil ?_
  refine QE.then ?_
  refine CP.seq ?_
  refine CP.condF rfl rfl ?_
  refine CP.exit ?_
  refine QE.thru (by intro e; cases e) ?_
  refine QE.thru (by intro e; cases e) ?_
  refine QE.blockE ?_
  refine QE.then ?_
  refine CP.seq ?_
  refine CP.region ?_
  refine SP.val (Val.assign rfl) rfl rfl rfl ?_
  refine SP.nil ?_
  refine QE.then ?_
  refine CP.ret ?_
  obtain rfl := Option.some.inj ho
  exact QE.rets (rs := [.tmp 4]) (vs := [.bool true]) Tryz.results60 rfl ⟨RVs.tmp rfl, trivial⟩ (fun w2 h => St.done (fun a b p s => rfl) h)
/-! ### slices.EqualFunc[[]capstan/api.Method,[]capstan/api.Method,capstan/api.Method,capstan/api.Method]: function 61 -/
def slices_EqualFunc_api_Method_api_Method_api_Method_api_Method_s1.f  : Option Unit :=
  some ()
theorem slices_EqualFunc_api_Method_api_Method_api_Method_api_Method_s1.ok   (r : Unit) (H : slices_EqualFunc_api_Method_api_Method_api_Method_api_Method_s1.f  = some r) (w : World) (hV : Hp) (sV : Sub hV (hp w))  :
    Trip Tryz.prog 61 [(.slice none 0 0), (.slice none 0 0), .func (.func 58) #[] #[]].toArray em hV w (fun v => HO.pure (v = .bool true)) := by
  have see : Sees w em hV := ⟨sV, Dj.em_right _⟩
  refine Trip.of (P := Tryz.prog) (n := ⟨32, []⟩) Tryz.func61 rfl ⟨rfl, rfl⟩ rfl (St.begin (All.nil _)) ?_
  have ho := H
  refine CP.seq ?_
  refine CP.region ?_
  refine SP.val (Val.assign rfl) rfl rfl rfl ?_
  refine SP.nil ?_
  refine QE.then ?_
  refine CP.seq ?_
  refine CP.seq ?_
  refine CP.region ?_
  refine SP.val (Val.move rfl) rfl rfl rfl ?_
  refine SP.val (Val.lenN Tryz.underlying27 rfl) rfl rfl rfl ?_
  refine SP.val (Val.move rfl) rfl rfl rfl ?_
  refine SP.val (Val.lenN Tryz.underlying27 rfl) rfl rfl rfl ?_
  refine SP.val (Val.cast (v := .bool false) (Val.neq rfl rfl) rfl) rfl rfl rfl ?_
  refine SP.nil ?_
  refine QE.then ?_
  refine CP.condF rfl rfl ?_
  refine CP.skip ?_
  refine QE.then ?_
  refine CP.seq ?_
  refine CP.seq ?_
  refine CP.region ?_
  refine SP.val (Val.move rfl) rfl rfl rfl ?_
  refine SP.val (Val.lenN Tryz.underlying27 rfl) rfl rfl rfl ?_
  refine SP.val (Val.move rfl) rfl rfl rfl ?_
  refine SP.nil ?_
  refine QE.then ?_
  refine CP.block ?_
  refine CP.rounds 2 ?_
  refine LP.step ?_
  refine CP.seq ?_
  refine CP.region ?_
  refine SP.val (Val.cast (v := .bool false) (Val.lss rfl rfl) rfl) rfl rfl rfl ?_
  refine SP.nil ?_
  refine QE.then ?_
  refine CP.seq ?_
  refine CP.condF rfl rfl ?_
  refine CP.exit ?_
  refine QE.thru (by intro e; cases e) ?_
  refine QE.thru (by intro e; cases e) ?_
  refine QE.blockE ?_
  refine QE.then ?_
  refine CP.seq ?_
  refine CP.region ?_
  refine SP.val (Val.assign rfl) rfl rfl rfl ?_
  refine SP.nil ?_
  refine QE.then ?_
  refine CP.ret ?_
  obtain rfl := Option.some.inj ho
  exact QE.rets (rs := [.tmp 6]) (vs := [.bool true]) Tryz.results61 rfl ⟨RVs.tmp rfl, trivial⟩ (fun w2 h => St.done (fun a b p s => rfl) h)
/-! ### capstan/state.Same: function 62 -/
def state_Same_s1.f  : Option Unit :=
  (slices_Equal_api_Value_api_Value_s1.f ).bind fun t1 => some ()
theorem state_Same_s1.ok   (r : Unit) (H : state_Same_s1.f  = some r) (w : World) (hV : Hp) (sV : Sub hV (hp w))  :
    Trip Tryz.prog 62 [(.slice none 0 0), (.slice none 0 0)].toArray em hV w (fun v => HO.pure (v = .bool true)) := by
  have see : Sees w em hV := ⟨sV, Dj.em_right _⟩
  refine Trip.of (P := Tryz.prog) (n := ⟨8, []⟩) Tryz.func62 rfl ⟨rfl, rfl⟩ rfl (St.begin (All.nil _)) ?_
  have ho := H
  refine CP.seq ?_
  refine CP.region ?_
  refine SP.val (Val.assign rfl) rfl rfl rfl ?_
  refine SP.nil ?_
  refine QE.then ?_
  refine CP.seq ?_
  refine CP.region ?_
  refine SP.val (Val.move rfl) rfl rfl rfl ?_
  refine SP.val (Val.move rfl) rfl rfl rfl ?_
  obtain ⟨t1, hc, ho⟩ := bind_some (x := slices_Equal_api_Value_api_Value_s1.f ) ho
  refine SP.callV see (caps := []) (.bool true) fn60 rfl rfl rfl rfl (fun w2 hP hs sub ap => slices_Equal_api_Value_api_Value_s1.ok   _ hc w2 hP sub ) ?_
  clear hc
  refine SP.val (Val.assign rfl) rfl rfl rfl ?_
  refine SP.nil ?_
  refine QE.then ?_
  refine CP.ret ?_
  obtain rfl := Option.some.inj ho
  exact QE.rets (rs := [.tmp 4]) (vs := [.bool true]) Tryz.results62 rfl ⟨RVs.tmp rfl, trivial⟩ (fun w2 h => St.done (fun a b p s => rfl) h)
/-! ### capstan/object.Same: function 13 -/
def object_Same_s1.f  : Option Unit :=
  (slices_Equal_api_Value_api_Value_s1.f ).bind fun t5 => (slices_Equal_api_Value_api_Value_s1.f ).bind fun t6 => (slices_EqualFunc_api_Method_api_Method_api_Method_api_Method_s1.f ).bind fun t7 => (state_Same_s1.f ).bind fun t8 => some ()
theorem object_Same_s1.ok   (r : Unit) (H : object_Same_s1.f  = some r) (w : World) (hV : Hp) (sV : Sub hV (hp w))  :
    Trip Tryz.prog 13 [.agg #[.bool false, (.slice none 0 0), (.slice none 0 0), (.slice none 0 0), .int .i64 0, (.slice none 0 0), (.slice none 0 0)], .agg #[.bool false, (.slice none 0 0), (.slice none 0 0), (.slice none 0 0), .int .i64 0, (.slice none 0 0), (.slice none 0 0)]].toArray em hV w (fun v => HO.pure (v = .bool true)) := by
  have see : Sees w em hV := ⟨sV, Dj.em_right _⟩
  refine Trip.of (P := Tryz.prog) (n := ⟨55, []⟩) Tryz.func13 rfl ⟨rfl, rfl⟩ rfl (St.begin (All.nil _)) ?_
  have ho := H
  refine CP.seq ?_
  refine CP.region ?_
  refine SP.box (cs := [.bool false, (.slice none 0 0), (.slice none 0 0), (.slice none 0 0), .int .i64 0, (.slice none 0 0), (.slice none 0 0)]) rfl rfl rfl rfl (fun b1 => ?_)
  refine SP.box (cs := [.bool false, (.slice none 0 0), (.slice none 0 0), (.slice none 0 0), .int .i64 0, (.slice none 0 0), (.slice none 0 0)]) rfl rfl rfl rfl (fun b3 => ?_)
  refine SP.val (Val.assign rfl) rfl rfl rfl ?_
  refine SP.nil ?_
  refine QE.then ?_
  refine CP.seq ?_
  refine CP.region ?_
  refine SP.val (Val.assign rfl) rfl rfl rfl ?_
  refine SP.nil ?_
  refine QE.then ?_
  refine CP.seq ?_
  refine CP.region ?_
  refine SP.val (Val.fieldAddr Tryz.underlying32 rfl sz4 rfl) rfl rfl rfl ?_
  refine SP.val (Val.load1 1 rfl Tryz.underlying4 rfl rfl rfl) rfl rfl rfl ?_
  refine SP.val (Val.fieldAddr Tryz.underlying32 rfl sz4 rfl) rfl rfl rfl ?_
  refine SP.val (Val.load1 0 rfl Tryz.underlying4 rfl rfl rfl) rfl rfl rfl ?_
  refine SP.val (Val.cast (v := .bool true) (Val.eqlB Tryz.underlying4 rfl rfl) rfl) rfl rfl rfl ?_
  refine SP.val (Val.move rfl) rfl rfl rfl ?_
  refine SP.val (Val.fieldAddr Tryz.underlying32 rfl sz29 rfl) rfl rfl rfl ?_
  refine SP.val (Val.fieldAddr Tryz.underlying29 rfl sz3 rfl) rfl rfl rfl ?_
  refine SP.val (Val.load1 1 rfl Tryz.underlying3 rfl rfl rfl) rfl rfl rfl ?_
  refine SP.val (Val.fieldAddr Tryz.underlying32 rfl sz29 rfl) rfl rfl rfl ?_
  refine SP.val (Val.fieldAddr Tryz.underlying29 rfl sz3 rfl) rfl rfl rfl ?_
  refine SP.val (Val.load1 0 rfl Tryz.underlying3 rfl rfl rfl) rfl rfl rfl ?_
  refine SP.val (Val.cast (v := .bool true) (Val.eql rfl rfl) rfl) rfl rfl rfl ?_
  refine SP.val (Val.pickT rfl rfl) rfl rfl rfl ?_
  refine SP.val (Val.move rfl) rfl rfl rfl ?_
  refine SP.val (Val.fieldAddr Tryz.underlying32 rfl sz29 rfl) rfl rfl rfl ?_
  refine SP.val (Val.fieldAddr Tryz.underlying29 rfl sz22 rfl) rfl rfl rfl ?_
  refine SP.val (Val.load1 1 rfl Tryz.underlying22 rfl rfl rfl) rfl rfl rfl ?_
  refine SP.val (Val.fieldAddr Tryz.underlying32 rfl sz29 rfl) rfl rfl rfl ?_
  refine SP.val (Val.fieldAddr Tryz.underlying29 rfl sz22 rfl) rfl rfl rfl ?_
  refine SP.val (Val.load1 0 rfl Tryz.underlying22 rfl rfl rfl) rfl rfl rfl ?_
  obtain ⟨t5, hc, ho⟩ := bind_some (x := slices_Equal_api_Value_api_Value_s1.f ) ho
  refine SP.callV see (caps := []) (.bool true) fn60 rfl rfl rfl rfl (fun w2 hP hs sub ap => slices_Equal_api_Value_api_Value_s1.ok   _ hc w2 hP sub ) ?_
  clear hc
  refine SP.val (Val.pickT rfl rfl) rfl rfl rfl ?_
  refine SP.val (Val.move rfl) rfl rfl rfl ?_
  refine SP.val (Val.fieldAddr Tryz.underlying32 rfl sz29 rfl) rfl rfl rfl ?_
  refine SP.val (Val.fieldAddr Tryz.underlying29 rfl sz22 rfl) rfl rfl rfl ?_
  refine SP.val (Val.load1 1 rfl Tryz.underlying22 rfl rfl rfl) rfl rfl rfl ?_
  refine SP.val (Val.fieldAddr Tryz.underlying32 rfl sz29 rfl) rfl rfl rfl ?_
  refine SP.val (Val.fieldAddr Tryz.underlying29 rfl sz22 rfl) rfl rfl rfl ?_
  refine SP.val (Val.load1 0 rfl Tryz.underlying22 rfl rfl rfl) rfl rfl rfl ?_
  obtain ⟨t6, hc, ho⟩ := bind_some (x := slices_Equal_api_Value_api_Value_s1.f ) ho
  refine SP.callV see (caps := []) (.bool true) fn60 rfl rfl rfl rfl (fun w2 hP hs sub ap => slices_Equal_api_Value_api_Value_s1.ok   _ hc w2 hP sub ) ?_
  clear hc
  refine SP.val (Val.pickT rfl rfl) rfl rfl rfl ?_
  refine SP.val (Val.move rfl) rfl rfl rfl ?_
  refine SP.val (Val.fieldAddr Tryz.underlying32 rfl sz29 rfl) rfl rfl rfl ?_
  refine SP.val (Val.fieldAddr Tryz.underlying29 rfl sz27 rfl) rfl rfl rfl ?_
  refine SP.val (Val.load1 1 rfl Tryz.underlying27 rfl rfl rfl) rfl rfl rfl ?_
  refine SP.val (Val.fieldAddr Tryz.underlying32 rfl sz29 rfl) rfl rfl rfl ?_
  refine SP.val (Val.fieldAddr Tryz.underlying29 rfl sz27 rfl) rfl rfl rfl ?_
  refine SP.val (Val.load1 0 rfl Tryz.underlying27 rfl rfl rfl) rfl rfl rfl ?_
  refine SP.val (Val.move rfl) rfl rfl rfl ?_
  obtain ⟨t7, hc, ho⟩ := bind_some (x := slices_EqualFunc_api_Method_api_Method_api_Method_api_Method_s1.f ) ho
  refine SP.callV see (caps := []) (.bool true) fn61 rfl rfl rfl rfl (fun w2 hP hs sub ap => slices_EqualFunc_api_Method_api_Method_api_Method_api_Method_s1.ok   _ hc w2 hP sub ) ?_
  clear hc
  refine SP.val (Val.pickT rfl rfl) rfl rfl rfl ?_
  refine SP.val (Val.move rfl) rfl rfl rfl ?_
  refine SP.val (Val.fieldAddr Tryz.underlying32 rfl sz22 rfl) rfl rfl rfl ?_
  refine SP.val (Val.load1 1 rfl Tryz.underlying22 rfl rfl rfl) rfl rfl rfl ?_
  refine SP.val (Val.fieldAddr Tryz.underlying32 rfl sz22 rfl) rfl rfl rfl ?_
  refine SP.val (Val.load1 0 rfl Tryz.underlying22 rfl rfl rfl) rfl rfl rfl ?_
  obtain ⟨t8, hc, ho⟩ := bind_some (x := state_Same_s1.f ) ho
  refine SP.callV see (caps := []) (.bool true) fn62 rfl rfl rfl rfl (fun w2 hP hs sub ap => state_Same_s1.ok   _ hc w2 hP sub ) ?_
  clear hc
  refine SP.val (Val.pickT rfl rfl) rfl rfl rfl ?_
  refine SP.val (Val.assign rfl) rfl rfl rfl ?_
  refine SP.nil ?_
  refine QE.then ?_
  refine CP.ret ?_
  obtain rfl := Option.some.inj ho
  exact QE.rets (rs := [.tmp 4]) (vs := [.bool true]) Tryz.results13 rfl ⟨RVs.tmp rfl, trivial⟩ (fun w2 h => St.done (fun a b p s => rfl) h)
/-! ### (*capstan/replica.Replica).none: function 66 -/
def replica_Replica_none_s2.f  : Option Unit :=
  some ()
theorem replica_Replica_none_s2.ok  (b1 : Nat) (r : Unit) (H : replica_Replica_none_s2.f  = some r) (w : World) (hV : Hp) (sV : Sub hV (hp w)) (h0 : (boxP b1 [.int .i64 0, .bool false, (.slice none 0 0), (.slice none 0 0), (.slice none 0 0), .int .i64 0, (.slice none 0 0), (.slice none 0 0), (.slice none 0 0)] 54).p hV) :
    Trip Tryz.prog 66 [.pointer (some ⟨b1, 0, none⟩)].toArray em hV w (fun v => HO.pure (v = .bool true)) := by
  have see : Sees w em hV := ⟨sV, Dj.em_right _⟩
  refine Trip.of (P := Tryz.prog) (n := ⟨13, []⟩) Tryz.func66 rfl ⟨rfl, rfl⟩ rfl (St.begin (All.cons (x := boxP b1 [.int .i64 0, .bool false, (.slice none 0 0), (.slice none 0 0), (.slice none 0 0), .int .i64 0, (.slice none 0 0), (.slice none 0 0), (.slice none 0 0)] 54) h0 (All.nil _))) ?_
  have ho := H
  refine CP.seq ?_
  refine CP.region ?_
  refine SP.val (Val.assign rfl) rfl rfl rfl ?_
  refine SP.nil ?_
  refine QE.then ?_
  refine CP.seq ?_
  refine CP.region ?_
  refine SP.val (Val.move rfl) rfl rfl rfl ?_
  refine SP.val (Val.cast (v := .bool false) (Val.eqlPN Tryz.underlying51 rfl rfl) rfl) rfl rfl rfl ?_
  refine SP.val (Val.move rfl) rfl rfl rfl ?_
  refine SP.val (Val.move rfl) rfl rfl rfl ?_
  refine SP.val (Val.nilCheck rfl) rfl rfl rfl ?_
  refine SP.val (Val.fieldAddr Tryz.underlying54 rfl sz52 rfl) rfl rfl rfl ?_
  refine SP.val (Val.loadB1 see 0 rfl Tryz.underlying52 rfl rfl rfl) rfl rfl rfl ?_
  refine SP.val (Val.lenN Tryz.underlying52 rfl) rfl rfl rfl ?_
  refine SP.val (Val.cast (v := .bool true) (Val.eql rfl rfl) rfl) rfl rfl rfl ?_
  refine SP.val (Val.pickF rfl rfl) rfl rfl rfl ?_
  refine SP.val (Val.assign rfl) rfl rfl rfl ?_
  refine SP.nil ?_
  refine QE.then ?_
  refine CP.ret ?_
  obtain rfl := Option.some.inj ho
  exact QE.rets (rs := [.tmp 2]) (vs := [.bool true]) Tryz.results66 rfl ⟨RVs.tmp rfl, trivial⟩ (fun w2 h => St.done (fun a b p s => rfl) h)
/-! ### (*capstan/replica.Replica).Do: function 18 -/
def replica_Replica_Do_s2.f (e_1 : api_Entry) : Option Unit :=
  (replica_Replica_none_s2.f ).bind fun t9 => some ()
theorem replica_Replica_Do_s2.ok (e_1 : api_Entry) (b1 : Nat) (v_e_1_Op_Args : Value) (v_e_1_Op_Bytes : Value) (r : Unit) (H : replica_Replica_Do_s2.f e_1 = some r) (w : World) (hV : Hp) (sV : Sub hV (hp w)) (h0 : (boxP b1 [.int .i64 0, .bool false, (.slice none 0 0), (.slice none 0 0), (.slice none 0 0), .int .i64 0, (.slice none 0 0), (.slice none 0 0), (.slice none 0 0)] 54).p hV) (h1 : slR k_api_Value hV v_e_1_Op_Args e_1.Op.Args) (h2 : slR (kInt .u8) hV v_e_1_Op_Bytes e_1.Op.Bytes) :
    Trip Tryz.prog 18 [.pointer (some ⟨b1, 0, none⟩), .agg #[.int .i64 e_1.Proc, .int .i64 e_1.Seq, .int .u8 e_1.Op.Kind, .int .i64 e_1.Op.Method, v_e_1_Op_Args, v_e_1_Op_Bytes]].toArray em hV w (fun v => HO.pure (v = .tuple #[.agg #[.int .i64 0, .int .i64 0, .int .u8 0, .int .i64 0, .int .i64 0], .int .i64 1])) := by
  have see : Sees w em hV := ⟨sV, Dj.em_right _⟩
  refine Trip.of (P := Tryz.prog) (n := ⟨74, []⟩) Tryz.func18 rfl ⟨rfl, rfl⟩ rfl (St.begin (All.cons (x := boxP b1 [.int .i64 0, .bool false, (.slice none 0 0), (.slice none 0 0), (.slice none 0 0), .int .i64 0, (.slice none 0 0), (.slice none 0 0), (.slice none 0 0)] 54) h0 (All.cons (x := slP k_api_Value v_e_1_Op_Args e_1.Op.Args) h1 (All.cons (x := slP (kInt .u8) v_e_1_Op_Bytes e_1.Op.Bytes) h2 (All.nil _))))) ?_
  have ho := H
  refine CP.seq ?_
  refine CP.region ?_
  refine SP.box (cs := [.int .i64 e_1.Proc, .int .i64 e_1.Seq, .int .u8 e_1.Op.Kind, .int .i64 e_1.Op.Method, v_e_1_Op_Args, v_e_1_Op_Bytes]) rfl rfl rfl rfl (fun b5 => ?_)
  refine SP.alloc (cs := [.int .i64 0, .int .i64 0, .int .u8 0, .int .i64 0, .int .i64 0]) inf39 rfl rfl (fun b7 => ?_)
  refine SP.val (Val.assign rfl) rfl rfl rfl ?_
  refine SP.nil ?_
  refine QE.then ?_
  refine CP.seq ?_
  refine CP.block ?_
  refine CP.seq ?_
  refine CP.region ?_
  refine SP.val (Val.move rfl) rfl rfl rfl ?_
  obtain ⟨t9, hc, ho⟩ := bind_some (x := replica_Replica_none_s2.f ) ho
  refine SP.callV see (caps := []) (.bool true) fn66 rfl rfl rfl rfl (fun w2 hP hs sub ap => replica_Replica_none_s2.ok  _ _ hc w2 hP sub (ap.get 0 rfl)) ?_
  clear hc
  refine SP.val (Val.assign rfl) rfl rfl rfl ?_
  refine SP.nil ?_
  refine QE.then ?_
  refine CP.condT rfl rfl ?_
  refine CP.seq ?_
  refine CP.region ?_
  refine SP.val (Val.buildC (us := []) (ucs := []) (cs := [.int .i64 0, .int .i64 0, .int .u8 0, .int .i64 0, .int .i64 0]) bt39 rfl rfl trivial (by rfl)) rfl rfl rfl ?_
  refine SP.store (v := .agg #[.int .i64 0, .int .i64 0, .int .u8 0, .int .i64 0, .int .i64 0]) (vs := [.int .i64 0, .int .i64 0, .int .u8 0, .int .i64 0, .int .i64 0]) 0 (by rfl) sz39 (by rfl) (by rfl) (by rfl) (by rfl) (by rfl) (by rfl) ?_
  refine SP.val (Val.assign rfl) rfl rfl rfl ?_
  refine SP.nil ?_
  refine QE.then ?_
  refine CP.ret ?_
  refine QE.blockR ?_
  refine QE.thru (by intro e; cases e) ?_
  obtain rfl := Option.some.inj ho
  exact QE.rets (rs := [.cell 4 39, .tmp 5]) (vs := [.agg #[.int .i64 0, .int .i64 0, .int .u8 0, .int .i64 0, .int .i64 0], .int .i64 1]) Tryz.results18 rfl ⟨RVs.cellA 0 rfl rfl Tryz.underlying39 rfl sz39, RVs.tmp rfl, trivial⟩ (fun w2 h => St.done (fun a b p s => rfl) h)
/-! ### (*capstan/replica.Replica).Pos: function 19 -/
def replica_Replica_Pos_s2.f  : Option Unit :=
  (replica_Replica_none_s2.f ).bind fun t3 => some ()
theorem replica_Replica_Pos_s2.ok  (b1 : Nat) (r : Unit) (H : replica_Replica_Pos_s2.f  = some r) (w : World) (hV : Hp) (sV : Sub hV (hp w)) (h0 : (boxP b1 [.int .i64 0, .bool false, (.slice none 0 0), (.slice none 0 0), (.slice none 0 0), .int .i64 0, (.slice none 0 0), (.slice none 0 0), (.slice none 0 0)] 54).p hV) :
    Trip Tryz.prog 19 [.pointer (some ⟨b1, 0, none⟩)].toArray em hV w (fun v => HO.pure (v = .int .i64 0)) := by
  have see : Sees w em hV := ⟨sV, Dj.em_right _⟩
  refine Trip.of (P := Tryz.prog) (n := ⟨9, []⟩) Tryz.func19 rfl ⟨rfl, rfl⟩ rfl (St.begin (All.cons (x := boxP b1 [.int .i64 0, .bool false, (.slice none 0 0), (.slice none 0 0), (.slice none 0 0), .int .i64 0, (.slice none 0 0), (.slice none 0 0), (.slice none 0 0)] 54) h0 (All.nil _))) ?_
  have ho := H
  refine CP.seq ?_
  refine CP.region ?_
  refine SP.val (Val.assign rfl) rfl rfl rfl ?_
  refine SP.nil ?_
  refine QE.then ?_
  refine CP.seq ?_
  refine CP.seq ?_
  refine CP.region ?_
  refine SP.val (Val.move rfl) rfl rfl rfl ?_
  obtain ⟨t3, hc, ho⟩ := bind_some (x := replica_Replica_none_s2.f ) ho
  refine SP.callV see (caps := []) (.bool true) fn66 rfl rfl rfl rfl (fun w2 hP hs sub ap => replica_Replica_none_s2.ok  _ _ hc w2 hP sub (ap.get 0 rfl)) ?_
  clear hc
  refine SP.nil ?_
  refine QE.then ?_
  refine CP.condT rfl rfl ?_
  refine CP.seq ?_
  refine CP.region ?_
  refine SP.val (Val.assign rfl) rfl rfl rfl ?_
  refine SP.nil ?_
  refine QE.then ?_
  refine CP.ret ?_
  refine QE.thru (by intro e; cases e) ?_
  obtain rfl := Option.some.inj ho
  exact QE.rets (rs := [.tmp 2]) (vs := [.int .i64 0]) Tryz.results19 rfl ⟨RVs.tmp rfl, trivial⟩ (fun w2 h => St.done (fun a b p s => rfl) h)
/-! ### (*capstan/replica.Replica).Seqs: function 20 -/
def replica_Replica_Seqs_s2.f  : Option Unit :=
  (replica_Replica_none_s2.f ).bind fun t3 => some ()
theorem replica_Replica_Seqs_s2.ok  (b1 : Nat) (r : Unit) (H : replica_Replica_Seqs_s2.f  = some r) (w : World) (hV : Hp) (sV : Sub hV (hp w)) (h0 : (boxP b1 [.int .i64 0, .bool false, (.slice none 0 0), (.slice none 0 0), (.slice none 0 0), .int .i64 0, (.slice none 0 0), (.slice none 0 0), (.slice none 0 0)] 54).p hV) :
    Trip Tryz.prog 20 [.pointer (some ⟨b1, 0, none⟩)].toArray em hV w (fun v => HO.pure (v = (.slice none 0 0))) := by
  have see : Sees w em hV := ⟨sV, Dj.em_right _⟩
  refine Trip.of (P := Tryz.prog) (n := ⟨19, []⟩) Tryz.func20 rfl ⟨rfl, rfl⟩ rfl (St.begin (All.cons (x := boxP b1 [.int .i64 0, .bool false, (.slice none 0 0), (.slice none 0 0), (.slice none 0 0), .int .i64 0, (.slice none 0 0), (.slice none 0 0), (.slice none 0 0)] 54) h0 (All.nil _))) ?_
  have ho := H
  refine CP.seq ?_
  refine CP.region ?_
  refine SP.val (Val.assign rfl) rfl rfl rfl ?_
  refine SP.nil ?_
  refine QE.then ?_
  refine CP.seq ?_
  refine CP.seq ?_
  refine CP.region ?_
  refine SP.val (Val.move rfl) rfl rfl rfl ?_
  obtain ⟨t3, hc, ho⟩ := bind_some (x := replica_Replica_none_s2.f ) ho
  refine SP.callV see (caps := []) (.bool true) fn66 rfl rfl rfl rfl (fun w2 hP hs sub ap => replica_Replica_none_s2.ok  _ _ hc w2 hP sub (ap.get 0 rfl)) ?_
  clear hc
  refine SP.nil ?_
  refine QE.then ?_
  refine CP.condT rfl rfl ?_
  refine CP.seq ?_
  refine CP.region ?_
  refine SP.val (Val.assign rfl) rfl rfl rfl ?_
  refine SP.nil ?_
  refine QE.then ?_
  refine CP.ret ?_
  refine QE.thru (by intro e; cases e) ?_
  obtain rfl := Option.some.inj ho
  exact QE.rets (rs := [.tmp 2]) (vs := [(.slice none 0 0)]) Tryz.results20 rfl ⟨RVs.tmp rfl, trivial⟩ (fun w2 h => St.done (fun a b p s => rfl) h)
/-! ### (*capstan/replica.Replica).Object: function 24 -/
def replica_Replica_Object_s2.f  : Option Unit :=
  (replica_Replica_none_s2.f ).bind fun t5 => some ()
theorem replica_Replica_Object_s2.ok  (b1 : Nat) (r : Unit) (H : replica_Replica_Object_s2.f  = some r) (w : World) (hV : Hp) (sV : Sub hV (hp w)) (h0 : (boxP b1 [.int .i64 0, .bool false, (.slice none 0 0), (.slice none 0 0), (.slice none 0 0), .int .i64 0, (.slice none 0 0), (.slice none 0 0), (.slice none 0 0)] 54).p hV) :
    Trip Tryz.prog 24 [.pointer (some ⟨b1, 0, none⟩)].toArray em hV w (fun v => HO.pure (v = .agg #[.bool false, (.slice none 0 0), (.slice none 0 0), (.slice none 0 0), .int .i64 0, (.slice none 0 0), (.slice none 0 0)])) := by
  have see : Sees w em hV := ⟨sV, Dj.em_right _⟩
  refine Trip.of (P := Tryz.prog) (n := ⟨10, []⟩) Tryz.func24 rfl ⟨rfl, rfl⟩ rfl (St.begin (All.cons (x := boxP b1 [.int .i64 0, .bool false, (.slice none 0 0), (.slice none 0 0), (.slice none 0 0), .int .i64 0, (.slice none 0 0), (.slice none 0 0), (.slice none 0 0)] 54) h0 (All.nil _))) ?_
  have ho := H
  refine CP.seq ?_
  refine CP.region ?_
  refine SP.alloc (cs := [.bool false, (.slice none 0 0), (.slice none 0 0), (.slice none 0 0), .int .i64 0, (.slice none 0 0), (.slice none 0 0)]) inf32 rfl rfl (fun b3 => ?_)
  refine SP.nil ?_
  refine QE.then ?_
  refine CP.seq ?_
  refine CP.seq ?_
  refine CP.region ?_
  refine SP.val (Val.move rfl) rfl rfl rfl ?_
  obtain ⟨t5, hc, ho⟩ := bind_some (x := replica_Replica_none_s2.f ) ho
  refine SP.callV see (caps := []) (.bool true) fn66 rfl rfl rfl rfl (fun w2 hP hs sub ap => replica_Replica_none_s2.ok  _ _ hc w2 hP sub (ap.get 0 rfl)) ?_
  clear hc
  refine SP.nil ?_
  refine QE.then ?_
  refine CP.condT rfl rfl ?_
  refine CP.seq ?_
  refine CP.region ?_
  refine SP.val (Val.buildC (us := []) (ucs := []) (cs := [.bool false, (.slice none 0 0), (.slice none 0 0), (.slice none 0 0), .int .i64 0, (.slice none 0 0), (.slice none 0 0)]) bt32 rfl rfl trivial (by rfl)) rfl rfl rfl ?_
  refine SP.store (v := .agg #[.bool false, (.slice none 0 0), (.slice none 0 0), (.slice none 0 0), .int .i64 0, (.slice none 0 0), (.slice none 0 0)]) (vs := [.bool false, (.slice none 0 0), (.slice none 0 0), (.slice none 0 0), .int .i64 0, (.slice none 0 0), (.slice none 0 0)]) 0 (by rfl) sz32 (by rfl) (by rfl) (by rfl) (by rfl) (by rfl) (by rfl) ?_
  refine SP.nil ?_
  refine QE.then ?_
  refine CP.ret ?_
  refine QE.thru (by intro e; cases e) ?_
  obtain rfl := Option.some.inj ho
  exact QE.rets (rs := [.cell 2 32]) (vs := [.agg #[.bool false, (.slice none 0 0), (.slice none 0 0), (.slice none 0 0), .int .i64 0, (.slice none 0 0), (.slice none 0 0)]]) Tryz.results24 rfl ⟨RVs.cellA 0 rfl rfl Tryz.underlying32 rfl sz32, trivial⟩ (fun w2 h => St.done (fun a b p s => rfl) h)
/-! ### (*capstan/replica.Replica).Read: function 21 -/
def replica_Replica_Read_s2.f (op_1 : api_Op) : Option Unit :=
  (replica_Replica_Object_s2.f ).bind fun t9 => (object_Object_Read_s1.f op_1).bind fun t10 => some ()
theorem replica_Replica_Read_s2.ok (op_1 : api_Op) (b1 : Nat) (v_op_1_Args : Value) (v_op_1_Bytes : Value) (r : Unit) (H : replica_Replica_Read_s2.f op_1 = some r) (w : World) (hV : Hp) (sV : Sub hV (hp w)) (h0 : (boxP b1 [.int .i64 0, .bool false, (.slice none 0 0), (.slice none 0 0), (.slice none 0 0), .int .i64 0, (.slice none 0 0), (.slice none 0 0), (.slice none 0 0)] 54).p hV) (h1 : slR k_api_Value hV v_op_1_Args op_1.Args) (h2 : slR (kInt .u8) hV v_op_1_Bytes op_1.Bytes) :
    Trip Tryz.prog 21 [.pointer (some ⟨b1, 0, none⟩), .agg #[.int .u8 op_1.Kind, .int .i64 op_1.Method, v_op_1_Args, v_op_1_Bytes]].toArray em hV w (fun v => HO.pure (v = .agg #[.int .i64 1, .int .i64 0, .int .u8 0, .int .i64 0, .int .i64 0])) := by
  have see : Sees w em hV := ⟨sV, Dj.em_right _⟩
  refine Trip.of (P := Tryz.prog) (n := ⟨12, []⟩) Tryz.func21 rfl ⟨rfl, rfl⟩ rfl (St.begin (All.cons (x := boxP b1 [.int .i64 0, .bool false, (.slice none 0 0), (.slice none 0 0), (.slice none 0 0), .int .i64 0, (.slice none 0 0), (.slice none 0 0), (.slice none 0 0)] 54) h0 (All.cons (x := slP k_api_Value v_op_1_Args op_1.Args) h1 (All.cons (x := slP (kInt .u8) v_op_1_Bytes op_1.Bytes) h2 (All.nil _))))) ?_
  have ho := H
  refine CP.seq ?_
  refine CP.region ?_
  refine SP.box (cs := [.int .u8 op_1.Kind, .int .i64 op_1.Method, v_op_1_Args, v_op_1_Bytes]) rfl rfl rfl rfl (fun b5 => ?_)
  refine SP.alloc (cs := [.int .i64 0, .int .i64 0, .int .u8 0, .int .i64 0, .int .i64 0]) inf39 rfl rfl (fun b7 => ?_)
  refine SP.nil ?_
  refine QE.then ?_
  refine CP.seq ?_
  refine CP.region ?_
  refine SP.val (Val.move rfl) rfl rfl rfl ?_
  obtain ⟨t9, hc, ho⟩ := bind_some (x := replica_Replica_Object_s2.f ) ho
  refine SP.callV see (caps := []) (.agg #[.bool false, (.slice none 0 0), (.slice none 0 0), (.slice none 0 0), .int .i64 0, (.slice none 0 0), (.slice none 0 0)]) fn24 rfl rfl rfl rfl (fun w2 hP hs sub ap => replica_Replica_Object_s2.ok  _ _ hc w2 hP sub (ap.get 0 rfl)) ?_
  clear hc
  refine SP.val (Val.makeFunc (us := [.agg #[.bool false, (.slice none 0 0), (.slice none 0 0), (.slice none 0 0), .int .i64 0, (.slice none 0 0), (.slice none 0 0)]]) (vs := []) rfl rfl) rfl rfl rfl ?_
  refine SP.val (Val.assign rfl) rfl rfl rfl ?_
  refine SP.nil ?_
  refine QE.then ?_
  refine CP.seq ?_
  refine CP.region ?_
  refine SP.val (Val.move rfl) rfl rfl rfl ?_
  refine SP.val (Val.loadA 1 rfl Tryz.underlying25 rfl sz25 rfl rfl rfl) rfl rfl rfl ?_
  obtain ⟨t10, hc, ho⟩ := bind_some (x := object_Object_Read_s1.f op_1) ho
  refine SP.rebind (us := [.agg #[.bool false, (.slice none 0 0), (.slice none 0 0), (.slice none 0 0), .int .i64 0, (.slice none 0 0), (.slice none 0 0)]]) (caps := []) fn12 rfl rfl rfl ?_
  refine SP.callV see (caps := []) (.agg #[.int .i64 1, .int .i64 0, .int .u8 0, .int .i64 0, .int .i64 0]) fn12 rfl rfl rfl rfl (fun w2 hP hs sub ap => object_Object_Read_s1.ok op_1 _ _ _ hc w2 hP sub (ap.get 1 rfl) (ap.get 2 rfl)) ?_
  clear hc
  refine SP.store (v := .agg #[.int .i64 1, .int .i64 0, .int .u8 0, .int .i64 0, .int .i64 0]) (vs := [.int .i64 1, .int .i64 0, .int .u8 0, .int .i64 0, .int .i64 0]) 0 (by rfl) sz39 (by rfl) (by rfl) (by rfl) (by rfl) (by rfl) (by rfl) ?_
  refine SP.nil ?_
  refine QE.then ?_
  refine CP.ret ?_
  obtain rfl := Option.some.inj ho
  exact QE.rets (rs := [.cell 4 39]) (vs := [.agg #[.int .i64 1, .int .i64 0, .int .u8 0, .int .i64 0, .int .i64 0]]) Tryz.results21 rfl ⟨RVs.cellA 0 rfl rfl Tryz.underlying39 rfl sz39, trivial⟩ (fun w2 h => St.done (fun a b p s => rfl) h)
/-! ### (*capstan/replica.Replica).Become: function 22 -/
def replica_Replica_Become_s2.f  : Option Unit :=
  (replica_Replica_none_s2.f ).bind fun t5 => some ()
theorem replica_Replica_Become_s2.ok  (b1 : Nat) (r : Unit) (H : replica_Replica_Become_s2.f  = some r) (w : World) (hV : Hp) (sV : Sub hV (hp w)) (h0 : (boxP b1 [.int .i64 0, .bool false, (.slice none 0 0), (.slice none 0 0), (.slice none 0 0), .int .i64 0, (.slice none 0 0), (.slice none 0 0), (.slice none 0 0)] 54).p hV) :
    Trip Tryz.prog 22 [.pointer (some ⟨b1, 0, none⟩), .agg #[.int .i64 1, (.slice none 0 0), (.slice none 0 0), (.slice none 0 0), .int .i64 0, (.slice none 0 0), (.slice none 0 0)]].toArray em hV w (fun v => HO.pure (v = .int .i64 1)) := by
  have see : Sees w em hV := ⟨sV, Dj.em_right _⟩
  refine Trip.of (P := Tryz.prog) (n := ⟨58, []⟩) Tryz.func22 rfl ⟨rfl, rfl⟩ rfl (St.begin (All.cons (x := boxP b1 [.int .i64 0, .bool false, (.slice none 0 0), (.slice none 0 0), (.slice none 0 0), .int .i64 0, (.slice none 0 0), (.slice none 0 0), (.slice none 0 0)] 54) h0 (All.nil _))) ?_
  have ho := H
  refine CP.seq ?_
  refine CP.region ?_
  refine SP.box (cs := [.int .i64 1, (.slice none 0 0), (.slice none 0 0), (.slice none 0 0), .int .i64 0, (.slice none 0 0), (.slice none 0 0)]) rfl rfl rfl rfl (fun b3 => ?_)
  refine SP.val (Val.assign rfl) rfl rfl rfl ?_
  refine SP.nil ?_
  refine QE.then ?_
  refine CP.seq ?_
  refine CP.block ?_
  refine CP.seq ?_
  refine CP.region ?_
  refine SP.val (Val.move rfl) rfl rfl rfl ?_
  obtain ⟨t5, hc, ho⟩ := bind_some (x := replica_Replica_none_s2.f ) ho
  refine SP.callV see (caps := []) (.bool true) fn66 rfl rfl rfl rfl (fun w2 hP hs sub ap => replica_Replica_none_s2.ok  _ _ hc w2 hP sub (ap.get 0 rfl)) ?_
  clear hc
  refine SP.val (Val.assign rfl) rfl rfl rfl ?_
  refine SP.nil ?_
  refine QE.then ?_
  refine CP.condT rfl rfl ?_
  refine CP.seq ?_
  refine CP.region ?_
  refine SP.val (Val.assign rfl) rfl rfl rfl ?_
  refine SP.nil ?_
  refine QE.then ?_
  refine CP.ret ?_
  refine QE.blockR ?_
  refine QE.thru (by intro e; cases e) ?_
  obtain rfl := Option.some.inj ho
  exact QE.rets (rs := [.tmp 4]) (vs := [.int .i64 1]) Tryz.results22 rfl ⟨RVs.tmp rfl, trivial⟩ (fun w2 h => St.done (fun a b p s => rfl) h)
/-! ### (*capstan/replica.Replica).Snap: function 23 -/
def replica_Replica_Snap_s2.f  : Option Unit :=
  (replica_Replica_none_s2.f ).bind fun t5 => some ()
theorem replica_Replica_Snap_s2.ok  (b1 : Nat) (r : Unit) (H : replica_Replica_Snap_s2.f  = some r) (w : World) (hV : Hp) (sV : Sub hV (hp w)) (h0 : (boxP b1 [.int .i64 0, .bool false, (.slice none 0 0), (.slice none 0 0), (.slice none 0 0), .int .i64 0, (.slice none 0 0), (.slice none 0 0), (.slice none 0 0)] 54).p hV) :
    Trip Tryz.prog 23 [.pointer (some ⟨b1, 0, none⟩)].toArray em hV w (fun v => HO.pure (v = .agg #[.int .i64 0, (.slice none 0 0), (.slice none 0 0), (.slice none 0 0), .int .i64 0, (.slice none 0 0), (.slice none 0 0)])) := by
  have see : Sees w em hV := ⟨sV, Dj.em_right _⟩
  refine Trip.of (P := Tryz.prog) (n := ⟨24, []⟩) Tryz.func23 rfl ⟨rfl, rfl⟩ rfl (St.begin (All.cons (x := boxP b1 [.int .i64 0, .bool false, (.slice none 0 0), (.slice none 0 0), (.slice none 0 0), .int .i64 0, (.slice none 0 0), (.slice none 0 0), (.slice none 0 0)] 54) h0 (All.nil _))) ?_
  have ho := H
  refine CP.seq ?_
  refine CP.region ?_
  refine SP.alloc (cs := [.int .i64 0, (.slice none 0 0), (.slice none 0 0), (.slice none 0 0), .int .i64 0, (.slice none 0 0), (.slice none 0 0)]) inf64 rfl rfl (fun b3 => ?_)
  refine SP.nil ?_
  refine QE.then ?_
  refine CP.seq ?_
  refine CP.seq ?_
  refine CP.region ?_
  refine SP.val (Val.move rfl) rfl rfl rfl ?_
  obtain ⟨t5, hc, ho⟩ := bind_some (x := replica_Replica_none_s2.f ) ho
  refine SP.callV see (caps := []) (.bool true) fn66 rfl rfl rfl rfl (fun w2 hP hs sub ap => replica_Replica_none_s2.ok  _ _ hc w2 hP sub (ap.get 0 rfl)) ?_
  clear hc
  refine SP.nil ?_
  refine QE.then ?_
  refine CP.condT rfl rfl ?_
  refine CP.seq ?_
  refine CP.region ?_
  refine SP.val (Val.buildC (us := []) (ucs := []) (cs := [.int .i64 0, (.slice none 0 0), (.slice none 0 0), (.slice none 0 0), .int .i64 0, (.slice none 0 0), (.slice none 0 0)]) bt64 rfl rfl trivial (by rfl)) rfl rfl rfl ?_
  refine SP.store (v := .agg #[.int .i64 0, (.slice none 0 0), (.slice none 0 0), (.slice none 0 0), .int .i64 0, (.slice none 0 0), (.slice none 0 0)]) (vs := [.int .i64 0, (.slice none 0 0), (.slice none 0 0), (.slice none 0 0), .int .i64 0, (.slice none 0 0), (.slice none 0 0)]) 0 (by rfl) sz64 (by rfl) (by rfl) (by rfl) (by rfl) (by rfl) (by rfl) ?_
  refine SP.nil ?_
  refine QE.then ?_
  refine CP.ret ?_
  refine QE.thru (by intro e; cases e) ?_
  obtain rfl := Option.some.inj ho
  exact QE.rets (rs := [.cell 2 64]) (vs := [.agg #[.int .i64 0, (.slice none 0 0), (.slice none 0 0), (.slice none 0 0), .int .i64 0, (.slice none 0 0), (.slice none 0 0)]]) Tryz.results23 rfl ⟨RVs.cellA 0 rfl rfl Tryz.underlying64 rfl sz64, trivial⟩ (fun w2 h => St.done (fun a b p s => rfl) h)
/-! ### capstan/capstanlaw25.ReplicaNil: function 4 -/
def capstanlaw25_ReplicaNil.f (x_0 : api_Entry) : Option Bool :=
  (capstanlaw25_Great.f [x_0]).bind fun t7 => if t7 = true then (some true) else ((replica_Replica_Do_s1.f x_0).bind fun t14 => (replica_Replica_Pos_s1.f ).bind fun t17 => (replica_Replica_Seqs_s1.f ).bind fun t18 => (replica_Replica_Read_s1.f x_0.Op).bind fun t19 => (replica_Replica_Become_s1.f ).bind fun t20 => (replica_Replica_Snap_s1.f ).bind fun t21 => (replica_Replica_Object_s1.f ).bind fun t22 => (object_Same_s1.f ).bind fun t23 => (replica_Replica_Do_s2.f x_0).bind fun t26 => (replica_Replica_Pos_s2.f ).bind fun t30 => (replica_Replica_Seqs_s2.f ).bind fun t31 => (replica_Replica_Read_s2.f x_0.Op).bind fun t32 => (replica_Replica_Become_s2.f ).bind fun t33 => (replica_Replica_Snap_s2.f ).bind fun t34 => (replica_Replica_Object_s2.f ).bind fun t35 => (object_Same_s1.f ).bind fun t36 => some true)
theorem capstanlaw25_ReplicaNil.ok (x_0 : api_Entry) (v_x_0_Op_Args : Value) (v_x_0_Op_Bytes : Value) (r : Bool) (H : capstanlaw25_ReplicaNil.f x_0 = some r) (w : World) (hV : Hp) (sV : Sub hV (hp w)) (h0 : slR k_api_Value hV v_x_0_Op_Args x_0.Op.Args) (h1 : slR (kInt .u8) hV v_x_0_Op_Bytes x_0.Op.Bytes) :
    Trip Tryz.prog 4 [.agg #[.int .i64 x_0.Proc, .int .i64 x_0.Seq, .int .u8 x_0.Op.Kind, .int .i64 x_0.Op.Method, v_x_0_Op_Args, v_x_0_Op_Bytes]].toArray em hV w (fun v => HO.pure (v = .bool r)) := by
  have see : Sees w em hV := ⟨sV, Dj.em_right _⟩
  refine Trip.of (P := Tryz.prog) (n := ⟨72, []⟩) Tryz.func4 rfl ⟨rfl, rfl⟩ rfl (St.begin (All.cons (x := slP k_api_Value v_x_0_Op_Args x_0.Op.Args) h0 (All.cons (x := slP (kInt .u8) v_x_0_Op_Bytes x_0.Op.Bytes) h1 (All.nil _)))) ?_
  have ho := H
  refine CP.seq ?_
  refine CP.region ?_
  refine SP.box (cs := [.int .i64 x_0.Proc, .int .i64 x_0.Seq, .int .u8 x_0.Op.Kind, .int .i64 x_0.Op.Method, v_x_0_Op_Args, v_x_0_Op_Bytes]) rfl rfl rfl rfl (fun b3 => ?_)
  refine SP.val (Val.assign rfl) rfl rfl rfl ?_
  refine SP.nil ?_
  refine QE.then ?_
  refine CP.seq ?_
  refine CP.seq ?_
  refine CP.region ?_
  refine SP.val (Val.loadA 0 rfl Tryz.underlying48 rfl sz48 rfl rfl rfl) rfl rfl rfl ?_
  refine SP.lit (k := k_api_Entry) (xs := [x_0]) (vs := [.agg #[.int .i64 x_0.Proc, .int .i64 x_0.Seq, .int .u8 x_0.Op.Kind, .int .i64 x_0.Op.Method, v_x_0_Op_Args, v_x_0_Op_Bytes]]) (cells := [.int .i64 x_0.Proc, .int .i64 x_0.Seq, .int .u8 x_0.Op.Kind, .int .i64 x_0.Op.Method, v_x_0_Op_Args, v_x_0_Op_Bytes]) Tryz.underlying50 inf48 rfl rfl rfl rfl rfl rfl rfl rfl (fun _ ap => ⟨[.int .i64 x_0.Proc, .int .i64 x_0.Seq, .int .u8 x_0.Op.Kind, .int .i64 x_0.Op.Method, v_x_0_Op_Args, v_x_0_Op_Bytes], _, rfl, ⟨_, _, rfl, ap.get 0 rfl, ap.get 1 rfl⟩, rfl⟩) rfl rfl rfl (fun v5 => ?_)
  obtain ⟨t7, hc, ho⟩ := bind_some (x := capstanlaw25_Great.f [x_0]) ho
  refine SP.callVO see (caps := []) (.bool t7) fn17 rfl rfl rfl rfl (fun w2 hs => capstanlaw25_Great.ok [x_0] _ _ hc w2 (hp w2) (Sub.refl _) (slO.read (St.own 0 rfl see.sub see.dj hs) (Sub.refl _) (Sub.refl _))) ?_
  clear hc
  refine SP.nil ?_
  refine QE.then ?_
  rcases if_some ho with ⟨hc, ho⟩ | ⟨hc, ho⟩
  · refine CP.condT rfl hc ?_
    refine CP.seq ?_
    refine CP.region ?_
    refine SP.val (Val.assign rfl) rfl rfl rfl ?_
    refine SP.nil ?_
    refine QE.then ?_
    refine CP.ret ?_
    refine QE.thru (by intro e; cases e) ?_
    obtain rfl := Option.some.inj ho
    exact QE.rets (rs := [.tmp 2]) (vs := [.bool true]) Tryz.results4 rfl ⟨RVs.tmp rfl, trivial⟩ (fun w2 h => St.done (fun a b p s => rfl) h)
  · refine CP.condF rfl (bf hc) ?_
    refine CP.skip ?_
    refine QE.then ?_
    refine CP.seq ?_
    refine CP.region ?_
    refine SP.val (Val.assign rfl) rfl rfl rfl ?_
    refine SP.nil ?_
    refine QE.then ?_
    refine CP.seq ?_
    refine CP.region ?_
    refine SP.val (Val.move rfl) rfl rfl rfl ?_
    refine SP.val (Val.buildC (us := []) (ucs := []) (cs := [.int .i64 0, .bool false, (.slice none 0 0), (.slice none 0 0), (.slice none 0 0), .int .i64 0, (.slice none 0 0), (.slice none 0 0), (.slice none 0 0)]) bt54 rfl rfl trivial (by rfl)) rfl rfl rfl ?_
    refine SP.box (cs := [.int .i64 0, .bool false, (.slice none 0 0), (.slice none 0 0), (.slice none 0 0), .int .i64 0, (.slice none 0 0), (.slice none 0 0), (.slice none 0 0)]) rfl rfl rfl rfl (fun b8 => ?_)
    refine SP.lit (k := kRaw 1) (xs := [[.pointer none], [.pointer (some ⟨b8, 0, none⟩)]]) (vs := [.pointer none, .pointer (some ⟨b8, 0, none⟩)]) (cells := [.pointer none, .pointer (some ⟨b8, 0, none⟩)]) Tryz.underlying55 inf51 rfl rfl rfl rfl rfl rfl rfl rfl (fun _ ap => ⟨[.pointer none], _, rfl, ⟨rfl, rfl, rfl⟩, ⟨[.pointer (some ⟨b8, 0, none⟩)], _, rfl, ⟨rfl, rfl, rfl⟩, rfl⟩⟩) rfl rfl rfl (fun v10 => ?_)
    refine SP.freezeS see 0 rfl ?_
    refine SP.val (Val.assign rfl) rfl rfl rfl ?_
    refine SP.nil ?_
    refine QE.then ?_
    refine CP.seq ?_
    refine CP.seq ?_
    refine CP.region ?_
    refine SP.val (Val.assign rfl) rfl rfl rfl ?_
    refine SP.nil ?_
    refine QE.then ?_
    refine CP.block ?_
    refine CP.rounds 4 ?_
    refine LP.step ?_
    refine CP.seq ?_
    refine CP.seq ?_
    refine CP.region ?_
    refine SP.val (Val.move rfl) rfl rfl rfl ?_
    refine SP.val (Val.move rfl) rfl rfl rfl ?_
    refine SP.val (Val.cast (v := .int .i64 2) (Val.lenP see 0 rfl Tryz.underlying55 rfl) rfl) rfl rfl rfl ?_
    refine SP.val (Val.cast (v := .bool true) (Val.lss rfl rfl) rfl) rfl rfl rfl ?_
    refine SP.nil ?_
    refine QE.then ?_
    refine CP.condT rfl rfl ?_
    refine CP.skip ?_
    refine QE.then ?_
    refine CP.seq ?_
    refine CP.block ?_
    refine CP.seq ?_
    refine CP.region ?_
    refine SP.val (Val.move rfl) rfl rfl rfl ?_
    refine SP.val (Val.move rfl) rfl rfl rfl ?_
    refine SP.indexP (k := kRaw 1) (xs := [[.pointer none], [.pointer (some ⟨b8, 0, none⟩)]]) (j := 0) see 0 rfl Tryz.underlying55 sz51 (by decide) rfl rfl rfl rfl rfl (fun p12 => ?_)
    refine SP.val (Val.loadP1 see 0 rfl (fun _ _ e => e.1) Tryz.underlying51 rfl rfl) rfl rfl rfl ?_
    refine SP.val (Val.assign rfl) rfl rfl rfl ?_
    refine SP.nil ?_
    refine QE.then ?_
    refine CP.seq ?_
    refine CP.region ?_
    refine SP.val (Val.move rfl) rfl rfl rfl ?_
    refine SP.val (Val.loadA 2 rfl Tryz.underlying48 rfl sz48 rfl rfl rfl) rfl rfl rfl ?_
    obtain ⟨t14, hc, ho⟩ := bind_some (x := replica_Replica_Do_s1.f x_0) ho
    refine SP.callV see (caps := []) (.tuple #[.agg #[.int .i64 0, .int .i64 0, .int .u8 0, .int .i64 0, .int .i64 0], .int .i64 1]) fn18 rfl rfl rfl rfl (fun w2 hP hs sub ap => replica_Replica_Do_s1.ok x_0 _ _ _ hc w2 hP sub (ap.get 2 rfl) (ap.get 3 rfl)) ?_
    clear hc
    refine SP.val (Val.move rfl) rfl rfl rfl ?_
    refine SP.val (Val.extract rfl rfl) rfl rfl rfl ?_
    refine SP.val (Val.extract rfl rfl) rfl rfl rfl ?_
    refine SP.alloc (cs := [.int .i64 0, .int .i64 0, .int .u8 0, .int .i64 0, .int .i64 0]) inf39 rfl rfl (fun b15 => ?_)
    refine SP.store (v := .agg #[.int .i64 0, .int .i64 0, .int .u8 0, .int .i64 0, .int .i64 0]) (vs := [.int .i64 0, .int .i64 0, .int .u8 0, .int .i64 0, .int .i64 0]) 0 (by rfl) sz39 (by rfl) (by rfl) (by rfl) (by rfl) (by rfl) (by rfl) ?_
    refine SP.val (Val.assign rfl) rfl rfl rfl ?_
    refine SP.nil ?_
    refine QE.then ?_
    refine CP.seq ?_
    refine CP.region ?_
    refine SP.val (Val.move rfl) rfl rfl rfl ?_
    refine SP.val (Val.cast (v := .bool false) (Val.neq rfl rfl) rfl) rfl rfl rfl ?_
    refine SP.val (Val.move rfl) rfl rfl rfl ?_
    refine SP.val (Val.move rfl) rfl rfl rfl ?_
    obtain ⟨t17, hc, ho⟩ := bind_some (x := replica_Replica_Pos_s1.f ) ho
    refine SP.callV see (caps := []) (.int .i64 0) fn19 rfl rfl rfl rfl (fun w2 hP hs sub ap => replica_Replica_Pos_s1.ok   _ hc w2 hP sub ) ?_
    clear hc
    refine SP.val (Val.cast (v := .bool false) (Val.neq rfl rfl) rfl) rfl rfl rfl ?_
    refine SP.val (Val.pickF rfl rfl) rfl rfl rfl ?_
    refine SP.val (Val.move rfl) rfl rfl rfl ?_
    refine SP.val (Val.move rfl) rfl rfl rfl ?_
    obtain ⟨t18, hc, ho⟩ := bind_some (x := replica_Replica_Seqs_s1.f ) ho
    refine SP.callV see (caps := []) ((.slice none 0 0)) fn20 rfl rfl rfl rfl (fun w2 hP hs sub ap => replica_Replica_Seqs_s1.ok   _ hc w2 hP sub ) ?_
    clear hc
    refine SP.val (Val.lenN Tryz.underlying52 rfl) rfl rfl rfl ?_
    refine SP.val (Val.cast (v := .bool false) (Val.neq rfl rfl) rfl) rfl rfl rfl ?_
    refine SP.val (Val.pickF rfl rfl) rfl rfl rfl ?_
    refine SP.val (Val.move rfl) rfl rfl rfl ?_
    refine SP.val (Val.move rfl) rfl rfl rfl ?_
    refine SP.val (Val.fieldAddr Tryz.underlying48 rfl sz25 rfl) rfl rfl rfl ?_
    refine SP.val (Val.loadA 3 rfl Tryz.underlying25 rfl sz25 rfl rfl rfl) rfl rfl rfl ?_
    obtain ⟨t19, hc, ho⟩ := bind_some (x := replica_Replica_Read_s1.f x_0.Op) ho
    refine SP.callV see (caps := []) (.agg #[.int .i64 1, .int .i64 0, .int .u8 0, .int .i64 0, .int .i64 0]) fn21 rfl rfl rfl rfl (fun w2 hP hs sub ap => replica_Replica_Read_s1.ok x_0.Op _ _ _ hc w2 hP sub (ap.get 2 rfl) (ap.get 3 rfl)) ?_
    clear hc
    refine SP.val (Val.fieldV1 Tryz.underlying39 rfl Tryz.underlying33 rfl rfl rfl) rfl rfl rfl ?_
    refine SP.val (Val.cast (v := .bool false) (Val.neq rfl rfl) rfl) rfl rfl rfl ?_
    refine SP.val (Val.pickF rfl rfl) rfl rfl rfl ?_
    refine SP.val (Val.move rfl) rfl rfl rfl ?_
    refine SP.val (Val.move rfl) rfl rfl rfl ?_
    refine SP.val (Val.buildC (us := [(0, .int .i64 1)]) (ucs := [(0, [.int .i64 1])]) (cs := [.int .i64 1, (.slice none 0 0), (.slice none 0 0), (.slice none 0 0), .int .i64 0, (.slice none 0 0), (.slice none 0 0)]) bt64 rfl rfl ⟨rfl, rfl, trivial⟩ (by rfl)) rfl rfl rfl ?_
    obtain ⟨t20, hc, ho⟩ := bind_some (x := replica_Replica_Become_s1.f ) ho
    refine SP.callV see (caps := []) (.int .i64 1) fn22 rfl rfl rfl rfl (fun w2 hP hs sub ap => replica_Replica_Become_s1.ok   _ hc w2 hP sub ) ?_
    clear hc
    refine SP.val (Val.cast (v := .bool false) (Val.neq rfl rfl) rfl) rfl rfl rfl ?_
    refine SP.val (Val.pickF rfl rfl) rfl rfl rfl ?_
    refine SP.val (Val.move rfl) rfl rfl rfl ?_
    refine SP.val (Val.move rfl) rfl rfl rfl ?_
    obtain ⟨t21, hc, ho⟩ := bind_some (x := replica_Replica_Snap_s1.f ) ho
    refine SP.callV see (caps := []) (.agg #[.int .i64 0, (.slice none 0 0), (.slice none 0 0), (.slice none 0 0), .int .i64 0, (.slice none 0 0), (.slice none 0 0)]) fn23 rfl rfl rfl rfl (fun w2 hP hs sub ap => replica_Replica_Snap_s1.ok   _ hc w2 hP sub ) ?_
    clear hc
    refine SP.val (Val.fieldV1 Tryz.underlying64 rfl Tryz.underlying3 rfl rfl rfl) rfl rfl rfl ?_
    refine SP.val (Val.cast (v := .bool false) (Val.neq rfl rfl) rfl) rfl rfl rfl ?_
    refine SP.val (Val.pickF rfl rfl) rfl rfl rfl ?_
    refine SP.val (Val.move rfl) rfl rfl rfl ?_
    refine SP.val (Val.move rfl) rfl rfl rfl ?_
    obtain ⟨t22, hc, ho⟩ := bind_some (x := replica_Replica_Object_s1.f ) ho
    refine SP.callV see (caps := []) (.agg #[.bool false, (.slice none 0 0), (.slice none 0 0), (.slice none 0 0), .int .i64 0, (.slice none 0 0), (.slice none 0 0)]) fn24 rfl rfl rfl rfl (fun w2 hP hs sub ap => replica_Replica_Object_s1.ok   _ hc w2 hP sub ) ?_
    clear hc
    refine SP.val (Val.buildC (us := []) (ucs := []) (cs := [.bool false, (.slice none 0 0), (.slice none 0 0), (.slice none 0 0), .int .i64 0, (.slice none 0 0), (.slice none 0 0)]) bt32 rfl rfl trivial (by rfl)) rfl rfl rfl ?_
    obtain ⟨t23, hc, ho⟩ := bind_some (x := object_Same_s1.f ) ho
    refine SP.callV see (caps := []) (.bool true) fn13 rfl rfl rfl rfl (fun w2 hP hs sub ap => object_Same_s1.ok   _ hc w2 hP sub ) ?_
    clear hc
    refine SP.val (Val.cast (v := .bool false) (Val.notB rfl) rfl) rfl rfl rfl ?_
    refine SP.val (Val.pickF rfl rfl) rfl rfl rfl ?_
    refine SP.nil ?_
    refine QE.then ?_
    refine CP.condF rfl rfl ?_
    refine CP.skip ?_
    refine QE.blockN ?_
    refine QE.then ?_
    refine CP.region ?_
    refine SP.val (Val.move rfl) rfl rfl rfl ?_
    refine SP.val (Val.cast (v := .int .i64 1) (Val.add rfl rfl) rfl) rfl rfl rfl ?_
    refine SP.val (Val.assign rfl) rfl rfl rfl ?_
    refine SP.nil ?_
    refine QE.round ?_
    refine LP.step ?_
    refine CP.seq ?_
    refine CP.seq ?_
    refine CP.region ?_
    refine SP.val (Val.move rfl) rfl rfl rfl ?_
    refine SP.val (Val.move rfl) rfl rfl rfl ?_
    refine SP.val (Val.cast (v := .int .i64 2) (Val.lenP see 1 rfl Tryz.underlying55 rfl) rfl) rfl rfl rfl ?_
    refine SP.val (Val.cast (v := .bool true) (Val.lss rfl rfl) rfl) rfl rfl rfl ?_
    refine SP.nil ?_
    refine QE.then ?_
    refine CP.condT rfl rfl ?_
    refine CP.skip ?_
    refine QE.then ?_
    refine CP.seq ?_
    refine CP.block ?_
    refine CP.seq ?_
    refine CP.region ?_
    refine SP.val (Val.move rfl) rfl rfl rfl ?_
    refine SP.val (Val.move rfl) rfl rfl rfl ?_
    refine SP.indexP (k := kRaw 1) (xs := [[.pointer none], [.pointer (some ⟨b8, 0, none⟩)]]) (j := 1) see 1 rfl Tryz.underlying55 sz51 (by decide) rfl rfl rfl rfl rfl (fun p24 => ?_)
    refine SP.val (Val.loadP1 see 0 rfl (fun _ _ e => e.1) Tryz.underlying51 rfl rfl) rfl rfl rfl ?_
    refine SP.val (Val.assign rfl) rfl rfl rfl ?_
    refine SP.nil ?_
    refine QE.then ?_
    refine CP.seq ?_
    refine CP.region ?_
    refine SP.val (Val.move rfl) rfl rfl rfl ?_
    refine SP.val (Val.loadA 3 rfl Tryz.underlying48 rfl sz48 rfl rfl rfl) rfl rfl rfl ?_
    refine SP.freezeB see 1 rfl ?_
    obtain ⟨t26, hc, ho⟩ := bind_some (x := replica_Replica_Do_s2.f x_0) ho
    refine SP.callV see (caps := []) (.tuple #[.agg #[.int .i64 0, .int .i64 0, .int .u8 0, .int .i64 0, .int .i64 0], .int .i64 1]) fn18 rfl rfl rfl rfl (fun w2 hP hs sub ap => replica_Replica_Do_s2.ok x_0 _ _ _ _ hc w2 hP sub (ap.get 0 rfl) (ap.get 4 rfl) (ap.get 5 rfl)) ?_
    clear hc
    refine SP.val (Val.move rfl) rfl rfl rfl ?_
    refine SP.val (Val.extract rfl rfl) rfl rfl rfl ?_
    refine SP.val (Val.extract rfl rfl) rfl rfl rfl ?_
    refine SP.alloc (cs := [.int .i64 0, .int .i64 0, .int .u8 0, .int .i64 0, .int .i64 0]) inf39 rfl rfl (fun b28 => ?_)
    refine SP.store (v := .agg #[.int .i64 0, .int .i64 0, .int .u8 0, .int .i64 0, .int .i64 0]) (vs := [.int .i64 0, .int .i64 0, .int .u8 0, .int .i64 0, .int .i64 0]) 0 (by rfl) sz39 (by rfl) (by rfl) (by rfl) (by rfl) (by rfl) (by rfl) ?_
    refine SP.val (Val.assign rfl) rfl rfl rfl ?_
    refine SP.nil ?_
    refine QE.then ?_
    refine CP.seq ?_
    refine CP.region ?_
    refine SP.val (Val.move rfl) rfl rfl rfl ?_
    refine SP.val (Val.cast (v := .bool false) (Val.neq rfl rfl) rfl) rfl rfl rfl ?_
    refine SP.val (Val.move rfl) rfl rfl rfl ?_
    refine SP.val (Val.move rfl) rfl rfl rfl ?_
    obtain ⟨t30, hc, ho⟩ := bind_some (x := replica_Replica_Pos_s2.f ) ho
    refine SP.callV see (caps := []) (.int .i64 0) fn19 rfl rfl rfl rfl (fun w2 hP hs sub ap => replica_Replica_Pos_s2.ok  _ _ hc w2 hP sub (ap.get 0 rfl)) ?_
    clear hc
    refine SP.val (Val.cast (v := .bool false) (Val.neq rfl rfl) rfl) rfl rfl rfl ?_
    refine SP.val (Val.pickF rfl rfl) rfl rfl rfl ?_
    refine SP.val (Val.move rfl) rfl rfl rfl ?_
    refine SP.val (Val.move rfl) rfl rfl rfl ?_
    obtain ⟨t31, hc, ho⟩ := bind_some (x := replica_Replica_Seqs_s2.f ) ho
    refine SP.callV see (caps := []) ((.slice none 0 0)) fn20 rfl rfl rfl rfl (fun w2 hP hs sub ap => replica_Replica_Seqs_s2.ok  _ _ hc w2 hP sub (ap.get 0 rfl)) ?_
    clear hc
    refine SP.val (Val.lenN Tryz.underlying52 rfl) rfl rfl rfl ?_
    refine SP.val (Val.cast (v := .bool false) (Val.neq rfl rfl) rfl) rfl rfl rfl ?_
    refine SP.val (Val.pickF rfl rfl) rfl rfl rfl ?_
    refine SP.val (Val.move rfl) rfl rfl rfl ?_
    refine SP.val (Val.move rfl) rfl rfl rfl ?_
    refine SP.val (Val.fieldAddr Tryz.underlying48 rfl sz25 rfl) rfl rfl rfl ?_
    refine SP.val (Val.loadA 3 rfl Tryz.underlying25 rfl sz25 rfl rfl rfl) rfl rfl rfl ?_
    obtain ⟨t32, hc, ho⟩ := bind_some (x := replica_Replica_Read_s2.f x_0.Op) ho
    refine SP.callV see (caps := []) (.agg #[.int .i64 1, .int .i64 0, .int .u8 0, .int .i64 0, .int .i64 0]) fn21 rfl rfl rfl rfl (fun w2 hP hs sub ap => replica_Replica_Read_s2.ok x_0.Op _ _ _ _ hc w2 hP sub (ap.get 0 rfl) (ap.get 4 rfl) (ap.get 5 rfl)) ?_
    clear hc
    refine SP.val (Val.fieldV1 Tryz.underlying39 rfl Tryz.underlying33 rfl rfl rfl) rfl rfl rfl ?_
    refine SP.val (Val.cast (v := .bool false) (Val.neq rfl rfl) rfl) rfl rfl rfl ?_
    refine SP.val (Val.pickF rfl rfl) rfl rfl rfl ?_
    refine SP.val (Val.move rfl) rfl rfl rfl ?_
    refine SP.val (Val.move rfl) rfl rfl rfl ?_
    refine SP.val (Val.buildC (us := [(0, .int .i64 1)]) (ucs := [(0, [.int .i64 1])]) (cs := [.int .i64 1, (.slice none 0 0), (.slice none 0 0), (.slice none 0 0), .int .i64 0, (.slice none 0 0), (.slice none 0 0)]) bt64 rfl rfl ⟨rfl, rfl, trivial⟩ (by rfl)) rfl rfl rfl ?_
    obtain ⟨t33, hc, ho⟩ := bind_some (x := replica_Replica_Become_s2.f ) ho
    refine SP.callV see (caps := []) (.int .i64 1) fn22 rfl rfl rfl rfl (fun w2 hP hs sub ap => replica_Replica_Become_s2.ok  _ _ hc w2 hP sub (ap.get 0 rfl)) ?_
    clear hc
    refine SP.val (Val.cast (v := .bool false) (Val.neq rfl rfl) rfl) rfl rfl rfl ?_
    refine SP.val (Val.pickF rfl rfl) rfl rfl rfl ?_
    refine SP.val (Val.move rfl) rfl rfl rfl ?_
    refine SP.val (Val.move rfl) rfl rfl rfl ?_
    obtain ⟨t34, hc, ho⟩ := bind_some (x := replica_Replica_Snap_s2.f ) ho
    refine SP.callV see (caps := []) (.agg #[.int .i64 0, (.slice none 0 0), (.slice none 0 0), (.slice none 0 0), .int .i64 0, (.slice none 0 0), (.slice none 0 0)]) fn23 rfl rfl rfl rfl (fun w2 hP hs sub ap => replica_Replica_Snap_s2.ok  _ _ hc w2 hP sub (ap.get 0 rfl)) ?_
    clear hc
    refine SP.val (Val.fieldV1 Tryz.underlying64 rfl Tryz.underlying3 rfl rfl rfl) rfl rfl rfl ?_
    refine SP.val (Val.cast (v := .bool false) (Val.neq rfl rfl) rfl) rfl rfl rfl ?_
    refine SP.val (Val.pickF rfl rfl) rfl rfl rfl ?_
    refine SP.val (Val.move rfl) rfl rfl rfl ?_
    refine SP.val (Val.move rfl) rfl rfl rfl ?_
    obtain ⟨t35, hc, ho⟩ := bind_some (x := replica_Replica_Object_s2.f ) ho
    refine SP.callV see (caps := []) (.agg #[.bool false, (.slice none 0 0), (.slice none 0 0), (.slice none 0 0), .int .i64 0, (.slice none 0 0), (.slice none 0 0)]) fn24 rfl rfl rfl rfl (fun w2 hP hs sub ap => replica_Replica_Object_s2.ok  _ _ hc w2 hP sub (ap.get 0 rfl)) ?_
    clear hc
    refine SP.val (Val.buildC (us := []) (ucs := []) (cs := [.bool false, (.slice none 0 0), (.slice none 0 0), (.slice none 0 0), .int .i64 0, (.slice none 0 0), (.slice none 0 0)]) bt32 rfl rfl trivial (by rfl)) rfl rfl rfl ?_
    obtain ⟨t36, hc, ho⟩ := bind_some (x := object_Same_s1.f ) ho
    refine SP.callV see (caps := []) (.bool true) fn13 rfl rfl rfl rfl (fun w2 hP hs sub ap => object_Same_s1.ok   _ hc w2 hP sub ) ?_
    clear hc
    refine SP.val (Val.cast (v := .bool false) (Val.notB rfl) rfl) rfl rfl rfl ?_
    refine SP.val (Val.pickF rfl rfl) rfl rfl rfl ?_
    refine SP.nil ?_
    refine QE.then ?_
    refine CP.condF rfl rfl ?_
    refine CP.skip ?_
    refine QE.blockN ?_
    refine QE.then ?_
    refine CP.region ?_
    refine SP.val (Val.move rfl) rfl rfl rfl ?_
    refine SP.val (Val.cast (v := .int .i64 2) (Val.add rfl rfl) rfl) rfl rfl rfl ?_
    refine SP.val (Val.assign rfl) rfl rfl rfl ?_
    refine SP.nil ?_
    refine QE.round ?_
    refine LP.step ?_
    refine CP.seq ?_
    refine CP.seq ?_
    refine CP.region ?_
    refine SP.val (Val.move rfl) rfl rfl rfl ?_
    refine SP.val (Val.move rfl) rfl rfl rfl ?_
    refine SP.val (Val.cast (v := .int .i64 2) (Val.lenP see 3 rfl Tryz.underlying55 rfl) rfl) rfl rfl rfl ?_
    refine SP.val (Val.cast (v := .bool false) (Val.lss rfl rfl) rfl) rfl rfl rfl ?_
    refine SP.nil ?_
    refine QE.then ?_
    refine CP.condF rfl rfl ?_
    refine CP.exit ?_
    refine QE.thru (by intro e; cases e) ?_
    refine QE.thru (by intro e; cases e) ?_
    refine QE.blockE ?_
    refine QE.then ?_
    refine CP.seq ?_
    refine CP.region ?_
    refine SP.val (Val.assign rfl) rfl rfl rfl ?_
    refine SP.nil ?_
    refine QE.then ?_
    refine CP.ret ?_
    obtain rfl := Option.some.inj ho
    exact QE.rets (rs := [.tmp 2]) (vs := [.bool true]) Tryz.results4 rfl ⟨RVs.tmp rfl, trivial⟩ (fun w2 h => St.done (fun a b p s => rfl) h)
theorem cl5 : Tryz.prog.cellsOf 5 = 1 := by kernel_rfl
theorem cl2 : Tryz.prog.cellsOf 2 = 1 := by kernel_rfl
theorem cl35 : Tryz.prog.cellsOf 35 = 3 := by kernel_rfl
def wf_api_Value (x : api_Value) : Prop := (Lit.int .u8 x.Kind).wf = true ∧ (Lit.int .i64 x.A).wf = true ∧ (Lit.int .i64 x.B).wf = true
theorem opens_api_Value : Opens Tryz.prog 35 k_api_Value wf_api_Value := by
  intro H enc W fuel cs d ps h
  cases fuel with
  | zero => simp [DataW.trod] at h
  | succ n =>
    obtain ⟨hl, hf⟩ := trod_struct Tryz.underlying35 h
    rw [cl35] at hl
    obtain ⟨c0, c1, c2, rfl⟩ := len3 hl
    obtain ⟨d0, q0, h0⟩ := hf 0 _ rfl
    replace h0 : DataW.trod enc Tryz.prog W 0 (fun _ => true) true n 5 (List.take (Tryz.prog.cellsOf 5) [c0, c1, c2]) = some (d0, q0) := h0
    rw [cl5] at h0
    replace h0 : DataW.trod enc Tryz.prog W 0 (fun _ => true) true n 5 [c0] = some (d0, q0) := h0
    obtain ⟨x0, r0, w0⟩ := (Opens.int Tryz.underlying5) enc W n _ _ _ h0
    obtain ⟨rfl, -⟩ := List.cons.inj r0
    obtain ⟨d1, q1, h1⟩ := hf 1 _ rfl
    replace h1 : DataW.trod enc Tryz.prog W 0 (fun _ => true) true n 2 (List.take (Tryz.prog.cellsOf 2) [c1, c2]) = some (d1, q1) := h1
    rw [cl2] at h1
    replace h1 : DataW.trod enc Tryz.prog W 0 (fun _ => true) true n 2 [c1] = some (d1, q1) := h1
    obtain ⟨x1, r1, w1⟩ := (Opens.int Tryz.underlying2) enc W n _ _ _ h1
    obtain ⟨rfl, -⟩ := List.cons.inj r1
    obtain ⟨d2, q2, h2⟩ := hf 2 _ rfl
    replace h2 : DataW.trod enc Tryz.prog W 0 (fun _ => true) true n 2 (List.take (Tryz.prog.cellsOf 2) [c2]) = some (d2, q2) := h2
    rw [cl2] at h2
    replace h2 : DataW.trod enc Tryz.prog W 0 (fun _ => true) true n 2 [c2] = some (d2, q2) := h2
    obtain ⟨x2, r2, w2⟩ := (Opens.int Tryz.underlying2) enc W n _ _ _ h2
    obtain ⟨rfl, -⟩ := List.cons.inj r2
    exact ⟨⟨x0, x1, x2⟩, rfl, w0, w1, w2⟩
theorem cl3 : Tryz.prog.cellsOf 3 = 1 := by kernel_rfl
theorem cl22 : Tryz.prog.cellsOf 22 = 1 := by kernel_rfl
theorem cl23 : Tryz.prog.cellsOf 23 = 1 := by kernel_rfl
theorem cl25 : Tryz.prog.cellsOf 25 = 4 := by kernel_rfl
def wf_api_Op (x : api_Op) : Prop := (Lit.int .u8 x.Kind).wf = true ∧ (Lit.int .i64 x.Method).wf = true ∧ (x.Args.length ≤ maxLen ∧ ∀ y ∈ x.Args, wf_api_Value y) ∧ (x.Bytes.length ≤ maxLen ∧ ∀ y ∈ x.Bytes, (Lit.int .u8 y).wf = true)
theorem opens_api_Op : Opens Tryz.prog 25 k_api_Op wf_api_Op := by
  intro H enc W fuel cs d ps h
  cases fuel with
  | zero => simp [DataW.trod] at h
  | succ n =>
    obtain ⟨hl, hf⟩ := trod_struct Tryz.underlying25 h
    rw [cl25] at hl
    obtain ⟨c0, c1, c2, c3, rfl⟩ := len4 hl
    obtain ⟨d0, q0, h0⟩ := hf 0 _ rfl
    replace h0 : DataW.trod enc Tryz.prog W 0 (fun _ => true) true n 5 (List.take (Tryz.prog.cellsOf 5) [c0, c1, c2, c3]) = some (d0, q0) := h0
    rw [cl5] at h0
    replace h0 : DataW.trod enc Tryz.prog W 0 (fun _ => true) true n 5 [c0] = some (d0, q0) := h0
    obtain ⟨x0, r0, w0⟩ := (Opens.int Tryz.underlying5) enc W n _ _ _ h0
    obtain ⟨rfl, -⟩ := List.cons.inj r0
    obtain ⟨d1, q1, h1⟩ := hf 1 _ rfl
    replace h1 : DataW.trod enc Tryz.prog W 0 (fun _ => true) true n 3 (List.take (Tryz.prog.cellsOf 3) [c1, c2, c3]) = some (d1, q1) := h1
    rw [cl3] at h1
    replace h1 : DataW.trod enc Tryz.prog W 0 (fun _ => true) true n 3 [c1] = some (d1, q1) := h1
    obtain ⟨x1, r1, w1⟩ := (Opens.int Tryz.underlying3) enc W n _ _ _ h1
    obtain ⟨rfl, -⟩ := List.cons.inj r1
    obtain ⟨d2, q2, h2⟩ := hf 2 _ rfl
    replace h2 : DataW.trod enc Tryz.prog W 0 (fun _ => true) true n 22 (List.take (Tryz.prog.cellsOf 22) [c2, c3]) = some (d2, q2) := h2
    rw [cl22] at h2
    replace h2 : DataW.trod enc Tryz.prog W 0 (fun _ => true) true n 22 [c2] = some (d2, q2) := h2
    obtain ⟨x2, r2, w2⟩ := (Opens.slice Tryz.underlying22 opens_api_Value cl35 (by decide)) enc W n _ _ _ h2
    obtain ⟨v2, e2, r2⟩ := r2
    obtain ⟨rfl, -⟩ := List.cons.inj e2
    obtain ⟨d3, q3, h3⟩ := hf 3 _ rfl
    replace h3 : DataW.trod enc Tryz.prog W 0 (fun _ => true) true n 23 (List.take (Tryz.prog.cellsOf 23) [c3]) = some (d3, q3) := h3
    rw [cl23] at h3
    replace h3 : DataW.trod enc Tryz.prog W 0 (fun _ => true) true n 23 [c3] = some (d3, q3) := h3
    obtain ⟨x3, r3, w3⟩ := (Opens.slice Tryz.underlying23 (Opens.int Tryz.underlying5) cl5 (by decide)) enc W n _ _ _ h3
    obtain ⟨v3, e3, r3⟩ := r3
    obtain ⟨rfl, -⟩ := List.cons.inj e3
    exact ⟨⟨x0, x1, x2, x3⟩, ⟨_, _, rfl, r2, r3⟩, w0, w1, w2, w3⟩
theorem cl48 : Tryz.prog.cellsOf 48 = 6 := by kernel_rfl
def wf_api_Entry (x : api_Entry) : Prop := (Lit.int .i64 x.Proc).wf = true ∧ (Lit.int .i64 x.Seq).wf = true ∧ wf_api_Op x.Op
theorem opens_api_Entry : Opens Tryz.prog 48 k_api_Entry wf_api_Entry := by
  intro H enc W fuel cs d ps h
  cases fuel with
  | zero => simp [DataW.trod] at h
  | succ n =>
    obtain ⟨hl, hf⟩ := trod_struct Tryz.underlying48 h
    rw [cl48] at hl
    obtain ⟨c0, c1, c2, c3, c4, c5, rfl⟩ := len6 hl
    obtain ⟨d0, q0, h0⟩ := hf 0 _ rfl
    replace h0 : DataW.trod enc Tryz.prog W 0 (fun _ => true) true n 3 (List.take (Tryz.prog.cellsOf 3) [c0, c1, c2, c3, c4, c5]) = some (d0, q0) := h0
    rw [cl3] at h0
    replace h0 : DataW.trod enc Tryz.prog W 0 (fun _ => true) true n 3 [c0] = some (d0, q0) := h0
    obtain ⟨x0, r0, w0⟩ := (Opens.int Tryz.underlying3) enc W n _ _ _ h0
    obtain ⟨rfl, -⟩ := List.cons.inj r0
    obtain ⟨d1, q1, h1⟩ := hf 1 _ rfl
    replace h1 : DataW.trod enc Tryz.prog W 0 (fun _ => true) true n 3 (List.take (Tryz.prog.cellsOf 3) [c1, c2, c3, c4, c5]) = some (d1, q1) := h1
    rw [cl3] at h1
    replace h1 : DataW.trod enc Tryz.prog W 0 (fun _ => true) true n 3 [c1] = some (d1, q1) := h1
    obtain ⟨x1, r1, w1⟩ := (Opens.int Tryz.underlying3) enc W n _ _ _ h1
    obtain ⟨rfl, -⟩ := List.cons.inj r1
    obtain ⟨d2, q2, h2⟩ := hf 2 _ rfl
    replace h2 : DataW.trod enc Tryz.prog W 0 (fun _ => true) true n 25 (List.take (Tryz.prog.cellsOf 25) [c2, c3, c4, c5]) = some (d2, q2) := h2
    rw [cl25] at h2
    replace h2 : DataW.trod enc Tryz.prog W 0 (fun _ => true) true n 25 [c2, c3, c4, c5] = some (d2, q2) := h2
    obtain ⟨x2, r2, w2⟩ := opens_api_Op enc W n _ _ _ h2
    obtain ⟨v4, v5, e2, r2_2, r2_3⟩ := r2
    simp only [List.cons.injEq, and_true] at e2
    obtain ⟨rfl, rfl, rfl, rfl⟩ := e2
    exact ⟨⟨x0, x1, x2⟩, ⟨_, _, rfl, r2_2, r2_3⟩, w0, w1, w2⟩
/-- What is left to be shown of the law: of plain values alone. -/
def capstanlaw25_ReplicaNil.Pure : Prop := ∀ (x0 : api_Entry), wf_api_Entry x0 → capstanlaw25_ReplicaNil.f x0 = some true
end Go.Proofs.YtgfjjjbpikfgaaaGreatDoor
end
