/- Functions of the program as plain functions, with the proof that the code computes them: printed by gen.py of this session. -/
import Derived.Test.YtbejlahmhloloaaProg
import Derived.Test.YtbejlahmhloloaaQ18v37d56f
set_option linter.unusedVariables false
set_option linter.unusedSimpArgs false
set_option maxRecDepth 20000
set_option maxHeartbeats 2000000
noncomputable section
namespace Go.Proofs.Ytbejlahmhloloaa
open Go.Q
structure api_Value where
  Kind : Int
  A : Int
  B : Int
def api_Value.zero : api_Value := ⟨0, 0, 0⟩
def k_api_Value : Kd api_Value := ⟨3, fun h cs x => cs = [.int .u8 x.Kind, .int .i64 x.A, .int .i64 x.B], fun _ _ _ _ _ h => h, fun _ _ _ h => by simp [h], fun _ _ _ h => by subst h; rfl⟩
theorem k_api_Value.part_Kind : Part k_api_Value 0 (kInt .u8) (fun x => x.Kind) := fun h cs x e => ⟨[.int .u8 x.Kind], rfl, by subst e; exact seg_get [.int .u8 x.Kind, .int .i64 x.A, .int .i64 x.B] 0 1⟩
theorem k_api_Value.part_A : Part k_api_Value 1 (kInt .i64) (fun x => x.A) := fun h cs x e => ⟨[.int .i64 x.A], rfl, by subst e; exact seg_get [.int .u8 x.Kind, .int .i64 x.A, .int .i64 x.B] 1 1⟩
theorem k_api_Value.part_B : Part k_api_Value 2 (kInt .i64) (fun x => x.B) := fun h cs x e => ⟨[.int .i64 x.B], rfl, by subst e; exact seg_get [.int .u8 x.Kind, .int .i64 x.A, .int .i64 x.B] 2 1⟩
theorem k_api_Value.load {P : Program} {n : Fr} {ρ : Option Nat} {σ : List (Nat × Value)} {w0 : World} {hA hV : Hp} {ps : List HP} {os : List HO} {L l : List Oper} {Q : Cont} {d : Nat} {t tr : TypeId} {x : Operand} {pos : String} {af : Array Edge} {g : Option (Nat × Bool)} {v : Value} (see : Sees w0 hA hV) (i : Nat) {x0 : api_Value} (hi : ps[i]? = some (elP k_api_Value v x0)) {dsc : TypeDesc} (hu : P.underlying t = some dsc) (hd : (match dsc with | .struct _ | .array _ _ => true | _ => false) = true) (hs : (P.info? t).map (·.size) = some 3) (hg : gd L σ g = some true) (hn : Nat.blt d n.n = true) (hx : ev σ x = some v)
    (h : SP P n ρ ((d, .agg [.int .u8 x0.Kind, .int .i64 x0.A, .int .i64 x0.B].toArray) :: σ) (St w0 hA hV (ps) os) L l Q) : SP P n ρ σ (St w0 hA hV ps os) L (⟨some d, .load t x, tr, pos, af, g⟩ :: l) Q :=
  SP.loadP see i hi hu hd hs hg hn hx fun cs a w ha hw => by
    obtain ⟨m, fr, hN, hO, n1, n2, dj, s1, s2, ap, s⟩ := hw
    obtain rfl := ap.get 0 rfl
    exact h a w ha ⟨m, fr, hN, hO, n1, n2, dj, s1, s2, (fun y hy => ap y (List.mem_cons_of_mem _ hy)), s⟩
structure api_Op where
  Kind : Int
  Method : Int
  Args : (List api_Value)
  Bytes : (List Int)
def api_Op.zero : api_Op := ⟨0, 0, [], []⟩
def k_api_Op : Kd api_Op := ⟨4, fun h cs x => ∃ v0 v1 : Value, cs = [.int .u8 x.Kind, .int .i64 x.Method, v0, v1] ∧ slR k_api_Value h v0 x.Args ∧ slR (kInt .u8) h v1 x.Bytes,
  fun _ _ _ _ s ⟨v0, v1, e, p0, p1⟩ => ⟨v0, v1, e, slR.mono s p0, slR.mono s p1⟩, fun _ _ _ ⟨v0, v1, e, p0, p1⟩ => by simp [e],
  fun _ _ _ ⟨v0, v1, e, p0, p1⟩ => by subst e; obtain ⟨_, _, rfl, -⟩ := p0; obtain ⟨_, _, rfl, -⟩ := p1; rfl⟩
def o_api_Op : Ko api_Op := ⟨k_api_Op, fun cs x => HO.ex fun v0 : Value => HO.ex fun v1 : Value => HO.pand (cs = [.int .u8 x.Kind, .int .i64 x.Method, v0, v1]) (HO.seps [slO k_api_Value 37 v0 x.Args, slO (kInt .u8) 5 v1 x.Bytes]), fun ⟨v0, v1, e, q⟩ sa sh => ⟨v0, v1, e, slO.read (Sep.get 0 rfl q) sa sh, slO.read (Sep.get 1 rfl q) sa sh⟩⟩
@[reducible] def api_Op.set_Args (x : api_Op) (l : (List api_Value)) : api_Op := { x with Args := l }
theorem o_api_Op.leaf2 : Leaf o_api_Op 2 k_api_Value 37 (fun x => x.Args) api_Op.set_Args := fun a h c x ⟨v0, v1, e, q⟩ => by
  subst e
  obtain ⟨h1, h2, dj, s1, s2, p, rest⟩ := Sep.take 0 _ rfl q
  exact ⟨v0, h1, h2, rfl, dj, s1, s2, p, fun a' h' l' sa dj' r => ⟨v0, v1, rfl, Sep.back 0 [slO k_api_Value 37 v0 x.Args, slO (kInt .u8) 5 v1 x.Bytes] (x := slO k_api_Value 37 v0 l') (Nat.le_of_ble_eq_true rfl) dj' r (Sep.mono _ sa (Sub.refl _) rest)⟩⟩
@[reducible] def api_Op.set_Bytes (x : api_Op) (l : (List Int)) : api_Op := { x with Bytes := l }
theorem o_api_Op.leaf3 : Leaf o_api_Op 3 (kInt .u8) 5 (fun x => x.Bytes) api_Op.set_Bytes := fun a h c x ⟨v0, v1, e, q⟩ => by
  subst e
  obtain ⟨h1, h2, dj, s1, s2, p, rest⟩ := Sep.take 1 _ rfl q
  exact ⟨v1, h1, h2, rfl, dj, s1, s2, p, fun a' h' l' sa dj' r => ⟨v0, v1, rfl, Sep.back 1 [slO k_api_Value 37 v0 x.Args, slO (kInt .u8) 5 v1 x.Bytes] (x := slO (kInt .u8) 5 v1 l') (Nat.le_of_ble_eq_true rfl) dj' r (Sep.mono _ sa (Sub.refl _) rest)⟩⟩
theorem k_api_Op.part_Kind : Part k_api_Op 0 (kInt .u8) (fun x => x.Kind) := fun h cs x ⟨v0, v1, e, p0, p1⟩ => ⟨[.int .u8 x.Kind], rfl, by subst e; exact seg_get [.int .u8 x.Kind, .int .i64 x.Method, v0, v1] 0 1⟩
theorem k_api_Op.part_Method : Part k_api_Op 1 (kInt .i64) (fun x => x.Method) := fun h cs x ⟨v0, v1, e, p0, p1⟩ => ⟨[.int .i64 x.Method], rfl, by subst e; exact seg_get [.int .u8 x.Kind, .int .i64 x.Method, v0, v1] 1 1⟩
theorem k_api_Op.part_Args : Part k_api_Op 2 (kSl k_api_Value) (fun x => x.Args) := fun h cs x ⟨v0, v1, e, p0, p1⟩ => ⟨[v0], ⟨v0, rfl, p0⟩, by subst e; exact seg_get [.int .u8 x.Kind, .int .i64 x.Method, v0, v1] 2 1⟩
theorem k_api_Op.part_Bytes : Part k_api_Op 3 (kSl (kInt .u8)) (fun x => x.Bytes) := fun h cs x ⟨v0, v1, e, p0, p1⟩ => ⟨[v1], ⟨v1, rfl, p1⟩, by subst e; exact seg_get [.int .u8 x.Kind, .int .i64 x.Method, v0, v1] 3 1⟩
theorem k_api_Op.load {P : Program} {n : Fr} {ρ : Option Nat} {σ : List (Nat × Value)} {w0 : World} {hA hV : Hp} {ps : List HP} {os : List HO} {L l : List Oper} {Q : Cont} {d : Nat} {t tr : TypeId} {x : Operand} {pos : String} {af : Array Edge} {g : Option (Nat × Bool)} {v : Value} (see : Sees w0 hA hV) (i : Nat) {x0 : api_Op} (hi : ps[i]? = some (elP k_api_Op v x0)) {dsc : TypeDesc} (hu : P.underlying t = some dsc) (hd : (match dsc with | .struct _ | .array _ _ => true | _ => false) = true) (hs : (P.info? t).map (·.size) = some 4) (hg : gd L σ g = some true) (hn : Nat.blt d n.n = true) (hx : ev σ x = some v)
    (h : ∀ v0 v1, SP P n ρ ((d, .agg [.int .u8 x0.Kind, .int .i64 x0.Method, v0, v1].toArray) :: σ) (St w0 hA hV (slP k_api_Value v0 x0.Args :: slP (kInt .u8) v1 x0.Bytes :: ps) os) L l Q) : SP P n ρ σ (St w0 hA hV ps os) L (⟨some d, .load t x, tr, pos, af, g⟩ :: l) Q :=
  SP.loadP see i hi hu hd hs hg hn hx fun cs a w ha hw => by
    obtain ⟨m, fr, hN, hO, n1, n2, dj, s1, s2, ap, s⟩ := hw
    obtain ⟨v0, v1, e, p0, p1⟩ := ap.get 0 rfl
    subst e
    exact h v0 v1 a w ha ⟨m, fr, hN, hO, n1, n2, dj, s1, s2, All.cons p0 (All.cons p1 ((fun y hy => ap y (List.mem_cons_of_mem _ hy)))), s⟩
structure api_Outcome where
  Trap : Int
  Result : api_Value
def api_Outcome.zero : api_Outcome := ⟨0, api_Value.zero⟩
def k_api_Outcome : Kd api_Outcome := ⟨4, fun h cs x => cs = [.int .i64 x.Trap, .int .u8 x.Result.Kind, .int .i64 x.Result.A, .int .i64 x.Result.B], fun _ _ _ _ _ h => h, fun _ _ _ h => by simp [h], fun _ _ _ h => by subst h; rfl⟩
theorem k_api_Outcome.part_Trap : Part k_api_Outcome 0 (kInt .i64) (fun x => x.Trap) := fun h cs x e => ⟨[.int .i64 x.Trap], rfl, by subst e; exact seg_get [.int .i64 x.Trap, .int .u8 x.Result.Kind, .int .i64 x.Result.A, .int .i64 x.Result.B] 0 1⟩
theorem k_api_Outcome.part_Result : Part k_api_Outcome 1 k_api_Value (fun x => x.Result) := fun h cs x e => ⟨[.int .u8 x.Result.Kind, .int .i64 x.Result.A, .int .i64 x.Result.B], rfl, by subst e; exact seg_get [.int .i64 x.Trap, .int .u8 x.Result.Kind, .int .i64 x.Result.A, .int .i64 x.Result.B] 1 3⟩
theorem k_api_Outcome.load {P : Program} {n : Fr} {ρ : Option Nat} {σ : List (Nat × Value)} {w0 : World} {hA hV : Hp} {ps : List HP} {os : List HO} {L l : List Oper} {Q : Cont} {d : Nat} {t tr : TypeId} {x : Operand} {pos : String} {af : Array Edge} {g : Option (Nat × Bool)} {v : Value} (see : Sees w0 hA hV) (i : Nat) {x0 : api_Outcome} (hi : ps[i]? = some (elP k_api_Outcome v x0)) {dsc : TypeDesc} (hu : P.underlying t = some dsc) (hd : (match dsc with | .struct _ | .array _ _ => true | _ => false) = true) (hs : (P.info? t).map (·.size) = some 4) (hg : gd L σ g = some true) (hn : Nat.blt d n.n = true) (hx : ev σ x = some v)
    (h : SP P n ρ ((d, .agg [.int .i64 x0.Trap, .int .u8 x0.Result.Kind, .int .i64 x0.Result.A, .int .i64 x0.Result.B].toArray) :: σ) (St w0 hA hV (ps) os) L l Q) : SP P n ρ σ (St w0 hA hV ps os) L (⟨some d, .load t x, tr, pos, af, g⟩ :: l) Q :=
  SP.loadP see i hi hu hd hs hg hn hx fun cs a w ha hw => by
    obtain ⟨m, fr, hN, hO, n1, n2, dj, s1, s2, ap, s⟩ := hw
    obtain rfl := ap.get 0 rfl
    exact h a w ha ⟨m, fr, hN, hO, n1, n2, dj, s1, s2, (fun y hy => ap y (List.mem_cons_of_mem _ hy)), s⟩
structure api_Reply where
  Err : Int
  Out : api_Outcome
def api_Reply.zero : api_Reply := ⟨0, api_Outcome.zero⟩
def k_api_Reply : Kd api_Reply := ⟨5, fun h cs x => cs = [.int .i64 x.Err, .int .i64 x.Out.Trap, .int .u8 x.Out.Result.Kind, .int .i64 x.Out.Result.A, .int .i64 x.Out.Result.B], fun _ _ _ _ _ h => h, fun _ _ _ h => by simp [h], fun _ _ _ h => by subst h; rfl⟩
theorem k_api_Reply.part_Err : Part k_api_Reply 0 (kInt .i64) (fun x => x.Err) := fun h cs x e => ⟨[.int .i64 x.Err], rfl, by subst e; exact seg_get [.int .i64 x.Err, .int .i64 x.Out.Trap, .int .u8 x.Out.Result.Kind, .int .i64 x.Out.Result.A, .int .i64 x.Out.Result.B] 0 1⟩
theorem k_api_Reply.part_Out : Part k_api_Reply 1 k_api_Outcome (fun x => x.Out) := fun h cs x e => ⟨[.int .i64 x.Out.Trap, .int .u8 x.Out.Result.Kind, .int .i64 x.Out.Result.A, .int .i64 x.Out.Result.B], rfl, by subst e; exact seg_get [.int .i64 x.Err, .int .i64 x.Out.Trap, .int .u8 x.Out.Result.Kind, .int .i64 x.Out.Result.A, .int .i64 x.Out.Result.B] 1 4⟩
theorem k_api_Reply.load {P : Program} {n : Fr} {ρ : Option Nat} {σ : List (Nat × Value)} {w0 : World} {hA hV : Hp} {ps : List HP} {os : List HO} {L l : List Oper} {Q : Cont} {d : Nat} {t tr : TypeId} {x : Operand} {pos : String} {af : Array Edge} {g : Option (Nat × Bool)} {v : Value} (see : Sees w0 hA hV) (i : Nat) {x0 : api_Reply} (hi : ps[i]? = some (elP k_api_Reply v x0)) {dsc : TypeDesc} (hu : P.underlying t = some dsc) (hd : (match dsc with | .struct _ | .array _ _ => true | _ => false) = true) (hs : (P.info? t).map (·.size) = some 5) (hg : gd L σ g = some true) (hn : Nat.blt d n.n = true) (hx : ev σ x = some v)
    (h : SP P n ρ ((d, .agg [.int .i64 x0.Err, .int .i64 x0.Out.Trap, .int .u8 x0.Out.Result.Kind, .int .i64 x0.Out.Result.A, .int .i64 x0.Out.Result.B].toArray) :: σ) (St w0 hA hV (ps) os) L l Q) : SP P n ρ σ (St w0 hA hV ps os) L (⟨some d, .load t x, tr, pos, af, g⟩ :: l) Q :=
  SP.loadP see i hi hu hd hs hg hn hx fun cs a w ha hw => by
    obtain ⟨m, fr, hN, hO, n1, n2, dj, s1, s2, ap, s⟩ := hw
    obtain rfl := ap.get 0 rfl
    exact h a w ha ⟨m, fr, hN, hO, n1, n2, dj, s1, s2, (fun y hy => ap y (List.mem_cons_of_mem _ hy)), s⟩
structure history_Call where
  Proc : Int
  Op : api_Op
  Read : Bool
  Reply : api_Reply
  Start : Int
  End : Int
def history_Call.zero : history_Call := ⟨0, api_Op.zero, false, api_Reply.zero, 0, 0⟩
def k_history_Call : Kd history_Call := ⟨13, fun h cs x => ∃ v0 v1 : Value, cs = [.int .i64 x.Proc, .int .u8 x.Op.Kind, .int .i64 x.Op.Method, v0, v1, .bool x.Read, .int .i64 x.Reply.Err, .int .i64 x.Reply.Out.Trap, .int .u8 x.Reply.Out.Result.Kind, .int .i64 x.Reply.Out.Result.A, .int .i64 x.Reply.Out.Result.B, .int .i64 x.Start, .int .i64 x.End] ∧ slR k_api_Value h v0 x.Op.Args ∧ slR (kInt .u8) h v1 x.Op.Bytes,
  fun _ _ _ _ s ⟨v0, v1, e, p0, p1⟩ => ⟨v0, v1, e, slR.mono s p0, slR.mono s p1⟩, fun _ _ _ ⟨v0, v1, e, p0, p1⟩ => by simp [e],
  fun _ _ _ ⟨v0, v1, e, p0, p1⟩ => by subst e; obtain ⟨_, _, rfl, -⟩ := p0; obtain ⟨_, _, rfl, -⟩ := p1; rfl⟩
def o_history_Call : Ko history_Call := ⟨k_history_Call, fun cs x => HO.ex fun v0 : Value => HO.ex fun v1 : Value => HO.pand (cs = [.int .i64 x.Proc, .int .u8 x.Op.Kind, .int .i64 x.Op.Method, v0, v1, .bool x.Read, .int .i64 x.Reply.Err, .int .i64 x.Reply.Out.Trap, .int .u8 x.Reply.Out.Result.Kind, .int .i64 x.Reply.Out.Result.A, .int .i64 x.Reply.Out.Result.B, .int .i64 x.Start, .int .i64 x.End]) (HO.seps [slO k_api_Value 37 v0 x.Op.Args, slO (kInt .u8) 5 v1 x.Op.Bytes]), fun ⟨v0, v1, e, q⟩ sa sh => ⟨v0, v1, e, slO.read (Sep.get 0 rfl q) sa sh, slO.read (Sep.get 1 rfl q) sa sh⟩⟩
@[reducible] def history_Call.set_Op_Args (x : history_Call) (l : (List api_Value)) : history_Call := { x with Op := { x.Op with Args := l } }
theorem o_history_Call.leaf3 : Leaf o_history_Call 3 k_api_Value 37 (fun x => x.Op.Args) history_Call.set_Op_Args := fun a h c x ⟨v0, v1, e, q⟩ => by
  subst e
  obtain ⟨h1, h2, dj, s1, s2, p, rest⟩ := Sep.take 0 _ rfl q
  exact ⟨v0, h1, h2, rfl, dj, s1, s2, p, fun a' h' l' sa dj' r => ⟨v0, v1, rfl, Sep.back 0 [slO k_api_Value 37 v0 x.Op.Args, slO (kInt .u8) 5 v1 x.Op.Bytes] (x := slO k_api_Value 37 v0 l') (Nat.le_of_ble_eq_true rfl) dj' r (Sep.mono _ sa (Sub.refl _) rest)⟩⟩
@[reducible] def history_Call.set_Op_Bytes (x : history_Call) (l : (List Int)) : history_Call := { x with Op := { x.Op with Bytes := l } }
theorem o_history_Call.leaf4 : Leaf o_history_Call 4 (kInt .u8) 5 (fun x => x.Op.Bytes) history_Call.set_Op_Bytes := fun a h c x ⟨v0, v1, e, q⟩ => by
  subst e
  obtain ⟨h1, h2, dj, s1, s2, p, rest⟩ := Sep.take 1 _ rfl q
  exact ⟨v1, h1, h2, rfl, dj, s1, s2, p, fun a' h' l' sa dj' r => ⟨v0, v1, rfl, Sep.back 1 [slO k_api_Value 37 v0 x.Op.Args, slO (kInt .u8) 5 v1 x.Op.Bytes] (x := slO (kInt .u8) 5 v1 l') (Nat.le_of_ble_eq_true rfl) dj' r (Sep.mono _ sa (Sub.refl _) rest)⟩⟩
theorem k_history_Call.part_Proc : Part k_history_Call 0 (kInt .i64) (fun x => x.Proc) := fun h cs x ⟨v0, v1, e, p0, p1⟩ => ⟨[.int .i64 x.Proc], rfl, by subst e; exact seg_get [.int .i64 x.Proc, .int .u8 x.Op.Kind, .int .i64 x.Op.Method, v0, v1, .bool x.Read, .int .i64 x.Reply.Err, .int .i64 x.Reply.Out.Trap, .int .u8 x.Reply.Out.Result.Kind, .int .i64 x.Reply.Out.Result.A, .int .i64 x.Reply.Out.Result.B, .int .i64 x.Start, .int .i64 x.End] 0 1⟩
theorem k_history_Call.part_Op : Part k_history_Call 1 k_api_Op (fun x => x.Op) := fun h cs x ⟨v0, v1, e, p0, p1⟩ => ⟨[.int .u8 x.Op.Kind, .int .i64 x.Op.Method, v0, v1], ⟨v0, v1, rfl, p0, p1⟩, by subst e; exact seg_get [.int .i64 x.Proc, .int .u8 x.Op.Kind, .int .i64 x.Op.Method, v0, v1, .bool x.Read, .int .i64 x.Reply.Err, .int .i64 x.Reply.Out.Trap, .int .u8 x.Reply.Out.Result.Kind, .int .i64 x.Reply.Out.Result.A, .int .i64 x.Reply.Out.Result.B, .int .i64 x.Start, .int .i64 x.End] 1 4⟩
theorem k_history_Call.part_Read : Part k_history_Call 5 kBool (fun x => x.Read) := fun h cs x ⟨v0, v1, e, p0, p1⟩ => ⟨[.bool x.Read], rfl, by subst e; exact seg_get [.int .i64 x.Proc, .int .u8 x.Op.Kind, .int .i64 x.Op.Method, v0, v1, .bool x.Read, .int .i64 x.Reply.Err, .int .i64 x.Reply.Out.Trap, .int .u8 x.Reply.Out.Result.Kind, .int .i64 x.Reply.Out.Result.A, .int .i64 x.Reply.Out.Result.B, .int .i64 x.Start, .int .i64 x.End] 5 1⟩
theorem k_history_Call.part_Reply : Part k_history_Call 6 k_api_Reply (fun x => x.Reply) := fun h cs x ⟨v0, v1, e, p0, p1⟩ => ⟨[.int .i64 x.Reply.Err, .int .i64 x.Reply.Out.Trap, .int .u8 x.Reply.Out.Result.Kind, .int .i64 x.Reply.Out.Result.A, .int .i64 x.Reply.Out.Result.B], rfl, by subst e; exact seg_get [.int .i64 x.Proc, .int .u8 x.Op.Kind, .int .i64 x.Op.Method, v0, v1, .bool x.Read, .int .i64 x.Reply.Err, .int .i64 x.Reply.Out.Trap, .int .u8 x.Reply.Out.Result.Kind, .int .i64 x.Reply.Out.Result.A, .int .i64 x.Reply.Out.Result.B, .int .i64 x.Start, .int .i64 x.End] 6 5⟩
theorem k_history_Call.part_Start : Part k_history_Call 11 (kInt .i64) (fun x => x.Start) := fun h cs x ⟨v0, v1, e, p0, p1⟩ => ⟨[.int .i64 x.Start], rfl, by subst e; exact seg_get [.int .i64 x.Proc, .int .u8 x.Op.Kind, .int .i64 x.Op.Method, v0, v1, .bool x.Read, .int .i64 x.Reply.Err, .int .i64 x.Reply.Out.Trap, .int .u8 x.Reply.Out.Result.Kind, .int .i64 x.Reply.Out.Result.A, .int .i64 x.Reply.Out.Result.B, .int .i64 x.Start, .int .i64 x.End] 11 1⟩
theorem k_history_Call.part_End : Part k_history_Call 12 (kInt .i64) (fun x => x.End) := fun h cs x ⟨v0, v1, e, p0, p1⟩ => ⟨[.int .i64 x.End], rfl, by subst e; exact seg_get [.int .i64 x.Proc, .int .u8 x.Op.Kind, .int .i64 x.Op.Method, v0, v1, .bool x.Read, .int .i64 x.Reply.Err, .int .i64 x.Reply.Out.Trap, .int .u8 x.Reply.Out.Result.Kind, .int .i64 x.Reply.Out.Result.A, .int .i64 x.Reply.Out.Result.B, .int .i64 x.Start, .int .i64 x.End] 12 1⟩
theorem k_history_Call.load {P : Program} {n : Fr} {ρ : Option Nat} {σ : List (Nat × Value)} {w0 : World} {hA hV : Hp} {ps : List HP} {os : List HO} {L l : List Oper} {Q : Cont} {d : Nat} {t tr : TypeId} {x : Operand} {pos : String} {af : Array Edge} {g : Option (Nat × Bool)} {v : Value} (see : Sees w0 hA hV) (i : Nat) {x0 : history_Call} (hi : ps[i]? = some (elP k_history_Call v x0)) {dsc : TypeDesc} (hu : P.underlying t = some dsc) (hd : (match dsc with | .struct _ | .array _ _ => true | _ => false) = true) (hs : (P.info? t).map (·.size) = some 13) (hg : gd L σ g = some true) (hn : Nat.blt d n.n = true) (hx : ev σ x = some v)
    (h : ∀ v0 v1, SP P n ρ ((d, .agg [.int .i64 x0.Proc, .int .u8 x0.Op.Kind, .int .i64 x0.Op.Method, v0, v1, .bool x0.Read, .int .i64 x0.Reply.Err, .int .i64 x0.Reply.Out.Trap, .int .u8 x0.Reply.Out.Result.Kind, .int .i64 x0.Reply.Out.Result.A, .int .i64 x0.Reply.Out.Result.B, .int .i64 x0.Start, .int .i64 x0.End].toArray) :: σ) (St w0 hA hV (slP k_api_Value v0 x0.Op.Args :: slP (kInt .u8) v1 x0.Op.Bytes :: ps) os) L l Q) : SP P n ρ σ (St w0 hA hV ps os) L (⟨some d, .load t x, tr, pos, af, g⟩ :: l) Q :=
  SP.loadP see i hi hu hd hs hg hn hx fun cs a w ha hw => by
    obtain ⟨m, fr, hN, hO, n1, n2, dj, s1, s2, ap, s⟩ := hw
    obtain ⟨v0, v1, e, p0, p1⟩ := ap.get 0 rfl
    subst e
    exact h v0 v1 a w ha ⟨m, fr, hN, hO, n1, n2, dj, s1, s2, All.cons p0 (All.cons p1 ((fun y hy => ap y (List.mem_cons_of_mem _ hy)))), s⟩
structure gauss_Pair where
  e0 : Int
  e1 : Int
def gauss_Pair.zero : gauss_Pair := ⟨0, 0⟩
def k_gauss_Pair : Kd gauss_Pair := ⟨2, fun h cs x => cs = [.int .i64 x.e0, .int .i64 x.e1], fun _ _ _ _ _ h => h, fun _ _ _ h => by simp [h], fun _ _ _ h => by subst h; rfl⟩
theorem k_gauss_Pair.part_e0 : Part k_gauss_Pair 0 (kInt .i64) (fun x => x.e0) := fun h cs x e => ⟨[.int .i64 x.e0], rfl, by subst e; exact seg_get [.int .i64 x.e0, .int .i64 x.e1] 0 1⟩
theorem k_gauss_Pair.part_e1 : Part k_gauss_Pair 1 (kInt .i64) (fun x => x.e1) := fun h cs x e => ⟨[.int .i64 x.e1], rfl, by subst e; exact seg_get [.int .i64 x.e0, .int .i64 x.e1] 1 1⟩
theorem k_gauss_Pair.load {P : Program} {n : Fr} {ρ : Option Nat} {σ : List (Nat × Value)} {w0 : World} {hA hV : Hp} {ps : List HP} {os : List HO} {L l : List Oper} {Q : Cont} {d : Nat} {t tr : TypeId} {x : Operand} {pos : String} {af : Array Edge} {g : Option (Nat × Bool)} {v : Value} (see : Sees w0 hA hV) (i : Nat) {x0 : gauss_Pair} (hi : ps[i]? = some (elP k_gauss_Pair v x0)) {dsc : TypeDesc} (hu : P.underlying t = some dsc) (hd : (match dsc with | .struct _ | .array _ _ => true | _ => false) = true) (hs : (P.info? t).map (·.size) = some 2) (hg : gd L σ g = some true) (hn : Nat.blt d n.n = true) (hx : ev σ x = some v)
    (h : SP P n ρ ((d, .agg [.int .i64 x0.e0, .int .i64 x0.e1].toArray) :: σ) (St w0 hA hV (ps) os) L l Q) : SP P n ρ σ (St w0 hA hV ps os) L (⟨some d, .load t x, tr, pos, af, g⟩ :: l) Q :=
  SP.loadP see i hi hu hd hs hg hn hx fun cs a w ha hw => by
    obtain ⟨m, fr, hN, hO, n1, n2, dj, s1, s2, ap, s⟩ := hw
    obtain rfl := ap.get 0 rfl
    exact h a w ha ⟨m, fr, hN, hO, n1, n2, dj, s1, s2, (fun y hy => ap y (List.mem_cons_of_mem _ hy)), s⟩
theorem sz2 : (Try.prog.info? 2).map (·.size) = some 1 := by kernel_rfl
theorem sz3 : (Try.prog.info? 3).map (·.size) = some 1 := by kernel_rfl
theorem sz4 : (Try.prog.info? 4).map (·.size) = some 1 := by kernel_rfl
theorem sz5 : (Try.prog.info? 5).map (·.size) = some 1 := by kernel_rfl
theorem sz24 : (Try.prog.info? 24).map (·.size) = some 1 := by kernel_rfl
theorem sz32 : (Try.prog.info? 32).map (·.size) = some 1 := by kernel_rfl
theorem sz34 : (Try.prog.info? 34).map (·.size) = some 4 := by kernel_rfl
theorem sz35 : (Try.prog.info? 35).map (·.size) = some 1 := by kernel_rfl
theorem sz37 : (Try.prog.info? 37).map (·.size) = some 3 := by kernel_rfl
theorem sz41 : (Try.prog.info? 41).map (·.size) = some 5 := by kernel_rfl
theorem sz44 : (Try.prog.info? 44).map (·.size) = some 1 := by kernel_rfl
theorem sz48 : (Try.prog.info? 48).map (·.size) = some 13 := by kernel_rfl
theorem sz76 : (Try.prog.info? 76).map (·.size) = some 1 := by kernel_rfl
theorem sz94 : (Try.prog.info? 94).map (·.size) = some 64 := by kernel_rfl
theorem sz116 : (Try.prog.info? 116).map (·.size) = some 2 := by kernel_rfl
theorem inf3 : (Try.prog.info? 3).map (fun i => ((i.zero.map fun z => z.cells.toList), i.size, i.bytes)) = some (some [.int .i64 0], 1, 8) := by kernel_rfl
theorem inf5 : (Try.prog.info? 5).map (fun i => ((i.zero.map fun z => z.cells.toList), i.size, i.bytes)) = some (some [.int .u8 0], 1, 1) := by kernel_rfl
theorem inf34 : (Try.prog.info? 34).map (fun i => ((i.zero.map fun z => z.cells.toList), i.size, i.bytes)) = some (some [.int .u8 0, .int .i64 0, (.slice none 0 0), (.slice none 0 0)], 4, 64) := by kernel_rfl
theorem inf37 : (Try.prog.info? 37).map (fun i => ((i.zero.map fun z => z.cells.toList), i.size, i.bytes)) = some (some [.int .u8 0, .int .i64 0, .int .i64 0], 3, 24) := by kernel_rfl
theorem inf48 : (Try.prog.info? 48).map (fun i => ((i.zero.map fun z => z.cells.toList), i.size, i.bytes)) = some (some [.int .i64 0, .int .u8 0, .int .i64 0, (.slice none 0 0), (.slice none 0 0), .bool false, .int .i64 0, .int .i64 0, .int .u8 0, .int .i64 0, .int .i64 0, .int .i64 0, .int .i64 0], 13, 136) := by kernel_rfl
theorem inf76 : (Try.prog.info? 76).map (fun i => ((i.zero.map fun z => z.cells.toList), i.size, i.bytes)) = some (some [.nilFunc], 1, 8) := by kernel_rfl
theorem inf94 : (Try.prog.info? 94).map (fun i => ((i.zero.map fun z => z.cells.toList), i.size, i.bytes)) = some (some [.int .i64 0, .int .i64 0, .int .i64 0, .int .i64 0, .int .i64 0, .int .i64 0, .int .i64 0, .int .i64 0, .int .i64 0, .int .i64 0, .int .i64 0, .int .i64 0, .int .i64 0, .int .i64 0, .int .i64 0, .int .i64 0, .int .i64 0, .int .i64 0, .int .i64 0, .int .i64 0, .int .i64 0, .int .i64 0, .int .i64 0, .int .i64 0, .int .i64 0, .int .i64 0, .int .i64 0, .int .i64 0, .int .i64 0, .int .i64 0, .int .i64 0, .int .i64 0, .int .i64 0, .int .i64 0, .int .i64 0, .int .i64 0, .int .i64 0, .int .i64 0, .int .i64 0, .int .i64 0, .int .i64 0, .int .i64 0, .int .i64 0, .int .i64 0, .int .i64 0, .int .i64 0, .int .i64 0, .int .i64 0, .int .i64 0, .int .i64 0, .int .i64 0, .int .i64 0, .int .i64 0, .int .i64 0, .int .i64 0, .int .i64 0, .int .i64 0, .int .i64 0, .int .i64 0, .int .i64 0, .int .i64 0, .int .i64 0, .int .i64 0, .int .i64 0], 64, 512) := by kernel_rfl
theorem bt34 : shapeOf Try.prog 34 = some ([.int .u8 0, .int .i64 0, (.slice none 0 0), (.slice none 0 0)], [(0, 1), (1, 1), (2, 1), (3, 1)]) := by kernel_rfl
theorem bt37 : shapeOf Try.prog 37 = some ([.int .u8 0, .int .i64 0, .int .i64 0], [(0, 1), (1, 1), (2, 1)]) := by kernel_rfl
theorem bt41 : shapeOf Try.prog 41 = some ([.int .i64 0, .int .i64 0, .int .u8 0, .int .i64 0, .int .i64 0], [(0, 1), (1, 4)]) := by kernel_rfl
theorem bt48 : shapeOf Try.prog 48 = some ([.int .i64 0, .int .u8 0, .int .i64 0, (.slice none 0 0), (.slice none 0 0), .bool false, .int .i64 0, .int .i64 0, .int .u8 0, .int .i64 0, .int .i64 0, .int .i64 0, .int .i64 0], [(0, 1), (1, 4), (5, 1), (6, 5), (11, 1), (12, 1)]) := by kernel_rfl
theorem bt94 : shapeOf Try.prog 94 = some ([.int .i64 0, .int .i64 0, .int .i64 0, .int .i64 0, .int .i64 0, .int .i64 0, .int .i64 0, .int .i64 0, .int .i64 0, .int .i64 0, .int .i64 0, .int .i64 0, .int .i64 0, .int .i64 0, .int .i64 0, .int .i64 0, .int .i64 0, .int .i64 0, .int .i64 0, .int .i64 0, .int .i64 0, .int .i64 0, .int .i64 0, .int .i64 0, .int .i64 0, .int .i64 0, .int .i64 0, .int .i64 0, .int .i64 0, .int .i64 0, .int .i64 0, .int .i64 0, .int .i64 0, .int .i64 0, .int .i64 0, .int .i64 0, .int .i64 0, .int .i64 0, .int .i64 0, .int .i64 0, .int .i64 0, .int .i64 0, .int .i64 0, .int .i64 0, .int .i64 0, .int .i64 0, .int .i64 0, .int .i64 0, .int .i64 0, .int .i64 0, .int .i64 0, .int .i64 0, .int .i64 0, .int .i64 0, .int .i64 0, .int .i64 0, .int .i64 0, .int .i64 0, .int .i64 0, .int .i64 0, .int .i64 0, .int .i64 0, .int .i64 0, .int .i64 0], [(0, 1), (1, 1), (2, 1), (3, 1), (4, 1), (5, 1), (6, 1), (7, 1), (8, 1), (9, 1), (10, 1), (11, 1), (12, 1), (13, 1), (14, 1), (15, 1), (16, 1), (17, 1), (18, 1), (19, 1), (20, 1), (21, 1), (22, 1), (23, 1), (24, 1), (25, 1), (26, 1), (27, 1), (28, 1), (29, 1), (30, 1), (31, 1), (32, 1), (33, 1), (34, 1), (35, 1), (36, 1), (37, 1), (38, 1), (39, 1), (40, 1), (41, 1), (42, 1), (43, 1), (44, 1), (45, 1), (46, 1), (47, 1), (48, 1), (49, 1), (50, 1), (51, 1), (52, 1), (53, 1), (54, 1), (55, 1), (56, 1), (57, 1), (58, 1), (59, 1), (60, 1), (61, 1), (62, 1), (63, 1)]) := by kernel_rfl
theorem bt116 : shapeOf Try.prog 116 = some ([.int .i64 0, .int .i64 0], [(0, 1), (1, 1)]) := by kernel_rfl
theorem eqA37 (d : Nat) (w : World) (x0 y0 : Int) (x1 y1 : Int) (x2 y2 : Int) : (Op.equalIn (d + 2) 37 (.agg #[.int .u8 x0, .int .i64 x1, .int .i64 x2]) (.agg #[.int .u8 y0, .int .i64 y1, .int .i64 y2])).run Try.prog w = .ok (x0 == y0 && (x1 == y1 && (x2 == y2))) w := by
  refine eqA_of Try.underlying37 (by kernel_rfl) ?_
  refine eqf_cons (by rfl) (run_part1 Try.underlying5 rfl rfl) (run_part1 Try.underlying5 rfl rfl) (run_equalIn_int w _ 5 _ _ _ _ Try.underlying5) ?_
  refine eqf_cons (by rfl) (run_part1 Try.underlying2 rfl rfl) (run_part1 Try.underlying2 rfl rfl) (run_equalIn_int w _ 2 _ _ _ _ Try.underlying2) ?_
  exact eqf_last (by rfl) (run_part1 Try.underlying2 rfl rfl) (run_part1 Try.underlying2 rfl rfl) (run_equalIn_int w _ 2 _ _ _ _ Try.underlying2)
theorem szq37 : (Try.prog.info? 37).map (·.size) = some 3 := by kernel_rfl
theorem eqA39 (d : Nat) (w : World) (x0 y0 : Int) (x1 y1 : Int) (x2 y2 : Int) (x3 y3 : Int) : (Op.equalIn (d + 3) 39 (.agg #[.int .i64 x0, .int .u8 x1, .int .i64 x2, .int .i64 x3]) (.agg #[.int .i64 y0, .int .u8 y1, .int .i64 y2, .int .i64 y3])).run Try.prog w = .ok (x0 == y0 && ((x1 == y1 && (x2 == y2 && (x3 == y3))))) w := by
  refine eqA_of Try.underlying39 (by kernel_rfl) ?_
  refine eqf_cons (by rfl) (run_part1 Try.underlying3 rfl rfl) (run_part1 Try.underlying3 rfl rfl) (run_equalIn_int w _ 3 _ _ _ _ Try.underlying3) ?_
  exact eqf_last (by rfl) (run_partA Try.underlying37 rfl szq37 rfl) (run_partA Try.underlying37 rfl szq37 rfl) (eqA37 (d + 0) w _ _ _ _ _ _)
theorem szq39 : (Try.prog.info? 39).map (·.size) = some 4 := by kernel_rfl
theorem eqA41 (d : Nat) (w : World) (x0 y0 : Int) (x1 y1 : Int) (x2 y2 : Int) (x3 y3 : Int) (x4 y4 : Int) : (Op.equalIn (d + 4) 41 (.agg #[.int .i64 x0, .int .i64 x1, .int .u8 x2, .int .i64 x3, .int .i64 x4]) (.agg #[.int .i64 y0, .int .i64 y1, .int .u8 y2, .int .i64 y3, .int .i64 y4])).run Try.prog w = .ok (x0 == y0 && ((x1 == y1 && ((x2 == y2 && (x3 == y3 && (x4 == y4))))))) w := by
  refine eqA_of Try.underlying41 (by kernel_rfl) ?_
  refine eqf_cons (by rfl) (run_part1 Try.underlying35 rfl rfl) (run_part1 Try.underlying35 rfl rfl) (run_equalIn_int w _ 35 _ _ _ _ Try.underlying35) ?_
  exact eqf_last (by rfl) (run_partA Try.underlying39 rfl szq39 rfl) (run_partA Try.underlying39 rfl szq39 rfl) (eqA39 (d + 0) w _ _ _ _ _ _ _ _)
theorem fn56 : ((Try.prog.funcs[56]?).map fun fn => fn.body.isSome && !(fn.name == "runtime.NumGoroutine")) = some true := by rw [Try.func56]; rfl
theorem fn48 : ((Try.prog.funcs[48]?).map fun fn => fn.body.isSome && !(fn.name == "runtime.NumGoroutine")) = some true := by rw [Try.func48]; rfl
theorem fn33 : ((Try.prog.funcs[33]?).map fun fn => fn.body.isSome && !(fn.name == "runtime.NumGoroutine")) = some true := by rw [Try.func33]; rfl
theorem fn51 : ((Try.prog.funcs[51]?).map fun fn => fn.body.isSome && !(fn.name == "runtime.NumGoroutine")) = some true := by rw [Try.func51]; rfl
theorem fn53 : ((Try.prog.funcs[53]?).map fun fn => fn.body.isSome && !(fn.name == "runtime.NumGoroutine")) = some true := by rw [Try.func53]; rfl
theorem fn62 : ((Try.prog.funcs[62]?).map fun fn => fn.body.isSome && !(fn.name == "runtime.NumGoroutine")) = some true := by rw [Try.func62]; rfl
theorem fn52 : ((Try.prog.funcs[52]?).map fun fn => fn.body.isSome && !(fn.name == "runtime.NumGoroutine")) = some true := by rw [Try.func52]; rfl
theorem fn29 : ((Try.prog.funcs[29]?).map fun fn => fn.body.isSome && !(fn.name == "runtime.NumGoroutine")) = some true := by rw [Try.func29]; rfl
theorem fn63 : ((Try.prog.funcs[63]?).map fun fn => fn.body.isSome && !(fn.name == "runtime.NumGoroutine")) = some true := by rw [Try.func63]; rfl
theorem fn64 : ((Try.prog.funcs[64]?).map fun fn => fn.body.isSome && !(fn.name == "runtime.NumGoroutine")) = some true := by rw [Try.func64]; rfl
theorem fn57 : ((Try.prog.funcs[57]?).map fun fn => fn.body.isSome && !(fn.name == "runtime.NumGoroutine")) = some true := by rw [Try.func57]; rfl
theorem fn42 : ((Try.prog.funcs[42]?).map fun fn => fn.body.isSome && !(fn.name == "runtime.NumGoroutine")) = some true := by rw [Try.func42]; rfl
theorem fn50 : ((Try.prog.funcs[50]?).map fun fn => fn.body.isSome && !(fn.name == "runtime.NumGoroutine")) = some true := by rw [Try.func50]; rfl
theorem fn27 : ((Try.prog.funcs[27]?).map fun fn => fn.body.isSome && !(fn.name == "runtime.NumGoroutine")) = some true := by rw [Try.func27]; rfl
theorem fn72 : ((Try.prog.funcs[72]?).map fun fn => fn.body.isSome && !(fn.name == "runtime.NumGoroutine")) = some true := by rw [Try.func72]; rfl
theorem fn69 : ((Try.prog.funcs[69]?).map fun fn => fn.body.isSome && !(fn.name == "runtime.NumGoroutine")) = some true := by rw [Try.func69]; rfl
theorem fn70 : ((Try.prog.funcs[70]?).map fun fn => fn.body.isSome && !(fn.name == "runtime.NumGoroutine")) = some true := by rw [Try.func70]; rfl
theorem fn66 : ((Try.prog.funcs[66]?).map fun fn => fn.body.isSome && !(fn.name == "runtime.NumGoroutine")) = some true := by rw [Try.func66]; rfl
theorem fn65 : ((Try.prog.funcs[65]?).map fun fn => fn.body.isSome && !(fn.name == "runtime.NumGoroutine")) = some true := by rw [Try.func65]; rfl
theorem fn71 : ((Try.prog.funcs[71]?).map fun fn => fn.body.isSome && !(fn.name == "runtime.NumGoroutine")) = some true := by rw [Try.func71]; rfl
theorem fn67 : ((Try.prog.funcs[67]?).map fun fn => fn.body.isSome && !(fn.name == "runtime.NumGoroutine")) = some true := by rw [Try.func67]; rfl
theorem fn60 : ((Try.prog.funcs[60]?).map fun fn => fn.body.isSome && !(fn.name == "runtime.NumGoroutine")) = some true := by rw [Try.func60]; rfl
theorem fn47 : ((Try.prog.funcs[47]?).map fun fn => fn.body.isSome && !(fn.name == "runtime.NumGoroutine")) = some true := by rw [Try.func47]; rfl
theorem fn25 : ((Try.prog.funcs[25]?).map fun fn => fn.body.isSome && !(fn.name == "runtime.NumGoroutine")) = some true := by rw [Try.func25]; rfl
theorem fn31 : ((Try.prog.funcs[31]?).map fun fn => fn.body.isSome && !(fn.name == "runtime.NumGoroutine")) = some true := by rw [Try.func31]; rfl
theorem fn55 : ((Try.prog.funcs[55]?).map fun fn => fn.body.isSome && !(fn.name == "runtime.NumGoroutine")) = some true := by rw [Try.func55]; rfl
theorem fn36 : ((Try.prog.funcs[36]?).map fun fn => fn.body.isSome && !(fn.name == "runtime.NumGoroutine")) = some true := by rw [Try.func36]; rfl
theorem fn37 : ((Try.prog.funcs[37]?).map fun fn => fn.body.isSome && !(fn.name == "runtime.NumGoroutine")) = some true := by rw [Try.func37]; rfl
theorem fn11 : ((Try.prog.funcs[11]?).map fun fn => fn.body.isSome && !(fn.name == "runtime.NumGoroutine")) = some true := by rw [Try.func11]; rfl
theorem fn24 : ((Try.prog.funcs[24]?).map fun fn => fn.body.isSome && !(fn.name == "runtime.NumGoroutine")) = some true := by rw [Try.func24]; rfl
theorem fn7 : ((Try.prog.funcs[7]?).map fun fn => fn.body.isSome && !(fn.name == "runtime.NumGoroutine")) = some true := by rw [Try.func7]; rfl
/-! ### capstan/capstanlaw30.call: function 56 -/
def capstanlaw30_call.f (p_0 : Int) (start_1 : Int) (a2 : Int) : Option history_Call :=
  some (⟨p_0, (⟨1, 0, [], []⟩ : api_Op), false, (⟨0, (⟨0, (⟨0, 0, 0⟩ : api_Value)⟩ : api_Outcome)⟩ : api_Reply), start_1, a2⟩ : history_Call)
theorem capstanlaw30_call.ok (p_0 : Int) (start_1 : Int) (a2 : Int)  (r : history_Call) (H : capstanlaw30_call.f p_0 start_1 a2 = some r) (w : World) (hV : Hp) (sV : Sub hV (hp w))  :
    Trip Try.prog 56 [.int .i64 p_0, .int .i64 start_1, .int .i64 a2].toArray em hV w (fun v => HO.ex fun u0 : Value => HO.ex fun u1 : Value => HO.pand (v = .agg #[.int .i64 r.Proc, .int .u8 r.Op.Kind, .int .i64 r.Op.Method, u0, u1, .bool r.Read, .int .i64 r.Reply.Err, .int .i64 r.Reply.Out.Trap, .int .u8 r.Reply.Out.Result.Kind, .int .i64 r.Reply.Out.Result.A, .int .i64 r.Reply.Out.Result.B, .int .i64 r.Start, .int .i64 r.End]) (HO.seps [slO k_api_Value 37 u0 r.Op.Args, slO (kInt .u8) 5 u1 r.Op.Bytes])) := by
  have see : Sees w em hV := ⟨sV, Dj.em_right _⟩
  refine Trip.of (P := Try.prog) (n := ⟨12, []⟩) Try.func56 rfl ⟨rfl, rfl⟩ rfl (St.begin (All.nil _)) ?_
  have ho := H
  refine CP.seq ?_
  refine CP.region ?_
  refine SP.alloc (cs := [.int .i64 0, .int .u8 0, .int .i64 0, (.slice none 0 0), (.slice none 0 0), .bool false, .int .i64 0, .int .i64 0, .int .u8 0, .int .i64 0, .int .i64 0, .int .i64 0, .int .i64 0]) inf48 rfl rfl (fun b1 => ?_)
  refine SP.nil ?_
  refine QE.then ?_
  refine CP.seq ?_
  refine CP.region ?_
  refine SP.val (Val.move rfl) rfl rfl rfl ?_
  refine SP.val (Val.buildC (us := [(0, .int .u8 1)]) (ucs := [(0, [.int .u8 1])]) (cs := [.int .u8 1, .int .i64 0, (.slice none 0 0), (.slice none 0 0)]) bt34 rfl rfl ⟨rfl, rfl, trivial⟩ (by rfl)) rfl rfl rfl ?_
  refine SP.val (Val.move rfl) rfl rfl rfl ?_
  refine SP.val (Val.move rfl) rfl rfl rfl ?_
  refine SP.val (Val.buildC (us := [(0, .int .i64 p_0), (1, .agg #[.int .u8 1, .int .i64 0, (.slice none 0 0), (.slice none 0 0)]), (4, .int .i64 start_1), (5, .int .i64 a2)]) (ucs := [(0, [.int .i64 p_0]), (1, [.int .u8 1, .int .i64 0, (.slice none 0 0), (.slice none 0 0)]), (4, [.int .i64 start_1]), (5, [.int .i64 a2])]) (cs := [.int .i64 p_0, .int .u8 1, .int .i64 0, (.slice none 0 0), (.slice none 0 0), .bool false, .int .i64 0, .int .i64 0, .int .u8 0, .int .i64 0, .int .i64 0, .int .i64 start_1, .int .i64 a2]) bt48 rfl rfl ⟨rfl, rfl, ⟨rfl, rfl, ⟨rfl, rfl, ⟨rfl, rfl, trivial⟩⟩⟩⟩ (by rfl)) rfl rfl rfl ?_
  refine SP.store (v := .agg #[.int .i64 p_0, .int .u8 1, .int .i64 0, (.slice none 0 0), (.slice none 0 0), .bool false, .int .i64 0, .int .i64 0, .int .u8 0, .int .i64 0, .int .i64 0, .int .i64 start_1, .int .i64 a2]) (vs := [.int .i64 p_0, .int .u8 1, .int .i64 0, (.slice none 0 0), (.slice none 0 0), .bool false, .int .i64 0, .int .i64 0, .int .u8 0, .int .i64 0, .int .i64 0, .int .i64 start_1, .int .i64 a2]) 0 (by rfl) sz48 (by rfl) (by rfl) (by rfl) (by rfl) (by rfl) (by rfl) ?_
  refine SP.nil ?_
  refine QE.then ?_
  refine CP.ret ?_
  obtain rfl := Option.some.inj ho
  exact QE.rets (rs := [.cell 6 48]) (vs := [.agg #[.int .i64 p_0, .int .u8 1, .int .i64 0, (.slice none 0 0), (.slice none 0 0), .bool false, .int .i64 0, .int .i64 0, .int .u8 0, .int .i64 0, .int .i64 0, .int .i64 start_1, .int .i64 a2]]) Try.results56 rfl ⟨RVs.cellA 0 rfl rfl Try.underlying48 rfl sz48, trivial⟩ (fun w2 h => St.done (fun a b p s => ⟨_, _, rfl, s⟩) (St.selO [1, 0] rfl rfl (St.addO (slO.nil (kInt .u8) 5) (St.addO (slO.nil k_api_Value 37) h))))
/-! ### (capstan/history.Call).pending: function 48 -/
def history_Call_pending.f (c_0 : history_Call) : Option Bool :=
  some (decide (c_0.End = 0))
theorem history_Call_pending.ok (c_0 : history_Call) (v_c_0_Op_Args : Value) (v_c_0_Op_Bytes : Value) (r : Bool) (H : history_Call_pending.f c_0 = some r) (w : World) (hV : Hp) (sV : Sub hV (hp w)) (h0 : slR k_api_Value hV v_c_0_Op_Args c_0.Op.Args) (h1 : slR (kInt .u8) hV v_c_0_Op_Bytes c_0.Op.Bytes) :
    Trip Try.prog 48 [.agg #[.int .i64 c_0.Proc, .int .u8 c_0.Op.Kind, .int .i64 c_0.Op.Method, v_c_0_Op_Args, v_c_0_Op_Bytes, .bool c_0.Read, .int .i64 c_0.Reply.Err, .int .i64 c_0.Reply.Out.Trap, .int .u8 c_0.Reply.Out.Result.Kind, .int .i64 c_0.Reply.Out.Result.A, .int .i64 c_0.Reply.Out.Result.B, .int .i64 c_0.Start, .int .i64 c_0.End]].toArray em hV w (fun v => HO.pure (v = .bool r)) := by
  have see : Sees w em hV := ⟨sV, Dj.em_right _⟩
  refine Trip.of (P := Try.prog) (n := ⟨6, []⟩) Try.func48 rfl ⟨rfl, rfl⟩ rfl (St.begin (All.cons (x := slP k_api_Value v_c_0_Op_Args c_0.Op.Args) h0 (All.cons (x := slP (kInt .u8) v_c_0_Op_Bytes c_0.Op.Bytes) h1 (All.nil _)))) ?_
  have ho := H
  refine CP.seq ?_
  refine CP.region ?_
  refine SP.box (cs := [.int .i64 c_0.Proc, .int .u8 c_0.Op.Kind, .int .i64 c_0.Op.Method, v_c_0_Op_Args, v_c_0_Op_Bytes, .bool c_0.Read, .int .i64 c_0.Reply.Err, .int .i64 c_0.Reply.Out.Trap, .int .u8 c_0.Reply.Out.Result.Kind, .int .i64 c_0.Reply.Out.Result.A, .int .i64 c_0.Reply.Out.Result.B, .int .i64 c_0.Start, .int .i64 c_0.End]) rfl rfl rfl rfl (fun b3 => ?_)
  refine SP.val (Val.assign rfl) rfl rfl rfl ?_
  refine SP.nil ?_
  refine QE.then ?_
  refine CP.seq ?_
  refine CP.region ?_
  refine SP.val (Val.fieldAddr Try.underlying48 rfl sz3 rfl) rfl rfl rfl ?_
  refine SP.val (Val.load1 0 rfl Try.underlying3 rfl rfl rfl) rfl rfl rfl ?_
  refine SP.val (Val.eql rfl rfl) rfl rfl rfl ?_
  refine SP.val (Val.assign rfl) rfl rfl rfl ?_
  refine SP.nil ?_
  refine QE.then ?_
  refine CP.ret ?_
  obtain rfl := Option.some.inj ho
  exact QE.rets (rs := [.tmp 2]) (vs := [.bool (decide (c_0.End = 0))]) Try.results48 rfl ⟨RVs.tmp rfl, trivial⟩ (fun w2 h => St.done (fun a b p s => rfl) h)
/-! ### capstan/history.Ahead: function 33 -/
def history_Ahead.f (a_0 : history_Call) (b_1 : history_Call) : Option Bool :=
  (history_Call_pending.f a_0).bind fun t9 => some ((!t9) && (decide (a_0.End < b_1.Start)))
theorem history_Ahead.ok (a_0 : history_Call) (b_1 : history_Call) (v_a_0_Op_Args : Value) (v_a_0_Op_Bytes : Value) (v_b_1_Op_Args : Value) (v_b_1_Op_Bytes : Value) (r : Bool) (H : history_Ahead.f a_0 b_1 = some r) (w : World) (hV : Hp) (sV : Sub hV (hp w)) (h0 : slR k_api_Value hV v_a_0_Op_Args a_0.Op.Args) (h1 : slR (kInt .u8) hV v_a_0_Op_Bytes a_0.Op.Bytes) (h2 : slR k_api_Value hV v_b_1_Op_Args b_1.Op.Args) (h3 : slR (kInt .u8) hV v_b_1_Op_Bytes b_1.Op.Bytes) :
    Trip Try.prog 33 [.agg #[.int .i64 a_0.Proc, .int .u8 a_0.Op.Kind, .int .i64 a_0.Op.Method, v_a_0_Op_Args, v_a_0_Op_Bytes, .bool a_0.Read, .int .i64 a_0.Reply.Err, .int .i64 a_0.Reply.Out.Trap, .int .u8 a_0.Reply.Out.Result.Kind, .int .i64 a_0.Reply.Out.Result.A, .int .i64 a_0.Reply.Out.Result.B, .int .i64 a_0.Start, .int .i64 a_0.End], .agg #[.int .i64 b_1.Proc, .int .u8 b_1.Op.Kind, .int .i64 b_1.Op.Method, v_b_1_Op_Args, v_b_1_Op_Bytes, .bool b_1.Read, .int .i64 b_1.Reply.Err, .int .i64 b_1.Reply.Out.Trap, .int .u8 b_1.Reply.Out.Result.Kind, .int .i64 b_1.Reply.Out.Result.A, .int .i64 b_1.Reply.Out.Result.B, .int .i64 b_1.Start, .int .i64 b_1.End]].toArray em hV w (fun v => HO.pure (v = .bool r)) := by
  have see : Sees w em hV := ⟨sV, Dj.em_right _⟩
  refine Trip.of (P := Try.prog) (n := ⟨15, []⟩) Try.func33 rfl ⟨rfl, rfl⟩ rfl (St.begin (All.cons (x := slP k_api_Value v_a_0_Op_Args a_0.Op.Args) h0 (All.cons (x := slP (kInt .u8) v_a_0_Op_Bytes a_0.Op.Bytes) h1 (All.cons (x := slP k_api_Value v_b_1_Op_Args b_1.Op.Args) h2 (All.cons (x := slP (kInt .u8) v_b_1_Op_Bytes b_1.Op.Bytes) h3 (All.nil _)))))) ?_
  have ho := H
  refine CP.seq ?_
  refine CP.region ?_
  refine SP.box (cs := [.int .i64 a_0.Proc, .int .u8 a_0.Op.Kind, .int .i64 a_0.Op.Method, v_a_0_Op_Args, v_a_0_Op_Bytes, .bool a_0.Read, .int .i64 a_0.Reply.Err, .int .i64 a_0.Reply.Out.Trap, .int .u8 a_0.Reply.Out.Result.Kind, .int .i64 a_0.Reply.Out.Result.A, .int .i64 a_0.Reply.Out.Result.B, .int .i64 a_0.Start, .int .i64 a_0.End]) rfl rfl rfl rfl (fun b5 => ?_)
  refine SP.box (cs := [.int .i64 b_1.Proc, .int .u8 b_1.Op.Kind, .int .i64 b_1.Op.Method, v_b_1_Op_Args, v_b_1_Op_Bytes, .bool b_1.Read, .int .i64 b_1.Reply.Err, .int .i64 b_1.Reply.Out.Trap, .int .u8 b_1.Reply.Out.Result.Kind, .int .i64 b_1.Reply.Out.Result.A, .int .i64 b_1.Reply.Out.Result.B, .int .i64 b_1.Start, .int .i64 b_1.End]) rfl rfl rfl rfl (fun b7 => ?_)
  refine SP.val (Val.assign rfl) rfl rfl rfl ?_
  refine SP.nil ?_
  refine QE.then ?_
  refine CP.seq ?_
  refine CP.region ?_
  refine SP.val (Val.loadA 1 rfl Try.underlying48 rfl sz48 rfl rfl rfl) rfl rfl rfl ?_
  obtain ⟨t9, hc, ho⟩ := bind_some ho
  refine SP.callV see (caps := []) (.bool t9) fn48 rfl rfl rfl rfl (fun w2 hP hs sub ap => history_Call_pending.ok a_0 _ _ _ hc w2 hP sub (ap.get 0 rfl) (ap.get 1 rfl)) ?_
  clear hc
  refine SP.val (Val.notB rfl) rfl rfl rfl ?_
  refine SP.val (Val.move rfl) rfl rfl rfl ?_
  refine SP.join 6 (fun a w2 => Env ⟨15, []⟩ [(14, .bool ((!t9) && (decide (a_0.End < b_1.Start))))] a ∧ St w em hV [slP k_api_Value v_a_0_Op_Args a_0.Op.Args, slP (kInt .u8) v_a_0_Op_Bytes a_0.Op.Bytes, slP k_api_Value v_b_1_Op_Args b_1.Op.Args, slP (kInt .u8) v_b_1_Op_Bytes b_1.Op.Bytes] [boxO b7 [.int .i64 b_1.Proc, .int .u8 b_1.Op.Kind, .int .i64 b_1.Op.Method, v_b_1_Op_Args, v_b_1_Op_Bytes, .bool b_1.Read, .int .i64 b_1.Reply.Err, .int .i64 b_1.Reply.Out.Trap, .int .u8 b_1.Reply.Out.Result.Kind, .int .i64 b_1.Reply.Out.Result.A, .int .i64 b_1.Reply.Out.Result.B, .int .i64 b_1.Start, .int .i64 b_1.End] 48, boxO b5 [.int .i64 a_0.Proc, .int .u8 a_0.Op.Kind, .int .i64 a_0.Op.Method, v_a_0_Op_Args, v_a_0_Op_Bytes, .bool a_0.Read, .int .i64 a_0.Reply.Err, .int .i64 a_0.Reply.Out.Trap, .int .u8 a_0.Reply.Out.Result.Kind, .int .i64 a_0.Reply.Out.Result.A, .int .i64 a_0.Reply.Out.Result.B, .int .i64 a_0.Start, .int .i64 a_0.End] 48] w2) ?_ ?_
  · rintro a w2 ⟨ha, hw⟩
    refine SP.app ha hw ?_
    clear ha hw a w2
    refine SP.val (Val.assign rfl) rfl rfl rfl ?_
    refine SP.nil ?_
    refine QE.then ?_
    refine CP.ret ?_
    obtain rfl := Option.some.inj ho
    exact QE.rets (rs := [.tmp 4]) (vs := [.bool ((!t9) && (decide (a_0.End < b_1.Start)))]) Try.results33 rfl ⟨RVs.tmp rfl, trivial⟩ (fun w2 h => St.done (fun a b p s => rfl) h)
  · intro J
    by_cases hc : (!t9) = true
    · have hq11 := hc
      refine SP.isT (d := 8) rfl hq11 ?_
      refine SP.val (Val.fieldAddr Try.underlying48 rfl sz3 rfl) rfl rfl rfl ?_
      refine SP.val (Val.load1 1 rfl Try.underlying3 rfl rfl rfl) rfl rfl rfl ?_
      refine SP.val (Val.fieldAddr Try.underlying48 rfl sz3 rfl) rfl rfl rfl ?_
      refine SP.val (Val.load1 0 rfl Try.underlying3 rfl rfl rfl) rfl rfl rfl ?_
      refine SP.val (Val.lss rfl rfl) rfl rfl rfl ?_
      refine SP.val (Val.pickT rfl rfl) rfl rfl rfl ?_
      exact J fun a w2 ha hw => ⟨ha.sub ⟨congrArg (fun z => some (Value.bool z)) (and_t hq11 rfl), trivial⟩, hw⟩
    · have hq11 := (bf hc)
      refine SP.isF (d := 8) rfl hq11 ?_
      refine SP.not rfl rfl rfl ?_
      refine SP.not rfl rfl rfl ?_
      refine SP.not rfl rfl rfl ?_
      refine SP.not rfl rfl rfl ?_
      refine SP.not rfl rfl rfl ?_
      refine SP.val (Val.pickF rfl rfl) rfl rfl rfl ?_
      exact J fun a w2 ha hw => ⟨ha.sub ⟨congrArg (fun z => some (Value.bool z)) (and_f hq11), trivial⟩, hw⟩
/-! ### capstan/history.Width$1: function 51 -/
def history_Width_1_s1.f (c_0 : history_Call) (c0_3 : Int) (c0_4 : Int) (c0_5 : Int) (c0_6 : List api_Value) (c0_8 : List Int) (c0_10 : Bool) (c0_11 : Int) (c0_12 : Int) (c0_13 : Int) (c0_14 : Int) (c0_15 : Int) (c0_16 : Int) (c0_17 : Int) : Option Bool :=
  (if c_0.Start ≤ c0_16 then ((history_Call_pending.f c_0).bind fun t24 => some (t24 || (decide (c_0.End ≥ c0_16)))) else (some false)).bind fun t27 => some t27
theorem history_Width_1_s1.ok (c_0 : history_Call) (c0_3 : Int) (c0_4 : Int) (c0_5 : Int) (c0_6 : List api_Value) (c0_8 : List Int) (c0_10 : Bool) (c0_11 : Int) (c0_12 : Int) (c0_13 : Int) (c0_14 : Int) (c0_15 : Int) (c0_16 : Int) (c0_17 : Int) (v_c_0_Op_Args : Value) (v_c_0_Op_Bytes : Value) (v_c0_6 : Value) (v_c0_8 : Value) (b18 : Nat) (r : Bool) (H : history_Width_1_s1.f c_0 c0_3 c0_4 c0_5 c0_6 c0_8 c0_10 c0_11 c0_12 c0_13 c0_14 c0_15 c0_16 c0_17 = some r) (w : World) (hV : Hp) (sV : Sub hV (hp w)) (h0 : slR k_api_Value hV v_c_0_Op_Args c_0.Op.Args) (h1 : slR (kInt .u8) hV v_c_0_Op_Bytes c_0.Op.Bytes) (h2 : slR k_api_Value hV v_c0_6 c0_6) (h3 : slR (kInt .u8) hV v_c0_8 c0_8) (h4 : (boxP b18 [.int .i64 c0_3, .int .u8 c0_4, .int .i64 c0_5, v_c0_6, v_c0_8, .bool c0_10, .int .i64 c0_11, .int .i64 c0_12, .int .u8 c0_13, .int .i64 c0_14, .int .i64 c0_15, .int .i64 c0_16, .int .i64 c0_17] 48).p hV) :
    Trip Try.prog 51 [.agg #[.int .i64 c_0.Proc, .int .u8 c_0.Op.Kind, .int .i64 c_0.Op.Method, v_c_0_Op_Args, v_c_0_Op_Bytes, .bool c_0.Read, .int .i64 c_0.Reply.Err, .int .i64 c_0.Reply.Out.Trap, .int .u8 c_0.Reply.Out.Result.Kind, .int .i64 c_0.Reply.Out.Result.A, .int .i64 c_0.Reply.Out.Result.B, .int .i64 c_0.Start, .int .i64 c_0.End], .pointer (some ⟨b18, 0, none⟩)].toArray em hV w (fun v => HO.pure (v = .bool r)) := by
  have see : Sees w em hV := ⟨sV, Dj.em_right _⟩
  refine Trip.of (P := Try.prog) (n := ⟨20, []⟩) Try.func51 rfl ⟨rfl, rfl⟩ rfl (St.begin (All.cons (x := slP k_api_Value v_c_0_Op_Args c_0.Op.Args) h0 (All.cons (x := slP (kInt .u8) v_c_0_Op_Bytes c_0.Op.Bytes) h1 (All.cons (x := slP k_api_Value v_c0_6 c0_6) h2 (All.cons (x := slP (kInt .u8) v_c0_8 c0_8) h3 (All.cons (x := boxP b18 [.int .i64 c0_3, .int .u8 c0_4, .int .i64 c0_5, v_c0_6, v_c0_8, .bool c0_10, .int .i64 c0_11, .int .i64 c0_12, .int .u8 c0_13, .int .i64 c0_14, .int .i64 c0_15, .int .i64 c0_16, .int .i64 c0_17] 48) h4 (All.nil _))))))) ?_
  have ho := H
  refine CP.seq ?_
  refine CP.region ?_
  refine SP.box (cs := [.int .i64 c_0.Proc, .int .u8 c_0.Op.Kind, .int .i64 c_0.Op.Method, v_c_0_Op_Args, v_c_0_Op_Bytes, .bool c_0.Read, .int .i64 c_0.Reply.Err, .int .i64 c_0.Reply.Out.Trap, .int .u8 c_0.Reply.Out.Result.Kind, .int .i64 c_0.Reply.Out.Result.A, .int .i64 c_0.Reply.Out.Result.B, .int .i64 c_0.Start, .int .i64 c_0.End]) rfl rfl rfl rfl (fun b20 => ?_)
  refine SP.val (Val.assign rfl) rfl rfl rfl ?_
  refine SP.nil ?_
  refine QE.then ?_
  refine CP.seq ?_
  refine CP.region ?_
  refine SP.val (Val.fieldAddr Try.underlying48 rfl sz3 rfl) rfl rfl rfl ?_
  refine SP.val (Val.load1 0 rfl Try.underlying3 rfl rfl rfl) rfl rfl rfl ?_
  refine SP.val (Val.fieldAddr Try.underlying48 rfl sz3 rfl) rfl rfl rfl ?_
  refine SP.val (Val.loadB1 see 4 rfl Try.underlying3 rfl rfl rfl) rfl rfl rfl ?_
  refine SP.val (Val.leq rfl rfl) rfl rfl rfl ?_
  refine SP.val (Val.move rfl) rfl rfl rfl ?_
  obtain ⟨t27, hg_t27, ho⟩ := bind_some ho
  refine SP.join 10 (fun a w2 => Env ⟨20, []⟩ [(19, .bool t27)] a ∧ St w em hV [slP k_api_Value v_c_0_Op_Args c_0.Op.Args, slP (kInt .u8) v_c_0_Op_Bytes c_0.Op.Bytes, slP k_api_Value v_c0_6 c0_6, slP (kInt .u8) v_c0_8 c0_8, boxP b18 [.int .i64 c0_3, .int .u8 c0_4, .int .i64 c0_5, v_c0_6, v_c0_8, .bool c0_10, .int .i64 c0_11, .int .i64 c0_12, .int .u8 c0_13, .int .i64 c0_14, .int .i64 c0_15, .int .i64 c0_16, .int .i64 c0_17] 48] [boxO b20 [.int .i64 c_0.Proc, .int .u8 c_0.Op.Kind, .int .i64 c_0.Op.Method, v_c_0_Op_Args, v_c_0_Op_Bytes, .bool c_0.Read, .int .i64 c_0.Reply.Err, .int .i64 c_0.Reply.Out.Trap, .int .u8 c_0.Reply.Out.Result.Kind, .int .i64 c_0.Reply.Out.Result.A, .int .i64 c_0.Reply.Out.Result.B, .int .i64 c_0.Start, .int .i64 c_0.End] 48] w2) ?_ ?_
  · rintro a w2 ⟨ha, hw⟩
    refine SP.app ha hw ?_
    clear ha hw a w2 hg_t27
    refine SP.val (Val.assign rfl) rfl rfl rfl ?_
    refine SP.nil ?_
    refine QE.then ?_
    refine CP.ret ?_
    obtain rfl := Option.some.inj ho
    exact QE.rets (rs := [.tmp 3]) (vs := [.bool t27]) Try.results51 rfl ⟨RVs.tmp rfl, trivial⟩ (fun w2 h => St.done (fun a b p s => rfl) h)
  · intro J
    clear ho
    have ho := hg_t27
    clear hg_t27
    rcases if_some ho with ⟨hc, ho⟩ | ⟨hc, ho⟩
    · have hq23 := (decide_eq_true hc)
      refine SP.isT (d := 9) rfl hq23 ?_
      refine SP.val (Val.loadA 0 rfl Try.underlying48 rfl sz48 rfl rfl rfl) rfl rfl rfl ?_
      obtain ⟨t24, hc, ho⟩ := bind_some ho
      refine SP.callV see (caps := []) (.bool t24) fn48 rfl rfl rfl rfl (fun w2 hP hs sub ap => history_Call_pending.ok c_0 _ _ _ hc w2 hP sub (ap.get 0 rfl) (ap.get 1 rfl)) ?_
      clear hc
      refine SP.val (Val.move rfl) rfl rfl rfl ?_
      refine SP.join 6 (fun a w2 => Env ⟨20, []⟩ [(9, .bool true), (18, .bool (t24 || (decide (c_0.End ≥ c0_16))))] a ∧ St w em hV [slP k_api_Value v_c_0_Op_Args c_0.Op.Args, slP (kInt .u8) v_c_0_Op_Bytes c_0.Op.Bytes, slP k_api_Value v_c0_6 c0_6, slP (kInt .u8) v_c0_8 c0_8, boxP b18 [.int .i64 c0_3, .int .u8 c0_4, .int .i64 c0_5, v_c0_6, v_c0_8, .bool c0_10, .int .i64 c0_11, .int .i64 c0_12, .int .u8 c0_13, .int .i64 c0_14, .int .i64 c0_15, .int .i64 c0_16, .int .i64 c0_17] 48] [boxO b20 [.int .i64 c_0.Proc, .int .u8 c_0.Op.Kind, .int .i64 c_0.Op.Method, v_c_0_Op_Args, v_c_0_Op_Bytes, .bool c_0.Read, .int .i64 c_0.Reply.Err, .int .i64 c_0.Reply.Out.Trap, .int .u8 c_0.Reply.Out.Result.Kind, .int .i64 c_0.Reply.Out.Result.A, .int .i64 c_0.Reply.Out.Result.B, .int .i64 c_0.Start, .int .i64 c_0.End] 48] w2) ?_ ?_
      · rintro a w2 ⟨ha, hw⟩
        refine SP.app ha hw ?_
        clear ha hw a w2
        refine SP.val (Val.pickT rfl rfl) rfl rfl rfl ?_
        obtain rfl := Option.some.inj ho
        exact J fun a w2 ha hw => ⟨ha.sub ⟨rfl, trivial⟩, hw⟩
      · intro J
        by_cases hc : t24 = true
        · have hq26 := hc
          refine SP.isT (d := 12) rfl hq26 ?_
          refine SP.not rfl rfl rfl ?_
          refine SP.not rfl rfl rfl ?_
          refine SP.not rfl rfl rfl ?_
          refine SP.not rfl rfl rfl ?_
          refine SP.not rfl rfl rfl ?_
          refine SP.val (Val.pickT rfl rfl) rfl rfl rfl ?_
          exact J fun a w2 ha hw => ⟨ha.sub ⟨rfl, congrArg (fun z => some (Value.bool z)) (or_t hq26), trivial⟩, hw⟩
        · have hq26 := (bf hc)
          refine SP.isF (d := 12) rfl hq26 ?_
          refine SP.val (Val.fieldAddr Try.underlying48 rfl sz3 rfl) rfl rfl rfl ?_
          refine SP.val (Val.load1 0 rfl Try.underlying3 rfl rfl rfl) rfl rfl rfl ?_
          refine SP.val (Val.fieldAddr Try.underlying48 rfl sz3 rfl) rfl rfl rfl ?_
          refine SP.val (Val.loadB1 see 4 rfl Try.underlying3 rfl rfl rfl) rfl rfl rfl ?_
          refine SP.val (Val.geq rfl rfl) rfl rfl rfl ?_
          refine SP.val (Val.pickF rfl rfl) rfl rfl rfl ?_
          exact J fun a w2 ha hw => ⟨ha.sub ⟨rfl, congrArg (fun z => some (Value.bool z)) (or_f hq26 rfl), trivial⟩, hw⟩
    · have hq23 := (decide_eq_false hc)
      refine SP.isF (d := 9) rfl hq23 ?_
      refine SP.not rfl rfl rfl ?_
      refine SP.not rfl rfl rfl ?_
      refine SP.not rfl rfl rfl ?_
      refine SP.not rfl rfl rfl ?_
      refine SP.not rfl rfl rfl ?_
      refine SP.not rfl rfl rfl ?_
      refine SP.not rfl rfl rfl ?_
      refine SP.not rfl rfl rfl ?_
      refine SP.not rfl rfl rfl ?_
      refine SP.val (Val.pickF rfl rfl) rfl rfl rfl ?_
      obtain rfl := Option.some.inj ho
      exact J fun a w2 ha hw => ⟨ha.sub ⟨rfl, trivial⟩, hw⟩
/-! ### capstan/history.Width$2: function 53 -/
inductive history_Width_2_s1.S (S_ : Type) where
  | start
  | l1 (s39 : S_) (x40 : Int)

def history_Width_2_s1.F {S_ : Type} (Y : S_ → history_Call → Option (S_ × Bool)) (y0 : S_) (c0_1 : List history_Call) (c1_5 : Int) (c1_6 : Int) (c1_7 : Int) (c1_8 : List api_Value) (c1_10 : List Int) (c1_12 : Bool) (c1_13 : Int) (c1_14 : Int) (c1_15 : Int) (c1_16 : Int) (c1_17 : Int) (c1_18 : Int) (c1_19 : Int) : history_Width_2_s1.S S_ → Option (history_Width_2_s1.S S_ ⊕ S_)
  | .start => some (.inl (.l1 y0 0))
  | .l1 s39 x40 => if x40 < (c0_1.length : Int) then ((elt c0_1 x40).bind fun x44 => (history_Width_1_s1.f x44 c1_5 c1_6 c1_7 c1_8 c1_10 c1_12 c1_13 c1_14 c1_15 c1_16 c1_17 c1_18 c1_19).bind fun t51 => (if t51 = true then ((Y s39 x44).bind fun y54 => some (!y54.2, y54.1)) else (some (false, s39))).bind fun t55 => if t55.1 = true then (some (.inr t55.2)) else (some (.inl (.l1 t55.2 (IntKind.i64.wrap (x40 + 1)))))) else (some (.inr s39))

def history_Width_2_s1.f {S_ : Type} (Y : S_ → history_Call → Option (S_ × Bool)) (y0 : S_) (c0_1 : List history_Call) (c1_5 : Int) (c1_6 : Int) (c1_7 : Int) (c1_8 : List api_Value) (c1_10 : List Int) (c1_12 : Bool) (c1_13 : Int) (c1_14 : Int) (c1_15 : Int) (c1_16 : Int) (c1_17 : Int) (c1_18 : Int) (c1_19 : Int) : Option S_ := runF (history_Width_2_s1.F Y y0 c0_1 c1_5 c1_6 c1_7 c1_8 c1_10 c1_12 c1_13 c1_14 c1_15 c1_16 c1_17 c1_18 c1_19) .start
theorem history_Width_2_s1.ok {S_ : Type} (Y : S_ → history_Call → Option (S_ × Bool)) (y0 : S_) (c0_1 : List history_Call) (c1_5 : Int) (c1_6 : Int) (c1_7 : Int) (c1_8 : List api_Value) (c1_10 : List Int) (c1_12 : Bool) (c1_13 : Int) (c1_14 : Int) (c1_15 : Int) (c1_16 : Int) (c1_17 : Int) (c1_18 : Int) (c1_19 : Int) (v_c0_1 : Value) (b3 : Nat) (v_c1_8 : Value) (v_c1_10 : Value) (b20 : Nat) (b22 : Nat) (r : S_) (H : history_Width_2_s1.f Y y0 c0_1 c1_5 c1_6 c1_7 c1_8 c1_10 c1_12 c1_13 c1_14 c1_15 c1_16 c1_17 c1_18 c1_19 = some r) (w : World) (hV : Hp) (sV : Sub hV (hp w)) (h0 : slR k_history_Call hV v_c0_1 c0_1) (h1 : (boxP b3 [v_c0_1] 44).p hV) (h2 : slR k_api_Value hV v_c1_8 c1_8) (h3 : slR (kInt .u8) hV v_c1_10 c1_10) (h4 : (boxP b20 [.int .i64 c1_5, .int .u8 c1_6, .int .i64 c1_7, v_c1_8, v_c1_10, .bool c1_12, .int .i64 c1_13, .int .i64 c1_14, .int .u8 c1_15, .int .i64 c1_16, .int .i64 c1_17, .int .i64 c1_18, .int .i64 c1_19] 48).p hV) (h5 : (boxP b22 [.func (.func 51) #[] #[.pointer (some ⟨b20, 0, none⟩)]] 76).p hV) (lY : Nat) (I : S_ → HO) (hA : Hp) (sA : Sub hA (hp w)) (dA : Dj hV hA) (hI : (I y0).p hV hA) (hY : Go.Q.Yields Try.prog lY hV Y I (E1 k_history_Call true)) :
    Trip Try.prog 53 [.func (.yield lY) #[] #[], .pointer (some ⟨b3, 0, none⟩), .pointer (some ⟨b22, 0, none⟩)].toArray hA hV w (fun v => HO.pand (v = .tuple #[]) (HO.seps [I r])) := by
  have see : Sees w hA hV := ⟨sV, dA⟩
  refine Trip.of (P := Try.prog) (n := ⟨22, []⟩) Try.func53 rfl ⟨rfl, rfl⟩ rfl (St.beginA (os := [I y0]) sA (All.cons (x := slP k_history_Call v_c0_1 c0_1) h0 (All.cons (x := boxP b3 [v_c0_1] 44) h1 (All.cons (x := slP k_api_Value v_c1_8 c1_8) h2 (All.cons (x := slP (kInt .u8) v_c1_10 c1_10) h3 (All.cons (x := boxP b20 [.int .i64 c1_5, .int .u8 c1_6, .int .i64 c1_7, v_c1_8, v_c1_10, .bool c1_12, .int .i64 c1_13, .int .i64 c1_14, .int .u8 c1_15, .int .i64 c1_16, .int .i64 c1_17, .int .i64 c1_18, .int .i64 c1_19] 48) h4 (All.cons (x := boxP b22 [.func (.func 51) #[] #[.pointer (some ⟨b20, 0, none⟩)]] 76) h5 (All.nil _))))))) ⟨hA, em, Dj.em_right _, Sub.refl _, Sub.em _, hI, trivial⟩) ?_
  obtain ⟨n0, hi⟩ := runF_iff.1 H
  obtain ⟨m0, o, hm0, ho, hr⟩ := iter_some hi
  clear hi
  refine CP.seq ?_
  refine CP.region ?_
  refine SP.val (Val.loadB1 see 1 rfl Try.underlying44 rfl rfl rfl) rfl rfl rfl ?_
  refine SP.val (Val.lenP see 0 rfl Try.underlying44 rfl) rfl rfl rfl ?_
  refine SP.val (Val.move rfl) rfl rfl rfl ?_
  refine SP.nil ?_
  refine QE.then ?_
  refine CP.block ?_
  obtain rfl := Option.some.inj ho
  refine CP.loop (fun cl1 a w2 => ∃ s39 : S_, ∃ x40 : Int, cl1 ≤ m0 ∧ iter (history_Width_2_s1.F Y y0 c0_1 c1_5 c1_6 c1_7 c1_8 c1_10 c1_12 c1_13 c1_14 c1_15 c1_16 c1_17 c1_18 c1_19) cl1 (.l1 s39 x40) = some r ∧ Env ⟨22, []⟩ [(0, .func (.yield lY) #[] #[]), (2, .pointer (some ⟨b22, 0, none⟩)), (6, v_c0_1), (7, .int .i64 (c0_1.length : Int)), (8, .int .i64 x40)] a ∧ St w hA hV [slP k_history_Call v_c0_1 c0_1, slP k_api_Value v_c1_8 c1_8, slP (kInt .u8) v_c1_10 c1_10, boxP b20 [.int .i64 c1_5, .int .u8 c1_6, .int .i64 c1_7, v_c1_8, v_c1_10, .bool c1_12, .int .i64 c1_13, .int .i64 c1_14, .int .u8 c1_15, .int .i64 c1_16, .int .i64 c1_17, .int .i64 c1_18, .int .i64 c1_19] 48, boxP b22 [.func (.func 51) #[] #[.pointer (some ⟨b20, 0, none⟩)]] 76] [I s39] w2) m0 (fun a w2 ha hw => ⟨y0, 0, Nat.le_refl _, hr, ha.sub ⟨rfl, rfl, rfl, rfl, rfl, trivial⟩, (St.selP [0, 2, 3, 4, 5] rfl hw)⟩) ?_
  clear hr
  rintro cl1 a w2 ⟨s39, x40, hc_l1, hi, ha, hw⟩
  obtain ⟨m41, o, hm_m41, ho, hr⟩ := iter_some hi
  refine CP.app ha hw ?_
  clear ha hw a w2 hi
  refine CP.seq ?_
  refine CP.region ?_
  refine SP.val (Val.lss rfl rfl) rfl rfl rfl ?_
  refine SP.nil ?_
  refine QE.then ?_
  refine CP.seq ?_
  rcases if_some ho with ⟨hc, ho⟩ | ⟨hc, ho⟩
  · refine CP.condT rfl (decide_eq_true hc) ?_
    refine CP.skip ?_
    refine QE.then ?_
    refine CP.seq ?_
    refine CP.block ?_
    refine CP.seq ?_
    refine CP.region ?_
    obtain ⟨x44, hx, ho⟩ := bind_some ho
    have hx := elt_some hx
    refine SP.indexP see 0 rfl Try.underlying44 sz48 hx.1 hx.2 rfl rfl rfl rfl (fun p42 => ?_)
    clear hx
    refine k_history_Call.load see 0 rfl Try.underlying48 rfl sz48 rfl rfl rfl (fun v45 v47 => ?_)
    refine SP.alloc (cs := [.int .i64 0, .int .u8 0, .int .i64 0, (.slice none 0 0), (.slice none 0 0), .bool false, .int .i64 0, .int .i64 0, .int .u8 0, .int .i64 0, .int .i64 0, .int .i64 0, .int .i64 0]) inf48 rfl rfl (fun b49 => ?_)
    refine SP.have (fun w2 hw => slR.shape (St.pers 0 rfl see.sub see.dj hw)) (fun hs_v45 => ?_)
    refine SP.have (fun w2 hw => slR.shape (St.pers 1 rfl see.sub see.dj hw)) (fun hs_v47 => ?_)
    refine SP.store (v := .agg #[.int .i64 x44.Proc, .int .u8 x44.Op.Kind, .int .i64 x44.Op.Method, v45, v47, .bool x44.Read, .int .i64 x44.Reply.Err, .int .i64 x44.Reply.Out.Trap, .int .u8 x44.Reply.Out.Result.Kind, .int .i64 x44.Reply.Out.Result.A, .int .i64 x44.Reply.Out.Result.B, .int .i64 x44.Start, .int .i64 x44.End]) (vs := [.int .i64 x44.Proc, .int .u8 x44.Op.Kind, .int .i64 x44.Op.Method, v45, v47, .bool x44.Read, .int .i64 x44.Reply.Err, .int .i64 x44.Reply.Out.Trap, .int .u8 x44.Reply.Out.Result.Kind, .int .i64 x44.Reply.Out.Result.A, .int .i64 x44.Reply.Out.Result.B, .int .i64 x44.Start, .int .i64 x44.End]) 0 (by rfl) sz48 (by rfl) (by rfl) (by rfl) (by rfl) (one_cons rfl (one_cons rfl (one_cons rfl (one_cons hs_v45 (one_cons hs_v47 (one_cons rfl (one_cons rfl (one_cons rfl (one_cons rfl (one_cons rfl (one_cons rfl (one_cons rfl (one_cons rfl (rfl)))))))))))))) (by rfl) ?_
    refine SP.nil ?_
    refine QE.then ?_
    refine CP.seq ?_
    refine CP.region ?_
    refine SP.val (Val.loadB1 see 7 rfl Try.underlying76 rfl rfl rfl) rfl rfl rfl ?_
    refine SP.val (Val.loadA 0 rfl Try.underlying48 rfl sz48 rfl rfl rfl) rfl rfl rfl ?_
    obtain ⟨t51, hc, ho⟩ := bind_some ho
    refine SP.callV see (caps := [.pointer (some ⟨b20, 0, none⟩)]) (.bool t51) fn51 rfl rfl rfl rfl (fun w2 hP hs sub ap => history_Width_1_s1.ok x44 c1_5 c1_6 c1_7 c1_8 c1_10 c1_12 c1_13 c1_14 c1_15 c1_16 c1_17 c1_18 c1_19 _ _ _ _ _ _ hc w2 hP sub (ap.get 0 rfl) (ap.get 1 rfl) (ap.get 4 rfl) (ap.get 5 rfl) (ap.get 6 rfl)) ?_
    clear hc
    refine SP.val (Val.move rfl) rfl rfl rfl ?_
    obtain ⟨t55, hg_t55, ho⟩ := bind_some ho
    refine SP.join 5 (fun a w2 => Env ⟨22, []⟩ [(0, .func (.yield lY) #[] #[]), (2, .pointer (some ⟨b22, 0, none⟩)), (6, v_c0_1), (7, .int .i64 (c0_1.length : Int)), (8, .int .i64 x40), (20, .bool t55.1)] a ∧ St w hA hV [slP k_api_Value v45 x44.Op.Args, slP (kInt .u8) v47 x44.Op.Bytes, elP k_history_Call p42 x44, slP k_history_Call v_c0_1 c0_1, slP k_api_Value v_c1_8 c1_8, slP (kInt .u8) v_c1_10 c1_10, boxP b20 [.int .i64 c1_5, .int .u8 c1_6, .int .i64 c1_7, v_c1_8, v_c1_10, .bool c1_12, .int .i64 c1_13, .int .i64 c1_14, .int .u8 c1_15, .int .i64 c1_16, .int .i64 c1_17, .int .i64 c1_18, .int .i64 c1_19] 48, boxP b22 [.func (.func 51) #[] #[.pointer (some ⟨b20, 0, none⟩)]] 76] [boxO b49 [.int .i64 x44.Proc, .int .u8 x44.Op.Kind, .int .i64 x44.Op.Method, v45, v47, .bool x44.Read, .int .i64 x44.Reply.Err, .int .i64 x44.Reply.Out.Trap, .int .u8 x44.Reply.Out.Result.Kind, .int .i64 x44.Reply.Out.Result.A, .int .i64 x44.Reply.Out.Result.B, .int .i64 x44.Start, .int .i64 x44.End] 48, I t55.2] w2) ?_ ?_
    · rintro a w2 ⟨ha, hw⟩
      refine SP.app ha hw ?_
      clear ha hw a w2 hg_t55
      refine SP.nil ?_
      refine QE.then ?_
      rcases if_some ho with ⟨hc, ho⟩ | ⟨hc, ho⟩
      · refine CP.condT rfl hc ?_
        refine CP.ret ?_
        refine QE.blockR ?_
        refine QE.thru (by intro e; cases e) ?_
        refine QE.thru (by intro e; cases e) ?_
        refine QE.blockR ?_
        obtain rfl := Option.some.inj ho
        obtain rfl := Option.some.inj hr
        exact QE.rets (rs := []) (vs := []) Try.results53 rfl trivial (fun w2 h => St.done (fun a b p s => ⟨rfl, s⟩) (St.selO [1] rfl rfl h))
      · refine CP.condF rfl (bf hc) ?_
        refine CP.skip ?_
        refine QE.blockN ?_
        refine QE.then ?_
        refine CP.region ?_
        refine SP.val (Val.add rfl rfl) rfl rfl rfl ?_
        refine SP.val (Val.move rfl) rfl rfl rfl ?_
        refine SP.nil ?_
        obtain rfl := Option.some.inj ho
        exact QE.lower m41 (by omega) fun a w2 ha hw => ⟨t55.2, (IntKind.i64.wrap (x40 + 1)), (by omega), hr, ha.sub ⟨rfl, rfl, rfl, rfl, rfl, trivial⟩, (St.selP [3, 4, 5, 6, 7] rfl (St.selO [1] rfl rfl hw))⟩
    · intro J
      clear ho
      have ho := hg_t55
      clear hg_t55
      rcases if_some ho with ⟨hc, ho⟩ | ⟨hc, ho⟩
      · have hq53 := hc
        refine SP.isT (d := 15) rfl hq53 ?_
        refine SP.val (Val.move rfl) rfl rfl rfl ?_
        refine SP.val (Val.loadA 0 rfl Try.underlying48 rfl sz48 rfl rfl rfl) rfl rfl rfl ?_
        refine SP.imp (fun w2 hw => St.selO [1, 0] rfl rfl hw) ?_
        obtain ⟨y54, hc, ho⟩ := bind_some ho
        refine SP.callY see hY (t := y54.1) (b := y54.2) hc rfl rfl rfl rfl (fun hP ap => ⟨_, rfl, ⟨_, ⟨_, _, rfl, ap.get 0 rfl, ap.get 1 rfl⟩, rfl⟩⟩) ?_
        clear hc
        refine SP.val (Val.notB rfl) rfl rfl rfl ?_
        refine SP.val (Val.pickT rfl rfl) rfl rfl rfl ?_
        obtain rfl := Option.some.inj ho
        exact J fun a w2 ha hw => ⟨ha.sub ⟨rfl, rfl, rfl, rfl, rfl, rfl, trivial⟩, (St.selO [1, 0] rfl rfl hw)⟩
      · have hq53 := (bf hc)
        refine SP.isF (d := 15) rfl hq53 ?_
        refine SP.not rfl rfl rfl ?_
        refine SP.not rfl rfl rfl ?_
        refine SP.not rfl rfl rfl ?_
        refine SP.not rfl rfl rfl ?_
        refine SP.val (Val.pickF rfl rfl) rfl rfl rfl ?_
        obtain rfl := Option.some.inj ho
        exact J fun a w2 ha hw => ⟨ha.sub ⟨rfl, rfl, rfl, rfl, rfl, rfl, trivial⟩, hw⟩
  · refine CP.condF rfl (decide_eq_false hc) ?_
    refine CP.exit ?_
    refine QE.thru (by intro e; cases e) ?_
    refine QE.thru (by intro e; cases e) ?_
    refine QE.blockE ?_
    obtain rfl := Option.some.inj ho
    obtain rfl := Option.some.inj hr
    exact QE.over (rs := []) (vs := []) Try.results53 rfl trivial (fun w2 h => St.done (fun a b p s => ⟨rfl, s⟩) (St.selO [0] rfl rfl h))
/-! ### slices.AppendSeq[[]capstan/history.Call,capstan/history.Call]: function 62 -/
def slices_AppendSeq_history_Call_history_Call_s1.y1 (seq_1_1 : List history_Call) (seq_1_5 : Int) (seq_1_6 : Int) (seq_1_7 : Int) (seq_1_8 : List api_Value) (seq_1_10 : List Int) (seq_1_12 : Bool) (seq_1_13 : Int) (seq_1_14 : Int) (seq_1_15 : Int) (seq_1_16 : Int) (seq_1_17 : Int) (seq_1_18 : Int) (seq_1_19 : Int) (l42 : List history_Call) (x44 : history_Call) : Option ((List history_Call) × Bool) :=
  if (l42.length + [x44].length) * 136 ≤ 140737488355328 then (some (l42 ++ [x44], true)) else none

def slices_AppendSeq_history_Call_history_Call_s1.f (seq_1_1 : List history_Call) (seq_1_5 : Int) (seq_1_6 : Int) (seq_1_7 : Int) (seq_1_8 : List api_Value) (seq_1_10 : List Int) (seq_1_12 : Bool) (seq_1_13 : Int) (seq_1_14 : Int) (seq_1_15 : Int) (seq_1_16 : Int) (seq_1_17 : Int) (seq_1_18 : Int) (seq_1_19 : Int) : Option (List history_Call) :=
  (history_Width_2_s1.f (fun s x => slices_AppendSeq_history_Call_history_Call_s1.y1 seq_1_1 seq_1_5 seq_1_6 seq_1_7 seq_1_8 seq_1_10 seq_1_12 seq_1_13 seq_1_14 seq_1_15 seq_1_16 seq_1_17 seq_1_18 seq_1_19 s x) [] seq_1_1 seq_1_5 seq_1_6 seq_1_7 seq_1_8 seq_1_10 seq_1_12 seq_1_13 seq_1_14 seq_1_15 seq_1_16 seq_1_17 seq_1_18 seq_1_19).bind fun l42 => some l42
theorem slices_AppendSeq_history_Call_history_Call_s1.ok (seq_1_1 : List history_Call) (seq_1_5 : Int) (seq_1_6 : Int) (seq_1_7 : Int) (seq_1_8 : List api_Value) (seq_1_10 : List Int) (seq_1_12 : Bool) (seq_1_13 : Int) (seq_1_14 : Int) (seq_1_15 : Int) (seq_1_16 : Int) (seq_1_17 : Int) (seq_1_18 : Int) (seq_1_19 : Int) (v_seq_1_1 : Value) (b3 : Nat) (v_seq_1_8 : Value) (v_seq_1_10 : Value) (b20 : Nat) (b22 : Nat) (r : (List history_Call)) (H : slices_AppendSeq_history_Call_history_Call_s1.f seq_1_1 seq_1_5 seq_1_6 seq_1_7 seq_1_8 seq_1_10 seq_1_12 seq_1_13 seq_1_14 seq_1_15 seq_1_16 seq_1_17 seq_1_18 seq_1_19 = some r) (w : World) (hV : Hp) (sV : Sub hV (hp w)) (h0 : slR k_history_Call hV v_seq_1_1 seq_1_1) (h1 : (boxP b3 [v_seq_1_1] 44).p hV) (h2 : slR k_api_Value hV v_seq_1_8 seq_1_8) (h3 : slR (kInt .u8) hV v_seq_1_10 seq_1_10) (h4 : (boxP b20 [.int .i64 seq_1_5, .int .u8 seq_1_6, .int .i64 seq_1_7, v_seq_1_8, v_seq_1_10, .bool seq_1_12, .int .i64 seq_1_13, .int .i64 seq_1_14, .int .u8 seq_1_15, .int .i64 seq_1_16, .int .i64 seq_1_17, .int .i64 seq_1_18, .int .i64 seq_1_19] 48).p hV) (h5 : (boxP b22 [.func (.func 51) #[] #[.pointer (some ⟨b20, 0, none⟩)]] 76).p hV) :
    Trip Try.prog 62 [(.slice none 0 0), .func (.func 53) #[] #[.pointer (some ⟨b3, 0, none⟩), .pointer (some ⟨b22, 0, none⟩)]].toArray em hV w (fun v => HO.ex fun u0 : Value => HO.pand (v = u0) (HO.seps [slO k_history_Call 48 u0 r])) := by
  have see : Sees w em hV := ⟨sV, Dj.em_right _⟩
  refine Trip.ofM (P := Try.prog) (n := ⟨13, []⟩) Try.func62 rfl ⟨rfl, rfl⟩ rfl (St.begin (All.cons (x := slP k_history_Call v_seq_1_1 seq_1_1) h0 (All.cons (x := boxP b3 [v_seq_1_1] 44) h1 (All.cons (x := slP k_api_Value v_seq_1_8 seq_1_8) h2 (All.cons (x := slP (kInt .u8) v_seq_1_10 seq_1_10) h3 (All.cons (x := boxP b20 [.int .i64 seq_1_5, .int .u8 seq_1_6, .int .i64 seq_1_7, v_seq_1_8, v_seq_1_10, .bool seq_1_12, .int .i64 seq_1_13, .int .i64 seq_1_14, .int .u8 seq_1_15, .int .i64 seq_1_16, .int .i64 seq_1_17, .int .i64 seq_1_18, .int .i64 seq_1_19] 48) h4 (All.cons (x := boxP b22 [.func (.func 51) #[] #[.pointer (some ⟨b20, 0, none⟩)]] 76) h5 (All.nil _)))))))) ?_
  have ho := H
  refine CP.seq ?_
  refine CP.region ?_
  refine SP.box (cs := [(.slice none 0 0)]) rfl rfl rfl rfl (fun b24 => ?_)
  refine SP.val (Val.assign rfl) rfl rfl rfl ?_
  refine SP.nil ?_
  refine QE.then ?_
  refine CP.seq ?_
  refine CP.seq ?_
  refine CP.region ?_
  refine SP.val (Val.move rfl) rfl rfl rfl ?_
  refine SP.nil ?_
  refine QE.then ?_
  refine CP.block ?_
  obtain ⟨l42, hc, ho⟩ := bind_some ho
  refine CP.imp (A' := fun w2 => St w em hV [slP k_history_Call v_seq_1_1 seq_1_1, boxP b3 [v_seq_1_1] 44, slP k_api_Value v_seq_1_8 seq_1_8, slP (kInt .u8) v_seq_1_10 seq_1_10, boxP b20 [.int .i64 seq_1_5, .int .u8 seq_1_6, .int .i64 seq_1_7, v_seq_1_8, v_seq_1_10, .bool seq_1_12, .int .i64 seq_1_13, .int .i64 seq_1_14, .int .u8 seq_1_15, .int .i64 seq_1_16, .int .i64 seq_1_17, .int .i64 seq_1_18, .int .i64 seq_1_19] 48, boxP b22 [.func (.func 51) #[] #[.pointer (some ⟨b20, 0, none⟩)]] 76] [(fun s : (List history_Call) => (fun (l42 : List history_Call) => HO.ex fun v43 : Value => HO.seps [slO k_history_Call 48 v43 l42, boxO b24 [v43] 44]) s) [], marksO []] w2) (fun w2 hw => St.shut (.slice none 0 0) (St.group _ (St.addO (slO.nil k_history_Call 48) hw))) ?_
  refine CP.rangeY see (J := fun s : (List history_Call) => (fun (l42 : List history_Call) => HO.ex fun v43 : Value => HO.seps [slO k_history_Call 48 v43 l42, boxO b24 [v43] 44]) s) (Y := fun s x => slices_AppendSeq_history_Call_history_Call_s1.y1 seq_1_1 seq_1_5 seq_1_6 seq_1_7 seq_1_8 seq_1_10 seq_1_12 seq_1_13 seq_1_14 seq_1_15 seq_1_16 seq_1_17 seq_1_18 seq_1_19 s x) (s0 := []) (sf := l42) (E := (E1 k_history_Call true)) (caps := [.pointer (some ⟨b3, 0, none⟩), .pointer (some ⟨b22, 0, none⟩)]) fn53 rfl (σ1 := [(2, .pointer (some ⟨b24, 0, none⟩))]) ⟨rfl, trivial⟩ rfl (E1.len rfl) (fun lY I w2 hP h1 sub s1 d1 ap hI hY => history_Width_2_s1.ok (fun s x => slices_AppendSeq_history_Call_history_Call_s1.y1 seq_1_1 seq_1_5 seq_1_6 seq_1_7 seq_1_8 seq_1_10 seq_1_12 seq_1_13 seq_1_14 seq_1_15 seq_1_16 seq_1_17 seq_1_18 seq_1_19 s x) [] seq_1_1 seq_1_5 seq_1_6 seq_1_7 seq_1_8 seq_1_10 seq_1_12 seq_1_13 seq_1_14 seq_1_15 seq_1_16 seq_1_17 seq_1_18 seq_1_19 _ _ _ _ _ _ _ hc w2 hP sub (ap.get 0 rfl) (ap.get 1 rfl) (ap.get 2 rfl) (ap.get 3 rfl) (ap.get 4 rfl) (ap.get 5 rfl) lY I h1 s1 d1 hI hY) ?_ (fun D62 => ?_)
  · rintro lY LO hLO l42 x44 t b vals ho w3 hP3 h3 sub3 s3 d3 ap3 hE
    obtain ⟨q45, rfl, cs0, hk0, e0⟩ := hE
    replace e0 : q45 = .agg cs0.toArray := e0
    subst e0
    obtain ⟨v46, v49, rfl, hf48, hf51⟩ := hk0
    have see : Sees w3 h3 hP3 := ⟨sub3, d3⟩
    refine CP.weak (σ' := [(2, .pointer (some ⟨b24, 0, none⟩)), (7, .agg #[.int .i64 x44.Proc, .int .u8 x44.Op.Kind, .int .i64 x44.Op.Method, v46, v49, .bool x44.Read, .int .i64 x44.Reply.Err, .int .i64 x44.Reply.Out.Trap, .int .u8 x44.Reply.Out.Result.Kind, .int .i64 x44.Reply.Out.Result.A, .int .i64 x44.Reply.Out.Result.B, .int .i64 x44.Start, .int .i64 x44.End])]) ⟨rfl, rfl, trivial⟩ (fun _ h => h) ?_
    refine CP.ex (fun w2 h => St.open h) (fun v43 => ?_)
    refine CP.imp (fun w2 h => St.seps h) ?_
    refine CP.imp (fun w2 h => St.seen (z := slP (kInt .u8) v49 x44.Op.Bytes) hf51 h) ?_
    refine CP.imp (fun w2 h => St.seen (z := slP k_api_Value v46 x44.Op.Args) hf48 h) ?_
    refine CP.region ?_
    refine SP.alloc (cs := [.int .i64 0, .int .u8 0, .int .i64 0, (.slice none 0 0), (.slice none 0 0), .bool false, .int .i64 0, .int .i64 0, .int .u8 0, .int .i64 0, .int .i64 0, .int .i64 0, .int .i64 0]) inf48 rfl rfl (fun b52 => ?_)
    refine SP.have (fun w2 hw => slR.shape (St.pers 0 rfl see.sub see.dj hw)) (fun hs_v46 => ?_)
    refine SP.have (fun w2 hw => slR.shape (St.pers 1 rfl see.sub see.dj hw)) (fun hs_v49 => ?_)
    refine SP.store (v := .agg #[.int .i64 x44.Proc, .int .u8 x44.Op.Kind, .int .i64 x44.Op.Method, v46, v49, .bool x44.Read, .int .i64 x44.Reply.Err, .int .i64 x44.Reply.Out.Trap, .int .u8 x44.Reply.Out.Result.Kind, .int .i64 x44.Reply.Out.Result.A, .int .i64 x44.Reply.Out.Result.B, .int .i64 x44.Start, .int .i64 x44.End]) (vs := [.int .i64 x44.Proc, .int .u8 x44.Op.Kind, .int .i64 x44.Op.Method, v46, v49, .bool x44.Read, .int .i64 x44.Reply.Err, .int .i64 x44.Reply.Out.Trap, .int .u8 x44.Reply.Out.Result.Kind, .int .i64 x44.Reply.Out.Result.A, .int .i64 x44.Reply.Out.Result.B, .int .i64 x44.Start, .int .i64 x44.End]) 0 (by rfl) sz48 (by rfl) (by rfl) (by rfl) (by rfl) (one_cons rfl (one_cons rfl (one_cons rfl (one_cons hs_v46 (one_cons hs_v49 (one_cons rfl (one_cons rfl (one_cons rfl (one_cons rfl (one_cons rfl (one_cons rfl (one_cons rfl (one_cons rfl (rfl)))))))))))))) (by rfl) ?_
    refine SP.nil ?_
    refine QE.beginL hLO 3 rfl ?_
    refine CP.block ?_
    refine CP.region ?_
    refine SP.val (Val.load1 2 rfl Try.underlying44 rfl rfl rfl) rfl rfl rfl ?_
    refine SP.val (Val.loadA 0 rfl Try.underlying48 rfl sz48 rfl rfl rfl) rfl rfl rfl ?_
    refine SP.lit (k := k_history_Call) (xs := [x44]) (vs := [.agg #[.int .i64 x44.Proc, .int .u8 x44.Op.Kind, .int .i64 x44.Op.Method, v46, v49, .bool x44.Read, .int .i64 x44.Reply.Err, .int .i64 x44.Reply.Out.Trap, .int .u8 x44.Reply.Out.Result.Kind, .int .i64 x44.Reply.Out.Result.A, .int .i64 x44.Reply.Out.Result.B, .int .i64 x44.Start, .int .i64 x44.End]]) (cells := [.int .i64 x44.Proc, .int .u8 x44.Op.Kind, .int .i64 x44.Op.Method, v46, v49, .bool x44.Read, .int .i64 x44.Reply.Err, .int .i64 x44.Reply.Out.Trap, .int .u8 x44.Reply.Out.Result.Kind, .int .i64 x44.Reply.Out.Result.A, .int .i64 x44.Reply.Out.Result.B, .int .i64 x44.Start, .int .i64 x44.End]) Try.underlying44 inf48 rfl rfl rfl rfl rfl rfl rfl rfl (fun _ ap => ⟨[.int .i64 x44.Proc, .int .u8 x44.Op.Kind, .int .i64 x44.Op.Method, v46, v49, .bool x44.Read, .int .i64 x44.Reply.Err, .int .i64 x44.Reply.Out.Trap, .int .u8 x44.Reply.Out.Result.Kind, .int .i64 x44.Reply.Out.Result.A, .int .i64 x44.Reply.Out.Result.B, .int .i64 x44.Start, .int .i64 x44.End], _, rfl, ⟨_, _, rfl, ap.get 0 rfl, ap.get 1 rfl⟩, rfl⟩) rfl rfl rfl (fun v54 => ?_)
    refine SP.freezeS see 0 rfl ?_
    obtain ⟨hb, ho⟩ := must_some ho
    refine SP.append see 1 rfl 0 rfl Try.underlying44 inf48 rfl rfl hb rfl rfl rfl rfl rfl (fun v56 => ?_)
    clear hb
    refine SP.have (fun w2 hw => slO.shape (St.own 1 rfl see.sub see.dj hw)) (fun hs_v56 => ?_)
    refine SP.store (v := v56) (vs := [v56]) 2 (by rfl) sz44 (by rfl) (by rfl) (by rfl) (one_cells hs_v56) (one_cons hs_v56 (rfl)) (by rfl) ?_
    refine SP.nil ?_
    refine QE.blockN ?_
    obtain ⟨rfl, rfl⟩ := Prod.mk.inj (Option.some.inj ho)
    exact QE.endL hLO 3 rfl fun w2 hw => St.shut v56 (St.group _ (St.selP [] rfl (St.selO [1, 2, 3] rfl rfl hw)))
  refine QE.ex (fun w2 h => St.open h) (fun v43 => ?_)
  refine QE.imp (fun w2 h => St.seps h) ?_
  refine QE.blockN ?_
  refine QE.then ?_
  refine CP.seq ?_
  refine CP.region ?_
  refine SP.val (Val.load1 1 rfl Try.underlying44 rfl rfl rfl) rfl rfl rfl ?_
  refine SP.val (Val.assign rfl) rfl rfl rfl ?_
  refine SP.nil ?_
  refine QE.then ?_
  refine CP.ret ?_
  obtain rfl := Option.some.inj ho
  exact QE.retsM 2 rfl (rs := [.tmp 4]) (vs := [v43]) Try.results62 ⟨RVs.tmp rfl, trivial⟩ (fun w2 h => St.done (fun a b p s => ⟨_, rfl, s⟩) (St.selO [0] rfl rfl h))
/-! ### slices.Collect[capstan/history.Call]: function 52 -/
def slices_Collect_history_Call_s1.f (seq_0_1 : List history_Call) (seq_0_5 : Int) (seq_0_6 : Int) (seq_0_7 : Int) (seq_0_8 : List api_Value) (seq_0_10 : List Int) (seq_0_12 : Bool) (seq_0_13 : Int) (seq_0_14 : Int) (seq_0_15 : Int) (seq_0_16 : Int) (seq_0_17 : Int) (seq_0_18 : Int) (seq_0_19 : Int) : Option (List history_Call) :=
  (slices_AppendSeq_history_Call_history_Call_s1.f seq_0_1 seq_0_5 seq_0_6 seq_0_7 seq_0_8 seq_0_10 seq_0_12 seq_0_13 seq_0_14 seq_0_15 seq_0_16 seq_0_17 seq_0_18 seq_0_19).bind fun t24 => some t24
theorem slices_Collect_history_Call_s1.ok (seq_0_1 : List history_Call) (seq_0_5 : Int) (seq_0_6 : Int) (seq_0_7 : Int) (seq_0_8 : List api_Value) (seq_0_10 : List Int) (seq_0_12 : Bool) (seq_0_13 : Int) (seq_0_14 : Int) (seq_0_15 : Int) (seq_0_16 : Int) (seq_0_17 : Int) (seq_0_18 : Int) (seq_0_19 : Int) (v_seq_0_1 : Value) (b3 : Nat) (v_seq_0_8 : Value) (v_seq_0_10 : Value) (b20 : Nat) (b22 : Nat) (r : (List history_Call)) (H : slices_Collect_history_Call_s1.f seq_0_1 seq_0_5 seq_0_6 seq_0_7 seq_0_8 seq_0_10 seq_0_12 seq_0_13 seq_0_14 seq_0_15 seq_0_16 seq_0_17 seq_0_18 seq_0_19 = some r) (w : World) (hV : Hp) (sV : Sub hV (hp w)) (h0 : slR k_history_Call hV v_seq_0_1 seq_0_1) (h1 : (boxP b3 [v_seq_0_1] 44).p hV) (h2 : slR k_api_Value hV v_seq_0_8 seq_0_8) (h3 : slR (kInt .u8) hV v_seq_0_10 seq_0_10) (h4 : (boxP b20 [.int .i64 seq_0_5, .int .u8 seq_0_6, .int .i64 seq_0_7, v_seq_0_8, v_seq_0_10, .bool seq_0_12, .int .i64 seq_0_13, .int .i64 seq_0_14, .int .u8 seq_0_15, .int .i64 seq_0_16, .int .i64 seq_0_17, .int .i64 seq_0_18, .int .i64 seq_0_19] 48).p hV) (h5 : (boxP b22 [.func (.func 51) #[] #[.pointer (some ⟨b20, 0, none⟩)]] 76).p hV) :
    Trip Try.prog 52 [.func (.func 53) #[] #[.pointer (some ⟨b3, 0, none⟩), .pointer (some ⟨b22, 0, none⟩)]].toArray em hV w (fun v => HO.ex fun u0 : Value => HO.pand (v = u0) (HO.seps [slO k_history_Call 48 u0 r])) := by
  have see : Sees w em hV := ⟨sV, Dj.em_right _⟩
  refine Trip.of (P := Try.prog) (n := ⟨5, []⟩) Try.func52 rfl ⟨rfl, rfl⟩ rfl (St.begin (All.cons (x := slP k_history_Call v_seq_0_1 seq_0_1) h0 (All.cons (x := boxP b3 [v_seq_0_1] 44) h1 (All.cons (x := slP k_api_Value v_seq_0_8 seq_0_8) h2 (All.cons (x := slP (kInt .u8) v_seq_0_10 seq_0_10) h3 (All.cons (x := boxP b20 [.int .i64 seq_0_5, .int .u8 seq_0_6, .int .i64 seq_0_7, v_seq_0_8, v_seq_0_10, .bool seq_0_12, .int .i64 seq_0_13, .int .i64 seq_0_14, .int .u8 seq_0_15, .int .i64 seq_0_16, .int .i64 seq_0_17, .int .i64 seq_0_18, .int .i64 seq_0_19] 48) h4 (All.cons (x := boxP b22 [.func (.func 51) #[] #[.pointer (some ⟨b20, 0, none⟩)]] 76) h5 (All.nil _)))))))) ?_
  have ho := H
  refine CP.seq ?_
  refine CP.region ?_
  refine SP.val (Val.assign rfl) rfl rfl rfl ?_
  refine SP.nil ?_
  refine QE.then ?_
  refine CP.seq ?_
  refine CP.region ?_
  refine SP.val (Val.move rfl) rfl rfl rfl ?_
  obtain ⟨t24, hc, ho⟩ := bind_some ho
  refine SP.callK see (caps := []) _ fn62 rfl rfl rfl rfl (fun w2 hP hs sub ap => slices_AppendSeq_history_Call_history_Call_s1.ok seq_0_1 seq_0_5 seq_0_6 seq_0_7 seq_0_8 seq_0_10 seq_0_12 seq_0_13 seq_0_14 seq_0_15 seq_0_16 seq_0_17 seq_0_18 seq_0_19 _ _ _ _ _ _ _ hc w2 hP sub (ap.get 0 rfl) (ap.get 1 rfl) (ap.get 2 rfl) (ap.get 3 rfl) (ap.get 4 rfl) (ap.get 5 rfl)) (fun vr => ?_)
  refine SP.ex (fun w2 h => St.open h) (fun v25 => ?_)
  refine SP.have (fun w2 h => (St.pand h).1.symm) (fun er => ?_)
  subst er
  refine SP.imp (fun w2 h => St.seps (St.pand h).2) ?_
  clear hc
  refine SP.val (Val.assign rfl) rfl rfl rfl ?_
  refine SP.nil ?_
  refine QE.then ?_
  refine CP.ret ?_
  obtain rfl := Option.some.inj ho
  exact QE.rets (rs := [.tmp 2]) (vs := [v25]) Try.results52 rfl ⟨RVs.tmp rfl, trivial⟩ (fun w2 h => St.done (fun a b p s => ⟨_, rfl, s⟩) (St.selO [0] rfl rfl h))
/-! ### capstan/history.Width: function 29 -/
inductive history_Width.S where
  | start
  | l1 (x40 : Int) (x41 : Int)

def history_Width.F (l_0 : (List history_Call)) : history_Width.S → Option (history_Width.S ⊕ Int)
  | .start => some (.inl (.l1 0 0))
  | .l1 x40 x41 => if x41 < (l_0.length : Int) then ((elt l_0 x41).bind fun x45 => (slices_Collect_history_Call_s1.f l_0 x45.Proc x45.Op.Kind x45.Op.Method x45.Op.Args x45.Op.Bytes x45.Read x45.Reply.Err x45.Reply.Out.Trap x45.Reply.Out.Result.Kind x45.Reply.Out.Result.A x45.Reply.Out.Result.B x45.Start x45.End).bind fun t54 => some (.inl (.l1 (if (t54.length : Int) > x40 then (t54.length : Int) else x40) (IntKind.i64.wrap (x41 + 1))))) else (some (.inr x40))

def history_Width.f (l_0 : (List history_Call)) : Option Int := runF (history_Width.F l_0) .start
theorem history_Width.ok (l_0 : (List history_Call)) (v_l_0 : Value) (r : Int) (H : history_Width.f l_0 = some r) (w : World) (hV : Hp) (sV : Sub hV (hp w)) (h0 : slR k_history_Call hV v_l_0 l_0) :
    Trip Try.prog 29 [v_l_0].toArray em hV w (fun v => HO.pure (v = .int .i64 r)) := by
  have see : Sees w em hV := ⟨sV, Dj.em_right _⟩
  refine Trip.of (P := Try.prog) (n := ⟨21, []⟩) Try.func29 rfl ⟨rfl, rfl⟩ rfl (St.begin (All.cons (x := slP k_history_Call v_l_0 l_0) h0 (All.nil _))) ?_
  obtain ⟨n0, hi⟩ := runF_iff.1 H
  obtain ⟨m0, o, hm0, ho, hr⟩ := iter_some hi
  clear hi
  refine CP.seq ?_
  refine CP.region ?_
  refine SP.have (fun w2 hw => slR.shape (St.pers 0 rfl see.sub see.dj hw)) (fun hs_v_l_0 => ?_)
  refine SP.box (cs := [v_l_0]) rfl rfl rfl (one_cells hs_v_l_0) (fun b2 => ?_)
  refine SP.val (Val.assign rfl) rfl rfl rfl ?_
  refine SP.nil ?_
  refine QE.then ?_
  refine CP.seq ?_
  refine CP.region ?_
  refine SP.val (Val.assign rfl) rfl rfl rfl ?_
  refine SP.nil ?_
  refine QE.then ?_
  refine CP.seq ?_
  refine CP.seq ?_
  refine CP.region ?_
  refine SP.val (Val.load1 0 rfl Try.underlying44 rfl rfl rfl) rfl rfl rfl ?_
  refine SP.val (Val.lenP see 0 rfl Try.underlying44 rfl) rfl rfl rfl ?_
  refine SP.val (Val.move rfl) rfl rfl rfl ?_
  refine SP.nil ?_
  refine QE.then ?_
  refine CP.block ?_
  refine CP.freezeB see 0 rfl ?_
  obtain rfl := Option.some.inj ho
  refine CP.loop (fun cl1 a w2 => ∃ x40 : Int, ∃ x41 : Int, cl1 ≤ m0 ∧ iter (history_Width.F l_0) cl1 (.l1 x40 x41) = some r ∧ Env ⟨21, []⟩ [(1, .pointer (some ⟨b2, 0, none⟩)), (3, .int .i64 x40), (7, v_l_0), (8, .int .i64 (l_0.length : Int)), (9, .int .i64 x41)] a ∧ St w em hV [boxP b2 [v_l_0] 44, slP k_history_Call v_l_0 l_0] [] w2) m0 (fun a w2 ha hw => ⟨0, 0, Nat.le_refl _, hr, ha.sub ⟨rfl, rfl, rfl, rfl, rfl, trivial⟩, hw⟩) ?_
  clear hr
  rintro cl1 a w2 ⟨x40, x41, hc_l1, hi, ha, hw⟩
  obtain ⟨m42, o, hm_m42, ho, hr⟩ := iter_some hi
  refine CP.app ha hw ?_
  clear ha hw a w2 hi
  refine CP.seq ?_
  refine CP.region ?_
  refine SP.val (Val.lss rfl rfl) rfl rfl rfl ?_
  refine SP.nil ?_
  refine QE.then ?_
  refine CP.seq ?_
  rcases if_some ho with ⟨hc, ho⟩ | ⟨hc, ho⟩
  · refine CP.condT rfl (decide_eq_true hc) ?_
    refine CP.skip ?_
    refine QE.then ?_
    refine CP.seq ?_
    refine CP.block ?_
    refine CP.seq ?_
    refine CP.region ?_
    obtain ⟨x45, hx, ho⟩ := bind_some ho
    have hx := elt_some hx
    refine SP.indexP see 1 rfl Try.underlying44 sz48 hx.1 hx.2 rfl rfl rfl rfl (fun p43 => ?_)
    clear hx
    refine k_history_Call.load see 0 rfl Try.underlying48 rfl sz48 rfl rfl rfl (fun v46 v48 => ?_)
    refine SP.alloc (cs := [.int .i64 0, .int .u8 0, .int .i64 0, (.slice none 0 0), (.slice none 0 0), .bool false, .int .i64 0, .int .i64 0, .int .u8 0, .int .i64 0, .int .i64 0, .int .i64 0, .int .i64 0]) inf48 rfl rfl (fun b50 => ?_)
    refine SP.have (fun w2 hw => slR.shape (St.pers 0 rfl see.sub see.dj hw)) (fun hs_v46 => ?_)
    refine SP.have (fun w2 hw => slR.shape (St.pers 1 rfl see.sub see.dj hw)) (fun hs_v48 => ?_)
    refine SP.store (v := .agg #[.int .i64 x45.Proc, .int .u8 x45.Op.Kind, .int .i64 x45.Op.Method, v46, v48, .bool x45.Read, .int .i64 x45.Reply.Err, .int .i64 x45.Reply.Out.Trap, .int .u8 x45.Reply.Out.Result.Kind, .int .i64 x45.Reply.Out.Result.A, .int .i64 x45.Reply.Out.Result.B, .int .i64 x45.Start, .int .i64 x45.End]) (vs := [.int .i64 x45.Proc, .int .u8 x45.Op.Kind, .int .i64 x45.Op.Method, v46, v48, .bool x45.Read, .int .i64 x45.Reply.Err, .int .i64 x45.Reply.Out.Trap, .int .u8 x45.Reply.Out.Result.Kind, .int .i64 x45.Reply.Out.Result.A, .int .i64 x45.Reply.Out.Result.B, .int .i64 x45.Start, .int .i64 x45.End]) 0 (by rfl) sz48 (by rfl) (by rfl) (by rfl) (by rfl) (one_cons rfl (one_cons rfl (one_cons rfl (one_cons hs_v46 (one_cons hs_v48 (one_cons rfl (one_cons rfl (one_cons rfl (one_cons rfl (one_cons rfl (one_cons rfl (one_cons rfl (one_cons rfl (rfl)))))))))))))) (by rfl) ?_
    refine SP.nil ?_
    refine QE.then ?_
    refine CP.seq ?_
    refine CP.region ?_
    refine SP.val (Val.makeFunc (us := []) (vs := [.pointer (some ⟨b50, 0, none⟩)]) rfl rfl) rfl rfl rfl ?_
    refine SP.alloc (cs := [.nilFunc]) inf76 rfl rfl (fun b52 => ?_)
    refine SP.store (v := .func (.func 51) #[] #[.pointer (some ⟨b50, 0, none⟩)]) (vs := [.func (.func 51) #[] #[.pointer (some ⟨b50, 0, none⟩)]]) 0 (by rfl) sz76 (by rfl) (by rfl) (by rfl) (by rfl) (by rfl) (by rfl) ?_
    refine SP.nil ?_
    refine QE.then ?_
    refine CP.region ?_
    refine SP.val (Val.move rfl) rfl rfl rfl ?_
    refine SP.val (Val.makeFunc (us := []) (vs := [.pointer (some ⟨b2, 0, none⟩), .pointer (some ⟨b52, 0, none⟩)]) rfl rfl) rfl rfl rfl ?_
    refine SP.freezeB see 0 rfl ?_
    refine SP.freezeB see 0 rfl ?_
    obtain ⟨t54, hc, ho⟩ := bind_some ho
    refine SP.callK see (caps := []) _ fn52 rfl rfl rfl rfl (fun w2 hP hs sub ap => slices_Collect_history_Call_s1.ok l_0 x45.Proc x45.Op.Kind x45.Op.Method x45.Op.Args x45.Op.Bytes x45.Read x45.Reply.Err x45.Reply.Out.Trap x45.Reply.Out.Result.Kind x45.Reply.Out.Result.A x45.Reply.Out.Result.B x45.Start x45.End _ _ _ _ _ _ _ hc w2 hP sub (ap.get 6 rfl) (ap.get 5 rfl) (ap.get 2 rfl) (ap.get 3 rfl) (ap.get 0 rfl) (ap.get 1 rfl)) (fun vr => ?_)
    refine SP.ex (fun w2 h => St.open h) (fun v57 => ?_)
    refine SP.have (fun w2 h => (St.pand h).1.symm) (fun er => ?_)
    subst er
    refine SP.imp (fun w2 h => St.seps (St.pand h).2) ?_
    clear hc
    refine SP.val (Val.lenW (fun w2 hw => slO.whole (St.own 0 rfl see.sub see.dj hw)) Try.underlying44 rfl) rfl rfl rfl ?_
    refine SP.val (Val.max2 rfl rfl) rfl rfl rfl ?_
    refine SP.val (Val.assign rfl) rfl rfl rfl ?_
    refine SP.nil ?_
    refine QE.blockN ?_
    refine QE.then ?_
    refine CP.region ?_
    refine SP.val (Val.add rfl rfl) rfl rfl rfl ?_
    refine SP.val (Val.move rfl) rfl rfl rfl ?_
    refine SP.nil ?_
    obtain rfl := Option.some.inj ho
    exact QE.lower m42 (by omega) fun a w2 ha hw => ⟨(if (t54.length : Int) > x40 then (t54.length : Int) else x40), (IntKind.i64.wrap (x41 + 1)), (by omega), hr, ha.sub ⟨rfl, rfl, rfl, rfl, rfl, trivial⟩, (St.selP [5, 6] rfl (St.selO [] rfl rfl hw))⟩
  · refine CP.condF rfl (decide_eq_false hc) ?_
    refine CP.exit ?_
    refine QE.thru (by intro e; cases e) ?_
    refine QE.thru (by intro e; cases e) ?_
    refine QE.blockE ?_
    refine QE.then ?_
    refine CP.seq ?_
    refine CP.region ?_
    refine SP.val (Val.move rfl) rfl rfl rfl ?_
    refine SP.val (Val.assign rfl) rfl rfl rfl ?_
    refine SP.nil ?_
    refine QE.then ?_
    refine CP.ret ?_
    obtain rfl := Option.some.inj ho
    obtain rfl := Option.some.inj hr
    exact QE.rets (rs := [.tmp 2]) (vs := [.int .i64 x40]) Try.results29 rfl ⟨RVs.tmp rfl, trivial⟩ (fun w2 h => St.done (fun a b p s => rfl) h)
/-! ### slices.Clone[[]capstan/api.Value,capstan/api.Value]: function 63 -/
def slices_Clone_api_Value_api_Value.f (s_0 : (List api_Value)) : Option (List api_Value) :=
  nilOr s_0 (some []) (if (([] : List api_Value).length + s_0.length) * 24 ≤ 140737488355328 then (some (([] : List api_Value) ++ s_0)) else none)
theorem slices_Clone_api_Value_api_Value.ok (s_0 : (List api_Value)) (v_s_0 : Value) (r : (List api_Value)) (H : slices_Clone_api_Value_api_Value.f s_0 = some r) (w : World) (hV : Hp) (sV : Sub hV (hp w)) (h0 : slR k_api_Value hV v_s_0 s_0) :
    Trip Try.prog 63 [v_s_0].toArray em hV w (fun v => HO.ex fun u0 : Value => HO.pand (v = u0) (HO.seps [slO k_api_Value 37 u0 r])) := by
  have see : Sees w em hV := ⟨sV, Dj.em_right _⟩
  refine Trip.of (P := Try.prog) (n := ⟨8, []⟩) Try.func63 rfl ⟨rfl, rfl⟩ rfl (St.begin (All.cons (x := slP k_api_Value v_s_0 s_0) h0 (All.nil _))) ?_
  have ho := H
  refine CP.seq ?_
  refine CP.region ?_
  refine SP.val (Val.assign rfl) rfl rfl rfl ?_
  refine SP.nil ?_
  refine QE.then ?_
  refine CP.seq ?_
  refine CP.seq ?_
  refine CP.region ?_
  refine SP.val (Val.move rfl) rfl rfl rfl ?_
  refine SP.val (Val.eqlNP see 0 rfl Try.underlying32 rfl rfl) rfl rfl rfl ?_
  refine SP.nil ?_
  refine QE.then ?_
  refine CP.have (fun w2 hw => slR.isNil (v := v_s_0) (St.pers 0 rfl see.sub see.dj hw)) (fun hnil => ?_)
  rcases Bool.eq_false_or_eq_true (nilB v_s_0) with hc | hc
  · replace ho := nilOr_t ho (hnil hc)
    refine CP.condT rfl hc ?_
    refine CP.seq ?_
    refine CP.region ?_
    refine SP.val (Val.assign rfl) rfl rfl rfl ?_
    refine SP.nil ?_
    refine QE.then ?_
    refine CP.ret ?_
    refine QE.thru (by intro e; cases e) ?_
    obtain rfl := Option.some.inj ho
    exact QE.rets (rs := [.tmp 2]) (vs := [(.slice none 0 0)]) Try.results63 rfl ⟨RVs.tmp rfl, trivial⟩ (fun w2 h => St.done (fun a b p s => ⟨_, rfl, s⟩) (St.selO [0] rfl rfl (St.addO (slO.nil k_api_Value 37) h)))
  · replace ho := nilOr_f ho
    refine CP.condF rfl hc ?_
    refine CP.skip ?_
    refine QE.then ?_
    refine CP.seq ?_
    refine CP.region ?_
    refine SP.lit0 (k := k_api_Value) Try.underlying32 inf37 rfl rfl (fun v3 => ?_)
    refine SP.val (Val.move rfl) rfl rfl rfl ?_
    obtain ⟨hb, ho⟩ := must_some ho
    refine SP.append see 0 rfl 0 rfl Try.underlying32 inf37 rfl rfl hb rfl rfl rfl rfl rfl (fun v5 => ?_)
    clear hb
    refine SP.val (Val.assign rfl) rfl rfl rfl ?_
    refine SP.nil ?_
    refine QE.then ?_
    refine CP.ret ?_
    obtain rfl := Option.some.inj ho
    exact QE.rets (rs := [.tmp 2]) (vs := [v5]) Try.results63 rfl ⟨RVs.tmp rfl, trivial⟩ (fun w2 h => St.done (fun a b p s => ⟨_, rfl, s⟩) (St.selO [0] rfl rfl h))
/-! ### bytes.Clone: function 64 -/
def bytes_Clone.f (b_0 : (List Int)) : Option (List Int) :=
  nilOr b_0 (some []) (if (([] : List Int).length + b_0.length) * 1 ≤ 140737488355328 then (some (([] : List Int) ++ b_0)) else none)
theorem bytes_Clone.ok (b_0 : (List Int)) (v_b_0 : Value) (r : (List Int)) (H : bytes_Clone.f b_0 = some r) (w : World) (hV : Hp) (sV : Sub hV (hp w)) (h0 : slR (kInt .u8) hV v_b_0 b_0) :
    Trip Try.prog 64 [v_b_0].toArray em hV w (fun v => HO.ex fun u0 : Value => HO.pand (v = u0) (HO.seps [slO (kInt .u8) 5 u0 r])) := by
  have see : Sees w em hV := ⟨sV, Dj.em_right _⟩
  refine Trip.of (P := Try.prog) (n := ⟨8, []⟩) Try.func64 rfl ⟨rfl, rfl⟩ rfl (St.begin (All.cons (x := slP (kInt .u8) v_b_0 b_0) h0 (All.nil _))) ?_
  have ho := H
  refine CP.seq ?_
  refine CP.region ?_
  refine SP.val (Val.assign rfl) rfl rfl rfl ?_
  refine SP.nil ?_
  refine QE.then ?_
  refine CP.seq ?_
  refine CP.seq ?_
  refine CP.region ?_
  refine SP.val (Val.move rfl) rfl rfl rfl ?_
  refine SP.val (Val.eqlNP see 0 rfl Try.underlying24 rfl rfl) rfl rfl rfl ?_
  refine SP.nil ?_
  refine QE.then ?_
  refine CP.have (fun w2 hw => slR.isNil (v := v_b_0) (St.pers 0 rfl see.sub see.dj hw)) (fun hnil => ?_)
  rcases Bool.eq_false_or_eq_true (nilB v_b_0) with hc | hc
  · replace ho := nilOr_t ho (hnil hc)
    refine CP.condT rfl hc ?_
    refine CP.seq ?_
    refine CP.region ?_
    refine SP.val (Val.assign rfl) rfl rfl rfl ?_
    refine SP.nil ?_
    refine QE.then ?_
    refine CP.ret ?_
    refine QE.thru (by intro e; cases e) ?_
    obtain rfl := Option.some.inj ho
    exact QE.rets (rs := [.tmp 2]) (vs := [(.slice none 0 0)]) Try.results64 rfl ⟨RVs.tmp rfl, trivial⟩ (fun w2 h => St.done (fun a b p s => ⟨_, rfl, s⟩) (St.selO [0] rfl rfl (St.addO (slO.nil (kInt .u8) 5) h)))
  · replace ho := nilOr_f ho
    refine CP.condF rfl hc ?_
    refine CP.skip ?_
    refine QE.then ?_
    refine CP.seq ?_
    refine CP.region ?_
    refine SP.lit0 (k := (kInt .u8)) Try.underlying24 inf5 rfl rfl (fun v3 => ?_)
    refine SP.val (Val.move rfl) rfl rfl rfl ?_
    obtain ⟨hb, ho⟩ := must_some ho
    refine SP.append see 0 rfl 0 rfl Try.underlying24 inf5 rfl rfl hb rfl rfl rfl rfl rfl (fun v5 => ?_)
    clear hb
    refine SP.val (Val.assign rfl) rfl rfl rfl ?_
    refine SP.nil ?_
    refine QE.then ?_
    refine CP.ret ?_
    obtain rfl := Option.some.inj ho
    exact QE.rets (rs := [.tmp 2]) (vs := [v5]) Try.results64 rfl ⟨RVs.tmp rfl, trivial⟩ (fun w2 h => St.done (fun a b p s => ⟨_, rfl, s⟩) (St.selO [0] rfl rfl h))
/-! ### capstan/entry.Copy: function 57 -/
def entry_Copy.f (op_0 : api_Op) : Option api_Op :=
  (slices_Clone_api_Value_api_Value.f op_0.Args).bind fun t22 => (bytes_Clone.f op_0.Bytes).bind fun t31 => some (⟨op_0.Kind, op_0.Method, t22, t31⟩ : api_Op)
theorem entry_Copy.ok (op_0 : api_Op) (v_op_0_Args : Value) (v_op_0_Bytes : Value) (r : api_Op) (H : entry_Copy.f op_0 = some r) (w : World) (hV : Hp) (sV : Sub hV (hp w)) (h0 : slR k_api_Value hV v_op_0_Args op_0.Args) (h1 : slR (kInt .u8) hV v_op_0_Bytes op_0.Bytes) :
    Trip Try.prog 57 [.agg #[.int .u8 op_0.Kind, .int .i64 op_0.Method, v_op_0_Args, v_op_0_Bytes]].toArray em hV w (fun v => HO.ex fun u0 : Value => HO.ex fun u1 : Value => HO.pand (v = .agg #[.int .u8 r.Kind, .int .i64 r.Method, u0, u1]) (HO.seps [slO k_api_Value 37 u0 r.Args, slO (kInt .u8) 5 u1 r.Bytes])) := by
  have see : Sees w em hV := ⟨sV, Dj.em_right _⟩
  refine Trip.of (P := Try.prog) (n := ⟨12, []⟩) Try.func57 rfl ⟨rfl, rfl⟩ rfl (St.begin (All.cons (x := slP k_api_Value v_op_0_Args op_0.Args) h0 (All.cons (x := slP (kInt .u8) v_op_0_Bytes op_0.Bytes) h1 (All.nil _)))) ?_
  have ho := H
  refine CP.seq ?_
  refine CP.region ?_
  refine SP.box (cs := [.int .u8 op_0.Kind, .int .i64 op_0.Method, v_op_0_Args, v_op_0_Bytes]) rfl rfl rfl rfl (fun b3 => ?_)
  refine SP.alloc (cs := [.int .u8 0, .int .i64 0, (.slice none 0 0), (.slice none 0 0)]) inf34 rfl rfl (fun b5 => ?_)
  refine SP.nil ?_
  refine QE.then ?_
  refine CP.seq ?_
  refine CP.drawA (by kernel_rfl) (fun w2 k h => h.drawn k) ?_
  refine DA.phase (fun i => Nat.ble 0 i && Nat.blt i 7) (fun w2 => St w em hV [slP k_api_Value v_op_0_Args op_0.Args, slP (kInt .u8) v_op_0_Bytes op_0.Bytes] [boxO b5 [.int .u8 0, .int .i64 0, (.slice none 0 0), (.slice none 0 0)] 34, boxO b3 [.int .u8 op_0.Kind, .int .i64 op_0.Method, v_op_0_Args, v_op_0_Bytes] 34] w2) ?_
  refine DT.take 0 rfl rfl rfl rfl (by kernel_rfl) (fun _ _ _ h => h) (Val.fieldAddr Try.underlying34 rfl sz32 rfl) (fun w2 hw => hw) ?_
  refine DT.take 1 rfl rfl rfl rfl (by kernel_rfl) (fun _ _ _ h => h) (Val.load1 1 rfl Try.underlying32 rfl rfl rfl) (fun w2 hw => hw) ?_
  refine DT.take 3 rfl rfl rfl rfl (by kernel_rfl) (fun _ _ _ h => h) (Val.fieldAddr Try.underlying34 rfl sz24 rfl) (fun w2 hw => hw) ?_
  refine DT.take 4 rfl rfl rfl rfl (by kernel_rfl) (fun _ _ _ h => h) (Val.load1 1 rfl Try.underlying24 rfl rfl rfl) (fun w2 hw => hw) ?_
  refine DT.one 2 rfl (by kernel_rfl) rfl ?_
  obtain ⟨t22, hc, ho⟩ := bind_some ho
  refine SP.callK see (caps := []) _ fn63 rfl rfl rfl rfl (fun w2 hP hs sub ap => slices_Clone_api_Value_api_Value.ok op_0.Args _ _ hc w2 hP sub (ap.get 0 rfl)) (fun vr => ?_)
  refine SP.ex (fun w2 h => St.open h) (fun v23 => ?_)
  refine SP.have (fun w2 h => (St.pand h).1.symm) (fun er => ?_)
  subst er
  refine SP.imp (fun w2 h => St.seps (St.pand h).2) ?_
  clear hc
  refine SP.nil ?_
  refine QE.atT (fun w2 hw => (St.selO [1, 2] rfl rfl hw)) ?_
  refine DT.take 6 rfl rfl rfl rfl (by kernel_rfl) (fun _ _ _ h => h) (Val.fieldAddr Try.underlying34 rfl sz32 rfl) (fun w2 hw => (St.selO [1, 2] rfl rfl hw)) ?_
  refine DT.one 5 rfl (by kernel_rfl) rfl ?_
  obtain ⟨t31, hc, ho⟩ := bind_some ho
  refine SP.callK see (caps := []) _ fn64 rfl rfl rfl rfl (fun w2 hP hs sub ap => bytes_Clone.ok op_0.Bytes _ _ hc w2 hP sub (ap.get 1 rfl)) (fun vr => ?_)
  refine SP.ex (fun w2 h => St.open h) (fun v32 => ?_)
  refine SP.have (fun w2 h => (St.pand h).1.symm) (fun er => ?_)
  subst er
  refine SP.imp (fun w2 h => St.seps (St.pand h).2) ?_
  clear hc
  refine SP.nil ?_
  refine QE.atT (fun w2 hw => (St.selO [2, 3] rfl rfl hw)) ?_
  refine DT.next (by kernel_rfl) ?_
  refine DA.one 7 rfl (by kernel_rfl) ?_
  refine SP.have (fun w2 hw => slO.shape (St.own 1 rfl see.sub see.dj hw)) (fun hs_v23 => ?_)
  refine SP.store (v := v23) (vs := [v23]) 3 (by rfl) sz32 (by rfl) (by rfl) (by rfl) (one_cells hs_v23) (one_cons hs_v23 (rfl)) (by rfl) ?_
  refine SP.nil ?_
  refine QE.atA ?_
  refine DA.one 8 rfl (by kernel_rfl) ?_
  refine SP.val (Val.fieldAddr Try.underlying34 rfl sz24 rfl) rfl rfl rfl ?_
  refine SP.nil ?_
  refine QE.atA ?_
  refine DA.one 9 rfl (by kernel_rfl) ?_
  refine SP.have (fun w2 hw => slO.shape (St.own 0 rfl see.sub see.dj hw)) (fun hs_v32 => ?_)
  refine SP.store (v := v32) (vs := [v32]) 3 (by rfl) sz24 (by rfl) (by rfl) (by rfl) (one_cells hs_v32) (one_cons hs_v32 (rfl)) (by rfl) ?_
  refine SP.nil ?_
  refine QE.atA ?_
  refine DA.done (by kernel_rfl) ?_
  refine QE.then ?_
  refine CP.seq ?_
  refine CP.region ?_
  refine SP.val (Val.loadA 3 rfl Try.underlying34 rfl sz34 rfl rfl rfl) rfl rfl rfl ?_
  refine SP.have (fun w2 hw => slO.shape (St.own 1 rfl see.sub see.dj hw)) (fun hs_v23 => ?_)
  refine SP.have (fun w2 hw => slO.shape (St.own 0 rfl see.sub see.dj hw)) (fun hs_v32 => ?_)
  refine SP.store (v := .agg #[.int .u8 op_0.Kind, .int .i64 op_0.Method, v23, v32]) (vs := [.int .u8 op_0.Kind, .int .i64 op_0.Method, v23, v32]) 2 (by rfl) sz34 (by rfl) (by rfl) (by rfl) (by rfl) (one_cons rfl (one_cons rfl (one_cons hs_v23 (one_cons hs_v32 (rfl))))) (by rfl) ?_
  refine SP.nil ?_
  refine QE.then ?_
  refine CP.ret ?_
  obtain rfl := Option.some.inj ho
  exact QE.rets (rs := [.cell 2 34]) (vs := [.agg #[.int .u8 op_0.Kind, .int .i64 op_0.Method, v23, v32]]) Try.results57 rfl ⟨RVs.cellA 2 rfl rfl Try.underlying34 rfl sz34, trivial⟩ (fun w2 h => St.done (fun a b p s => ⟨_, _, rfl, s⟩) (St.selO [1, 0] rfl rfl h))
/-! ### capstan/history.own: function 42 -/
def history_own.f (c_0 : history_Call) : Option history_Call :=
  (entry_Copy.f c_0.Op).bind fun t7 => some (⟨c_0.Proc, (⟨t7.Kind, t7.Method, t7.Args, t7.Bytes⟩ : api_Op), c_0.Read, (⟨c_0.Reply.Err, (⟨c_0.Reply.Out.Trap, (⟨c_0.Reply.Out.Result.Kind, c_0.Reply.Out.Result.A, c_0.Reply.Out.Result.B⟩ : api_Value)⟩ : api_Outcome)⟩ : api_Reply), c_0.Start, c_0.End⟩ : history_Call)
theorem history_own.ok (c_0 : history_Call) (v_c_0_Op_Args : Value) (v_c_0_Op_Bytes : Value) (r : history_Call) (H : history_own.f c_0 = some r) (w : World) (hV : Hp) (sV : Sub hV (hp w)) (h0 : slR k_api_Value hV v_c_0_Op_Args c_0.Op.Args) (h1 : slR (kInt .u8) hV v_c_0_Op_Bytes c_0.Op.Bytes) :
    Trip Try.prog 42 [.agg #[.int .i64 c_0.Proc, .int .u8 c_0.Op.Kind, .int .i64 c_0.Op.Method, v_c_0_Op_Args, v_c_0_Op_Bytes, .bool c_0.Read, .int .i64 c_0.Reply.Err, .int .i64 c_0.Reply.Out.Trap, .int .u8 c_0.Reply.Out.Result.Kind, .int .i64 c_0.Reply.Out.Result.A, .int .i64 c_0.Reply.Out.Result.B, .int .i64 c_0.Start, .int .i64 c_0.End]].toArray em hV w (fun v => HO.ex fun u0 : Value => HO.ex fun u1 : Value => HO.pand (v = .agg #[.int .i64 r.Proc, .int .u8 r.Op.Kind, .int .i64 r.Op.Method, u0, u1, .bool r.Read, .int .i64 r.Reply.Err, .int .i64 r.Reply.Out.Trap, .int .u8 r.Reply.Out.Result.Kind, .int .i64 r.Reply.Out.Result.A, .int .i64 r.Reply.Out.Result.B, .int .i64 r.Start, .int .i64 r.End]) (HO.seps [slO k_api_Value 37 u0 r.Op.Args, slO (kInt .u8) 5 u1 r.Op.Bytes])) := by
  have see : Sees w em hV := ⟨sV, Dj.em_right _⟩
  refine Trip.of (P := Try.prog) (n := ⟨8, []⟩) Try.func42 rfl ⟨rfl, rfl⟩ rfl (St.begin (All.cons (x := slP k_api_Value v_c_0_Op_Args c_0.Op.Args) h0 (All.cons (x := slP (kInt .u8) v_c_0_Op_Bytes c_0.Op.Bytes) h1 (All.nil _)))) ?_
  have ho := H
  refine CP.seq ?_
  refine CP.region ?_
  refine SP.box (cs := [.int .i64 c_0.Proc, .int .u8 c_0.Op.Kind, .int .i64 c_0.Op.Method, v_c_0_Op_Args, v_c_0_Op_Bytes, .bool c_0.Read, .int .i64 c_0.Reply.Err, .int .i64 c_0.Reply.Out.Trap, .int .u8 c_0.Reply.Out.Result.Kind, .int .i64 c_0.Reply.Out.Result.A, .int .i64 c_0.Reply.Out.Result.B, .int .i64 c_0.Start, .int .i64 c_0.End]) rfl rfl rfl rfl (fun b3 => ?_)
  refine SP.alloc (cs := [.int .i64 0, .int .u8 0, .int .i64 0, (.slice none 0 0), (.slice none 0 0), .bool false, .int .i64 0, .int .i64 0, .int .u8 0, .int .i64 0, .int .i64 0, .int .i64 0, .int .i64 0]) inf48 rfl rfl (fun b5 => ?_)
  refine SP.nil ?_
  refine QE.then ?_
  refine CP.seq ?_
  refine CP.region ?_
  refine SP.val (Val.fieldAddr Try.underlying48 rfl sz34 rfl) rfl rfl rfl ?_
  refine SP.val (Val.loadA 1 rfl Try.underlying34 rfl sz34 rfl rfl rfl) rfl rfl rfl ?_
  obtain ⟨t7, hc, ho⟩ := bind_some ho
  refine SP.callK see (caps := []) _ fn57 rfl rfl rfl rfl (fun w2 hP hs sub ap => entry_Copy.ok c_0.Op _ _ _ hc w2 hP sub (ap.get 0 rfl) (ap.get 1 rfl)) (fun vr => ?_)
  refine SP.ex (fun w2 h => St.open h) (fun v8 => ?_)
  refine SP.ex (fun w2 h => St.open h) (fun v9 => ?_)
  refine SP.have (fun w2 h => (St.pand h).1.symm) (fun er => ?_)
  subst er
  refine SP.imp (fun w2 h => St.seps (St.pand h).2) ?_
  clear hc
  refine SP.val (Val.fieldAddr Try.underlying48 rfl sz34 rfl) rfl rfl rfl ?_
  refine SP.have (fun w2 hw => slO.shape (St.own 0 rfl see.sub see.dj hw)) (fun hs_v8 => ?_)
  refine SP.have (fun w2 hw => slO.shape (St.own 1 rfl see.sub see.dj hw)) (fun hs_v9 => ?_)
  refine SP.store (v := .agg #[.int .u8 t7.Kind, .int .i64 t7.Method, v8, v9]) (vs := [.int .u8 t7.Kind, .int .i64 t7.Method, v8, v9]) 3 (by rfl) sz34 (by rfl) (by rfl) (by rfl) (by rfl) (one_cons rfl (one_cons rfl (one_cons hs_v8 (one_cons hs_v9 (rfl))))) (by rfl) ?_
  refine SP.nil ?_
  refine QE.then ?_
  refine CP.seq ?_
  refine CP.region ?_
  refine SP.val (Val.loadA 3 rfl Try.underlying48 rfl sz48 rfl rfl rfl) rfl rfl rfl ?_
  refine SP.have (fun w2 hw => slO.shape (St.own 0 rfl see.sub see.dj hw)) (fun hs_v8 => ?_)
  refine SP.have (fun w2 hw => slO.shape (St.own 1 rfl see.sub see.dj hw)) (fun hs_v9 => ?_)
  refine SP.store (v := .agg #[.int .i64 c_0.Proc, .int .u8 t7.Kind, .int .i64 t7.Method, v8, v9, .bool c_0.Read, .int .i64 c_0.Reply.Err, .int .i64 c_0.Reply.Out.Trap, .int .u8 c_0.Reply.Out.Result.Kind, .int .i64 c_0.Reply.Out.Result.A, .int .i64 c_0.Reply.Out.Result.B, .int .i64 c_0.Start, .int .i64 c_0.End]) (vs := [.int .i64 c_0.Proc, .int .u8 t7.Kind, .int .i64 t7.Method, v8, v9, .bool c_0.Read, .int .i64 c_0.Reply.Err, .int .i64 c_0.Reply.Out.Trap, .int .u8 c_0.Reply.Out.Result.Kind, .int .i64 c_0.Reply.Out.Result.A, .int .i64 c_0.Reply.Out.Result.B, .int .i64 c_0.Start, .int .i64 c_0.End]) 2 (by rfl) sz48 (by rfl) (by rfl) (by rfl) (by rfl) (one_cons rfl (one_cons rfl (one_cons rfl (one_cons hs_v8 (one_cons hs_v9 (one_cons rfl (one_cons rfl (one_cons rfl (one_cons rfl (one_cons rfl (one_cons rfl (one_cons rfl (one_cons rfl (rfl)))))))))))))) (by rfl) ?_
  refine SP.nil ?_
  refine QE.then ?_
  refine CP.ret ?_
  obtain rfl := Option.some.inj ho
  exact QE.rets (rs := [.cell 2 48]) (vs := [.agg #[.int .i64 c_0.Proc, .int .u8 t7.Kind, .int .i64 t7.Method, v8, v9, .bool c_0.Read, .int .i64 c_0.Reply.Err, .int .i64 c_0.Reply.Out.Trap, .int .u8 c_0.Reply.Out.Result.Kind, .int .i64 c_0.Reply.Out.Result.A, .int .i64 c_0.Reply.Out.Result.B, .int .i64 c_0.Start, .int .i64 c_0.End]]) Try.results42 rfl ⟨RVs.cellA 2 rfl rfl Try.underlying48 rfl sz48, trivial⟩ (fun w2 h => St.done (fun a b p s => ⟨_, _, rfl, s⟩) (St.selO [0, 1] rfl rfl h))
/-! ### capstan/history.kept[capstan/history.Call,capstan/history.Call]: function 50 -/
inductive history_kept_history_Call_history_Call_s1.S where
  | start
  | l1 (l30 : List history_Call) (x32 : Int)

def history_kept_history_Call_history_Call_s1.j1 (l_0 : (List history_Call)) (x32 : Int) (l54 : List history_Call) : Option (history_kept_history_Call_history_Call_s1.S ⊕ (List history_Call)) :=
  some (.inl (.l1 l54 (IntKind.i64.wrap (x32 + 1))))

def history_kept_history_Call_history_Call_s1.F (l_0 : (List history_Call)) : history_kept_history_Call_history_Call_s1.S → Option (history_kept_history_Call_history_Call_s1.S ⊕ (List history_Call))
  | .start => some (.inl (.l1 [] 0))
  | .l1 l30 x32 => if x32 < (l_0.length : Int) then ((elt l_0 x32).bind fun x36 => (history_Call_pending.f x36).bind fun t43 => if t43 = true then ((history_own.f x36).bind fun t44 => if (l30.length + [t44].length) * 136 ≤ 140737488355328 then (history_kept_history_Call_history_Call_s1.j1 l_0 x32 (l30 ++ [t44])) else none) else (history_kept_history_Call_history_Call_s1.j1 l_0 x32 l30)) else (some (.inr l30))

def history_kept_history_Call_history_Call_s1.f (l_0 : (List history_Call)) : Option (List history_Call) := runF (history_kept_history_Call_history_Call_s1.F l_0) .start
theorem history_kept_history_Call_history_Call_s1.ok (l_0 : (List history_Call)) (v_l_0 : Value) (r : (List history_Call)) (H : history_kept_history_Call_history_Call_s1.f l_0 = some r) (w : World) (hV : Hp) (sV : Sub hV (hp w)) (h0 : slR k_history_Call hV v_l_0 l_0) :
    Trip Try.prog 50 [v_l_0, .func (.func 48) #[] #[], .func (.func 42) #[] #[]].toArray em hV w (fun v => HO.ex fun u0 : Value => HO.pand (v = u0) (HO.seps [slD o_history_Call 48 u0 r])) := by
  have see : Sees w em hV := ⟨sV, Dj.em_right _⟩
  refine Trip.of (P := Try.prog) (n := ⟨27, []⟩) Try.func50 rfl ⟨rfl, rfl⟩ rfl (St.begin (All.cons (x := slP k_history_Call v_l_0 l_0) h0 (All.nil _))) ?_
  obtain ⟨n0, hi⟩ := runF_iff.1 H
  obtain ⟨m0, o, hm0, ho, hr⟩ := iter_some hi
  clear hi
  refine CP.seq ?_
  refine CP.region ?_
  refine SP.val (Val.assign rfl) rfl rfl rfl ?_
  refine SP.nil ?_
  refine QE.then ?_
  refine CP.seq ?_
  refine CP.region ?_
  refine SP.val (Val.assign rfl) rfl rfl rfl ?_
  refine SP.nil ?_
  refine QE.then ?_
  refine CP.seq ?_
  refine CP.seq ?_
  refine CP.region ?_
  refine SP.val (Val.move rfl) rfl rfl rfl ?_
  refine SP.val (Val.lenP see 0 rfl Try.underlying44 rfl) rfl rfl rfl ?_
  refine SP.val (Val.move rfl) rfl rfl rfl ?_
  refine SP.nil ?_
  refine QE.then ?_
  refine CP.block ?_
  obtain rfl := Option.some.inj ho
  refine CP.loop (fun cl1 a w2 => ∃ l30 : List history_Call, ∃ x32 : Int, ∃ v31 : Value, cl1 ≤ m0 ∧ iter (history_kept_history_Call_history_Call_s1.F l_0) cl1 (.l1 l30 x32) = some r ∧ Env ⟨27, []⟩ [(1, .func (.func 48) #[] #[]), (2, .func (.func 42) #[] #[]), (7, v31), (10, v_l_0), (11, .int .i64 (l_0.length : Int)), (12, .int .i64 x32)] a ∧ St w em hV [slP k_history_Call v_l_0 l_0] [slD o_history_Call 48 v31 l30] w2) m0 (fun a w2 ha hw => ⟨[], 0, (.slice none 0 0), Nat.le_refl _, hr, ha.sub ⟨rfl, rfl, rfl, rfl, rfl, rfl, trivial⟩, (St.addO (slD.nil o_history_Call 48) hw)⟩) ?_
  clear hr
  rintro cl1 a w2 ⟨l30, x32, v31, hc_l1, hi, ha, hw⟩
  obtain ⟨m33, o, hm_m33, ho, hr⟩ := iter_some hi
  refine CP.app ha hw ?_
  clear ha hw a w2 hi
  refine CP.seq ?_
  refine CP.region ?_
  refine SP.val (Val.lss rfl rfl) rfl rfl rfl ?_
  refine SP.nil ?_
  refine QE.then ?_
  refine CP.seq ?_
  rcases if_some ho with ⟨hc, ho⟩ | ⟨hc, ho⟩
  · refine CP.condT rfl (decide_eq_true hc) ?_
    refine CP.skip ?_
    refine QE.then ?_
    refine CP.join (fun a w2 => ∃ l54 : List history_Call, ∃ v55 : Value, ∃ (m56 : Nat) (o : (history_kept_history_Call_history_Call_s1.S ⊕ (List history_Call))), m56 ≤ m33 ∧ history_kept_history_Call_history_Call_s1.j1 l_0 x32 l54 = some o ∧ next (history_kept_history_Call_history_Call_s1.F l_0) m56 o = some r ∧ Env ⟨27, []⟩ [(1, .func (.func 48) #[] #[]), (2, .func (.func 42) #[] #[]), (7, v55), (10, v_l_0), (11, .int .i64 (l_0.length : Int)), (12, .int .i64 x32)] a ∧ St w em hV [slP k_history_Call v_l_0 l_0] [slD o_history_Call 48 v55 l54] w2) ?_ ?_
    · rintro a w2 ⟨l54, v55, m56, o, hm_m56, ho, hr, ha, hw⟩
      refine CP.app ha hw ?_
      clear ha hw a w2
      refine CP.region ?_
      refine SP.val (Val.add rfl rfl) rfl rfl rfl ?_
      refine SP.val (Val.move rfl) rfl rfl rfl ?_
      refine SP.nil ?_
      obtain rfl := Option.some.inj ho
      exact QE.lower m56 (by omega) fun a w2 ha hw => ⟨l54, (IntKind.i64.wrap (x32 + 1)), v55, (by omega), hr, ha.sub ⟨rfl, rfl, rfl, rfl, rfl, rfl, trivial⟩, hw⟩
    · refine CP.block ?_
      refine CP.seq ?_
      refine CP.region ?_
      obtain ⟨x36, hx, ho⟩ := bind_some ho
      have hx := elt_some hx
      refine SP.indexP see 0 rfl Try.underlying44 sz48 hx.1 hx.2 rfl rfl rfl rfl (fun p34 => ?_)
      clear hx
      refine k_history_Call.load see 0 rfl Try.underlying48 rfl sz48 rfl rfl rfl (fun v37 v39 => ?_)
      refine SP.alloc (cs := [.int .i64 0, .int .u8 0, .int .i64 0, (.slice none 0 0), (.slice none 0 0), .bool false, .int .i64 0, .int .i64 0, .int .u8 0, .int .i64 0, .int .i64 0, .int .i64 0, .int .i64 0]) inf48 rfl rfl (fun b41 => ?_)
      refine SP.have (fun w2 hw => slR.shape (St.pers 0 rfl see.sub see.dj hw)) (fun hs_v37 => ?_)
      refine SP.have (fun w2 hw => slR.shape (St.pers 1 rfl see.sub see.dj hw)) (fun hs_v39 => ?_)
      refine SP.store (v := .agg #[.int .i64 x36.Proc, .int .u8 x36.Op.Kind, .int .i64 x36.Op.Method, v37, v39, .bool x36.Read, .int .i64 x36.Reply.Err, .int .i64 x36.Reply.Out.Trap, .int .u8 x36.Reply.Out.Result.Kind, .int .i64 x36.Reply.Out.Result.A, .int .i64 x36.Reply.Out.Result.B, .int .i64 x36.Start, .int .i64 x36.End]) (vs := [.int .i64 x36.Proc, .int .u8 x36.Op.Kind, .int .i64 x36.Op.Method, v37, v39, .bool x36.Read, .int .i64 x36.Reply.Err, .int .i64 x36.Reply.Out.Trap, .int .u8 x36.Reply.Out.Result.Kind, .int .i64 x36.Reply.Out.Result.A, .int .i64 x36.Reply.Out.Result.B, .int .i64 x36.Start, .int .i64 x36.End]) 0 (by rfl) sz48 (by rfl) (by rfl) (by rfl) (by rfl) (one_cons rfl (one_cons rfl (one_cons rfl (one_cons hs_v37 (one_cons hs_v39 (one_cons rfl (one_cons rfl (one_cons rfl (one_cons rfl (one_cons rfl (one_cons rfl (one_cons rfl (one_cons rfl (rfl)))))))))))))) (by rfl) ?_
      refine SP.nil ?_
      refine QE.then ?_
      refine CP.seq ?_
      refine CP.region ?_
      refine SP.val (Val.move rfl) rfl rfl rfl ?_
      refine SP.val (Val.loadA 0 rfl Try.underlying48 rfl sz48 rfl rfl rfl) rfl rfl rfl ?_
      obtain ⟨t43, hc, ho⟩ := bind_some ho
      refine SP.callV see (caps := []) (.bool t43) fn48 rfl rfl rfl rfl (fun w2 hP hs sub ap => history_Call_pending.ok x36 _ _ _ hc w2 hP sub (ap.get 0 rfl) (ap.get 1 rfl)) ?_
      clear hc
      refine SP.nil ?_
      refine QE.then ?_
      rcases if_some ho with ⟨hc, ho⟩ | ⟨hc, ho⟩
      · refine CP.condT rfl hc ?_
        refine CP.region ?_
        refine SP.val (Val.move rfl) rfl rfl rfl ?_
        refine SP.val (Val.move rfl) rfl rfl rfl ?_
        refine SP.val (Val.loadA 0 rfl Try.underlying48 rfl sz48 rfl rfl rfl) rfl rfl rfl ?_
        obtain ⟨t44, hc, ho⟩ := bind_some ho
        refine SP.callK see (caps := []) _ fn42 rfl rfl rfl rfl (fun w2 hP hs sub ap => history_own.ok x36 _ _ _ hc w2 hP sub (ap.get 0 rfl) (ap.get 1 rfl)) (fun vr => ?_)
        refine SP.ex (fun w2 h => St.open h) (fun v45 => ?_)
        refine SP.ex (fun w2 h => St.open h) (fun v46 => ?_)
        refine SP.have (fun w2 h => (St.pand h).1.symm) (fun er => ?_)
        subst er
        refine SP.imp (fun w2 h => St.seps (St.pand h).2) ?_
        clear hc
        refine SP.have (fun w2 hw => slO.shape (St.own 0 rfl see.sub see.dj hw)) (fun hs_v45 => ?_)
        refine SP.have (fun w2 hw => slO.shape (St.own 1 rfl see.sub see.dj hw)) (fun hs_v46 => ?_)
        refine SP.lit (k := kRaw 13) (xs := [[.int .i64 t44.Proc, .int .u8 t44.Op.Kind, .int .i64 t44.Op.Method, v45, v46, .bool t44.Read, .int .i64 t44.Reply.Err, .int .i64 t44.Reply.Out.Trap, .int .u8 t44.Reply.Out.Result.Kind, .int .i64 t44.Reply.Out.Result.A, .int .i64 t44.Reply.Out.Result.B, .int .i64 t44.Start, .int .i64 t44.End]]) (vs := [.agg #[.int .i64 t44.Proc, .int .u8 t44.Op.Kind, .int .i64 t44.Op.Method, v45, v46, .bool t44.Read, .int .i64 t44.Reply.Err, .int .i64 t44.Reply.Out.Trap, .int .u8 t44.Reply.Out.Result.Kind, .int .i64 t44.Reply.Out.Result.A, .int .i64 t44.Reply.Out.Result.B, .int .i64 t44.Start, .int .i64 t44.End]]) (cells := [.int .i64 t44.Proc, .int .u8 t44.Op.Kind, .int .i64 t44.Op.Method, v45, v46, .bool t44.Read, .int .i64 t44.Reply.Err, .int .i64 t44.Reply.Out.Trap, .int .u8 t44.Reply.Out.Result.Kind, .int .i64 t44.Reply.Out.Result.A, .int .i64 t44.Reply.Out.Result.B, .int .i64 t44.Start, .int .i64 t44.End]) Try.underlying44 inf48 rfl rfl rfl rfl rfl rfl rfl rfl (fun _ ap => ⟨[.int .i64 t44.Proc, .int .u8 t44.Op.Kind, .int .i64 t44.Op.Method, v45, v46, .bool t44.Read, .int .i64 t44.Reply.Err, .int .i64 t44.Reply.Out.Trap, .int .u8 t44.Reply.Out.Result.Kind, .int .i64 t44.Reply.Out.Result.A, .int .i64 t44.Reply.Out.Result.B, .int .i64 t44.Start, .int .i64 t44.End], _, rfl, ⟨rfl, rfl, one_cons rfl (one_cons rfl (one_cons rfl (one_cons hs_v45 (one_cons hs_v46 (one_cons rfl (one_cons rfl (one_cons rfl (one_cons rfl (one_cons rfl (one_cons rfl (one_cons rfl (one_cons rfl (rfl)))))))))))))⟩, rfl⟩) rfl rfl rfl (fun v49 => ?_)
        refine SP.imp (fun w2 hw => St.litD (k := o_history_Call) [slO k_api_Value 37 v45 t44.Op.Args, slO (kInt .u8) 5 v46 t44.Op.Bytes] (St.selO [0, 1, 2, 3, 4] rfl rfl hw) (fun a b q => ⟨_, _, rfl, q⟩)) ?_
        refine SP.imp (fun w2 hw => St.selO [2, 0, 1] rfl rfl hw) ?_
        obtain ⟨hb, ho⟩ := must_some ho
        refine SP.appendD see Try.underlying44 inf48 rfl rfl hb rfl rfl rfl rfl rfl (fun v51 => ?_)
        clear hb
        refine SP.val (Val.assign rfl) rfl rfl rfl ?_
        refine SP.nil ?_
        refine QE.blockN ?_
        exact QE.meet fun a w2 ha hw => ⟨(l30 ++ [t44]), v51, m33, _, (by omega), ho, hr, ha.sub ⟨rfl, rfl, rfl, rfl, rfl, rfl, trivial⟩, (St.selP [3] rfl (St.selO [0] rfl rfl hw))⟩
      · refine CP.condF rfl (bf hc) ?_
        refine CP.skip ?_
        refine QE.blockN ?_
        exact QE.meet fun a w2 ha hw => ⟨l30, v31, m33, _, (by omega), ho, hr, ha.sub ⟨rfl, rfl, rfl, rfl, rfl, rfl, trivial⟩, (St.selP [3] rfl (St.selO [1] rfl rfl hw))⟩
  · refine CP.condF rfl (decide_eq_false hc) ?_
    refine CP.exit ?_
    refine QE.thru (by intro e; cases e) ?_
    refine QE.thru (by intro e; cases e) ?_
    refine QE.blockE ?_
    refine QE.then ?_
    refine CP.seq ?_
    refine CP.region ?_
    refine SP.val (Val.move rfl) rfl rfl rfl ?_
    refine SP.val (Val.assign rfl) rfl rfl rfl ?_
    refine SP.nil ?_
    refine QE.then ?_
    refine CP.ret ?_
    obtain rfl := Option.some.inj ho
    obtain rfl := Option.some.inj hr
    exact QE.rets (rs := [.tmp 6]) (vs := [v31]) Try.results50 rfl ⟨RVs.tmp rfl, trivial⟩ (fun w2 h => St.done (fun a b p s => ⟨_, rfl, s⟩) (St.selO [0] rfl rfl h))
/-! ### capstan/history.Pending: function 27 -/
def history_Pending.f (l_0 : (List history_Call)) : Option Int :=
  (history_kept_history_Call_history_Call_s1.f l_0).bind fun t2 => some (t2.length : Int)
theorem history_Pending.ok (l_0 : (List history_Call)) (v_l_0 : Value) (r : Int) (H : history_Pending.f l_0 = some r) (w : World) (hV : Hp) (sV : Sub hV (hp w)) (h0 : slR k_history_Call hV v_l_0 l_0) :
    Trip Try.prog 27 [v_l_0].toArray em hV w (fun v => HO.pure (v = .int .i64 r)) := by
  have see : Sees w em hV := ⟨sV, Dj.em_right _⟩
  refine Trip.of (P := Try.prog) (n := ⟨6, []⟩) Try.func27 rfl ⟨rfl, rfl⟩ rfl (St.begin (All.cons (x := slP k_history_Call v_l_0 l_0) h0 (All.nil _))) ?_
  have ho := H
  refine CP.seq ?_
  refine CP.region ?_
  refine SP.val (Val.assign rfl) rfl rfl rfl ?_
  refine SP.nil ?_
  refine QE.then ?_
  refine CP.seq ?_
  refine CP.region ?_
  refine SP.val (Val.move rfl) rfl rfl rfl ?_
  obtain ⟨t2, hc, ho⟩ := bind_some ho
  refine SP.callK see (caps := []) _ fn50 rfl rfl rfl rfl (fun w2 hP hs sub ap => history_kept_history_Call_history_Call_s1.ok l_0 _ _ hc w2 hP sub (ap.get 0 rfl)) (fun vr => ?_)
  refine SP.ex (fun w2 h => St.open h) (fun v3 => ?_)
  refine SP.have (fun w2 h => (St.pand h).1.symm) (fun er => ?_)
  subst er
  refine SP.imp (fun w2 h => St.seps (St.pand h).2) ?_
  clear hc
  refine SP.val (Val.lenW (fun w2 hw => slD.flat (St.own 0 rfl see.sub see.dj hw) (Sub.refl _) (Sub.refl _)) Try.underlying44 rfl) rfl rfl rfl ?_
  refine SP.val (Val.assign rfl) rfl rfl rfl ?_
  refine SP.nil ?_
  refine QE.then ?_
  refine CP.ret ?_
  obtain rfl := Option.some.inj ho
  exact QE.rets (rs := [.tmp 2]) (vs := [.int .i64 (t2.length : Int)]) Try.results27 rfl ⟨RVs.tmp rfl, trivial⟩ (fun w2 h => St.done (fun a b p s => rfl) h)
/-! ### capstan/gauss.May: function 72 -/
inductive gauss_May.S where
  | start
  | l1 (x7 : Int)

def gauss_May.F (p_0 : gauss_Pair) : gauss_May.S → Option (gauss_May.S ⊕ Bool)
  | .start => some (.inl (.l1 0))
  | .l1 x7 => if x7 < 2 then ((elt ([p_0.e0, p_0.e1] : List Int) x7).bind fun x9 => if ((decide (x9 < (-1048576))) || (decide (x9 > 1048576))) = true then (some (.inr false)) else (some (.inl (.l1 (IntKind.i64.wrap (x7 + 1)))))) else (some (.inr true))

def gauss_May.f (p_0 : gauss_Pair) : Option Bool := runF (gauss_May.F p_0) .start
theorem gauss_May.ok (p_0 : gauss_Pair)  (r : Bool) (H : gauss_May.f p_0 = some r) (w : World) (hV : Hp) (sV : Sub hV (hp w))  :
    Trip Try.prog 72 [.agg #[.int .i64 p_0.e0, .int .i64 p_0.e1]].toArray em hV w (fun v => HO.pure (v = .bool r)) := by
  have see : Sees w em hV := ⟨sV, Dj.em_right _⟩
  refine Trip.of (P := Try.prog) (n := ⟨16, []⟩) Try.func72 rfl ⟨rfl, rfl⟩ rfl (St.begin (All.nil _)) ?_
  obtain ⟨n0, hi⟩ := runF_iff.1 H
  obtain ⟨m0, o, hm0, ho, hr⟩ := iter_some hi
  clear hi
  refine CP.seq ?_
  refine CP.region ?_
  refine SP.box (cs := [.int .i64 p_0.e0, .int .i64 p_0.e1]) rfl rfl rfl rfl (fun b1 => ?_)
  refine SP.val (Val.assign rfl) rfl rfl rfl ?_
  refine SP.nil ?_
  refine QE.then ?_
  refine CP.seq ?_
  refine CP.seq ?_
  refine CP.region ?_
  refine SP.val (Val.loadA 0 rfl Try.underlying116 rfl sz116 rfl rfl rfl) rfl rfl rfl ?_
  refine SP.val (Val.move rfl) rfl rfl rfl ?_
  refine SP.nil ?_
  refine QE.then ?_
  refine CP.block ?_
  obtain rfl := Option.some.inj ho
  refine CP.loop (fun cl1 a w2 => ∃ x7 : Int, cl1 ≤ m0 ∧ iter (gauss_May.F p_0) cl1 (.l1 x7) = some r ∧ Env ⟨16, []⟩ [(5, .agg #[.int .i64 p_0.e0, .int .i64 p_0.e1]), (6, .int .i64 x7)] a ∧ St w em hV [] [] w2) m0 (fun a w2 ha hw => ⟨0, Nat.le_refl _, hr, ha.sub ⟨rfl, rfl, trivial⟩, (St.selO [] rfl rfl hw)⟩) ?_
  clear hr
  rintro cl1 a w2 ⟨x7, hc_l1, hi, ha, hw⟩
  obtain ⟨m8, o, hm_m8, ho, hr⟩ := iter_some hi
  refine CP.app ha hw ?_
  clear ha hw a w2 hi
  refine CP.seq ?_
  refine CP.region ?_
  refine SP.val (Val.lss rfl rfl) rfl rfl rfl ?_
  refine SP.nil ?_
  refine QE.then ?_
  refine CP.seq ?_
  rcases if_some ho with ⟨hc, ho⟩ | ⟨hc, ho⟩
  · refine CP.condT rfl (decide_eq_true hc) ?_
    refine CP.skip ?_
    refine QE.then ?_
    refine CP.seq ?_
    refine CP.block ?_
    refine CP.seq ?_
    refine CP.region ?_
    obtain ⟨x9, hx, ho⟩ := bind_some ho
    have hx := elt_some hx
    refine SP.val (Val.indexA (xs := [p_0.e0, p_0.e1]) (fun z => .int .i64 z) Try.underlying116 Try.underlying2 rfl sz2 rfl rfl rfl hx.1 hx.2) rfl rfl rfl ?_
    clear hx
    refine SP.val (Val.assign rfl) rfl rfl rfl ?_
    refine SP.nil ?_
    refine QE.then ?_
    refine CP.seq ?_
    refine CP.region ?_
    refine SP.val (Val.move rfl) rfl rfl rfl ?_
    refine SP.val (Val.lss rfl rfl) rfl rfl rfl ?_
    refine SP.val (Val.move rfl) rfl rfl rfl ?_
    refine SP.join 3 (fun a w2 => Env ⟨16, []⟩ [(5, .agg #[.int .i64 p_0.e0, .int .i64 p_0.e1]), (6, .int .i64 x7), (14, .bool ((decide (x9 < (-1048576))) || (decide (x9 > 1048576))))] a ∧ St w em hV [] [] w2) ?_ ?_
    · rintro a w2 ⟨ha, hw⟩
      refine SP.app ha hw ?_
      clear ha hw a w2
      refine SP.nil ?_
      refine QE.then ?_
      rcases if_some ho with ⟨hc, ho⟩ | ⟨hc, ho⟩
      · refine CP.condT rfl hc ?_
        refine CP.seq ?_
        refine CP.region ?_
        refine SP.val (Val.assign rfl) rfl rfl rfl ?_
        refine SP.nil ?_
        refine QE.then ?_
        refine CP.ret ?_
        refine QE.blockR ?_
        refine QE.thru (by intro e; cases e) ?_
        refine QE.thru (by intro e; cases e) ?_
        refine QE.blockR ?_
        refine QE.thru (by intro e; cases e) ?_
        obtain rfl := Option.some.inj ho
        obtain rfl := Option.some.inj hr
        exact QE.rets (rs := [.tmp 2]) (vs := [.bool false]) Try.results72 rfl ⟨RVs.tmp rfl, trivial⟩ (fun w2 h => St.done (fun a b p s => rfl) h)
      · refine CP.condF rfl (bf hc) ?_
        refine CP.skip ?_
        refine QE.blockN ?_
        refine QE.then ?_
        refine CP.region ?_
        refine SP.val (Val.add rfl rfl) rfl rfl rfl ?_
        refine SP.val (Val.move rfl) rfl rfl rfl ?_
        refine SP.nil ?_
        obtain rfl := Option.some.inj ho
        exact QE.lower m8 (by omega) fun a w2 ha hw => ⟨(IntKind.i64.wrap (x7 + 1)), (by omega), hr, ha.sub ⟨rfl, rfl, trivial⟩, hw⟩
    · intro J
      by_cases hc : x9 < (-1048576)
      · have hq11 := (decide_eq_true hc)
        refine SP.isT (d := 11) rfl hq11 ?_
        refine SP.not rfl rfl rfl ?_
        refine SP.not rfl rfl rfl ?_
        refine SP.val (Val.pickT rfl rfl) rfl rfl rfl ?_
        exact J fun a w2 ha hw => ⟨ha.sub ⟨rfl, rfl, congrArg (fun z => some (Value.bool z)) (or_t hq11), trivial⟩, hw⟩
      · have hq11 := (decide_eq_false hc)
        refine SP.isF (d := 11) rfl hq11 ?_
        refine SP.val (Val.move rfl) rfl rfl rfl ?_
        refine SP.val (Val.gtr rfl rfl) rfl rfl rfl ?_
        refine SP.val (Val.pickF rfl rfl) rfl rfl rfl ?_
        exact J fun a w2 ha hw => ⟨ha.sub ⟨rfl, rfl, congrArg (fun z => some (Value.bool z)) (or_f hq11 rfl), trivial⟩, hw⟩
  · refine CP.condF rfl (decide_eq_false hc) ?_
    refine CP.exit ?_
    refine QE.thru (by intro e; cases e) ?_
    refine QE.thru (by intro e; cases e) ?_
    refine QE.blockE ?_
    refine QE.then ?_
    refine CP.seq ?_
    refine CP.region ?_
    refine SP.val (Val.assign rfl) rfl rfl rfl ?_
    refine SP.nil ?_
    refine QE.then ?_
    refine CP.ret ?_
    obtain rfl := Option.some.inj ho
    obtain rfl := Option.some.inj hr
    exact QE.rets (rs := [.tmp 2]) (vs := [.bool true]) Try.results72 rfl ⟨RVs.tmp rfl, trivial⟩ (fun w2 h => St.done (fun a b p s => rfl) h)
/-! ### capstan/value.Pair: function 69 -/
def value_Pair.f (a_0 : Int) (b_1 : Int) : Option (api_Value × Bool) :=
  (gauss_May.f (⟨a_0, b_1⟩ : gauss_Pair)).bind fun t3 => if (!t3) = true then (some ((⟨0, 0, 0⟩ : api_Value), false)) else (some ((⟨2, a_0, b_1⟩ : api_Value), true))
theorem value_Pair.ok (a_0 : Int) (b_1 : Int)  (r : api_Value × Bool) (H : value_Pair.f a_0 b_1 = some r) (w : World) (hV : Hp) (sV : Sub hV (hp w))  :
    Trip Try.prog 69 [.int .i64 a_0, .int .i64 b_1].toArray em hV w (fun v => HO.pure (v = .tuple #[.agg #[.int .u8 r.1.Kind, .int .i64 r.1.A, .int .i64 r.1.B], .bool r.2])) := by
  have see : Sees w em hV := ⟨sV, Dj.em_right _⟩
  refine Trip.of (P := Try.prog) (n := ⟨15, []⟩) Try.func69 rfl ⟨rfl, rfl⟩ rfl (St.begin (All.nil _)) ?_
  have ho := H
  refine CP.seq ?_
  refine CP.region ?_
  refine SP.alloc (cs := [.int .u8 0, .int .i64 0, .int .i64 0]) inf37 rfl rfl (fun b1 => ?_)
  refine SP.val (Val.assign rfl) rfl rfl rfl ?_
  refine SP.nil ?_
  refine QE.then ?_
  refine CP.seq ?_
  refine CP.seq ?_
  refine CP.region ?_
  refine SP.val (Val.move rfl) rfl rfl rfl ?_
  refine SP.val (Val.move rfl) rfl rfl rfl ?_
  refine SP.val (Val.buildC (us := [(0, .int .i64 a_0), (1, .int .i64 b_1)]) (ucs := [(0, [.int .i64 a_0]), (1, [.int .i64 b_1])]) (cs := [.int .i64 a_0, .int .i64 b_1]) bt116 rfl rfl ⟨rfl, rfl, ⟨rfl, rfl, trivial⟩⟩ (by rfl)) rfl rfl rfl ?_
  obtain ⟨t3, hc, ho⟩ := bind_some ho
  refine SP.callV see (caps := []) (.bool t3) fn72 rfl rfl rfl rfl (fun w2 hP hs sub ap => gauss_May.ok (⟨a_0, b_1⟩ : gauss_Pair)  _ hc w2 hP sub ) ?_
  clear hc
  refine SP.val (Val.notB rfl) rfl rfl rfl ?_
  refine SP.nil ?_
  refine QE.then ?_
  rcases if_some ho with ⟨hc, ho⟩ | ⟨hc, ho⟩
  · refine CP.condT rfl hc ?_
    refine CP.seq ?_
    refine CP.region ?_
    refine SP.val (Val.buildC (us := []) (ucs := []) (cs := [.int .u8 0, .int .i64 0, .int .i64 0]) bt37 rfl rfl trivial (by rfl)) rfl rfl rfl ?_
    refine SP.store (v := .agg #[.int .u8 0, .int .i64 0, .int .i64 0]) (vs := [.int .u8 0, .int .i64 0, .int .i64 0]) 0 (by rfl) sz37 (by rfl) (by rfl) (by rfl) (by rfl) (by rfl) (by rfl) ?_
    refine SP.val (Val.assign rfl) rfl rfl rfl ?_
    refine SP.nil ?_
    refine QE.then ?_
    refine CP.ret ?_
    refine QE.thru (by intro e; cases e) ?_
    obtain rfl := Option.some.inj ho
    exact QE.rets (rs := [.cell 4 37, .tmp 5]) (vs := [.agg #[.int .u8 0, .int .i64 0, .int .i64 0], .bool false]) Try.results69 rfl ⟨RVs.cellA 0 rfl rfl Try.underlying37 rfl sz37, RVs.tmp rfl, trivial⟩ (fun w2 h => St.done (fun a b p s => rfl) h)
  · refine CP.condF rfl (bf hc) ?_
    refine CP.skip ?_
    refine QE.then ?_
    refine CP.seq ?_
    refine CP.region ?_
    refine SP.val (Val.move rfl) rfl rfl rfl ?_
    refine SP.val (Val.move rfl) rfl rfl rfl ?_
    refine SP.val (Val.buildC (us := [(0, .int .u8 2), (1, .int .i64 a_0), (2, .int .i64 b_1)]) (ucs := [(0, [.int .u8 2]), (1, [.int .i64 a_0]), (2, [.int .i64 b_1])]) (cs := [.int .u8 2, .int .i64 a_0, .int .i64 b_1]) bt37 rfl rfl ⟨rfl, rfl, ⟨rfl, rfl, ⟨rfl, rfl, trivial⟩⟩⟩ (by rfl)) rfl rfl rfl ?_
    refine SP.store (v := .agg #[.int .u8 2, .int .i64 a_0, .int .i64 b_1]) (vs := [.int .u8 2, .int .i64 a_0, .int .i64 b_1]) 0 (by rfl) sz37 (by rfl) (by rfl) (by rfl) (by rfl) (by rfl) (by rfl) ?_
    refine SP.val (Val.assign rfl) rfl rfl rfl ?_
    refine SP.nil ?_
    refine QE.then ?_
    refine CP.ret ?_
    obtain rfl := Option.some.inj ho
    exact QE.rets (rs := [.cell 4 37, .tmp 5]) (vs := [.agg #[.int .u8 2, .int .i64 a_0, .int .i64 b_1], .bool true]) Try.results69 rfl ⟨RVs.cellA 0 rfl rfl Try.underlying37 rfl sz37, RVs.tmp rfl, trivial⟩ (fun w2 h => St.done (fun a b p s => rfl) h)
/-! ### capstan/value.Int: function 70 -/
def value_Int.f (n_0 : Int) : Option api_Value :=
  some (⟨1, n_0, 0⟩ : api_Value)
theorem value_Int.ok (n_0 : Int)  (r : api_Value) (H : value_Int.f n_0 = some r) (w : World) (hV : Hp) (sV : Sub hV (hp w))  :
    Trip Try.prog 70 [.int .i64 n_0].toArray em hV w (fun v => HO.pure (v = .agg #[.int .u8 r.Kind, .int .i64 r.A, .int .i64 r.B])) := by
  have see : Sees w em hV := ⟨sV, Dj.em_right _⟩
  refine Trip.of (P := Try.prog) (n := ⟨5, []⟩) Try.func70 rfl ⟨rfl, rfl⟩ rfl (St.begin (All.nil _)) ?_
  have ho := H
  refine CP.seq ?_
  refine CP.region ?_
  refine SP.alloc (cs := [.int .u8 0, .int .i64 0, .int .i64 0]) inf37 rfl rfl (fun b1 => ?_)
  refine SP.nil ?_
  refine QE.then ?_
  refine CP.seq ?_
  refine CP.region ?_
  refine SP.val (Val.move rfl) rfl rfl rfl ?_
  refine SP.val (Val.buildC (us := [(0, .int .u8 1), (1, .int .i64 n_0)]) (ucs := [(0, [.int .u8 1]), (1, [.int .i64 n_0])]) (cs := [.int .u8 1, .int .i64 n_0, .int .i64 0]) bt37 rfl rfl ⟨rfl, rfl, ⟨rfl, rfl, trivial⟩⟩ (by rfl)) rfl rfl rfl ?_
  refine SP.store (v := .agg #[.int .u8 1, .int .i64 n_0, .int .i64 0]) (vs := [.int .u8 1, .int .i64 n_0, .int .i64 0]) 0 (by rfl) sz37 (by rfl) (by rfl) (by rfl) (by rfl) (by rfl) (by rfl) ?_
  refine SP.nil ?_
  refine QE.then ?_
  refine CP.ret ?_
  obtain rfl := Option.some.inj ho
  exact QE.rets (rs := [.cell 2 37]) (vs := [.agg #[.int .u8 1, .int .i64 n_0, .int .i64 0]]) Try.results70 rfl ⟨RVs.cellA 0 rfl rfl Try.underlying37 rfl sz37, trivial⟩ (fun w2 h => St.done (fun a b p s => rfl) h)
/-! ### capstan/value.May: function 66 -/
def value_May.j1 (v_0 : api_Value) (b12 : Bool) : Option Bool :=
  some b12

def value_May.f (v_0 : api_Value) : Option Bool :=
  (value_Pair.f v_0.A v_0.B).bind fun t3 => (value_Int.f v_0.A).bind fun t6 => if (v_0.Kind == t6.Kind && (v_0.A == t6.A && (v_0.B == t6.B))) = true then (value_May.j1 v_0 true) else (if t3.2 = true then (value_May.j1 v_0 (v_0.Kind == t3.1.Kind && (v_0.A == t3.1.A && (v_0.B == t3.1.B)))) else (value_May.j1 v_0 false))
theorem value_May.ok (v_0 : api_Value)  (r : Bool) (H : value_May.f v_0 = some r) (w : World) (hV : Hp) (sV : Sub hV (hp w))  :
    Trip Try.prog 66 [.agg #[.int .u8 v_0.Kind, .int .i64 v_0.A, .int .i64 v_0.B]].toArray em hV w (fun v => HO.pure (v = .bool r)) := by
  have see : Sees w em hV := ⟨sV, Dj.em_right _⟩
  refine Trip.of (P := Try.prog) (n := ⟨26, []⟩) Try.func66 rfl ⟨rfl, rfl⟩ rfl (St.begin (All.nil _)) ?_
  have ho := H
  refine CP.seq ?_
  refine CP.region ?_
  refine SP.box (cs := [.int .u8 v_0.Kind, .int .i64 v_0.A, .int .i64 v_0.B]) rfl rfl rfl rfl (fun b1 => ?_)
  refine SP.val (Val.assign rfl) rfl rfl rfl ?_
  refine SP.nil ?_
  refine QE.then ?_
  refine CP.seq ?_
  refine CP.region ?_
  refine SP.val (Val.fieldAddr Try.underlying37 rfl sz2 rfl) rfl rfl rfl ?_
  refine SP.val (Val.load1 0 rfl Try.underlying2 rfl rfl rfl) rfl rfl rfl ?_
  refine SP.val (Val.fieldAddr Try.underlying37 rfl sz2 rfl) rfl rfl rfl ?_
  refine SP.val (Val.load1 0 rfl Try.underlying2 rfl rfl rfl) rfl rfl rfl ?_
  obtain ⟨t3, hc, ho⟩ := bind_some ho
  refine SP.callV see (caps := []) (.tuple #[.agg #[.int .u8 t3.1.Kind, .int .i64 t3.1.A, .int .i64 t3.1.B], .bool t3.2]) fn69 rfl rfl rfl rfl (fun w2 hP hs sub ap => value_Pair.ok v_0.A v_0.B  _ hc w2 hP sub ) ?_
  clear hc
  refine SP.val (Val.move rfl) rfl rfl rfl ?_
  refine SP.val (Val.extract rfl rfl) rfl rfl rfl ?_
  refine SP.val (Val.extract rfl rfl) rfl rfl rfl ?_
  refine SP.alloc (cs := [.int .u8 0, .int .i64 0, .int .i64 0]) inf37 rfl rfl (fun b4 => ?_)
  refine SP.store (v := .agg #[.int .u8 t3.1.Kind, .int .i64 t3.1.A, .int .i64 t3.1.B]) (vs := [.int .u8 t3.1.Kind, .int .i64 t3.1.A, .int .i64 t3.1.B]) 0 (by rfl) sz37 (by rfl) (by rfl) (by rfl) (by rfl) (by rfl) (by rfl) ?_
  refine SP.val (Val.assign rfl) rfl rfl rfl ?_
  refine SP.nil ?_
  refine QE.then ?_
  refine CP.join (fun a w2 => ∃ b12 : Bool, value_May.j1 v_0 b12 = some r ∧ Env ⟨26, []⟩ [(2, .bool b12)] a ∧ St w em hV [] [] w2) ?_ ?_
  · rintro a w2 ⟨b12, ho, ha, hw⟩
    refine CP.app ha hw ?_
    clear ha hw a w2
    refine CP.ret ?_
    obtain rfl := Option.some.inj ho
    exact QE.rets (rs := [.tmp 2]) (vs := [.bool b12]) Try.results66 rfl ⟨RVs.tmp rfl, trivial⟩ (fun w2 h => St.done (fun a b p s => rfl) h)
  · refine CP.drawA (by kernel_rfl) (fun w2 k h => h.drawn k) ?_
    obtain ⟨t6, hc7, ho⟩ := bind_some ho
    rcases if_some ho with ⟨hc, ho⟩ | ⟨hc, ho⟩
    · have hg8 := hc
      clear hc
      refine DA.phase (fun i => Nat.ble 0 i && Nat.blt i 13) (fun w2 => St w em hV [] [boxO b4 [.int .u8 t3.1.Kind, .int .i64 t3.1.A, .int .i64 t3.1.B] 37, boxO b1 [.int .u8 v_0.Kind, .int .i64 v_0.A, .int .i64 v_0.B] 37] w2) ?_
      refine DT.take 0 rfl rfl rfl rfl (by kernel_rfl) (fun _ _ _ h => h) (Val.loadA 1 rfl Try.underlying37 rfl sz37 rfl rfl rfl) (fun w2 hw => hw) ?_
      refine DT.take 1 rfl rfl rfl rfl (by kernel_rfl) (fun _ _ _ h => h) (Val.fieldAddr Try.underlying37 rfl sz2 rfl) (fun w2 hw => hw) ?_
      refine DT.take 2 rfl rfl rfl rfl (by kernel_rfl) (fun _ _ _ h => h) (Val.load1 1 rfl Try.underlying2 rfl rfl rfl) (fun w2 hw => hw) ?_
      refine DT.one 3 rfl (by kernel_rfl) rfl ?_
      refine SP.callV see (caps := []) (.agg #[.int .u8 t6.Kind, .int .i64 t6.A, .int .i64 t6.B]) fn70 rfl rfl rfl rfl (fun w2 hP hs sub ap => value_Int.ok v_0.A  _ hc7 w2 hP sub ) ?_
      refine SP.nil ?_
      refine QE.atT (fun w2 hw => hw) ?_
      refine DT.take 4 rfl rfl rfl rfl (by kernel_rfl) (fun _ _ _ h => h) (Val.eqlA (by kernel_rfl) (fun w2 => eqA37 9998 w2 v_0.Kind t6.Kind v_0.A t6.A v_0.B t6.B) rfl rfl) (fun w2 hw => hw) ?_
      refine DT.take 5 rfl rfl rfl rfl (by kernel_rfl) (fun _ _ _ h => h) (Val.move rfl) (fun w2 hw => hw) ?_
      refine DT.is (d := 18) (b := true) rfl hg8 ?_
      refine DT.not 6 rfl rfl rfl rfl (by kernel_rfl) (fun _ _ _ h => h) (fun w2 hw => hw) ?_
      refine DT.not 7 rfl rfl rfl rfl (by kernel_rfl) (fun _ _ _ h => h) (fun w2 hw => hw) ?_
      refine DT.not 8 rfl rfl rfl rfl (by kernel_rfl) (fun _ _ _ h => h) (fun w2 hw => hw) ?_
      refine DT.not 9 rfl rfl rfl rfl (by kernel_rfl) (fun _ _ _ h => h) (fun w2 hw => hw) ?_
      refine DT.not 10 rfl rfl rfl rfl (by kernel_rfl) (fun _ _ _ h => h) (fun w2 hw => hw) ?_
      refine DT.not 11 rfl rfl rfl rfl (by kernel_rfl) (fun _ _ _ h => h) (fun w2 hw => hw) ?_
      refine DT.take 12 rfl rfl rfl rfl (by kernel_rfl) (fun _ _ _ h => h) (Val.pickT rfl rfl) (fun w2 hw => hw) ?_
      refine DT.next (by kernel_rfl) ?_
      refine DA.one 13 rfl (by kernel_rfl) ?_
      refine SP.val (Val.assign rfl) rfl rfl rfl ?_
      refine SP.nil ?_
      refine QE.atA ?_
      refine DA.done (by kernel_rfl) ?_
      exact QE.meet fun a w2 ha hw => ⟨true, ho, ha.sub ⟨rfl, trivial⟩, (St.selO [] rfl rfl hw)⟩
    · have hg9 := (bf hc)
      clear hc
      rcases if_some ho with ⟨hc, ho⟩ | ⟨hc, ho⟩
      · have hg10 := hc
        clear hc
        refine DA.phase (fun i => Nat.ble 0 i && Nat.blt i 13) (fun w2 => St w em hV [] [boxO b4 [.int .u8 t3.1.Kind, .int .i64 t3.1.A, .int .i64 t3.1.B] 37, boxO b1 [.int .u8 v_0.Kind, .int .i64 v_0.A, .int .i64 v_0.B] 37] w2) ?_
        refine DT.take 0 rfl rfl rfl rfl (by kernel_rfl) (fun _ _ _ h => h) (Val.loadA 1 rfl Try.underlying37 rfl sz37 rfl rfl rfl) (fun w2 hw => hw) ?_
        refine DT.take 1 rfl rfl rfl rfl (by kernel_rfl) (fun _ _ _ h => h) (Val.fieldAddr Try.underlying37 rfl sz2 rfl) (fun w2 hw => hw) ?_
        refine DT.take 2 rfl rfl rfl rfl (by kernel_rfl) (fun _ _ _ h => h) (Val.load1 1 rfl Try.underlying2 rfl rfl rfl) (fun w2 hw => hw) ?_
        refine DT.one 3 rfl (by kernel_rfl) rfl ?_
        refine SP.callV see (caps := []) (.agg #[.int .u8 t6.Kind, .int .i64 t6.A, .int .i64 t6.B]) fn70 rfl rfl rfl rfl (fun w2 hP hs sub ap => value_Int.ok v_0.A  _ hc7 w2 hP sub ) ?_
        refine SP.nil ?_
        refine QE.atT (fun w2 hw => hw) ?_
        refine DT.take 4 rfl rfl rfl rfl (by kernel_rfl) (fun _ _ _ h => h) (Val.eqlA (by kernel_rfl) (fun w2 => eqA37 9998 w2 v_0.Kind t6.Kind v_0.A t6.A v_0.B t6.B) rfl rfl) (fun w2 hw => hw) ?_
        refine DT.take 5 rfl rfl rfl rfl (by kernel_rfl) (fun _ _ _ h => h) (Val.move rfl) (fun w2 hw => hw) ?_
        refine DT.is (d := 18) (b := false) rfl hg9 ?_
        refine DT.take 6 rfl rfl rfl rfl (by kernel_rfl) (fun _ _ _ h => h) (Val.move rfl) (fun w2 hw => hw) ?_
        refine DT.take 7 rfl rfl rfl rfl (by kernel_rfl) (fun _ _ _ h => h) (Val.move rfl) (fun w2 hw => hw) ?_
        refine DT.is (d := 20) (b := true) rfl hg10 ?_
        refine DT.take 8 rfl rfl rfl rfl (by kernel_rfl) (fun _ _ _ h => h) (Val.loadA 1 rfl Try.underlying37 rfl sz37 rfl rfl rfl) (fun w2 hw => hw) ?_
        refine DT.take 9 rfl rfl rfl rfl (by kernel_rfl) (fun _ _ _ h => h) (Val.loadA 0 rfl Try.underlying37 rfl sz37 rfl rfl rfl) (fun w2 hw => hw) ?_
        refine DT.take 10 rfl rfl rfl rfl (by kernel_rfl) (fun _ _ _ h => h) (Val.eqlA (by kernel_rfl) (fun w2 => eqA37 9998 w2 v_0.Kind t3.1.Kind v_0.A t3.1.A v_0.B t3.1.B) rfl rfl) (fun w2 hw => hw) ?_
        refine DT.take 11 rfl rfl rfl rfl (by kernel_rfl) (fun _ _ _ h => h) (Val.pickT rfl rfl) (fun w2 hw => hw) ?_
        refine DT.take 12 rfl rfl rfl rfl (by kernel_rfl) (fun _ _ _ h => h) (Val.pickF rfl rfl) (fun w2 hw => hw) ?_
        refine DT.next (by kernel_rfl) ?_
        refine DA.one 13 rfl (by kernel_rfl) ?_
        refine SP.val (Val.assign rfl) rfl rfl rfl ?_
        refine SP.nil ?_
        refine QE.atA ?_
        refine DA.done (by kernel_rfl) ?_
        exact QE.meet fun a w2 ha hw => ⟨(v_0.Kind == t3.1.Kind && (v_0.A == t3.1.A && (v_0.B == t3.1.B))), ho, ha.sub ⟨rfl, trivial⟩, (St.selO [] rfl rfl hw)⟩
      · have hg11 := (bf hc)
        clear hc
        refine DA.phase (fun i => Nat.ble 0 i && Nat.blt i 13) (fun w2 => St w em hV [] [boxO b4 [.int .u8 t3.1.Kind, .int .i64 t3.1.A, .int .i64 t3.1.B] 37, boxO b1 [.int .u8 v_0.Kind, .int .i64 v_0.A, .int .i64 v_0.B] 37] w2) ?_
        refine DT.take 0 rfl rfl rfl rfl (by kernel_rfl) (fun _ _ _ h => h) (Val.loadA 1 rfl Try.underlying37 rfl sz37 rfl rfl rfl) (fun w2 hw => hw) ?_
        refine DT.take 1 rfl rfl rfl rfl (by kernel_rfl) (fun _ _ _ h => h) (Val.fieldAddr Try.underlying37 rfl sz2 rfl) (fun w2 hw => hw) ?_
        refine DT.take 2 rfl rfl rfl rfl (by kernel_rfl) (fun _ _ _ h => h) (Val.load1 1 rfl Try.underlying2 rfl rfl rfl) (fun w2 hw => hw) ?_
        refine DT.one 3 rfl (by kernel_rfl) rfl ?_
        refine SP.callV see (caps := []) (.agg #[.int .u8 t6.Kind, .int .i64 t6.A, .int .i64 t6.B]) fn70 rfl rfl rfl rfl (fun w2 hP hs sub ap => value_Int.ok v_0.A  _ hc7 w2 hP sub ) ?_
        refine SP.nil ?_
        refine QE.atT (fun w2 hw => hw) ?_
        refine DT.take 4 rfl rfl rfl rfl (by kernel_rfl) (fun _ _ _ h => h) (Val.eqlA (by kernel_rfl) (fun w2 => eqA37 9998 w2 v_0.Kind t6.Kind v_0.A t6.A v_0.B t6.B) rfl rfl) (fun w2 hw => hw) ?_
        refine DT.take 5 rfl rfl rfl rfl (by kernel_rfl) (fun _ _ _ h => h) (Val.move rfl) (fun w2 hw => hw) ?_
        refine DT.is (d := 18) (b := false) rfl hg9 ?_
        refine DT.take 6 rfl rfl rfl rfl (by kernel_rfl) (fun _ _ _ h => h) (Val.move rfl) (fun w2 hw => hw) ?_
        refine DT.take 7 rfl rfl rfl rfl (by kernel_rfl) (fun _ _ _ h => h) (Val.move rfl) (fun w2 hw => hw) ?_
        refine DT.is (d := 20) (b := false) rfl hg11 ?_
        refine DT.not 8 rfl rfl rfl rfl (by kernel_rfl) (fun _ _ _ h => h) (fun w2 hw => hw) ?_
        refine DT.not 9 rfl rfl rfl rfl (by kernel_rfl) (fun _ _ _ h => h) (fun w2 hw => hw) ?_
        refine DT.not 10 rfl rfl rfl rfl (by kernel_rfl) (fun _ _ _ h => h) (fun w2 hw => hw) ?_
        refine DT.take 11 rfl rfl rfl rfl (by kernel_rfl) (fun _ _ _ h => h) (Val.pickF rfl rfl) (fun w2 hw => hw) ?_
        refine DT.take 12 rfl rfl rfl rfl (by kernel_rfl) (fun _ _ _ h => h) (Val.pickF rfl rfl) (fun w2 hw => hw) ?_
        refine DT.next (by kernel_rfl) ?_
        refine DA.one 13 rfl (by kernel_rfl) ?_
        refine SP.val (Val.assign rfl) rfl rfl rfl ?_
        refine SP.nil ?_
        refine QE.atA ?_
        refine DA.done (by kernel_rfl) ?_
        exact QE.meet fun a w2 ha hw => ⟨false, ho, ha.sub ⟨rfl, trivial⟩, (St.selO [] rfl rfl hw)⟩
/-! ### capstan/entry.May$1: function 65 -/
def entry_May_1.f (v_0 : api_Value) : Option Bool :=
  (value_May.f v_0).bind fun t3 => some (!t3)
theorem entry_May_1.ok (v_0 : api_Value)  (r : Bool) (H : entry_May_1.f v_0 = some r) (w : World) (hV : Hp) (sV : Sub hV (hp w))  :
    Trip Try.prog 65 [.agg #[.int .u8 v_0.Kind, .int .i64 v_0.A, .int .i64 v_0.B]].toArray em hV w (fun v => HO.pure (v = .bool r)) := by
  have see : Sees w em hV := ⟨sV, Dj.em_right _⟩
  refine Trip.of (P := Try.prog) (n := ⟨6, []⟩) Try.func65 rfl ⟨rfl, rfl⟩ rfl (St.begin (All.nil _)) ?_
  have ho := H
  refine CP.seq ?_
  refine CP.region ?_
  refine SP.box (cs := [.int .u8 v_0.Kind, .int .i64 v_0.A, .int .i64 v_0.B]) rfl rfl rfl rfl (fun b1 => ?_)
  refine SP.val (Val.assign rfl) rfl rfl rfl ?_
  refine SP.nil ?_
  refine QE.then ?_
  refine CP.seq ?_
  refine CP.region ?_
  refine SP.val (Val.loadA 0 rfl Try.underlying37 rfl sz37 rfl rfl rfl) rfl rfl rfl ?_
  obtain ⟨t3, hc, ho⟩ := bind_some ho
  refine SP.callV see (caps := []) (.bool t3) fn66 rfl rfl rfl rfl (fun w2 hP hs sub ap => value_May.ok v_0  _ hc w2 hP sub ) ?_
  clear hc
  refine SP.val (Val.notB rfl) rfl rfl rfl ?_
  refine SP.val (Val.assign rfl) rfl rfl rfl ?_
  refine SP.nil ?_
  refine QE.then ?_
  refine CP.ret ?_
  obtain rfl := Option.some.inj ho
  exact QE.rets (rs := [.tmp 2]) (vs := [.bool (!t3)]) Try.results65 rfl ⟨RVs.tmp rfl, trivial⟩ (fun w2 h => St.done (fun a b p s => rfl) h)
/-! ### slices.IndexFunc[[]capstan/api.Value,capstan/api.Value]: function 71 -/
inductive slices_IndexFunc_api_Value_api_Value_s1.S where
  | start
  | l1 (x7 : Int)

def slices_IndexFunc_api_Value_api_Value_s1.F (s_0 : (List api_Value)) : slices_IndexFunc_api_Value_api_Value_s1.S → Option (slices_IndexFunc_api_Value_api_Value_s1.S ⊕ Int)
  | .start => some (.inl (.l1 0))
  | .l1 x7 => if x7 < (s_0.length : Int) then ((elt s_0 x7).bind fun x11 => (entry_May_1.f x11).bind fun t12 => if t12 = true then (some (.inr x7)) else (some (.inl (.l1 (IntKind.i64.wrap (x7 + 1)))))) else (some (.inr (-1)))

def slices_IndexFunc_api_Value_api_Value_s1.f (s_0 : (List api_Value)) : Option Int := runF (slices_IndexFunc_api_Value_api_Value_s1.F s_0) .start
theorem slices_IndexFunc_api_Value_api_Value_s1.ok (s_0 : (List api_Value)) (v_s_0 : Value) (r : Int) (H : slices_IndexFunc_api_Value_api_Value_s1.f s_0 = some r) (w : World) (hV : Hp) (sV : Sub hV (hp w)) (h0 : slR k_api_Value hV v_s_0 s_0) :
    Trip Try.prog 71 [v_s_0, .func (.func 65) #[] #[]].toArray em hV w (fun v => HO.pure (v = .int .i64 r)) := by
  have see : Sees w em hV := ⟨sV, Dj.em_right _⟩
  refine Trip.of (P := Try.prog) (n := ⟨19, []⟩) Try.func71 rfl ⟨rfl, rfl⟩ rfl (St.begin (All.cons (x := slP k_api_Value v_s_0 s_0) h0 (All.nil _))) ?_
  obtain ⟨n0, hi⟩ := runF_iff.1 H
  obtain ⟨m0, o, hm0, ho, hr⟩ := iter_some hi
  clear hi
  refine CP.seq ?_
  refine CP.region ?_
  refine SP.val (Val.assign rfl) rfl rfl rfl ?_
  refine SP.nil ?_
  refine QE.then ?_
  refine CP.seq ?_
  refine CP.seq ?_
  refine CP.region ?_
  refine SP.val (Val.move rfl) rfl rfl rfl ?_
  refine SP.val (Val.lenP see 0 rfl Try.underlying32 rfl) rfl rfl rfl ?_
  refine SP.val (Val.move rfl) rfl rfl rfl ?_
  refine SP.nil ?_
  refine QE.then ?_
  refine CP.block ?_
  obtain rfl := Option.some.inj ho
  refine CP.loop (fun cl1 a w2 => ∃ x7 : Int, cl1 ≤ m0 ∧ iter (slices_IndexFunc_api_Value_api_Value_s1.F s_0) cl1 (.l1 x7) = some r ∧ Env ⟨19, []⟩ [(0, v_s_0), (1, .func (.func 65) #[] #[]), (7, .int .i64 (s_0.length : Int)), (8, .int .i64 x7)] a ∧ St w em hV [slP k_api_Value v_s_0 s_0] [] w2) m0 (fun a w2 ha hw => ⟨0, Nat.le_refl _, hr, ha.sub ⟨rfl, rfl, rfl, rfl, trivial⟩, hw⟩) ?_
  clear hr
  rintro cl1 a w2 ⟨x7, hc_l1, hi, ha, hw⟩
  obtain ⟨m8, o, hm_m8, ho, hr⟩ := iter_some hi
  refine CP.app ha hw ?_
  clear ha hw a w2 hi
  refine CP.seq ?_
  refine CP.region ?_
  refine SP.val (Val.lss rfl rfl) rfl rfl rfl ?_
  refine SP.nil ?_
  refine QE.then ?_
  refine CP.seq ?_
  rcases if_some ho with ⟨hc, ho⟩ | ⟨hc, ho⟩
  · refine CP.condT rfl (decide_eq_true hc) ?_
    refine CP.skip ?_
    refine QE.then ?_
    refine CP.seq ?_
    refine CP.block ?_
    refine CP.seq ?_
    refine CP.region ?_
    refine SP.val (Val.move rfl) rfl rfl rfl ?_
    refine SP.val (Val.assign rfl) rfl rfl rfl ?_
    refine SP.nil ?_
    refine QE.then ?_
    refine CP.seq ?_
    refine CP.region ?_
    refine SP.val (Val.move rfl) rfl rfl rfl ?_
    refine SP.val (Val.move rfl) rfl rfl rfl ?_
    refine SP.val (Val.move rfl) rfl rfl rfl ?_
    obtain ⟨x11, hx, ho⟩ := bind_some ho
    have hx := elt_some hx
    refine SP.indexP see 0 rfl Try.underlying32 sz37 hx.1 hx.2 rfl rfl rfl rfl (fun p9 => ?_)
    clear hx
    refine k_api_Value.load see 0 rfl Try.underlying37 rfl sz37 rfl rfl rfl ?_
    obtain ⟨t12, hc, ho⟩ := bind_some ho
    refine SP.callV see (caps := []) (.bool t12) fn65 rfl rfl rfl rfl (fun w2 hP hs sub ap => entry_May_1.ok x11  _ hc w2 hP sub ) ?_
    clear hc
    refine SP.nil ?_
    refine QE.then ?_
    rcases if_some ho with ⟨hc, ho⟩ | ⟨hc, ho⟩
    · refine CP.condT rfl hc ?_
      refine CP.seq ?_
      refine CP.region ?_
      refine SP.val (Val.move rfl) rfl rfl rfl ?_
      refine SP.val (Val.assign rfl) rfl rfl rfl ?_
      refine SP.nil ?_
      refine QE.then ?_
      refine CP.ret ?_
      refine QE.blockR ?_
      refine QE.thru (by intro e; cases e) ?_
      refine QE.thru (by intro e; cases e) ?_
      refine QE.blockR ?_
      refine QE.thru (by intro e; cases e) ?_
      obtain rfl := Option.some.inj ho
      obtain rfl := Option.some.inj hr
      exact QE.rets (rs := [.tmp 4]) (vs := [.int .i64 x7]) Try.results71 rfl ⟨RVs.tmp rfl, trivial⟩ (fun w2 h => St.done (fun a b p s => rfl) h)
    · refine CP.condF rfl (bf hc) ?_
      refine CP.skip ?_
      refine QE.blockN ?_
      refine QE.then ?_
      refine CP.region ?_
      refine SP.val (Val.add rfl rfl) rfl rfl rfl ?_
      refine SP.val (Val.move rfl) rfl rfl rfl ?_
      refine SP.nil ?_
      obtain rfl := Option.some.inj ho
      exact QE.lower m8 (by omega) fun a w2 ha hw => ⟨(IntKind.i64.wrap (x7 + 1)), (by omega), hr, ha.sub ⟨rfl, rfl, rfl, rfl, trivial⟩, (St.selP [1] rfl hw)⟩
  · refine CP.condF rfl (decide_eq_false hc) ?_
    refine CP.exit ?_
    refine QE.thru (by intro e; cases e) ?_
    refine QE.thru (by intro e; cases e) ?_
    refine QE.blockE ?_
    refine QE.then ?_
    refine CP.seq ?_
    refine CP.region ?_
    refine SP.val (Val.assign rfl) rfl rfl rfl ?_
    refine SP.nil ?_
    refine QE.then ?_
    refine CP.ret ?_
    obtain rfl := Option.some.inj ho
    obtain rfl := Option.some.inj hr
    exact QE.rets (rs := [.tmp 4]) (vs := [.int .i64 (-1)]) Try.results71 rfl ⟨RVs.tmp rfl, trivial⟩ (fun w2 h => St.done (fun a b p s => rfl) h)
/-! ### slices.ContainsFunc[[]capstan/api.Value,capstan/api.Value]: function 67 -/
def slices_ContainsFunc_api_Value_api_Value_s1.f (s_0 : (List api_Value)) : Option Bool :=
  (slices_IndexFunc_api_Value_api_Value_s1.f s_0).bind fun t2 => some (decide (t2 ≥ 0))
theorem slices_ContainsFunc_api_Value_api_Value_s1.ok (s_0 : (List api_Value)) (v_s_0 : Value) (r : Bool) (H : slices_ContainsFunc_api_Value_api_Value_s1.f s_0 = some r) (w : World) (hV : Hp) (sV : Sub hV (hp w)) (h0 : slR k_api_Value hV v_s_0 s_0) :
    Trip Try.prog 67 [v_s_0, .func (.func 65) #[] #[]].toArray em hV w (fun v => HO.pure (v = .bool r)) := by
  have see : Sees w em hV := ⟨sV, Dj.em_right _⟩
  refine Trip.of (P := Try.prog) (n := ⟨9, []⟩) Try.func67 rfl ⟨rfl, rfl⟩ rfl (St.begin (All.cons (x := slP k_api_Value v_s_0 s_0) h0 (All.nil _))) ?_
  have ho := H
  refine CP.seq ?_
  refine CP.region ?_
  refine SP.val (Val.assign rfl) rfl rfl rfl ?_
  refine SP.nil ?_
  refine QE.then ?_
  refine CP.seq ?_
  refine CP.region ?_
  refine SP.val (Val.move rfl) rfl rfl rfl ?_
  refine SP.val (Val.move rfl) rfl rfl rfl ?_
  obtain ⟨t2, hc, ho⟩ := bind_some ho
  refine SP.callV see (caps := []) (.int .i64 t2) fn71 rfl rfl rfl rfl (fun w2 hP hs sub ap => slices_IndexFunc_api_Value_api_Value_s1.ok s_0 _ _ hc w2 hP sub (ap.get 0 rfl)) ?_
  clear hc
  refine SP.val (Val.geq rfl rfl) rfl rfl rfl ?_
  refine SP.val (Val.assign rfl) rfl rfl rfl ?_
  refine SP.nil ?_
  refine QE.then ?_
  refine CP.ret ?_
  obtain rfl := Option.some.inj ho
  exact QE.rets (rs := [.tmp 4]) (vs := [.bool (decide (t2 ≥ 0))]) Try.results67 rfl ⟨RVs.tmp rfl, trivial⟩ (fun w2 h => St.done (fun a b p s => rfl) h)
/-! ### capstan/entry.May: function 60 -/
def entry_May.f (op_0 : api_Op) : Option Bool :=
  if op_0.Kind = 1 then ((if (((decide (op_0.Method ≥ 0)) && (decide (op_0.Method < 16))) && (decide ((op_0.Args.length : Int) ≤ 4))) = true then ((slices_ContainsFunc_api_Value_api_Value_s1.f op_0.Args).bind fun t11 => some (!t11)) else (some false)).bind fun t12 => some (t12 && (decide ((op_0.Bytes.length : Int) = 0)))) else (if op_0.Kind = 2 then (some (((decide (op_0.Method = 0)) && (decide ((op_0.Args.length : Int) = 0))) && (decide ((op_0.Bytes.length : Int) ≤ 2000)))) else (some false))
theorem entry_May.ok (op_0 : api_Op) (v_op_0_Args : Value) (v_op_0_Bytes : Value) (r : Bool) (H : entry_May.f op_0 = some r) (w : World) (hV : Hp) (sV : Sub hV (hp w)) (h0 : slR k_api_Value hV v_op_0_Args op_0.Args) (h1 : slR (kInt .u8) hV v_op_0_Bytes op_0.Bytes) :
    Trip Try.prog 60 [.agg #[.int .u8 op_0.Kind, .int .i64 op_0.Method, v_op_0_Args, v_op_0_Bytes]].toArray em hV w (fun v => HO.pure (v = .bool r)) := by
  have see : Sees w em hV := ⟨sV, Dj.em_right _⟩
  refine Trip.of (P := Try.prog) (n := ⟨52, []⟩) Try.func60 rfl ⟨rfl, rfl⟩ rfl (St.begin (All.cons (x := slP k_api_Value v_op_0_Args op_0.Args) h0 (All.cons (x := slP (kInt .u8) v_op_0_Bytes op_0.Bytes) h1 (All.nil _)))) ?_
  have ho := H
  refine CP.seq ?_
  refine CP.region ?_
  refine SP.box (cs := [.int .u8 op_0.Kind, .int .i64 op_0.Method, v_op_0_Args, v_op_0_Bytes]) rfl rfl rfl rfl (fun b3 => ?_)
  refine SP.val (Val.assign rfl) rfl rfl rfl ?_
  refine SP.nil ?_
  refine QE.then ?_
  refine CP.seq ?_
  refine CP.seq ?_
  refine CP.region ?_
  refine SP.val (Val.fieldAddr Try.underlying34 rfl sz5 rfl) rfl rfl rfl ?_
  refine SP.val (Val.load1 0 rfl Try.underlying5 rfl rfl rfl) rfl rfl rfl ?_
  refine SP.nil ?_
  refine QE.then ?_
  refine CP.block ?_
  refine CP.seq ?_
  refine CP.region ?_
  refine SP.val (Val.eql rfl rfl) rfl rfl rfl ?_
  refine SP.val (Val.assign rfl) rfl rfl rfl ?_
  refine SP.nil ?_
  refine QE.then ?_
  rcases if_some ho with ⟨hc, ho⟩ | ⟨hc, ho⟩
  · refine CP.condT rfl (decide_eq_true hc) ?_
    refine CP.seq ?_
    refine CP.region ?_
    refine SP.val (Val.assign rfl) rfl rfl rfl ?_
    refine SP.nil ?_
    refine QE.then ?_
    refine CP.seq ?_
    refine CP.region ?_
    refine SP.val (Val.fieldAddr Try.underlying34 rfl sz3 rfl) rfl rfl rfl ?_
    refine SP.val (Val.load1 0 rfl Try.underlying3 rfl rfl rfl) rfl rfl rfl ?_
    refine SP.val (Val.geq rfl rfl) rfl rfl rfl ?_
    refine SP.val (Val.move rfl) rfl rfl rfl ?_
    refine SP.join 4 (fun a w2 => Env ⟨52, []⟩ [(1, .pointer (some ⟨b3, 0, none⟩)), (3, .func (.func 65) #[] #[]), (15, .bool ((decide (op_0.Method ≥ 0)) && (decide (op_0.Method < 16))))] a ∧ St w em hV [slP k_api_Value v_op_0_Args op_0.Args, slP (kInt .u8) v_op_0_Bytes op_0.Bytes] [boxO b3 [.int .u8 op_0.Kind, .int .i64 op_0.Method, v_op_0_Args, v_op_0_Bytes] 34] w2) ?_ ?_
    · rintro a w2 ⟨ha, hw⟩
      refine SP.app ha hw ?_
      clear ha hw a w2
      refine SP.val (Val.move rfl) rfl rfl rfl ?_
      refine SP.join 5 (fun a w2 => Env ⟨52, []⟩ [(1, .pointer (some ⟨b3, 0, none⟩)), (3, .func (.func 65) #[] #[]), (21, .bool (((decide (op_0.Method ≥ 0)) && (decide (op_0.Method < 16))) && (decide ((op_0.Args.length : Int) ≤ 4))))] a ∧ St w em hV [slP k_api_Value v_op_0_Args op_0.Args, slP (kInt .u8) v_op_0_Bytes op_0.Bytes] [boxO b3 [.int .u8 op_0.Kind, .int .i64 op_0.Method, v_op_0_Args, v_op_0_Bytes] 34] w2) ?_ ?_
      · rintro a w2 ⟨ha, hw⟩
        refine SP.app ha hw ?_
        clear ha hw a w2
        refine SP.val (Val.move rfl) rfl rfl rfl ?_
        obtain ⟨t12, hg_t12, ho⟩ := bind_some ho
        refine SP.join 6 (fun a w2 => Env ⟨52, []⟩ [(1, .pointer (some ⟨b3, 0, none⟩)), (28, .bool t12)] a ∧ St w em hV [slP k_api_Value v_op_0_Args op_0.Args, slP (kInt .u8) v_op_0_Bytes op_0.Bytes] [boxO b3 [.int .u8 op_0.Kind, .int .i64 op_0.Method, v_op_0_Args, v_op_0_Bytes] 34] w2) ?_ ?_
        · rintro a w2 ⟨ha, hw⟩
          refine SP.app ha hw ?_
          clear ha hw a w2 hg_t12
          refine SP.val (Val.move rfl) rfl rfl rfl ?_
          refine SP.join 5 (fun a w2 => Env ⟨52, []⟩ [(34, .bool (t12 && (decide ((op_0.Bytes.length : Int) = 0))))] a ∧ St w em hV [slP k_api_Value v_op_0_Args op_0.Args, slP (kInt .u8) v_op_0_Bytes op_0.Bytes] [boxO b3 [.int .u8 op_0.Kind, .int .i64 op_0.Method, v_op_0_Args, v_op_0_Bytes] 34] w2) ?_ ?_
          · rintro a w2 ⟨ha, hw⟩
            refine SP.app ha hw ?_
            clear ha hw a w2
            refine SP.val (Val.assign rfl) rfl rfl rfl ?_
            refine SP.nil ?_
            refine QE.then ?_
            refine CP.ret ?_
            refine QE.blockR ?_
            refine QE.thru (by intro e; cases e) ?_
            obtain rfl := Option.some.inj ho
            exact QE.rets (rs := [.tmp 2]) (vs := [.bool (t12 && (decide ((op_0.Bytes.length : Int) = 0)))]) Try.results60 rfl ⟨RVs.tmp rfl, trivial⟩ (fun w2 h => St.done (fun a b p s => rfl) h)
          · intro J
            by_cases hc : t12 = true
            · have hq14 := hc
              refine SP.isT (d := 29) rfl hq14 ?_
              refine SP.val (Val.fieldAddr Try.underlying34 rfl sz24 rfl) rfl rfl rfl ?_
              refine SP.val (Val.load1 0 rfl Try.underlying24 rfl rfl rfl) rfl rfl rfl ?_
              refine SP.val (Val.lenP see 1 rfl Try.underlying24 rfl) rfl rfl rfl ?_
              refine SP.val (Val.eql rfl rfl) rfl rfl rfl ?_
              refine SP.val (Val.pickT rfl rfl) rfl rfl rfl ?_
              exact J fun a w2 ha hw => ⟨ha.sub ⟨congrArg (fun z => some (Value.bool z)) (and_t hq14 rfl), trivial⟩, hw⟩
            · have hq14 := (bf hc)
              refine SP.isF (d := 29) rfl hq14 ?_
              refine SP.not rfl rfl rfl ?_
              refine SP.not rfl rfl rfl ?_
              refine SP.not rfl rfl rfl ?_
              refine SP.not rfl rfl rfl ?_
              refine SP.val (Val.pickF rfl rfl) rfl rfl rfl ?_
              exact J fun a w2 ha hw => ⟨ha.sub ⟨congrArg (fun z => some (Value.bool z)) (and_f hq14), trivial⟩, hw⟩
        · intro J
          clear ho
          have ho := hg_t12
          clear hg_t12
          rcases if_some ho with ⟨hc, ho⟩ | ⟨hc, ho⟩
          · have hq10 := hc
            refine SP.isT (d := 22) rfl hq10 ?_
            refine SP.val (Val.fieldAddr Try.underlying34 rfl sz32 rfl) rfl rfl rfl ?_
            refine SP.val (Val.load1 0 rfl Try.underlying32 rfl rfl rfl) rfl rfl rfl ?_
            refine SP.val (Val.move rfl) rfl rfl rfl ?_
            obtain ⟨t11, hc, ho⟩ := bind_some ho
            refine SP.callV see (caps := []) (.bool t11) fn67 rfl rfl rfl rfl (fun w2 hP hs sub ap => slices_ContainsFunc_api_Value_api_Value_s1.ok op_0.Args _ _ hc w2 hP sub (ap.get 0 rfl)) ?_
            clear hc
            refine SP.val (Val.notB rfl) rfl rfl rfl ?_
            refine SP.val (Val.pickT rfl rfl) rfl rfl rfl ?_
            obtain rfl := Option.some.inj ho
            exact J fun a w2 ha hw => ⟨ha.sub ⟨rfl, rfl, trivial⟩, hw⟩
          · have hq10 := (bf hc)
            refine SP.isF (d := 22) rfl hq10 ?_
            refine SP.not rfl rfl rfl ?_
            refine SP.not rfl rfl rfl ?_
            refine SP.not rfl rfl rfl ?_
            refine SP.not rfl rfl rfl ?_
            refine SP.not rfl rfl rfl ?_
            refine SP.val (Val.pickF rfl rfl) rfl rfl rfl ?_
            obtain rfl := Option.some.inj ho
            exact J fun a w2 ha hw => ⟨ha.sub ⟨rfl, rfl, trivial⟩, hw⟩
      · intro J
        by_cases hc : ((decide (op_0.Method ≥ 0)) && (decide (op_0.Method < 16))) = true
        · have hq8 := hc
          refine SP.isT (d := 16) rfl hq8 ?_
          refine SP.val (Val.fieldAddr Try.underlying34 rfl sz32 rfl) rfl rfl rfl ?_
          refine SP.val (Val.load1 0 rfl Try.underlying32 rfl rfl rfl) rfl rfl rfl ?_
          refine SP.val (Val.lenP see 0 rfl Try.underlying32 rfl) rfl rfl rfl ?_
          refine SP.val (Val.leq rfl rfl) rfl rfl rfl ?_
          refine SP.val (Val.pickT rfl rfl) rfl rfl rfl ?_
          exact J fun a w2 ha hw => ⟨ha.sub ⟨rfl, rfl, congrArg (fun z => some (Value.bool z)) (and_t hq8 rfl), trivial⟩, hw⟩
        · have hq8 := (bf hc)
          refine SP.isF (d := 16) rfl hq8 ?_
          refine SP.not rfl rfl rfl ?_
          refine SP.not rfl rfl rfl ?_
          refine SP.not rfl rfl rfl ?_
          refine SP.not rfl rfl rfl ?_
          refine SP.val (Val.pickF rfl rfl) rfl rfl rfl ?_
          exact J fun a w2 ha hw => ⟨ha.sub ⟨rfl, rfl, congrArg (fun z => some (Value.bool z)) (and_f hq8), trivial⟩, hw⟩
    · intro J
      by_cases hc : op_0.Method ≥ 0
      · have hq6 := (decide_eq_true hc)
        refine SP.isT (d := 11) rfl hq6 ?_
        refine SP.val (Val.fieldAddr Try.underlying34 rfl sz3 rfl) rfl rfl rfl ?_
        refine SP.val (Val.load1 0 rfl Try.underlying3 rfl rfl rfl) rfl rfl rfl ?_
        refine SP.val (Val.lss rfl rfl) rfl rfl rfl ?_
        refine SP.val (Val.pickT rfl rfl) rfl rfl rfl ?_
        exact J fun a w2 ha hw => ⟨ha.sub ⟨rfl, rfl, congrArg (fun z => some (Value.bool z)) (and_t hq6 rfl), trivial⟩, hw⟩
      · have hq6 := (decide_eq_false hc)
        refine SP.isF (d := 11) rfl hq6 ?_
        refine SP.not rfl rfl rfl ?_
        refine SP.not rfl rfl rfl ?_
        refine SP.not rfl rfl rfl ?_
        refine SP.val (Val.pickF rfl rfl) rfl rfl rfl ?_
        exact J fun a w2 ha hw => ⟨ha.sub ⟨rfl, rfl, congrArg (fun z => some (Value.bool z)) (and_f hq6), trivial⟩, hw⟩
  · refine CP.condF rfl (decide_eq_false hc) ?_
    refine CP.seq ?_
    refine CP.region ?_
    refine SP.val (Val.eql rfl rfl) rfl rfl rfl ?_
    refine SP.val (Val.assign rfl) rfl rfl rfl ?_
    refine SP.nil ?_
    refine QE.then ?_
    rcases if_some ho with ⟨hc, ho⟩ | ⟨hc, ho⟩
    · refine CP.condT rfl (decide_eq_true hc) ?_
      refine CP.seq ?_
      refine CP.region ?_
      refine SP.val (Val.fieldAddr Try.underlying34 rfl sz3 rfl) rfl rfl rfl ?_
      refine SP.val (Val.load1 0 rfl Try.underlying3 rfl rfl rfl) rfl rfl rfl ?_
      refine SP.val (Val.eql rfl rfl) rfl rfl rfl ?_
      refine SP.val (Val.move rfl) rfl rfl rfl ?_
      refine SP.join 5 (fun a w2 => Env ⟨52, []⟩ [(1, .pointer (some ⟨b3, 0, none⟩)), (45, .bool ((decide (op_0.Method = 0)) && (decide ((op_0.Args.length : Int) = 0))))] a ∧ St w em hV [slP k_api_Value v_op_0_Args op_0.Args, slP (kInt .u8) v_op_0_Bytes op_0.Bytes] [boxO b3 [.int .u8 op_0.Kind, .int .i64 op_0.Method, v_op_0_Args, v_op_0_Bytes] 34] w2) ?_ ?_
      · rintro a w2 ⟨ha, hw⟩
        refine SP.app ha hw ?_
        clear ha hw a w2
        refine SP.val (Val.move rfl) rfl rfl rfl ?_
        refine SP.join 5 (fun a w2 => Env ⟨52, []⟩ [(51, .bool (((decide (op_0.Method = 0)) && (decide ((op_0.Args.length : Int) = 0))) && (decide ((op_0.Bytes.length : Int) ≤ 2000))))] a ∧ St w em hV [slP k_api_Value v_op_0_Args op_0.Args, slP (kInt .u8) v_op_0_Bytes op_0.Bytes] [boxO b3 [.int .u8 op_0.Kind, .int .i64 op_0.Method, v_op_0_Args, v_op_0_Bytes] 34] w2) ?_ ?_
        · rintro a w2 ⟨ha, hw⟩
          refine SP.app ha hw ?_
          clear ha hw a w2
          refine SP.val (Val.assign rfl) rfl rfl rfl ?_
          refine SP.nil ?_
          refine QE.then ?_
          refine CP.ret ?_
          refine QE.blockR ?_
          refine QE.thru (by intro e; cases e) ?_
          obtain rfl := Option.some.inj ho
          exact QE.rets (rs := [.tmp 2]) (vs := [.bool (((decide (op_0.Method = 0)) && (decide ((op_0.Args.length : Int) = 0))) && (decide ((op_0.Bytes.length : Int) ≤ 2000)))]) Try.results60 rfl ⟨RVs.tmp rfl, trivial⟩ (fun w2 h => St.done (fun a b p s => rfl) h)
        · intro J
          by_cases hc : ((decide (op_0.Method = 0)) && (decide ((op_0.Args.length : Int) = 0))) = true
          · have hq18 := hc
            refine SP.isT (d := 46) rfl hq18 ?_
            refine SP.val (Val.fieldAddr Try.underlying34 rfl sz24 rfl) rfl rfl rfl ?_
            refine SP.val (Val.load1 0 rfl Try.underlying24 rfl rfl rfl) rfl rfl rfl ?_
            refine SP.val (Val.lenP see 1 rfl Try.underlying24 rfl) rfl rfl rfl ?_
            refine SP.val (Val.leq rfl rfl) rfl rfl rfl ?_
            refine SP.val (Val.pickT rfl rfl) rfl rfl rfl ?_
            exact J fun a w2 ha hw => ⟨ha.sub ⟨congrArg (fun z => some (Value.bool z)) (and_t hq18 rfl), trivial⟩, hw⟩
          · have hq18 := (bf hc)
            refine SP.isF (d := 46) rfl hq18 ?_
            refine SP.not rfl rfl rfl ?_
            refine SP.not rfl rfl rfl ?_
            refine SP.not rfl rfl rfl ?_
            refine SP.not rfl rfl rfl ?_
            refine SP.val (Val.pickF rfl rfl) rfl rfl rfl ?_
            exact J fun a w2 ha hw => ⟨ha.sub ⟨congrArg (fun z => some (Value.bool z)) (and_f hq18), trivial⟩, hw⟩
      · intro J
        by_cases hc : op_0.Method = 0
        · have hq16 := (decide_eq_true hc)
          refine SP.isT (d := 40) rfl hq16 ?_
          refine SP.val (Val.fieldAddr Try.underlying34 rfl sz32 rfl) rfl rfl rfl ?_
          refine SP.val (Val.load1 0 rfl Try.underlying32 rfl rfl rfl) rfl rfl rfl ?_
          refine SP.val (Val.lenP see 0 rfl Try.underlying32 rfl) rfl rfl rfl ?_
          refine SP.val (Val.eql rfl rfl) rfl rfl rfl ?_
          refine SP.val (Val.pickT rfl rfl) rfl rfl rfl ?_
          exact J fun a w2 ha hw => ⟨ha.sub ⟨rfl, congrArg (fun z => some (Value.bool z)) (and_t hq16 rfl), trivial⟩, hw⟩
        · have hq16 := (decide_eq_false hc)
          refine SP.isF (d := 40) rfl hq16 ?_
          refine SP.not rfl rfl rfl ?_
          refine SP.not rfl rfl rfl ?_
          refine SP.not rfl rfl rfl ?_
          refine SP.not rfl rfl rfl ?_
          refine SP.val (Val.pickF rfl rfl) rfl rfl rfl ?_
          exact J fun a w2 ha hw => ⟨ha.sub ⟨rfl, congrArg (fun z => some (Value.bool z)) (and_f hq16), trivial⟩, hw⟩
    · refine CP.condF rfl (decide_eq_false hc) ?_
      refine CP.skip ?_
      refine QE.blockN ?_
      refine QE.then ?_
      refine CP.seq ?_
      refine CP.region ?_
      refine SP.val (Val.assign rfl) rfl rfl rfl ?_
      refine SP.nil ?_
      refine QE.then ?_
      refine CP.ret ?_
      obtain rfl := Option.some.inj ho
      exact QE.rets (rs := [.tmp 2]) (vs := [.bool false]) Try.results60 rfl ⟨RVs.tmp rfl, trivial⟩ (fun w2 h => St.done (fun a b p s => rfl) h)
/-! ### capstan/history.alone: function 47 -/
def history_alone.f (c_0 : history_Call) : Option Bool :=
  (if ((decide (c_0.Proc < 0)) || (decide (c_0.Proc ≥ 64))) = true then (some true) else ((entry_May.f c_0.Op).bind fun t9 => some (!t9))).bind fun t10 => if ((t10 || (c_0.Read && (decide (c_0.Op.Kind ≠ 1)))) || (decide (c_0.Start < 1))) = true then (some false) else ((history_Call_pending.f c_0).bind fun t17 => if t17 = true then (some (c_0.Reply.Err == 0 && ((c_0.Reply.Out.Trap == 0 && ((c_0.Reply.Out.Result.Kind == 0 && (c_0.Reply.Out.Result.A == 0 && (c_0.Reply.Out.Result.B == 0)))))))) else (some (decide (c_0.End > c_0.Start))))
theorem history_alone.ok (c_0 : history_Call) (v_c_0_Op_Args : Value) (v_c_0_Op_Bytes : Value) (r : Bool) (H : history_alone.f c_0 = some r) (w : World) (hV : Hp) (sV : Sub hV (hp w)) (h0 : slR k_api_Value hV v_c_0_Op_Args c_0.Op.Args) (h1 : slR (kInt .u8) hV v_c_0_Op_Bytes c_0.Op.Bytes) :
    Trip Try.prog 47 [.agg #[.int .i64 c_0.Proc, .int .u8 c_0.Op.Kind, .int .i64 c_0.Op.Method, v_c_0_Op_Args, v_c_0_Op_Bytes, .bool c_0.Read, .int .i64 c_0.Reply.Err, .int .i64 c_0.Reply.Out.Trap, .int .u8 c_0.Reply.Out.Result.Kind, .int .i64 c_0.Reply.Out.Result.A, .int .i64 c_0.Reply.Out.Result.B, .int .i64 c_0.Start, .int .i64 c_0.End]].toArray em hV w (fun v => HO.pure (v = .bool r)) := by
  have see : Sees w em hV := ⟨sV, Dj.em_right _⟩
  refine Trip.of (P := Try.prog) (n := ⟨43, []⟩) Try.func47 rfl ⟨rfl, rfl⟩ rfl (St.begin (All.cons (x := slP k_api_Value v_c_0_Op_Args c_0.Op.Args) h0 (All.cons (x := slP (kInt .u8) v_c_0_Op_Bytes c_0.Op.Bytes) h1 (All.nil _)))) ?_
  have ho := H
  refine CP.seq ?_
  refine CP.region ?_
  refine SP.box (cs := [.int .i64 c_0.Proc, .int .u8 c_0.Op.Kind, .int .i64 c_0.Op.Method, v_c_0_Op_Args, v_c_0_Op_Bytes, .bool c_0.Read, .int .i64 c_0.Reply.Err, .int .i64 c_0.Reply.Out.Trap, .int .u8 c_0.Reply.Out.Result.Kind, .int .i64 c_0.Reply.Out.Result.A, .int .i64 c_0.Reply.Out.Result.B, .int .i64 c_0.Start, .int .i64 c_0.End]) rfl rfl rfl rfl (fun b3 => ?_)
  refine SP.val (Val.assign rfl) rfl rfl rfl ?_
  refine SP.nil ?_
  refine QE.then ?_
  refine CP.seq ?_
  refine CP.seq ?_
  refine CP.region ?_
  refine SP.val (Val.fieldAddr Try.underlying48 rfl sz3 rfl) rfl rfl rfl ?_
  refine SP.val (Val.load1 0 rfl Try.underlying3 rfl rfl rfl) rfl rfl rfl ?_
  refine SP.val (Val.lss rfl rfl) rfl rfl rfl ?_
  refine SP.val (Val.move rfl) rfl rfl rfl ?_
  refine SP.join 4 (fun a w2 => Env ⟨43, []⟩ [(1, .pointer (some ⟨b3, 0, none⟩)), (10, .bool ((decide (c_0.Proc < 0)) || (decide (c_0.Proc ≥ 64))))] a ∧ St w em hV [slP k_api_Value v_c_0_Op_Args c_0.Op.Args, slP (kInt .u8) v_c_0_Op_Bytes c_0.Op.Bytes] [boxO b3 [.int .i64 c_0.Proc, .int .u8 c_0.Op.Kind, .int .i64 c_0.Op.Method, v_c_0_Op_Args, v_c_0_Op_Bytes, .bool c_0.Read, .int .i64 c_0.Reply.Err, .int .i64 c_0.Reply.Out.Trap, .int .u8 c_0.Reply.Out.Result.Kind, .int .i64 c_0.Reply.Out.Result.A, .int .i64 c_0.Reply.Out.Result.B, .int .i64 c_0.Start, .int .i64 c_0.End] 48] w2) ?_ ?_
  · rintro a w2 ⟨ha, hw⟩
    refine SP.app ha hw ?_
    clear ha hw a w2
    refine SP.val (Val.move rfl) rfl rfl rfl ?_
    obtain ⟨t10, hg_t10, ho⟩ := bind_some ho
    refine SP.join 5 (fun a w2 => Env ⟨43, []⟩ [(1, .pointer (some ⟨b3, 0, none⟩)), (16, .bool t10)] a ∧ St w em hV [slP k_api_Value v_c_0_Op_Args c_0.Op.Args, slP (kInt .u8) v_c_0_Op_Bytes c_0.Op.Bytes] [boxO b3 [.int .i64 c_0.Proc, .int .u8 c_0.Op.Kind, .int .i64 c_0.Op.Method, v_c_0_Op_Args, v_c_0_Op_Bytes, .bool c_0.Read, .int .i64 c_0.Reply.Err, .int .i64 c_0.Reply.Out.Trap, .int .u8 c_0.Reply.Out.Result.Kind, .int .i64 c_0.Reply.Out.Result.A, .int .i64 c_0.Reply.Out.Result.B, .int .i64 c_0.Start, .int .i64 c_0.End] 48] w2) ?_ ?_
    · rintro a w2 ⟨ha, hw⟩
      refine SP.app ha hw ?_
      clear ha hw a w2 hg_t10
      refine SP.val (Val.move rfl) rfl rfl rfl ?_
      refine SP.join 9 (fun a w2 => Env ⟨43, []⟩ [(1, .pointer (some ⟨b3, 0, none⟩)), (26, .bool (t10 || (c_0.Read && (decide (c_0.Op.Kind ≠ 1)))))] a ∧ St w em hV [slP k_api_Value v_c_0_Op_Args c_0.Op.Args, slP (kInt .u8) v_c_0_Op_Bytes c_0.Op.Bytes] [boxO b3 [.int .i64 c_0.Proc, .int .u8 c_0.Op.Kind, .int .i64 c_0.Op.Method, v_c_0_Op_Args, v_c_0_Op_Bytes, .bool c_0.Read, .int .i64 c_0.Reply.Err, .int .i64 c_0.Reply.Out.Trap, .int .u8 c_0.Reply.Out.Result.Kind, .int .i64 c_0.Reply.Out.Result.A, .int .i64 c_0.Reply.Out.Result.B, .int .i64 c_0.Start, .int .i64 c_0.End] 48] w2) ?_ ?_
      · rintro a w2 ⟨ha, hw⟩
        refine SP.app ha hw ?_
        clear ha hw a w2
        refine SP.val (Val.move rfl) rfl rfl rfl ?_
        refine SP.join 4 (fun a w2 => Env ⟨43, []⟩ [(1, .pointer (some ⟨b3, 0, none⟩)), (31, .bool ((t10 || (c_0.Read && (decide (c_0.Op.Kind ≠ 1)))) || (decide (c_0.Start < 1))))] a ∧ St w em hV [slP k_api_Value v_c_0_Op_Args c_0.Op.Args, slP (kInt .u8) v_c_0_Op_Bytes c_0.Op.Bytes] [boxO b3 [.int .i64 c_0.Proc, .int .u8 c_0.Op.Kind, .int .i64 c_0.Op.Method, v_c_0_Op_Args, v_c_0_Op_Bytes, .bool c_0.Read, .int .i64 c_0.Reply.Err, .int .i64 c_0.Reply.Out.Trap, .int .u8 c_0.Reply.Out.Result.Kind, .int .i64 c_0.Reply.Out.Result.A, .int .i64 c_0.Reply.Out.Result.B, .int .i64 c_0.Start, .int .i64 c_0.End] 48] w2) ?_ ?_
        · rintro a w2 ⟨ha, hw⟩
          refine SP.app ha hw ?_
          clear ha hw a w2
          refine SP.nil ?_
          refine QE.then ?_
          rcases if_some ho with ⟨hc, ho⟩ | ⟨hc, ho⟩
          · refine CP.condT rfl hc ?_
            refine CP.seq ?_
            refine CP.region ?_
            refine SP.val (Val.assign rfl) rfl rfl rfl ?_
            refine SP.nil ?_
            refine QE.then ?_
            refine CP.ret ?_
            refine QE.thru (by intro e; cases e) ?_
            obtain rfl := Option.some.inj ho
            exact QE.rets (rs := [.tmp 2]) (vs := [.bool false]) Try.results47 rfl ⟨RVs.tmp rfl, trivial⟩ (fun w2 h => St.done (fun a b p s => rfl) h)
          · refine CP.condF rfl (bf hc) ?_
            refine CP.skip ?_
            refine QE.then ?_
            refine CP.seq ?_
            refine CP.seq ?_
            refine CP.region ?_
            refine SP.val (Val.loadA 0 rfl Try.underlying48 rfl sz48 rfl rfl rfl) rfl rfl rfl ?_
            obtain ⟨t17, hc, ho⟩ := bind_some ho
            refine SP.callV see (caps := []) (.bool t17) fn48 rfl rfl rfl rfl (fun w2 hP hs sub ap => history_Call_pending.ok c_0 _ _ _ hc w2 hP sub (ap.get 0 rfl) (ap.get 1 rfl)) ?_
            clear hc
            refine SP.nil ?_
            refine QE.then ?_
            rcases if_some ho with ⟨hc, ho⟩ | ⟨hc, ho⟩
            · refine CP.condT rfl hc ?_
              refine CP.seq ?_
              refine CP.region ?_
              refine SP.val (Val.fieldAddr Try.underlying48 rfl sz41 rfl) rfl rfl rfl ?_
              refine SP.val (Val.loadA 0 rfl Try.underlying41 rfl sz41 rfl rfl rfl) rfl rfl rfl ?_
              refine SP.val (Val.buildC (us := []) (ucs := []) (cs := [.int .i64 0, .int .i64 0, .int .u8 0, .int .i64 0, .int .i64 0]) bt41 rfl rfl trivial (by rfl)) rfl rfl rfl ?_
              refine SP.val (Val.eqlA (by kernel_rfl) (fun w2 => eqA41 9996 w2 c_0.Reply.Err 0 c_0.Reply.Out.Trap 0 c_0.Reply.Out.Result.Kind 0 c_0.Reply.Out.Result.A 0 c_0.Reply.Out.Result.B 0) rfl rfl) rfl rfl rfl ?_
              refine SP.val (Val.assign rfl) rfl rfl rfl ?_
              refine SP.nil ?_
              refine QE.then ?_
              refine CP.ret ?_
              refine QE.thru (by intro e; cases e) ?_
              obtain rfl := Option.some.inj ho
              exact QE.rets (rs := [.tmp 2]) (vs := [.bool (c_0.Reply.Err == 0 && ((c_0.Reply.Out.Trap == 0 && ((c_0.Reply.Out.Result.Kind == 0 && (c_0.Reply.Out.Result.A == 0 && (c_0.Reply.Out.Result.B == 0)))))))]) Try.results47 rfl ⟨RVs.tmp rfl, trivial⟩ (fun w2 h => St.done (fun a b p s => rfl) h)
            · refine CP.condF rfl (bf hc) ?_
              refine CP.skip ?_
              refine QE.then ?_
              refine CP.seq ?_
              refine CP.region ?_
              refine SP.val (Val.fieldAddr Try.underlying48 rfl sz3 rfl) rfl rfl rfl ?_
              refine SP.val (Val.load1 0 rfl Try.underlying3 rfl rfl rfl) rfl rfl rfl ?_
              refine SP.val (Val.fieldAddr Try.underlying48 rfl sz3 rfl) rfl rfl rfl ?_
              refine SP.val (Val.load1 0 rfl Try.underlying3 rfl rfl rfl) rfl rfl rfl ?_
              refine SP.val (Val.gtr rfl rfl) rfl rfl rfl ?_
              refine SP.val (Val.assign rfl) rfl rfl rfl ?_
              refine SP.nil ?_
              refine QE.then ?_
              refine CP.ret ?_
              obtain rfl := Option.some.inj ho
              exact QE.rets (rs := [.tmp 2]) (vs := [.bool (decide (c_0.End > c_0.Start))]) Try.results47 rfl ⟨RVs.tmp rfl, trivial⟩ (fun w2 h => St.done (fun a b p s => rfl) h)
        · intro J
          by_cases hc : (t10 || (c_0.Read && (decide (c_0.Op.Kind ≠ 1)))) = true
          · have hq16 := hc
            refine SP.isT (d := 27) rfl hq16 ?_
            refine SP.not rfl rfl rfl ?_
            refine SP.not rfl rfl rfl ?_
            refine SP.not rfl rfl rfl ?_
            refine SP.val (Val.pickT rfl rfl) rfl rfl rfl ?_
            exact J fun a w2 ha hw => ⟨ha.sub ⟨rfl, congrArg (fun z => some (Value.bool z)) (or_t hq16), trivial⟩, hw⟩
          · have hq16 := (bf hc)
            refine SP.isF (d := 27) rfl hq16 ?_
            refine SP.val (Val.fieldAddr Try.underlying48 rfl sz3 rfl) rfl rfl rfl ?_
            refine SP.val (Val.load1 0 rfl Try.underlying3 rfl rfl rfl) rfl rfl rfl ?_
            refine SP.val (Val.lss rfl rfl) rfl rfl rfl ?_
            refine SP.val (Val.pickF rfl rfl) rfl rfl rfl ?_
            exact J fun a w2 ha hw => ⟨ha.sub ⟨rfl, congrArg (fun z => some (Value.bool z)) (or_f hq16 rfl), trivial⟩, hw⟩
      · intro J
        by_cases hc : t10 = true
        · have hq12 := hc
          refine SP.isT (d := 17) rfl hq12 ?_
          refine SP.not rfl rfl rfl ?_
          refine SP.not rfl rfl rfl ?_
          refine SP.not rfl rfl rfl ?_
          refine SP.not rfl rfl rfl ?_
          refine SP.not rfl rfl rfl ?_
          refine SP.not rfl rfl rfl ?_
          refine SP.not rfl rfl rfl ?_
          refine SP.not rfl rfl rfl ?_
          refine SP.val (Val.pickT rfl rfl) rfl rfl rfl ?_
          exact J fun a w2 ha hw => ⟨ha.sub ⟨rfl, congrArg (fun z => some (Value.bool z)) (or_t hq12), trivial⟩, hw⟩
        · have hq12 := (bf hc)
          refine SP.isF (d := 17) rfl hq12 ?_
          refine SP.val (Val.fieldAddr Try.underlying48 rfl sz4 rfl) rfl rfl rfl ?_
          refine SP.val (Val.load1 0 rfl Try.underlying4 rfl rfl rfl) rfl rfl rfl ?_
          refine SP.val (Val.move rfl) rfl rfl rfl ?_
          refine SP.join 5 (fun a w2 => Env ⟨43, []⟩ [(1, .pointer (some ⟨b3, 0, none⟩)), (17, .bool false), (25, .bool (c_0.Read && (decide (c_0.Op.Kind ≠ 1))))] a ∧ St w em hV [slP k_api_Value v_c_0_Op_Args c_0.Op.Args, slP (kInt .u8) v_c_0_Op_Bytes c_0.Op.Bytes] [boxO b3 [.int .i64 c_0.Proc, .int .u8 c_0.Op.Kind, .int .i64 c_0.Op.Method, v_c_0_Op_Args, v_c_0_Op_Bytes, .bool c_0.Read, .int .i64 c_0.Reply.Err, .int .i64 c_0.Reply.Out.Trap, .int .u8 c_0.Reply.Out.Result.Kind, .int .i64 c_0.Reply.Out.Result.A, .int .i64 c_0.Reply.Out.Result.B, .int .i64 c_0.Start, .int .i64 c_0.End] 48] w2) ?_ ?_
          · rintro a w2 ⟨ha, hw⟩
            refine SP.app ha hw ?_
            clear ha hw a w2
            refine SP.val (Val.pickF rfl rfl) rfl rfl rfl ?_
            exact J fun a w2 ha hw => ⟨ha.sub ⟨rfl, congrArg (fun z => some (Value.bool z)) (or_f hq12 rfl), trivial⟩, hw⟩
          · intro J
            by_cases hc : c_0.Read = true
            · have hq14 := hc
              refine SP.isT (d := 20) rfl hq14 ?_
              refine SP.val (Val.fieldAddr Try.underlying48 rfl sz34 rfl) rfl rfl rfl ?_
              refine SP.val (Val.fieldAddr Try.underlying34 rfl sz5 rfl) rfl rfl rfl ?_
              refine SP.val (Val.load1 0 rfl Try.underlying5 rfl rfl rfl) rfl rfl rfl ?_
              refine SP.val (Val.neq rfl rfl) rfl rfl rfl ?_
              refine SP.val (Val.pickT rfl rfl) rfl rfl rfl ?_
              exact J fun a w2 ha hw => ⟨ha.sub ⟨rfl, rfl, congrArg (fun z => some (Value.bool z)) (and_t hq14 rfl), trivial⟩, hw⟩
            · have hq14 := (bf hc)
              refine SP.isF (d := 20) rfl hq14 ?_
              refine SP.not rfl rfl rfl ?_
              refine SP.not rfl rfl rfl ?_
              refine SP.not rfl rfl rfl ?_
              refine SP.not rfl rfl rfl ?_
              refine SP.val (Val.pickF rfl rfl) rfl rfl rfl ?_
              exact J fun a w2 ha hw => ⟨ha.sub ⟨rfl, rfl, congrArg (fun z => some (Value.bool z)) (and_f hq14), trivial⟩, hw⟩
    · intro J
      clear ho
      have ho := hg_t10
      clear hg_t10
      rcases if_some ho with ⟨hc, ho⟩ | ⟨hc, ho⟩
      · have hq8 := hc
        refine SP.isT (d := 11) rfl hq8 ?_
        refine SP.not rfl rfl rfl ?_
        refine SP.not rfl rfl rfl ?_
        refine SP.not rfl rfl rfl ?_
        refine SP.not rfl rfl rfl ?_
        refine SP.val (Val.pickT rfl rfl) rfl rfl rfl ?_
        obtain rfl := Option.some.inj ho
        exact J fun a w2 ha hw => ⟨ha.sub ⟨rfl, rfl, trivial⟩, hw⟩
      · have hq8 := (bf hc)
        refine SP.isF (d := 11) rfl hq8 ?_
        refine SP.val (Val.fieldAddr Try.underlying48 rfl sz34 rfl) rfl rfl rfl ?_
        refine SP.val (Val.loadA 0 rfl Try.underlying34 rfl sz34 rfl rfl rfl) rfl rfl rfl ?_
        obtain ⟨t9, hc, ho⟩ := bind_some ho
        refine SP.callV see (caps := []) (.bool t9) fn60 rfl rfl rfl rfl (fun w2 hP hs sub ap => entry_May.ok c_0.Op _ _ _ hc w2 hP sub (ap.get 0 rfl) (ap.get 1 rfl)) ?_
        clear hc
        refine SP.val (Val.notB rfl) rfl rfl rfl ?_
        refine SP.val (Val.pickF rfl rfl) rfl rfl rfl ?_
        obtain rfl := Option.some.inj ho
        exact J fun a w2 ha hw => ⟨ha.sub ⟨rfl, rfl, trivial⟩, hw⟩
  · intro J
    by_cases hc : c_0.Proc < 0
    · have hq6 := (decide_eq_true hc)
      refine SP.isT (d := 6) rfl hq6 ?_
      refine SP.not rfl rfl rfl ?_
      refine SP.not rfl rfl rfl ?_
      refine SP.not rfl rfl rfl ?_
      refine SP.val (Val.pickT rfl rfl) rfl rfl rfl ?_
      exact J fun a w2 ha hw => ⟨ha.sub ⟨rfl, congrArg (fun z => some (Value.bool z)) (or_t hq6), trivial⟩, hw⟩
    · have hq6 := (decide_eq_false hc)
      refine SP.isF (d := 6) rfl hq6 ?_
      refine SP.val (Val.fieldAddr Try.underlying48 rfl sz3 rfl) rfl rfl rfl ?_
      refine SP.val (Val.load1 0 rfl Try.underlying3 rfl rfl rfl) rfl rfl rfl ?_
      refine SP.val (Val.geq rfl rfl) rfl rfl rfl ?_
      refine SP.val (Val.pickF rfl rfl) rfl rfl rfl ?_
      exact J fun a w2 ha hw => ⟨ha.sub ⟨rfl, congrArg (fun z => some (Value.bool z)) (or_f hq6 rfl), trivial⟩, hw⟩
/-! ### capstan/history.May: function 25 -/
inductive history_May.S where
  | start
  | l1 (l62 : List Int) (l63 : List (Int × Int)) (x64 : Int)
  | l2 (l63 : List (Int × Int)) (l114 : List (Int × Int))
  | p3 (l63 : List (Int × Int)) (k116 : Int) (x117 : Int) (l118 : List (Int × Int))

def history_May.j1 (l_0 : (List history_Call)) (l62 : List Int) (x64 : Int) (x68 : history_Call) (l106 : List (Int × Int)) : Option (List history_May.S ⊕ Bool) :=
  some (.inl [.l1 (l62.set x68.Proc.toNat (IntKind.i64.wrap (x64 + 1))) l106 (IntKind.i64.wrap (x64 + 1))])

def history_May.j3 (l_0 : (List history_Call)) (l62 : List Int) (l63 : List (Int × Int)) (x64 : Int) (x68 : history_Call) (b102 : Bool) : Option (List history_May.S ⊕ Bool) :=
  if b102 = true then (some (.inr false)) else ((elt l62 x68.Proc).bind fun x104 => (history_Call_pending.f x68).bind fun t105 => if (!t105) = true then (history_May.j1 l_0 l62 x64 x68 (mset (mset l63 x68.Start (IntKind.i64.wrap (((mget l63 x68.Start).getD 0) + 1))) x68.End (IntKind.i64.wrap (((mget (mset l63 x68.Start (IntKind.i64.wrap (((mget l63 x68.Start).getD 0) + 1))) x68.End).getD 0) + 1)))) else (history_May.j1 l_0 l62 x64 x68 (mset l63 x68.Start (IntKind.i64.wrap (((mget l63 x68.Start).getD 0) + 1)))))

def history_May.j2 (l_0 : (List history_Call)) (l62 : List Int) (l63 : List (Int × Int)) (x64 : Int) (x68 : history_Call) (b87 : Bool) : Option (List history_May.S ⊕ Bool) :=
  if b87 = true then (some (.inr false)) else ((elt l62 x68.Proc).bind fun x89 => if x89 > 0 then ((elt l_0 (IntKind.i64.wrap (x89 - 1))).bind fun x93 => (history_Ahead.f x93 x68).bind fun t99 => history_May.j3 l_0 l62 l63 x64 x68 (!t99)) else (history_May.j3 l_0 l62 l63 x64 x68 false))

def history_May.F (l_0 : (List history_Call)) : history_May.S → Option (List history_May.S ⊕ Bool)
  | .start => if (l_0.length : Int) > 4096 then (some (.inr false)) else (some (.inl [.l1 (List.replicate 64 0 : List Int) ([] : List (Int × Int)) 0]))
  | .l1 l62 l63 x64 => if x64 < (l_0.length : Int) then ((elt l_0 x64).bind fun x68 => (history_alone.f x68).bind fun t75 => if (!t75) = true then (history_May.j2 l_0 l62 l63 x64 x68 true) else (if x64 > 0 then ((elt l_0 (IntKind.i64.wrap (x64 - 1))).bind fun x82 => history_May.j2 l_0 l62 l63 x64 x68 (decide (x68.Start ≤ x82.Start))) else (history_May.j2 l_0 l62 l63 x64 x68 false))) else (some (.inl [.l2 l63 l63]))
  | .l2 l63 l114 => if l114.isEmpty = true then (some (.inr true)) else some (.inl ((picks l114).map (fun z => .p3 l63 z.1.1 z.1.2 z.2)))
  | .p3 l63 k116 x117 l118 => if x117 > 1 then (some (.inr false)) else (some (.inl [.l2 l63 l118]))

def history_May.f (l_0 : (List history_Call)) : Option Bool := runD (history_May.F l_0) .start
theorem history_May.ok (l_0 : (List history_Call)) (v_l_0 : Value) (r : Bool) (H : history_May.f l_0 = some r) (w : World) (hV : Hp) (sV : Sub hV (hp w)) (h0 : slR k_history_Call hV v_l_0 l_0) :
    Trip Try.prog 25 [v_l_0].toArray em hV w (fun v => HO.pure (v = .bool r)) := by
  have see : Sees w em hV := ⟨sV, Dj.em_right _⟩
  refine Trip.of (P := Try.prog) (n := ⟨83, []⟩) Try.func25 rfl ⟨rfl, rfl⟩ rfl (St.begin (All.cons (x := slP k_history_Call v_l_0 l_0) h0 (All.nil _))) ?_
  obtain ⟨n0, hi⟩ := runD_iff.1 H
  obtain ⟨m0, o, hm0, ho, hr⟩ := stepsD_some hi
  clear hi
  refine CP.seq ?_
  refine CP.region ?_
  refine SP.val (Val.assign rfl) rfl rfl rfl ?_
  refine SP.nil ?_
  refine QE.then ?_
  refine CP.seq ?_
  refine CP.seq ?_
  refine CP.region ?_
  refine SP.val (Val.move rfl) rfl rfl rfl ?_
  refine SP.val (Val.lenP see 0 rfl Try.underlying44 rfl) rfl rfl rfl ?_
  refine SP.val (Val.gtr rfl rfl) rfl rfl rfl ?_
  refine SP.nil ?_
  refine QE.then ?_
  rcases if_some ho with ⟨hc, ho⟩ | ⟨hc, ho⟩
  · refine CP.condT rfl (decide_eq_true hc) ?_
    refine CP.seq ?_
    refine CP.region ?_
    refine SP.val (Val.assign rfl) rfl rfl rfl ?_
    refine SP.nil ?_
    refine QE.then ?_
    refine CP.ret ?_
    refine QE.thru (by intro e; cases e) ?_
    obtain rfl := Option.some.inj ho
    obtain rfl : _ = r := hr
    exact QE.rets (rs := [.tmp 2]) (vs := [.bool false]) Try.results25 rfl ⟨RVs.tmp rfl, trivial⟩ (fun w2 h => St.done (fun a b p s => rfl) h)
  · refine CP.condF rfl (decide_eq_false hc) ?_
    refine CP.skip ?_
    refine QE.then ?_
    refine CP.seq ?_
    refine CP.region ?_
    refine SP.makeMap .i64 (fun z : Int => Value.int .i64 z) rfl rfl (fun b2 => ?_)
    refine SP.val (Val.assign rfl) rfl rfl rfl ?_
    refine SP.nil ?_
    refine QE.then ?_
    refine CP.seq ?_
    refine CP.region ?_
    refine SP.val (Val.buildC (us := []) (ucs := []) (cs := [.int .i64 0, .int .i64 0, .int .i64 0, .int .i64 0, .int .i64 0, .int .i64 0, .int .i64 0, .int .i64 0, .int .i64 0, .int .i64 0, .int .i64 0, .int .i64 0, .int .i64 0, .int .i64 0, .int .i64 0, .int .i64 0, .int .i64 0, .int .i64 0, .int .i64 0, .int .i64 0, .int .i64 0, .int .i64 0, .int .i64 0, .int .i64 0, .int .i64 0, .int .i64 0, .int .i64 0, .int .i64 0, .int .i64 0, .int .i64 0, .int .i64 0, .int .i64 0, .int .i64 0, .int .i64 0, .int .i64 0, .int .i64 0, .int .i64 0, .int .i64 0, .int .i64 0, .int .i64 0, .int .i64 0, .int .i64 0, .int .i64 0, .int .i64 0, .int .i64 0, .int .i64 0, .int .i64 0, .int .i64 0, .int .i64 0, .int .i64 0, .int .i64 0, .int .i64 0, .int .i64 0, .int .i64 0, .int .i64 0, .int .i64 0, .int .i64 0, .int .i64 0, .int .i64 0, .int .i64 0, .int .i64 0, .int .i64 0, .int .i64 0, .int .i64 0]) bt94 rfl rfl trivial (by rfl)) rfl rfl rfl ?_
    refine SP.alloc (cs := [.int .i64 0, .int .i64 0, .int .i64 0, .int .i64 0, .int .i64 0, .int .i64 0, .int .i64 0, .int .i64 0, .int .i64 0, .int .i64 0, .int .i64 0, .int .i64 0, .int .i64 0, .int .i64 0, .int .i64 0, .int .i64 0, .int .i64 0, .int .i64 0, .int .i64 0, .int .i64 0, .int .i64 0, .int .i64 0, .int .i64 0, .int .i64 0, .int .i64 0, .int .i64 0, .int .i64 0, .int .i64 0, .int .i64 0, .int .i64 0, .int .i64 0, .int .i64 0, .int .i64 0, .int .i64 0, .int .i64 0, .int .i64 0, .int .i64 0, .int .i64 0, .int .i64 0, .int .i64 0, .int .i64 0, .int .i64 0, .int .i64 0, .int .i64 0, .int .i64 0, .int .i64 0, .int .i64 0, .int .i64 0, .int .i64 0, .int .i64 0, .int .i64 0, .int .i64 0, .int .i64 0, .int .i64 0, .int .i64 0, .int .i64 0, .int .i64 0, .int .i64 0, .int .i64 0, .int .i64 0, .int .i64 0, .int .i64 0, .int .i64 0, .int .i64 0]) inf94 rfl rfl (fun b4 => ?_)
    refine SP.store (v := .agg #[.int .i64 0, .int .i64 0, .int .i64 0, .int .i64 0, .int .i64 0, .int .i64 0, .int .i64 0, .int .i64 0, .int .i64 0, .int .i64 0, .int .i64 0, .int .i64 0, .int .i64 0, .int .i64 0, .int .i64 0, .int .i64 0, .int .i64 0, .int .i64 0, .int .i64 0, .int .i64 0, .int .i64 0, .int .i64 0, .int .i64 0, .int .i64 0, .int .i64 0, .int .i64 0, .int .i64 0, .int .i64 0, .int .i64 0, .int .i64 0, .int .i64 0, .int .i64 0, .int .i64 0, .int .i64 0, .int .i64 0, .int .i64 0, .int .i64 0, .int .i64 0, .int .i64 0, .int .i64 0, .int .i64 0, .int .i64 0, .int .i64 0, .int .i64 0, .int .i64 0, .int .i64 0, .int .i64 0, .int .i64 0, .int .i64 0, .int .i64 0, .int .i64 0, .int .i64 0, .int .i64 0, .int .i64 0, .int .i64 0, .int .i64 0, .int .i64 0, .int .i64 0, .int .i64 0, .int .i64 0, .int .i64 0, .int .i64 0, .int .i64 0, .int .i64 0]) (vs := [.int .i64 0, .int .i64 0, .int .i64 0, .int .i64 0, .int .i64 0, .int .i64 0, .int .i64 0, .int .i64 0, .int .i64 0, .int .i64 0, .int .i64 0, .int .i64 0, .int .i64 0, .int .i64 0, .int .i64 0, .int .i64 0, .int .i64 0, .int .i64 0, .int .i64 0, .int .i64 0, .int .i64 0, .int .i64 0, .int .i64 0, .int .i64 0, .int .i64 0, .int .i64 0, .int .i64 0, .int .i64 0, .int .i64 0, .int .i64 0, .int .i64 0, .int .i64 0, .int .i64 0, .int .i64 0, .int .i64 0, .int .i64 0, .int .i64 0, .int .i64 0, .int .i64 0, .int .i64 0, .int .i64 0, .int .i64 0, .int .i64 0, .int .i64 0, .int .i64 0, .int .i64 0, .int .i64 0, .int .i64 0, .int .i64 0, .int .i64 0, .int .i64 0, .int .i64 0, .int .i64 0, .int .i64 0, .int .i64 0, .int .i64 0, .int .i64 0, .int .i64 0, .int .i64 0, .int .i64 0, .int .i64 0, .int .i64 0, .int .i64 0, .int .i64 0]) 0 (by rfl) sz94 (by rfl) (by rfl) (by rfl) (by rfl) (by rfl) (by rfl) ?_
    refine SP.nil ?_
    refine QE.then ?_
    refine CP.seq ?_
    refine CP.seq ?_
    refine CP.region ?_
    refine SP.val (Val.move rfl) rfl rfl rfl ?_
    refine SP.val (Val.lenP see 0 rfl Try.underlying44 rfl) rfl rfl rfl ?_
    refine SP.val (Val.move rfl) rfl rfl rfl ?_
    refine SP.nil ?_
    refine QE.then ?_
    refine CP.block ?_
    obtain rfl := Option.some.inj ho
    refine CP.loop (fun cl1 a w2 => ∃ l62 : List Int, ∃ l63 : List (Int × Int), ∃ x64 : Int, cl1 ≤ m0 ∧ stepsD (history_May.F l_0) cl1 (.l1 l62 l63 x64) r ∧ Env ⟨83, []⟩ [(0, v_l_0), (3, .map (some b2)), (4, .pointer (some ⟨b4, 0, none⟩)), (15, v_l_0), (16, .int .i64 (l_0.length : Int)), (17, .int .i64 x64)] a ∧ St w em hV [slP k_history_Call v_l_0 l_0] [arrO b4 [] (fun z : Int => Value.int .i64 z) 64 l62 [] 94, mapO b2 .i64 (fun z : Int => Value.int .i64 z) l63] w2) m0 (fun a w2 ha hw => ⟨(List.replicate 64 0 : List Int), ([] : List (Int × Int)), 0, Nat.le_refl _, (nextD_one hr), ha.sub ⟨rfl, rfl, rfl, rfl, rfl, rfl, trivial⟩, (St.arr (f := (fun z : Int => Value.int .i64 z)) 0 rfl (List.replicate 64 0 : List Int) [] [] rfl rfl hw)⟩) ?_
    clear hr
    rintro cl1 a w2 ⟨l62, l63, x64, hc_l1, hi, ha, hw⟩
    obtain ⟨m65, o, hm_m65, ho, hr⟩ := stepsD_some hi
    refine CP.app ha hw ?_
    clear ha hw a w2 hi
    refine CP.seq ?_
    refine CP.region ?_
    refine SP.val (Val.lss rfl rfl) rfl rfl rfl ?_
    refine SP.nil ?_
    refine QE.then ?_
    refine CP.seq ?_
    rcases if_some ho with ⟨hc, ho⟩ | ⟨hc, ho⟩
    · refine CP.condT rfl (decide_eq_true hc) ?_
      refine CP.skip ?_
      refine QE.then ?_
      refine CP.join (fun a w2 => ∃ x68 : history_Call, ∃ l106 : List (Int × Int), ∃ (m107 : Nat) (o : (List history_May.S ⊕ Bool)), m107 ≤ m65 ∧ history_May.j1 l_0 l62 x64 x68 l106 = some o ∧ nextD (history_May.F l_0) m107 r o ∧ Env ⟨83, []⟩ [(0, v_l_0), (3, .map (some b2)), (4, .pointer (some ⟨b4, 0, none⟩)), (15, v_l_0), (16, .int .i64 (l_0.length : Int)), (17, .int .i64 x64)] a ∧ St w em hV [slP k_history_Call v_l_0 l_0] [arrO b4 [] (fun z : Int => Value.int .i64 z) 64 (l62.set x68.Proc.toNat (IntKind.i64.wrap (x64 + 1))) [] 94, mapO b2 .i64 (fun z : Int => Value.int .i64 z) l106] w2) ?_ ?_
      · rintro a w2 ⟨x68, l106, m107, o, hm_m107, ho, hr, ha, hw⟩
        refine CP.app ha hw ?_
        clear ha hw a w2
        refine CP.region ?_
        refine SP.val (Val.add rfl rfl) rfl rfl rfl ?_
        refine SP.val (Val.move rfl) rfl rfl rfl ?_
        refine SP.nil ?_
        obtain rfl := Option.some.inj ho
        exact QE.lower m107 (by omega) fun a w2 ha hw => ⟨(l62.set x68.Proc.toNat (IntKind.i64.wrap (x64 + 1))), l106, (IntKind.i64.wrap (x64 + 1)), (by omega), (nextD_one hr), ha.sub ⟨rfl, rfl, rfl, rfl, rfl, rfl, trivial⟩, hw⟩
      · refine CP.block ?_
        refine CP.seq ?_
        refine CP.region ?_
        refine SP.val (Val.move rfl) rfl rfl rfl ?_
        obtain ⟨x68, hx, ho⟩ := bind_some ho
        have hx := elt_some hx
        refine SP.indexP see 0 rfl Try.underlying44 sz48 hx.1 hx.2 rfl rfl rfl rfl (fun p66 => ?_)
        clear hx
        refine k_history_Call.load see 0 rfl Try.underlying48 rfl sz48 rfl rfl rfl (fun v69 v71 => ?_)
        refine SP.alloc (cs := [.int .i64 0, .int .u8 0, .int .i64 0, (.slice none 0 0), (.slice none 0 0), .bool false, .int .i64 0, .int .i64 0, .int .u8 0, .int .i64 0, .int .i64 0, .int .i64 0, .int .i64 0]) inf48 rfl rfl (fun b73 => ?_)
        refine SP.val (Val.assign rfl) rfl rfl rfl ?_
        refine SP.have (fun w2 hw => slR.shape (St.pers 0 rfl see.sub see.dj hw)) (fun hs_v69 => ?_)
        refine SP.have (fun w2 hw => slR.shape (St.pers 1 rfl see.sub see.dj hw)) (fun hs_v71 => ?_)
        refine SP.store (v := .agg #[.int .i64 x68.Proc, .int .u8 x68.Op.Kind, .int .i64 x68.Op.Method, v69, v71, .bool x68.Read, .int .i64 x68.Reply.Err, .int .i64 x68.Reply.Out.Trap, .int .u8 x68.Reply.Out.Result.Kind, .int .i64 x68.Reply.Out.Result.A, .int .i64 x68.Reply.Out.Result.B, .int .i64 x68.Start, .int .i64 x68.End]) (vs := [.int .i64 x68.Proc, .int .u8 x68.Op.Kind, .int .i64 x68.Op.Method, v69, v71, .bool x68.Read, .int .i64 x68.Reply.Err, .int .i64 x68.Reply.Out.Trap, .int .u8 x68.Reply.Out.Result.Kind, .int .i64 x68.Reply.Out.Result.A, .int .i64 x68.Reply.Out.Result.B, .int .i64 x68.Start, .int .i64 x68.End]) 0 (by rfl) sz48 (by rfl) (by rfl) (by rfl) (by rfl) (one_cons rfl (one_cons rfl (one_cons rfl (one_cons hs_v69 (one_cons hs_v71 (one_cons rfl (one_cons rfl (one_cons rfl (one_cons rfl (one_cons rfl (one_cons rfl (one_cons rfl (one_cons rfl (rfl)))))))))))))) (by rfl) ?_
        refine SP.nil ?_
        refine QE.then ?_
        refine CP.seq ?_
        refine CP.join (fun a w2 => ∃ b87 : Bool, ∃ (m88 : Nat) (o : (List history_May.S ⊕ Bool)), m88 ≤ m65 ∧ history_May.j2 l_0 l62 l63 x64 x68 b87 = some o ∧ nextD (history_May.F l_0) m88 r o ∧ Env ⟨83, []⟩ [(0, v_l_0), (3, .map (some b2)), (4, .pointer (some ⟨b4, 0, none⟩)), (5, .int .i64 x64), (6, .pointer (some ⟨b73, 0, none⟩)), (15, v_l_0), (16, .int .i64 (l_0.length : Int)), (17, .int .i64 x64), (39, .bool b87)] a ∧ St w em hV [slP k_api_Value v69 x68.Op.Args, slP (kInt .u8) v71 x68.Op.Bytes, slP k_history_Call v_l_0 l_0] [boxO b73 [.int .i64 x68.Proc, .int .u8 x68.Op.Kind, .int .i64 x68.Op.Method, v69, v71, .bool x68.Read, .int .i64 x68.Reply.Err, .int .i64 x68.Reply.Out.Trap, .int .u8 x68.Reply.Out.Result.Kind, .int .i64 x68.Reply.Out.Result.A, .int .i64 x68.Reply.Out.Result.B, .int .i64 x68.Start, .int .i64 x68.End] 48, arrO b4 [] (fun z : Int => Value.int .i64 z) 64 l62 [] 94, mapO b2 .i64 (fun z : Int => Value.int .i64 z) l63] w2) ?_ ?_
        · rintro a w2 ⟨b87, m88, o, hm_m88, ho, hr, ha, hw⟩
          refine CP.app ha hw ?_
          clear ha hw a w2
          rcases if_some ho with ⟨hc, ho⟩ | ⟨hc, ho⟩
          · refine CP.condT rfl hc ?_
            refine CP.seq ?_
            refine CP.region ?_
            refine SP.val (Val.assign rfl) rfl rfl rfl ?_
            refine SP.nil ?_
            refine QE.then ?_
            refine CP.ret ?_
            refine QE.thru (by intro e; cases e) ?_
            refine QE.blockR ?_
            refine QE.thru (by intro e; cases e) ?_
            refine QE.thru (by intro e; cases e) ?_
            refine QE.blockR ?_
            refine QE.thru (by intro e; cases e) ?_
            obtain rfl := Option.some.inj ho
            obtain rfl : _ = r := hr
            exact QE.rets (rs := [.tmp 2]) (vs := [.bool false]) Try.results25 rfl ⟨RVs.tmp rfl, trivial⟩ (fun w2 h => St.done (fun a b p s => rfl) h)
          · refine CP.condF rfl (bf hc) ?_
            refine CP.skip ?_
            refine QE.then ?_
            refine CP.seq ?_
            refine CP.seq ?_
            refine CP.region ?_
            refine SP.val (Val.fieldAddr Try.underlying48 rfl sz3 rfl) rfl rfl rfl ?_
            refine SP.val (Val.load1 0 rfl Try.underlying3 rfl rfl rfl) rfl rfl rfl ?_
            obtain ⟨x89, hx_x89, ho⟩ := bind_some ho
            have hx_x89 := elt_some hx_x89
            refine SP.val (Val.indexArr 1 rfl Try.underlying94 sz3 hx_x89.1 hx_x89.2 rfl rfl rfl) rfl rfl rfl ?_
            refine SP.val (Val.loadArr 1 rfl Try.underlying3 rfl hx_x89.2 rfl rfl) rfl rfl rfl ?_
            refine SP.val (Val.assign rfl) rfl rfl rfl ?_
            refine SP.nil ?_
            refine QE.then ?_
            refine CP.join (fun a w2 => ∃ b102 : Bool, ∃ (m103 : Nat) (o : (List history_May.S ⊕ Bool)), m103 ≤ m88 ∧ history_May.j3 l_0 l62 l63 x64 x68 b102 = some o ∧ nextD (history_May.F l_0) m103 r o ∧ Env ⟨83, []⟩ [(0, v_l_0), (3, .map (some b2)), (4, .pointer (some ⟨b4, 0, none⟩)), (5, .int .i64 x64), (6, .pointer (some ⟨b73, 0, none⟩)), (15, v_l_0), (16, .int .i64 (l_0.length : Int)), (17, .int .i64 x64), (55, .bool b102)] a ∧ St w em hV [slP k_api_Value v69 x68.Op.Args, slP (kInt .u8) v71 x68.Op.Bytes, slP k_history_Call v_l_0 l_0] [boxO b73 [.int .i64 x68.Proc, .int .u8 x68.Op.Kind, .int .i64 x68.Op.Method, v69, v71, .bool x68.Read, .int .i64 x68.Reply.Err, .int .i64 x68.Reply.Out.Trap, .int .u8 x68.Reply.Out.Result.Kind, .int .i64 x68.Reply.Out.Result.A, .int .i64 x68.Reply.Out.Result.B, .int .i64 x68.Start, .int .i64 x68.End] 48, arrO b4 [] (fun z : Int => Value.int .i64 z) 64 l62 [] 94, mapO b2 .i64 (fun z : Int => Value.int .i64 z) l63] w2) ?_ ?_
            · rintro a w2 ⟨b102, m103, o, hm_m103, ho, hr, ha, hw⟩
              refine CP.app ha hw ?_
              clear ha hw a w2
              rcases if_some ho with ⟨hc, ho⟩ | ⟨hc, ho⟩
              · refine CP.condT rfl hc ?_
                refine CP.seq ?_
                refine CP.region ?_
                refine SP.val (Val.assign rfl) rfl rfl rfl ?_
                refine SP.nil ?_
                refine QE.then ?_
                refine CP.ret ?_
                refine QE.thru (by intro e; cases e) ?_
                refine QE.blockR ?_
                refine QE.thru (by intro e; cases e) ?_
                refine QE.thru (by intro e; cases e) ?_
                refine QE.blockR ?_
                refine QE.thru (by intro e; cases e) ?_
                obtain rfl := Option.some.inj ho
                obtain rfl : _ = r := hr
                exact QE.rets (rs := [.tmp 2]) (vs := [.bool false]) Try.results25 rfl ⟨RVs.tmp rfl, trivial⟩ (fun w2 h => St.done (fun a b p s => rfl) h)
              · refine CP.condF rfl (bf hc) ?_
                refine CP.skip ?_
                refine QE.then ?_
                refine CP.seq ?_
                refine CP.region ?_
                refine SP.val (Val.fieldAddr Try.underlying48 rfl sz3 rfl) rfl rfl rfl ?_
                refine SP.val (Val.load1 0 rfl Try.underlying3 rfl rfl rfl) rfl rfl rfl ?_
                refine SP.val (Val.move rfl) rfl rfl rfl ?_
                refine SP.val (Val.add rfl rfl) rfl rfl rfl ?_
                obtain ⟨x104, hx_x104, ho⟩ := bind_some ho
                have hx_x104 := elt_some hx_x104
                refine SP.val (Val.indexArr 1 rfl Try.underlying94 sz3 hx_x104.1 hx_x104.2 rfl rfl rfl) rfl rfl rfl ?_
                refine SP.storeArr 1 rfl sz3 rfl hx_x104.2 rfl rfl rfl (fun _ => rfl) (fun _ => rfl) ?_
                refine SP.nil ?_
                refine QE.then ?_
                refine CP.seq ?_
                refine CP.region ?_
                refine SP.val (Val.move rfl) rfl rfl rfl ?_
                refine SP.val (Val.fieldAddr Try.underlying48 rfl sz3 rfl) rfl rfl rfl ?_
                refine SP.val (Val.load1 0 rfl Try.underlying3 rfl rfl rfl) rfl rfl rfl ?_
                refine SP.val (Val.lookup (z0 := 0) see 2 rfl Try.underlying93 Try.underlying3 inf3 (by kernel_rfl) rfl rfl) rfl rfl rfl ?_
                refine SP.val (Val.add rfl rfl) rfl rfl rfl ?_
                refine SP.mapUpdate see 2 rfl Try.underlying93 Try.underlying3 rfl rfl rfl rfl ?_
                refine SP.nil ?_
                refine QE.then ?_
                refine CP.seq ?_
                refine CP.region ?_
                refine SP.val (Val.loadA 0 rfl Try.underlying48 rfl sz48 rfl rfl rfl) rfl rfl rfl ?_
                obtain ⟨t105, hc, ho⟩ := bind_some ho
                refine SP.callV see (caps := []) (.bool t105) fn48 rfl rfl rfl rfl (fun w2 hP hs sub ap => history_Call_pending.ok x68 _ _ _ hc w2 hP sub (ap.get 0 rfl) (ap.get 1 rfl)) ?_
                clear hc
                refine SP.val (Val.notB rfl) rfl rfl rfl ?_
                refine SP.nil ?_
                refine QE.then ?_
                rcases if_some ho with ⟨hc, ho⟩ | ⟨hc, ho⟩
                · refine CP.condT rfl hc ?_
                  refine CP.region ?_
                  refine SP.val (Val.move rfl) rfl rfl rfl ?_
                  refine SP.val (Val.fieldAddr Try.underlying48 rfl sz3 rfl) rfl rfl rfl ?_
                  refine SP.val (Val.load1 0 rfl Try.underlying3 rfl rfl rfl) rfl rfl rfl ?_
                  refine SP.val (Val.lookup (z0 := 0) see 2 rfl Try.underlying93 Try.underlying3 inf3 (by kernel_rfl) rfl rfl) rfl rfl rfl ?_
                  refine SP.val (Val.add rfl rfl) rfl rfl rfl ?_
                  refine SP.mapUpdate see 2 rfl Try.underlying93 Try.underlying3 rfl rfl rfl rfl ?_
                  refine SP.nil ?_
                  refine QE.blockN ?_
                  exact QE.meet fun a w2 ha hw => ⟨x68, (mset (mset l63 x68.Start (IntKind.i64.wrap (((mget l63 x68.Start).getD 0) + 1))) x68.End (IntKind.i64.wrap (((mget (mset l63 x68.Start (IntKind.i64.wrap (((mget l63 x68.Start).getD 0) + 1))) x68.End).getD 0) + 1))), m103, _, (by omega), ho, hr, ha.sub ⟨rfl, rfl, rfl, rfl, rfl, rfl, trivial⟩, (St.selP [2] rfl (St.selO [1, 2] rfl rfl hw))⟩
                · refine CP.condF rfl (bf hc) ?_
                  refine CP.skip ?_
                  refine QE.blockN ?_
                  exact QE.meet fun a w2 ha hw => ⟨x68, (mset l63 x68.Start (IntKind.i64.wrap (((mget l63 x68.Start).getD 0) + 1))), m103, _, (by omega), ho, hr, ha.sub ⟨rfl, rfl, rfl, rfl, rfl, rfl, trivial⟩, (St.selP [2] rfl (St.selO [1, 2] rfl rfl hw))⟩
            · refine CP.drawA (by kernel_rfl) (fun w2 k h => h.drawn k) ?_
              rcases if_some ho with ⟨hc, ho⟩ | ⟨hc, ho⟩
              · have hg90 := (decide_eq_true hc)
                clear hc
                obtain ⟨x93, hx, ho⟩ := bind_some ho
                have hx := elt_some hx
                refine DA.ghost (fun w2 h => h.elem see 2 rfl hx.1 hx.2) (fun p91 h_p91 => ?_)
                clear hx
                refine DA.ghost (fun w2 h => h.openE see 0 rfl (fun ((v94, v96) : Value × Value) => [.int .i64 x93.Proc, .int .u8 x93.Op.Kind, .int .i64 x93.Op.Method, v94, v96, .bool x93.Read, .int .i64 x93.Reply.Err, .int .i64 x93.Reply.Out.Trap, .int .u8 x93.Reply.Out.Result.Kind, .int .i64 x93.Reply.Out.Result.A, .int .i64 x93.Reply.Out.Result.B, .int .i64 x93.Start, .int .i64 x93.End]) (fun ((v94, v96) : Value × Value) => [slP k_api_Value v94 x93.Op.Args, slP (kInt .u8) v96 x93.Op.Bytes]) (fun h cs ⟨v94, v96, e, p0, p1⟩ => ⟨(v94, v96), e, All.cons p0 (All.cons p1 (All.nil _))⟩)) (fun z_ _ => ?_)
                obtain ⟨v94, v96⟩ := z_
                obtain ⟨t99, hc100, ho⟩ := bind_some ho
                refine DA.phase (fun i => Nat.ble 0 i && Nat.blt i 12) (fun w2 => St w em hV [atP p91 [.int .i64 x93.Proc, .int .u8 x93.Op.Kind, .int .i64 x93.Op.Method, v94, v96, .bool x93.Read, .int .i64 x93.Reply.Err, .int .i64 x93.Reply.Out.Trap, .int .u8 x93.Reply.Out.Result.Kind, .int .i64 x93.Reply.Out.Result.A, .int .i64 x93.Reply.Out.Result.B, .int .i64 x93.Start, .int .i64 x93.End], slP k_api_Value v94 x93.Op.Args, slP (kInt .u8) v96 x93.Op.Bytes, elP k_history_Call p91 x93, slP k_api_Value v69 x68.Op.Args, slP (kInt .u8) v71 x68.Op.Bytes, slP k_history_Call v_l_0 l_0] [boxO b73 [.int .i64 x68.Proc, .int .u8 x68.Op.Kind, .int .i64 x68.Op.Method, v69, v71, .bool x68.Read, .int .i64 x68.Reply.Err, .int .i64 x68.Reply.Out.Trap, .int .u8 x68.Reply.Out.Result.Kind, .int .i64 x68.Reply.Out.Result.A, .int .i64 x68.Reply.Out.Result.B, .int .i64 x68.Start, .int .i64 x68.End] 48, arrO b4 [] (fun z : Int => Value.int .i64 z) 64 l62 [] 94, mapO b2 .i64 (fun z : Int => Value.int .i64 z) l63] w2) ?_
                refine DT.take 0 rfl rfl rfl rfl (by kernel_rfl) (fun _ _ _ h => h) (Val.move rfl) (fun w2 hw => hw) ?_
                refine DT.take 1 rfl rfl rfl rfl (by kernel_rfl) (fun _ _ _ h => h) (Val.gtr rfl rfl) (fun w2 hw => hw) ?_
                refine DT.take 2 rfl rfl rfl rfl (by kernel_rfl) (fun _ _ _ h => h) (Val.move rfl) (fun w2 hw => hw) ?_
                refine DT.is (d := 46) (b := true) rfl hg90 ?_
                refine DT.take 3 rfl rfl rfl rfl (by kernel_rfl) (fun _ _ _ h => h) (Val.move rfl) (fun w2 hw => hw) ?_
                refine DT.take 4 rfl rfl rfl rfl (by kernel_rfl) (fun _ _ _ h => h) (Val.move rfl) (fun w2 hw => hw) ?_
                refine DT.take 5 rfl rfl rfl rfl (by kernel_rfl) (fun _ _ _ h => h) (Val.sub rfl rfl) (fun w2 hw => hw) ?_
                refine DT.take 6 rfl rfl rfl rfl (by kernel_rfl) (fun _ _ _ h => h) (Val.indexE h_p91 Try.underlying44 sz48 rfl rfl) (fun w2 hw => hw) ?_
                refine DT.take 7 rfl rfl rfl rfl (by kernel_rfl) (fun _ _ _ h => h) (Val.loadAtA see 0 rfl Try.underlying48 rfl sz48 rfl) (fun w2 hw => hw) ?_
                refine DT.take 8 rfl rfl rfl rfl (by kernel_rfl) (fun _ _ _ h => h) (Val.loadA 0 rfl Try.underlying48 rfl sz48 rfl rfl rfl) (fun w2 hw => hw) ?_
                refine DT.one 9 rfl (by kernel_rfl) rfl ?_
                refine SP.callV see (caps := []) (.bool t99) fn33 rfl rfl rfl rfl (fun w2 hP hs sub ap => history_Ahead.ok x93 x68 _ _ _ _ _ hc100 w2 hP sub (ap.get 1 rfl) (ap.get 2 rfl) (ap.get 4 rfl) (ap.get 5 rfl)) ?_
                refine SP.nil ?_
                refine QE.atT (fun w2 hw => hw) ?_
                refine DT.take 10 rfl rfl rfl rfl (by kernel_rfl) (fun _ _ _ h => h) (Val.notB rfl) (fun w2 hw => hw) ?_
                refine DT.take 11 rfl rfl rfl rfl (by kernel_rfl) (fun _ _ _ h => h) (Val.pickT rfl rfl) (fun w2 hw => hw) ?_
                refine DT.next (by kernel_rfl) ?_
                refine DA.done (by kernel_rfl) ?_
                exact QE.meet fun a w2 ha hw => ⟨(!t99), m88, _, (by omega), ho, hr, ha.sub ⟨rfl, rfl, rfl, rfl, rfl, rfl, rfl, rfl, rfl, trivial⟩, (St.selP [4, 5, 6] rfl hw)⟩
              · have hg101 := (decide_eq_false hc)
                clear hc
                refine DA.phase (fun i => Nat.ble 0 i && Nat.blt i 12) (fun w2 => St w em hV [slP k_api_Value v69 x68.Op.Args, slP (kInt .u8) v71 x68.Op.Bytes, slP k_history_Call v_l_0 l_0] [boxO b73 [.int .i64 x68.Proc, .int .u8 x68.Op.Kind, .int .i64 x68.Op.Method, v69, v71, .bool x68.Read, .int .i64 x68.Reply.Err, .int .i64 x68.Reply.Out.Trap, .int .u8 x68.Reply.Out.Result.Kind, .int .i64 x68.Reply.Out.Result.A, .int .i64 x68.Reply.Out.Result.B, .int .i64 x68.Start, .int .i64 x68.End] 48, arrO b4 [] (fun z : Int => Value.int .i64 z) 64 l62 [] 94, mapO b2 .i64 (fun z : Int => Value.int .i64 z) l63] w2) ?_
                refine DT.take 0 rfl rfl rfl rfl (by kernel_rfl) (fun _ _ _ h => h) (Val.move rfl) (fun w2 hw => hw) ?_
                refine DT.take 1 rfl rfl rfl rfl (by kernel_rfl) (fun _ _ _ h => h) (Val.gtr rfl rfl) (fun w2 hw => hw) ?_
                refine DT.take 2 rfl rfl rfl rfl (by kernel_rfl) (fun _ _ _ h => h) (Val.move rfl) (fun w2 hw => hw) ?_
                refine DT.is (d := 46) (b := false) rfl hg101 ?_
                refine DT.not 3 rfl rfl rfl rfl (by kernel_rfl) (fun _ _ _ h => h) (fun w2 hw => hw) ?_
                refine DT.not 4 rfl rfl rfl rfl (by kernel_rfl) (fun _ _ _ h => h) (fun w2 hw => hw) ?_
                refine DT.not 5 rfl rfl rfl rfl (by kernel_rfl) (fun _ _ _ h => h) (fun w2 hw => hw) ?_
                refine DT.not 6 rfl rfl rfl rfl (by kernel_rfl) (fun _ _ _ h => h) (fun w2 hw => hw) ?_
                refine DT.not 7 rfl rfl rfl rfl (by kernel_rfl) (fun _ _ _ h => h) (fun w2 hw => hw) ?_
                refine DT.not 8 rfl rfl rfl rfl (by kernel_rfl) (fun _ _ _ h => h) (fun w2 hw => hw) ?_
                refine DT.not 9 rfl rfl rfl rfl (by kernel_rfl) (fun _ _ _ h => h) (fun w2 hw => hw) ?_
                refine DT.not 10 rfl rfl rfl rfl (by kernel_rfl) (fun _ _ _ h => h) (fun w2 hw => hw) ?_
                refine DT.take 11 rfl rfl rfl rfl (by kernel_rfl) (fun _ _ _ h => h) (Val.pickF rfl rfl) (fun w2 hw => hw) ?_
                refine DT.next (by kernel_rfl) ?_
                refine DA.done (by kernel_rfl) ?_
                exact QE.meet fun a w2 ha hw => ⟨false, m88, _, (by omega), ho, hr, ha.sub ⟨rfl, rfl, rfl, rfl, rfl, rfl, rfl, rfl, rfl, trivial⟩, hw⟩
        · refine CP.drawA (by kernel_rfl) (fun w2 k h => h.drawn k) ?_
          obtain ⟨t75, hc76, ho⟩ := bind_some ho
          rcases if_some ho with ⟨hc, ho⟩ | ⟨hc, ho⟩
          · have hg77 := hc
            clear hc
            refine DA.phase (fun i => Nat.ble 0 i && Nat.blt i 18) (fun w2 => St w em hV [slP k_api_Value v69 x68.Op.Args, slP (kInt .u8) v71 x68.Op.Bytes, elP k_history_Call p66 x68, slP k_history_Call v_l_0 l_0] [boxO b73 [.int .i64 x68.Proc, .int .u8 x68.Op.Kind, .int .i64 x68.Op.Method, v69, v71, .bool x68.Read, .int .i64 x68.Reply.Err, .int .i64 x68.Reply.Out.Trap, .int .u8 x68.Reply.Out.Result.Kind, .int .i64 x68.Reply.Out.Result.A, .int .i64 x68.Reply.Out.Result.B, .int .i64 x68.Start, .int .i64 x68.End] 48, arrO b4 [] (fun z : Int => Value.int .i64 z) 64 l62 [] 94, mapO b2 .i64 (fun z : Int => Value.int .i64 z) l63] w2) ?_
            refine DT.take 0 rfl rfl rfl rfl (by kernel_rfl) (fun _ _ _ h => h) (Val.loadA 0 rfl Try.underlying48 rfl sz48 rfl rfl rfl) (fun w2 hw => hw) ?_
            refine DT.one 1 rfl (by kernel_rfl) rfl ?_
            refine SP.callV see (caps := []) (.bool t75) fn47 rfl rfl rfl rfl (fun w2 hP hs sub ap => history_alone.ok x68 _ _ _ hc76 w2 hP sub (ap.get 0 rfl) (ap.get 1 rfl)) ?_
            refine SP.nil ?_
            refine QE.atT (fun w2 hw => hw) ?_
            refine DT.take 2 rfl rfl rfl rfl (by kernel_rfl) (fun _ _ _ h => h) (Val.notB rfl) (fun w2 hw => hw) ?_
            refine DT.take 3 rfl rfl rfl rfl (by kernel_rfl) (fun _ _ _ h => h) (Val.move rfl) (fun w2 hw => hw) ?_
            refine DT.is (d := 25) (b := true) rfl hg77 ?_
            refine DT.not 4 rfl rfl rfl rfl (by kernel_rfl) (fun _ _ _ h => h) (fun w2 hw => hw) ?_
            refine DT.not 5 rfl rfl rfl rfl (by kernel_rfl) (fun _ _ _ h => h) (fun w2 hw => hw) ?_
            refine DT.not 6 rfl rfl rfl rfl (by kernel_rfl) (fun _ _ _ h => h) (fun w2 hw => hw) ?_
            refine DT.not 7 rfl rfl rfl rfl (by kernel_rfl) (fun _ _ _ h => h) (fun w2 hw => hw) ?_
            refine DT.not 8 rfl rfl rfl rfl (by kernel_rfl) (fun _ _ _ h => h) (fun w2 hw => hw) ?_
            refine DT.not 9 rfl rfl rfl rfl (by kernel_rfl) (fun _ _ _ h => h) (fun w2 hw => hw) ?_
            refine DT.not 10 rfl rfl rfl rfl (by kernel_rfl) (fun _ _ _ h => h) (fun w2 hw => hw) ?_
            refine DT.not 11 rfl rfl rfl rfl (by kernel_rfl) (fun _ _ _ h => h) (fun w2 hw => hw) ?_
            refine DT.not 12 rfl rfl rfl rfl (by kernel_rfl) (fun _ _ _ h => h) (fun w2 hw => hw) ?_
            refine DT.not 13 rfl rfl rfl rfl (by kernel_rfl) (fun _ _ _ h => h) (fun w2 hw => hw) ?_
            refine DT.not 14 rfl rfl rfl rfl (by kernel_rfl) (fun _ _ _ h => h) (fun w2 hw => hw) ?_
            refine DT.not 15 rfl rfl rfl rfl (by kernel_rfl) (fun _ _ _ h => h) (fun w2 hw => hw) ?_
            refine DT.not 16 rfl rfl rfl rfl (by kernel_rfl) (fun _ _ _ h => h) (fun w2 hw => hw) ?_
            refine DT.take 17 rfl rfl rfl rfl (by kernel_rfl) (fun _ _ _ h => h) (Val.pickT rfl rfl) (fun w2 hw => hw) ?_
            refine DT.next (by kernel_rfl) ?_
            refine DA.done (by kernel_rfl) ?_
            exact QE.meet fun a w2 ha hw => ⟨true, m65, _, (by omega), ho, hr, ha.sub ⟨rfl, rfl, rfl, rfl, rfl, rfl, rfl, rfl, rfl, trivial⟩, (St.selP [0, 1, 3] rfl hw)⟩
          · have hg78 := (bf hc)
            clear hc
            rcases if_some ho with ⟨hc, ho⟩ | ⟨hc, ho⟩
            · have hg79 := (decide_eq_true hc)
              clear hc
              obtain ⟨x82, hx, ho⟩ := bind_some ho
              have hx := elt_some hx
              refine DA.ghost (fun w2 h => h.elem see 3 rfl hx.1 hx.2) (fun p80 h_p80 => ?_)
              clear hx
              refine DA.ghost (fun w2 h => h.fieldE see 0 rfl k_history_Call.part_Start) (fun p83 h_p83 => ?_)
              refine DA.ghost (fun w2 h => h.openE see 0 rfl (fun _ : Unit => [.int .i64 x82.Start]) (fun _ => []) (fun h cs e => ⟨(), e, All.nil _⟩)) (fun _ _ => ?_)
              refine DA.phase (fun i => Nat.ble 0 i && Nat.blt i 18) (fun w2 => St w em hV [atP p83 [.int .i64 x82.Start], elP (kInt .i64) p83 x82.Start, elP k_history_Call p80 x82, slP k_api_Value v69 x68.Op.Args, slP (kInt .u8) v71 x68.Op.Bytes, elP k_history_Call p66 x68, slP k_history_Call v_l_0 l_0] [boxO b73 [.int .i64 x68.Proc, .int .u8 x68.Op.Kind, .int .i64 x68.Op.Method, v69, v71, .bool x68.Read, .int .i64 x68.Reply.Err, .int .i64 x68.Reply.Out.Trap, .int .u8 x68.Reply.Out.Result.Kind, .int .i64 x68.Reply.Out.Result.A, .int .i64 x68.Reply.Out.Result.B, .int .i64 x68.Start, .int .i64 x68.End] 48, arrO b4 [] (fun z : Int => Value.int .i64 z) 64 l62 [] 94, mapO b2 .i64 (fun z : Int => Value.int .i64 z) l63] w2) ?_
              refine DT.take 0 rfl rfl rfl rfl (by kernel_rfl) (fun _ _ _ h => h) (Val.loadA 0 rfl Try.underlying48 rfl sz48 rfl rfl rfl) (fun w2 hw => hw) ?_
              refine DT.one 1 rfl (by kernel_rfl) rfl ?_
              refine SP.callV see (caps := []) (.bool t75) fn47 rfl rfl rfl rfl (fun w2 hP hs sub ap => history_alone.ok x68 _ _ _ hc76 w2 hP sub (ap.get 3 rfl) (ap.get 4 rfl)) ?_
              refine SP.nil ?_
              refine QE.atT (fun w2 hw => hw) ?_
              refine DT.take 2 rfl rfl rfl rfl (by kernel_rfl) (fun _ _ _ h => h) (Val.notB rfl) (fun w2 hw => hw) ?_
              refine DT.take 3 rfl rfl rfl rfl (by kernel_rfl) (fun _ _ _ h => h) (Val.move rfl) (fun w2 hw => hw) ?_
              refine DT.is (d := 25) (b := false) rfl hg78 ?_
              refine DT.take 4 rfl rfl rfl rfl (by kernel_rfl) (fun _ _ _ h => h) (Val.move rfl) (fun w2 hw => hw) ?_
              refine DT.take 5 rfl rfl rfl rfl (by kernel_rfl) (fun _ _ _ h => h) (Val.gtr rfl rfl) (fun w2 hw => hw) ?_
              refine DT.take 6 rfl rfl rfl rfl (by kernel_rfl) (fun _ _ _ h => h) (Val.move rfl) (fun w2 hw => hw) ?_
              refine DT.is (d := 28) (b := true) rfl hg79 ?_
              refine DT.take 7 rfl rfl rfl rfl (by kernel_rfl) (fun _ _ _ h => h) (Val.fieldAddr Try.underlying48 rfl sz3 rfl) (fun w2 hw => hw) ?_
              refine DT.take 8 rfl rfl rfl rfl (by kernel_rfl) (fun _ _ _ h => h) (Val.load1 0 rfl Try.underlying3 rfl rfl rfl) (fun w2 hw => hw) ?_
              refine DT.take 9 rfl rfl rfl rfl (by kernel_rfl) (fun _ _ _ h => h) (Val.move rfl) (fun w2 hw => hw) ?_
              refine DT.take 10 rfl rfl rfl rfl (by kernel_rfl) (fun _ _ _ h => h) (Val.move rfl) (fun w2 hw => hw) ?_
              refine DT.take 11 rfl rfl rfl rfl (by kernel_rfl) (fun _ _ _ h => h) (Val.sub rfl rfl) (fun w2 hw => hw) ?_
              refine DT.take 12 rfl rfl rfl rfl (by kernel_rfl) (fun _ _ _ h => h) (Val.indexE h_p80 Try.underlying44 sz48 rfl rfl) (fun w2 hw => hw) ?_
              refine DT.take 13 rfl rfl rfl rfl (by kernel_rfl) (fun _ _ _ h => h) (Val.fieldE h_p83 Try.underlying48 rfl rfl sz3 rfl) (fun w2 hw => hw) ?_
              refine DT.take 14 rfl rfl rfl rfl (by kernel_rfl) (fun _ _ _ h => h) (Val.loadAt1 see 0 rfl Try.underlying3 rfl rfl) (fun w2 hw => hw) ?_
              refine DT.take 15 rfl rfl rfl rfl (by kernel_rfl) (fun _ _ _ h => h) (Val.leq rfl rfl) (fun w2 hw => hw) ?_
              refine DT.take 16 rfl rfl rfl rfl (by kernel_rfl) (fun _ _ _ h => h) (Val.pickT rfl rfl) (fun w2 hw => hw) ?_
              refine DT.take 17 rfl rfl rfl rfl (by kernel_rfl) (fun _ _ _ h => h) (Val.pickF rfl rfl) (fun w2 hw => hw) ?_
              refine DT.next (by kernel_rfl) ?_
              refine DA.done (by kernel_rfl) ?_
              exact QE.meet fun a w2 ha hw => ⟨(decide (x68.Start ≤ x82.Start)), m65, _, (by omega), ho, hr, ha.sub ⟨rfl, rfl, rfl, rfl, rfl, rfl, rfl, rfl, rfl, trivial⟩, (St.selP [3, 4, 6] rfl hw)⟩
            · have hg86 := (decide_eq_false hc)
              clear hc
              refine DA.phase (fun i => Nat.ble 0 i && Nat.blt i 18) (fun w2 => St w em hV [slP k_api_Value v69 x68.Op.Args, slP (kInt .u8) v71 x68.Op.Bytes, elP k_history_Call p66 x68, slP k_history_Call v_l_0 l_0] [boxO b73 [.int .i64 x68.Proc, .int .u8 x68.Op.Kind, .int .i64 x68.Op.Method, v69, v71, .bool x68.Read, .int .i64 x68.Reply.Err, .int .i64 x68.Reply.Out.Trap, .int .u8 x68.Reply.Out.Result.Kind, .int .i64 x68.Reply.Out.Result.A, .int .i64 x68.Reply.Out.Result.B, .int .i64 x68.Start, .int .i64 x68.End] 48, arrO b4 [] (fun z : Int => Value.int .i64 z) 64 l62 [] 94, mapO b2 .i64 (fun z : Int => Value.int .i64 z) l63] w2) ?_
              refine DT.take 0 rfl rfl rfl rfl (by kernel_rfl) (fun _ _ _ h => h) (Val.loadA 0 rfl Try.underlying48 rfl sz48 rfl rfl rfl) (fun w2 hw => hw) ?_
              refine DT.one 1 rfl (by kernel_rfl) rfl ?_
              refine SP.callV see (caps := []) (.bool t75) fn47 rfl rfl rfl rfl (fun w2 hP hs sub ap => history_alone.ok x68 _ _ _ hc76 w2 hP sub (ap.get 0 rfl) (ap.get 1 rfl)) ?_
              refine SP.nil ?_
              refine QE.atT (fun w2 hw => hw) ?_
              refine DT.take 2 rfl rfl rfl rfl (by kernel_rfl) (fun _ _ _ h => h) (Val.notB rfl) (fun w2 hw => hw) ?_
              refine DT.take 3 rfl rfl rfl rfl (by kernel_rfl) (fun _ _ _ h => h) (Val.move rfl) (fun w2 hw => hw) ?_
              refine DT.is (d := 25) (b := false) rfl hg78 ?_
              refine DT.take 4 rfl rfl rfl rfl (by kernel_rfl) (fun _ _ _ h => h) (Val.move rfl) (fun w2 hw => hw) ?_
              refine DT.take 5 rfl rfl rfl rfl (by kernel_rfl) (fun _ _ _ h => h) (Val.gtr rfl rfl) (fun w2 hw => hw) ?_
              refine DT.take 6 rfl rfl rfl rfl (by kernel_rfl) (fun _ _ _ h => h) (Val.move rfl) (fun w2 hw => hw) ?_
              refine DT.is (d := 28) (b := false) rfl hg86 ?_
              refine DT.not 7 rfl rfl rfl rfl (by kernel_rfl) (fun _ _ _ h => h) (fun w2 hw => hw) ?_
              refine DT.not 8 rfl rfl rfl rfl (by kernel_rfl) (fun _ _ _ h => h) (fun w2 hw => hw) ?_
              refine DT.not 9 rfl rfl rfl rfl (by kernel_rfl) (fun _ _ _ h => h) (fun w2 hw => hw) ?_
              refine DT.not 10 rfl rfl rfl rfl (by kernel_rfl) (fun _ _ _ h => h) (fun w2 hw => hw) ?_
              refine DT.not 11 rfl rfl rfl rfl (by kernel_rfl) (fun _ _ _ h => h) (fun w2 hw => hw) ?_
              refine DT.not 12 rfl rfl rfl rfl (by kernel_rfl) (fun _ _ _ h => h) (fun w2 hw => hw) ?_
              refine DT.not 13 rfl rfl rfl rfl (by kernel_rfl) (fun _ _ _ h => h) (fun w2 hw => hw) ?_
              refine DT.not 14 rfl rfl rfl rfl (by kernel_rfl) (fun _ _ _ h => h) (fun w2 hw => hw) ?_
              refine DT.not 15 rfl rfl rfl rfl (by kernel_rfl) (fun _ _ _ h => h) (fun w2 hw => hw) ?_
              refine DT.take 16 rfl rfl rfl rfl (by kernel_rfl) (fun _ _ _ h => h) (Val.pickF rfl rfl) (fun w2 hw => hw) ?_
              refine DT.take 17 rfl rfl rfl rfl (by kernel_rfl) (fun _ _ _ h => h) (Val.pickF rfl rfl) (fun w2 hw => hw) ?_
              refine DT.next (by kernel_rfl) ?_
              refine DA.done (by kernel_rfl) ?_
              exact QE.meet fun a w2 ha hw => ⟨false, m65, _, (by omega), ho, hr, ha.sub ⟨rfl, rfl, rfl, rfl, rfl, rfl, rfl, rfl, rfl, trivial⟩, (St.selP [0, 1, 3] rfl hw)⟩
    · refine CP.condF rfl (decide_eq_false hc) ?_
      refine CP.exit ?_
      refine QE.thru (by intro e; cases e) ?_
      refine QE.thru (by intro e; cases e) ?_
      refine QE.blockE ?_
      refine QE.then ?_
      refine CP.seq ?_
      refine CP.seq ?_
      refine CP.region ?_
      refine SP.val (Val.move rfl) rfl rfl rfl ?_
      refine SP.imp (fun w2 hw => St.selO [1, 0] rfl rfl hw) ?_
      refine SP.range see Try.underlying93 rfl rfl rfl (fun r108 => ?_)
      refine SP.nil ?_
      refine QE.then ?_
      refine CP.block ?_
      obtain rfl := Option.some.inj ho
      refine CP.loop (fun cl2 a w2 => ∃ l114 : List (Int × Int), cl2 ≤ m65 ∧ stepsD (history_May.F l_0) cl2 (.l2 l63 l114) r ∧ Env ⟨83, []⟩ [(76, .pointer (some ⟨r108, 0, none⟩))] a ∧ St w em hV [] [rangeO r108 b2 .i64 (fun z : Int => Value.int .i64 z) l63 l114 none] w2) m65 (fun a w2 ha hw => ⟨l63, Nat.le_refl _, (nextD_one hr), ha.sub ⟨rfl, trivial⟩, (St.selP [] rfl (St.selO [0] rfl rfl hw))⟩) ?_
      clear hr
      rintro cl2 a w2 ⟨l114, hc_l2, hi, ha, hw⟩
      obtain ⟨m115, o, hm_m115, ho, hr⟩ := stepsD_some hi
      refine CP.app ha hw ?_
      clear ha hw a w2 hi
      refine CP.seq ?_
      refine CP.region ?_
      rcases if_some ho with ⟨hc, ho⟩ | ⟨hc, ho⟩
      · refine SP.next see 0 rfl rfl rfl rfl (fun _ => ?_) (fun j k v hj => by rw [List.isEmpty_iff.1 hc] at hj; simp at hj)
        refine SP.val (Val.extract rfl rfl) rfl rfl rfl ?_
        refine SP.nil ?_
        refine QE.then ?_
        refine CP.seq ?_
        refine CP.condF rfl rfl ?_
        refine CP.exit ?_
        refine QE.thru (by intro e; cases e) ?_
        refine QE.thru (by intro e; cases e) ?_
        refine QE.blockE ?_
        refine QE.then ?_
        refine CP.seq ?_
        refine CP.region ?_
        refine SP.val (Val.assign rfl) rfl rfl rfl ?_
        refine SP.nil ?_
        refine QE.then ?_
        refine CP.ret ?_
        obtain rfl := Option.some.inj ho
        obtain rfl : _ = r := hr
        exact QE.rets (rs := [.tmp 2]) (vs := [.bool true]) Try.results25 rfl ⟨RVs.tmp rfl, trivial⟩ (fun w2 h => St.done (fun a b p s => rfl) h)
      · refine SP.next see 0 rfl rfl rfl rfl (fun h0 => absurd (by rw [h0]; rfl) hc) (fun j k116 x117 hj => ?_)
        obtain rfl := Option.some.inj ho
        replace hr := hr.2 _ (List.mem_map_of_mem (mem_picks hj))
        obtain ⟨m119, o, hm_m119, ho, hr⟩ := stepsD_some hr
        clear hj hc
        generalize List.eraseIdx l114 j = l118 at ho ⊢
        refine SP.val (Val.extract rfl rfl) rfl rfl rfl ?_
        refine SP.nil ?_
        refine QE.then ?_
        refine CP.seq ?_
        refine CP.condT rfl rfl ?_
        refine CP.skip ?_
        refine QE.then ?_
        refine CP.block ?_
        refine CP.seq ?_
        refine CP.region ?_
        refine SP.val (Val.entry see 0 (p := (k116, x117)) rfl rfl) rfl rfl rfl ?_
        refine SP.val (Val.extract rfl rfl) rfl rfl rfl ?_
        refine SP.val (Val.assign rfl) rfl rfl rfl ?_
        refine SP.nil ?_
        refine QE.then ?_
        refine CP.seq ?_
        refine CP.region ?_
        refine SP.val (Val.move rfl) rfl rfl rfl ?_
        refine SP.val (Val.gtr rfl rfl) rfl rfl rfl ?_
        refine SP.nil ?_
        refine QE.then ?_
        rcases if_some ho with ⟨hc, ho⟩ | ⟨hc, ho⟩
        · refine CP.condT rfl (decide_eq_true hc) ?_
          refine CP.seq ?_
          refine CP.region ?_
          refine SP.val (Val.assign rfl) rfl rfl rfl ?_
          refine SP.nil ?_
          refine QE.then ?_
          refine CP.ret ?_
          refine QE.blockR ?_
          refine QE.thru (by intro e; cases e) ?_
          refine QE.blockR ?_
          refine QE.thru (by intro e; cases e) ?_
          obtain rfl := Option.some.inj ho
          obtain rfl : _ = r := hr
          exact QE.rets (rs := [.tmp 2]) (vs := [.bool false]) Try.results25 rfl ⟨RVs.tmp rfl, trivial⟩ (fun w2 h => St.done (fun a b p s => rfl) h)
        · refine CP.condF rfl (decide_eq_false hc) ?_
          refine CP.skip ?_
          refine QE.blockN ?_
          obtain rfl := Option.some.inj ho
          exact QE.lower m119 (by omega) fun a w2 ha hw => ⟨l118, (by omega), (nextD_one hr), ha.sub ⟨rfl, trivial⟩, (St.weakO 0 rfl rangeO.forget hw)⟩
/-! ### capstan/history.Nothing: function 31 -/
def history_Nothing.f (c_0 : history_Call) : Option Bool :=
  if c_0.Read = true then ((history_Call_pending.f c_0).bind fun t5 => some t5) else (some (decide (c_0.Reply.Err = 4)))
theorem history_Nothing.ok (c_0 : history_Call) (v_c_0_Op_Args : Value) (v_c_0_Op_Bytes : Value) (r : Bool) (H : history_Nothing.f c_0 = some r) (w : World) (hV : Hp) (sV : Sub hV (hp w)) (h0 : slR k_api_Value hV v_c_0_Op_Args c_0.Op.Args) (h1 : slR (kInt .u8) hV v_c_0_Op_Bytes c_0.Op.Bytes) :
    Trip Try.prog 31 [.agg #[.int .i64 c_0.Proc, .int .u8 c_0.Op.Kind, .int .i64 c_0.Op.Method, v_c_0_Op_Args, v_c_0_Op_Bytes, .bool c_0.Read, .int .i64 c_0.Reply.Err, .int .i64 c_0.Reply.Out.Trap, .int .u8 c_0.Reply.Out.Result.Kind, .int .i64 c_0.Reply.Out.Result.A, .int .i64 c_0.Reply.Out.Result.B, .int .i64 c_0.Start, .int .i64 c_0.End]].toArray em hV w (fun v => HO.pure (v = .bool r)) := by
  have see : Sees w em hV := ⟨sV, Dj.em_right _⟩
  refine Trip.of (P := Try.prog) (n := ⟨11, []⟩) Try.func31 rfl ⟨rfl, rfl⟩ rfl (St.begin (All.cons (x := slP k_api_Value v_c_0_Op_Args c_0.Op.Args) h0 (All.cons (x := slP (kInt .u8) v_c_0_Op_Bytes c_0.Op.Bytes) h1 (All.nil _)))) ?_
  have ho := H
  refine CP.seq ?_
  refine CP.region ?_
  refine SP.box (cs := [.int .i64 c_0.Proc, .int .u8 c_0.Op.Kind, .int .i64 c_0.Op.Method, v_c_0_Op_Args, v_c_0_Op_Bytes, .bool c_0.Read, .int .i64 c_0.Reply.Err, .int .i64 c_0.Reply.Out.Trap, .int .u8 c_0.Reply.Out.Result.Kind, .int .i64 c_0.Reply.Out.Result.A, .int .i64 c_0.Reply.Out.Result.B, .int .i64 c_0.Start, .int .i64 c_0.End]) rfl rfl rfl rfl (fun b3 => ?_)
  refine SP.val (Val.assign rfl) rfl rfl rfl ?_
  refine SP.nil ?_
  refine QE.then ?_
  refine CP.seq ?_
  refine CP.seq ?_
  refine CP.region ?_
  refine SP.val (Val.fieldAddr Try.underlying48 rfl sz4 rfl) rfl rfl rfl ?_
  refine SP.val (Val.load1 0 rfl Try.underlying4 rfl rfl rfl) rfl rfl rfl ?_
  refine SP.nil ?_
  refine QE.then ?_
  rcases if_some ho with ⟨hc, ho⟩ | ⟨hc, ho⟩
  · refine CP.condT rfl hc ?_
    refine CP.seq ?_
    refine CP.region ?_
    refine SP.val (Val.loadA 0 rfl Try.underlying48 rfl sz48 rfl rfl rfl) rfl rfl rfl ?_
    obtain ⟨t5, hc, ho⟩ := bind_some ho
    refine SP.callV see (caps := []) (.bool t5) fn48 rfl rfl rfl rfl (fun w2 hP hs sub ap => history_Call_pending.ok c_0 _ _ _ hc w2 hP sub (ap.get 0 rfl) (ap.get 1 rfl)) ?_
    clear hc
    refine SP.val (Val.assign rfl) rfl rfl rfl ?_
    refine SP.nil ?_
    refine QE.then ?_
    refine CP.ret ?_
    refine QE.thru (by intro e; cases e) ?_
    obtain rfl := Option.some.inj ho
    exact QE.rets (rs := [.tmp 2]) (vs := [.bool t5]) Try.results31 rfl ⟨RVs.tmp rfl, trivial⟩ (fun w2 h => St.done (fun a b p s => rfl) h)
  · refine CP.condF rfl (bf hc) ?_
    refine CP.skip ?_
    refine QE.then ?_
    refine CP.seq ?_
    refine CP.region ?_
    refine SP.val (Val.fieldAddr Try.underlying48 rfl sz41 rfl) rfl rfl rfl ?_
    refine SP.val (Val.fieldAddr Try.underlying41 rfl sz35 rfl) rfl rfl rfl ?_
    refine SP.val (Val.load1 0 rfl Try.underlying35 rfl rfl rfl) rfl rfl rfl ?_
    refine SP.val (Val.eql rfl rfl) rfl rfl rfl ?_
    refine SP.val (Val.assign rfl) rfl rfl rfl ?_
    refine SP.nil ?_
    refine QE.then ?_
    refine CP.ret ?_
    obtain rfl := Option.some.inj ho
    exact QE.rets (rs := [.tmp 2]) (vs := [.bool (decide (c_0.Reply.Err = 4))]) Try.results31 rfl ⟨RVs.tmp rfl, trivial⟩ (fun w2 h => St.done (fun a b p s => rfl) h)
/-! ### (capstan/history.Call).some: function 55 -/
def history_Call_some.f (c_0 : history_Call) : Option Bool :=
  (history_Nothing.f c_0).bind fun t5 => some (!t5)
theorem history_Call_some.ok (c_0 : history_Call) (v_c_0_Op_Args : Value) (v_c_0_Op_Bytes : Value) (r : Bool) (H : history_Call_some.f c_0 = some r) (w : World) (hV : Hp) (sV : Sub hV (hp w)) (h0 : slR k_api_Value hV v_c_0_Op_Args c_0.Op.Args) (h1 : slR (kInt .u8) hV v_c_0_Op_Bytes c_0.Op.Bytes) :
    Trip Try.prog 55 [.agg #[.int .i64 c_0.Proc, .int .u8 c_0.Op.Kind, .int .i64 c_0.Op.Method, v_c_0_Op_Args, v_c_0_Op_Bytes, .bool c_0.Read, .int .i64 c_0.Reply.Err, .int .i64 c_0.Reply.Out.Trap, .int .u8 c_0.Reply.Out.Result.Kind, .int .i64 c_0.Reply.Out.Result.A, .int .i64 c_0.Reply.Out.Result.B, .int .i64 c_0.Start, .int .i64 c_0.End]].toArray em hV w (fun v => HO.pure (v = .bool r)) := by
  have see : Sees w em hV := ⟨sV, Dj.em_right _⟩
  refine Trip.of (P := Try.prog) (n := ⟨6, []⟩) Try.func55 rfl ⟨rfl, rfl⟩ rfl (St.begin (All.cons (x := slP k_api_Value v_c_0_Op_Args c_0.Op.Args) h0 (All.cons (x := slP (kInt .u8) v_c_0_Op_Bytes c_0.Op.Bytes) h1 (All.nil _)))) ?_
  have ho := H
  refine CP.seq ?_
  refine CP.region ?_
  refine SP.box (cs := [.int .i64 c_0.Proc, .int .u8 c_0.Op.Kind, .int .i64 c_0.Op.Method, v_c_0_Op_Args, v_c_0_Op_Bytes, .bool c_0.Read, .int .i64 c_0.Reply.Err, .int .i64 c_0.Reply.Out.Trap, .int .u8 c_0.Reply.Out.Result.Kind, .int .i64 c_0.Reply.Out.Result.A, .int .i64 c_0.Reply.Out.Result.B, .int .i64 c_0.Start, .int .i64 c_0.End]) rfl rfl rfl rfl (fun b3 => ?_)
  refine SP.val (Val.assign rfl) rfl rfl rfl ?_
  refine SP.nil ?_
  refine QE.then ?_
  refine CP.seq ?_
  refine CP.region ?_
  refine SP.val (Val.loadA 0 rfl Try.underlying48 rfl sz48 rfl rfl rfl) rfl rfl rfl ?_
  obtain ⟨t5, hc, ho⟩ := bind_some ho
  refine SP.callV see (caps := []) (.bool t5) fn31 rfl rfl rfl rfl (fun w2 hP hs sub ap => history_Nothing.ok c_0 _ _ _ hc w2 hP sub (ap.get 0 rfl) (ap.get 1 rfl)) ?_
  clear hc
  refine SP.val (Val.notB rfl) rfl rfl rfl ?_
  refine SP.val (Val.assign rfl) rfl rfl rfl ?_
  refine SP.nil ?_
  refine QE.then ?_
  refine CP.ret ?_
  obtain rfl := Option.some.inj ho
  exact QE.rets (rs := [.tmp 2]) (vs := [.bool (!t5)]) Try.results55 rfl ⟨RVs.tmp rfl, trivial⟩ (fun w2 h => St.done (fun a b p s => rfl) h)
/-! ### capstan/history.kept[capstan/history.Call,capstan/history.Call]: function 50 -/
inductive history_kept_history_Call_history_Call_s2.S where
  | start
  | l1 (l30 : List history_Call) (x32 : Int)

def history_kept_history_Call_history_Call_s2.j1 (l_0 : (List history_Call)) (x32 : Int) (l54 : List history_Call) : Option (history_kept_history_Call_history_Call_s2.S ⊕ (List history_Call)) :=
  some (.inl (.l1 l54 (IntKind.i64.wrap (x32 + 1))))

def history_kept_history_Call_history_Call_s2.F (l_0 : (List history_Call)) : history_kept_history_Call_history_Call_s2.S → Option (history_kept_history_Call_history_Call_s2.S ⊕ (List history_Call))
  | .start => some (.inl (.l1 [] 0))
  | .l1 l30 x32 => if x32 < (l_0.length : Int) then ((elt l_0 x32).bind fun x36 => (history_Call_some.f x36).bind fun t43 => if t43 = true then ((history_own.f x36).bind fun t44 => if (l30.length + [t44].length) * 136 ≤ 140737488355328 then (history_kept_history_Call_history_Call_s2.j1 l_0 x32 (l30 ++ [t44])) else none) else (history_kept_history_Call_history_Call_s2.j1 l_0 x32 l30)) else (some (.inr l30))

def history_kept_history_Call_history_Call_s2.f (l_0 : (List history_Call)) : Option (List history_Call) := runF (history_kept_history_Call_history_Call_s2.F l_0) .start
theorem history_kept_history_Call_history_Call_s2.ok (l_0 : (List history_Call)) (v_l_0 : Value) (r : (List history_Call)) (H : history_kept_history_Call_history_Call_s2.f l_0 = some r) (w : World) (hV : Hp) (sV : Sub hV (hp w)) (h0 : slR k_history_Call hV v_l_0 l_0) :
    Trip Try.prog 50 [v_l_0, .func (.func 55) #[] #[], .func (.func 42) #[] #[]].toArray em hV w (fun v => HO.ex fun u0 : Value => HO.pand (v = u0) (HO.seps [slD o_history_Call 48 u0 r])) := by
  have see : Sees w em hV := ⟨sV, Dj.em_right _⟩
  refine Trip.of (P := Try.prog) (n := ⟨27, []⟩) Try.func50 rfl ⟨rfl, rfl⟩ rfl (St.begin (All.cons (x := slP k_history_Call v_l_0 l_0) h0 (All.nil _))) ?_
  obtain ⟨n0, hi⟩ := runF_iff.1 H
  obtain ⟨m0, o, hm0, ho, hr⟩ := iter_some hi
  clear hi
  refine CP.seq ?_
  refine CP.region ?_
  refine SP.val (Val.assign rfl) rfl rfl rfl ?_
  refine SP.nil ?_
  refine QE.then ?_
  refine CP.seq ?_
  refine CP.region ?_
  refine SP.val (Val.assign rfl) rfl rfl rfl ?_
  refine SP.nil ?_
  refine QE.then ?_
  refine CP.seq ?_
  refine CP.seq ?_
  refine CP.region ?_
  refine SP.val (Val.move rfl) rfl rfl rfl ?_
  refine SP.val (Val.lenP see 0 rfl Try.underlying44 rfl) rfl rfl rfl ?_
  refine SP.val (Val.move rfl) rfl rfl rfl ?_
  refine SP.nil ?_
  refine QE.then ?_
  refine CP.block ?_
  obtain rfl := Option.some.inj ho
  refine CP.loop (fun cl1 a w2 => ∃ l30 : List history_Call, ∃ x32 : Int, ∃ v31 : Value, cl1 ≤ m0 ∧ iter (history_kept_history_Call_history_Call_s2.F l_0) cl1 (.l1 l30 x32) = some r ∧ Env ⟨27, []⟩ [(1, .func (.func 55) #[] #[]), (2, .func (.func 42) #[] #[]), (7, v31), (10, v_l_0), (11, .int .i64 (l_0.length : Int)), (12, .int .i64 x32)] a ∧ St w em hV [slP k_history_Call v_l_0 l_0] [slD o_history_Call 48 v31 l30] w2) m0 (fun a w2 ha hw => ⟨[], 0, (.slice none 0 0), Nat.le_refl _, hr, ha.sub ⟨rfl, rfl, rfl, rfl, rfl, rfl, trivial⟩, (St.addO (slD.nil o_history_Call 48) hw)⟩) ?_
  clear hr
  rintro cl1 a w2 ⟨l30, x32, v31, hc_l1, hi, ha, hw⟩
  obtain ⟨m33, o, hm_m33, ho, hr⟩ := iter_some hi
  refine CP.app ha hw ?_
  clear ha hw a w2 hi
  refine CP.seq ?_
  refine CP.region ?_
  refine SP.val (Val.lss rfl rfl) rfl rfl rfl ?_
  refine SP.nil ?_
  refine QE.then ?_
  refine CP.seq ?_
  rcases if_some ho with ⟨hc, ho⟩ | ⟨hc, ho⟩
  · refine CP.condT rfl (decide_eq_true hc) ?_
    refine CP.skip ?_
    refine QE.then ?_
    refine CP.join (fun a w2 => ∃ l54 : List history_Call, ∃ v55 : Value, ∃ (m56 : Nat) (o : (history_kept_history_Call_history_Call_s2.S ⊕ (List history_Call))), m56 ≤ m33 ∧ history_kept_history_Call_history_Call_s2.j1 l_0 x32 l54 = some o ∧ next (history_kept_history_Call_history_Call_s2.F l_0) m56 o = some r ∧ Env ⟨27, []⟩ [(1, .func (.func 55) #[] #[]), (2, .func (.func 42) #[] #[]), (7, v55), (10, v_l_0), (11, .int .i64 (l_0.length : Int)), (12, .int .i64 x32)] a ∧ St w em hV [slP k_history_Call v_l_0 l_0] [slD o_history_Call 48 v55 l54] w2) ?_ ?_
    · rintro a w2 ⟨l54, v55, m56, o, hm_m56, ho, hr, ha, hw⟩
      refine CP.app ha hw ?_
      clear ha hw a w2
      refine CP.region ?_
      refine SP.val (Val.add rfl rfl) rfl rfl rfl ?_
      refine SP.val (Val.move rfl) rfl rfl rfl ?_
      refine SP.nil ?_
      obtain rfl := Option.some.inj ho
      exact QE.lower m56 (by omega) fun a w2 ha hw => ⟨l54, (IntKind.i64.wrap (x32 + 1)), v55, (by omega), hr, ha.sub ⟨rfl, rfl, rfl, rfl, rfl, rfl, trivial⟩, hw⟩
    · refine CP.block ?_
      refine CP.seq ?_
      refine CP.region ?_
      obtain ⟨x36, hx, ho⟩ := bind_some ho
      have hx := elt_some hx
      refine SP.indexP see 0 rfl Try.underlying44 sz48 hx.1 hx.2 rfl rfl rfl rfl (fun p34 => ?_)
      clear hx
      refine k_history_Call.load see 0 rfl Try.underlying48 rfl sz48 rfl rfl rfl (fun v37 v39 => ?_)
      refine SP.alloc (cs := [.int .i64 0, .int .u8 0, .int .i64 0, (.slice none 0 0), (.slice none 0 0), .bool false, .int .i64 0, .int .i64 0, .int .u8 0, .int .i64 0, .int .i64 0, .int .i64 0, .int .i64 0]) inf48 rfl rfl (fun b41 => ?_)
      refine SP.have (fun w2 hw => slR.shape (St.pers 0 rfl see.sub see.dj hw)) (fun hs_v37 => ?_)
      refine SP.have (fun w2 hw => slR.shape (St.pers 1 rfl see.sub see.dj hw)) (fun hs_v39 => ?_)
      refine SP.store (v := .agg #[.int .i64 x36.Proc, .int .u8 x36.Op.Kind, .int .i64 x36.Op.Method, v37, v39, .bool x36.Read, .int .i64 x36.Reply.Err, .int .i64 x36.Reply.Out.Trap, .int .u8 x36.Reply.Out.Result.Kind, .int .i64 x36.Reply.Out.Result.A, .int .i64 x36.Reply.Out.Result.B, .int .i64 x36.Start, .int .i64 x36.End]) (vs := [.int .i64 x36.Proc, .int .u8 x36.Op.Kind, .int .i64 x36.Op.Method, v37, v39, .bool x36.Read, .int .i64 x36.Reply.Err, .int .i64 x36.Reply.Out.Trap, .int .u8 x36.Reply.Out.Result.Kind, .int .i64 x36.Reply.Out.Result.A, .int .i64 x36.Reply.Out.Result.B, .int .i64 x36.Start, .int .i64 x36.End]) 0 (by rfl) sz48 (by rfl) (by rfl) (by rfl) (by rfl) (one_cons rfl (one_cons rfl (one_cons rfl (one_cons hs_v37 (one_cons hs_v39 (one_cons rfl (one_cons rfl (one_cons rfl (one_cons rfl (one_cons rfl (one_cons rfl (one_cons rfl (one_cons rfl (rfl)))))))))))))) (by rfl) ?_
      refine SP.nil ?_
      refine QE.then ?_
      refine CP.seq ?_
      refine CP.region ?_
      refine SP.val (Val.move rfl) rfl rfl rfl ?_
      refine SP.val (Val.loadA 0 rfl Try.underlying48 rfl sz48 rfl rfl rfl) rfl rfl rfl ?_
      obtain ⟨t43, hc, ho⟩ := bind_some ho
      refine SP.callV see (caps := []) (.bool t43) fn55 rfl rfl rfl rfl (fun w2 hP hs sub ap => history_Call_some.ok x36 _ _ _ hc w2 hP sub (ap.get 0 rfl) (ap.get 1 rfl)) ?_
      clear hc
      refine SP.nil ?_
      refine QE.then ?_
      rcases if_some ho with ⟨hc, ho⟩ | ⟨hc, ho⟩
      · refine CP.condT rfl hc ?_
        refine CP.region ?_
        refine SP.val (Val.move rfl) rfl rfl rfl ?_
        refine SP.val (Val.move rfl) rfl rfl rfl ?_
        refine SP.val (Val.loadA 0 rfl Try.underlying48 rfl sz48 rfl rfl rfl) rfl rfl rfl ?_
        obtain ⟨t44, hc, ho⟩ := bind_some ho
        refine SP.callK see (caps := []) _ fn42 rfl rfl rfl rfl (fun w2 hP hs sub ap => history_own.ok x36 _ _ _ hc w2 hP sub (ap.get 0 rfl) (ap.get 1 rfl)) (fun vr => ?_)
        refine SP.ex (fun w2 h => St.open h) (fun v45 => ?_)
        refine SP.ex (fun w2 h => St.open h) (fun v46 => ?_)
        refine SP.have (fun w2 h => (St.pand h).1.symm) (fun er => ?_)
        subst er
        refine SP.imp (fun w2 h => St.seps (St.pand h).2) ?_
        clear hc
        refine SP.have (fun w2 hw => slO.shape (St.own 0 rfl see.sub see.dj hw)) (fun hs_v45 => ?_)
        refine SP.have (fun w2 hw => slO.shape (St.own 1 rfl see.sub see.dj hw)) (fun hs_v46 => ?_)
        refine SP.lit (k := kRaw 13) (xs := [[.int .i64 t44.Proc, .int .u8 t44.Op.Kind, .int .i64 t44.Op.Method, v45, v46, .bool t44.Read, .int .i64 t44.Reply.Err, .int .i64 t44.Reply.Out.Trap, .int .u8 t44.Reply.Out.Result.Kind, .int .i64 t44.Reply.Out.Result.A, .int .i64 t44.Reply.Out.Result.B, .int .i64 t44.Start, .int .i64 t44.End]]) (vs := [.agg #[.int .i64 t44.Proc, .int .u8 t44.Op.Kind, .int .i64 t44.Op.Method, v45, v46, .bool t44.Read, .int .i64 t44.Reply.Err, .int .i64 t44.Reply.Out.Trap, .int .u8 t44.Reply.Out.Result.Kind, .int .i64 t44.Reply.Out.Result.A, .int .i64 t44.Reply.Out.Result.B, .int .i64 t44.Start, .int .i64 t44.End]]) (cells := [.int .i64 t44.Proc, .int .u8 t44.Op.Kind, .int .i64 t44.Op.Method, v45, v46, .bool t44.Read, .int .i64 t44.Reply.Err, .int .i64 t44.Reply.Out.Trap, .int .u8 t44.Reply.Out.Result.Kind, .int .i64 t44.Reply.Out.Result.A, .int .i64 t44.Reply.Out.Result.B, .int .i64 t44.Start, .int .i64 t44.End]) Try.underlying44 inf48 rfl rfl rfl rfl rfl rfl rfl rfl (fun _ ap => ⟨[.int .i64 t44.Proc, .int .u8 t44.Op.Kind, .int .i64 t44.Op.Method, v45, v46, .bool t44.Read, .int .i64 t44.Reply.Err, .int .i64 t44.Reply.Out.Trap, .int .u8 t44.Reply.Out.Result.Kind, .int .i64 t44.Reply.Out.Result.A, .int .i64 t44.Reply.Out.Result.B, .int .i64 t44.Start, .int .i64 t44.End], _, rfl, ⟨rfl, rfl, one_cons rfl (one_cons rfl (one_cons rfl (one_cons hs_v45 (one_cons hs_v46 (one_cons rfl (one_cons rfl (one_cons rfl (one_cons rfl (one_cons rfl (one_cons rfl (one_cons rfl (one_cons rfl (rfl)))))))))))))⟩, rfl⟩) rfl rfl rfl (fun v49 => ?_)
        refine SP.imp (fun w2 hw => St.litD (k := o_history_Call) [slO k_api_Value 37 v45 t44.Op.Args, slO (kInt .u8) 5 v46 t44.Op.Bytes] (St.selO [0, 1, 2, 3, 4] rfl rfl hw) (fun a b q => ⟨_, _, rfl, q⟩)) ?_
        refine SP.imp (fun w2 hw => St.selO [2, 0, 1] rfl rfl hw) ?_
        obtain ⟨hb, ho⟩ := must_some ho
        refine SP.appendD see Try.underlying44 inf48 rfl rfl hb rfl rfl rfl rfl rfl (fun v51 => ?_)
        clear hb
        refine SP.val (Val.assign rfl) rfl rfl rfl ?_
        refine SP.nil ?_
        refine QE.blockN ?_
        exact QE.meet fun a w2 ha hw => ⟨(l30 ++ [t44]), v51, m33, _, (by omega), ho, hr, ha.sub ⟨rfl, rfl, rfl, rfl, rfl, rfl, trivial⟩, (St.selP [3] rfl (St.selO [0] rfl rfl hw))⟩
      · refine CP.condF rfl (bf hc) ?_
        refine CP.skip ?_
        refine QE.blockN ?_
        exact QE.meet fun a w2 ha hw => ⟨l30, v31, m33, _, (by omega), ho, hr, ha.sub ⟨rfl, rfl, rfl, rfl, rfl, rfl, trivial⟩, (St.selP [3] rfl (St.selO [1] rfl rfl hw))⟩
  · refine CP.condF rfl (decide_eq_false hc) ?_
    refine CP.exit ?_
    refine QE.thru (by intro e; cases e) ?_
    refine QE.thru (by intro e; cases e) ?_
    refine QE.blockE ?_
    refine QE.then ?_
    refine CP.seq ?_
    refine CP.region ?_
    refine SP.val (Val.move rfl) rfl rfl rfl ?_
    refine SP.val (Val.assign rfl) rfl rfl rfl ?_
    refine SP.nil ?_
    refine QE.then ?_
    refine CP.ret ?_
    obtain rfl := Option.some.inj ho
    obtain rfl := Option.some.inj hr
    exact QE.rets (rs := [.tmp 6]) (vs := [v31]) Try.results50 rfl ⟨RVs.tmp rfl, trivial⟩ (fun w2 h => St.done (fun a b p s => ⟨_, rfl, s⟩) (St.selO [0] rfl rfl h))
/-! ### capstan/history.Some: function 36 -/
def history_Some.f (l_0 : (List history_Call)) : Option (List history_Call) :=
  (history_kept_history_Call_history_Call_s2.f l_0).bind fun t2 => some t2
theorem history_Some.ok (l_0 : (List history_Call)) (v_l_0 : Value) (r : (List history_Call)) (H : history_Some.f l_0 = some r) (w : World) (hV : Hp) (sV : Sub hV (hp w)) (h0 : slR k_history_Call hV v_l_0 l_0) :
    Trip Try.prog 36 [v_l_0].toArray em hV w (fun v => HO.ex fun u0 : Value => HO.pand (v = u0) (HO.seps [slD o_history_Call 48 u0 r])) := by
  have see : Sees w em hV := ⟨sV, Dj.em_right _⟩
  refine Trip.of (P := Try.prog) (n := ⟨5, []⟩) Try.func36 rfl ⟨rfl, rfl⟩ rfl (St.begin (All.cons (x := slP k_history_Call v_l_0 l_0) h0 (All.nil _))) ?_
  have ho := H
  refine CP.seq ?_
  refine CP.region ?_
  refine SP.val (Val.assign rfl) rfl rfl rfl ?_
  refine SP.nil ?_
  refine QE.then ?_
  refine CP.seq ?_
  refine CP.region ?_
  refine SP.val (Val.move rfl) rfl rfl rfl ?_
  obtain ⟨t2, hc, ho⟩ := bind_some ho
  refine SP.callK see (caps := []) _ fn50 rfl rfl rfl rfl (fun w2 hP hs sub ap => history_kept_history_Call_history_Call_s2.ok l_0 _ _ hc w2 hP sub (ap.get 0 rfl)) (fun vr => ?_)
  refine SP.ex (fun w2 h => St.open h) (fun v3 => ?_)
  refine SP.have (fun w2 h => (St.pand h).1.symm) (fun er => ?_)
  subst er
  refine SP.imp (fun w2 h => St.seps (St.pand h).2) ?_
  clear hc
  refine SP.val (Val.assign rfl) rfl rfl rfl ?_
  refine SP.nil ?_
  refine QE.then ?_
  refine CP.ret ?_
  obtain rfl := Option.some.inj ho
  exact QE.rets (rs := [.tmp 2]) (vs := [v3]) Try.results36 rfl ⟨RVs.tmp rfl, trivial⟩ (fun w2 h => St.done (fun a b p s => ⟨_, rfl, s⟩) (St.selO [0] rfl rfl h))
end Go.Proofs.Ytbejlahmhloloaa
end
