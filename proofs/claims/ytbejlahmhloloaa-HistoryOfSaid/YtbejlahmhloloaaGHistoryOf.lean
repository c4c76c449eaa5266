/- Functions of the program as plain functions, with the proof that the code computes them: printed by gen.py of this session. -/
import Derived.Test.YtbejlahmhloloaaProg
import Derived.Test.YtbejlahmhloloaaQ12
set_option linter.unusedVariables false
set_option linter.unusedSimpArgs false
set_option maxRecDepth 20000
noncomputable section
namespace Go.Proofs.Ytbejlahmhloloaa
open Go.Q
structure api_Value where
  Kind : Int
  A : Int
  B : Int
def api_Value.zero : api_Value := ⟨0, 0, 0⟩
def k_api_Value : Kd api_Value := ⟨3, fun h cs x => cs = [.int .u8 x.Kind, .int .i64 x.A, .int .i64 x.B], fun _ _ _ _ _ h => h, fun _ _ _ h => by simp [h], fun _ _ _ h => by subst h; rfl⟩
theorem k_api_Value.part_Kind : Part k_api_Value 0 (kInt .u8) (fun x => x.Kind) := fun h cs x e => ⟨[.int .u8 x.Kind], rfl, by subst e; exact seg_get [.int .u8 x.Kind, .int .i64 x.A, .int .i64 x.B] 0 1⟩
theorem k_api_Value.part_A : Part k_api_Value 1 (kInt .i64) (fun x => x.A) := fun h cs x e => ⟨[.int .i64 x.A], rfl, by subst e; exact seg_get [.int .u8 x.Kind, .int .i64 x.A, .int .i64 x.B] 1 1⟩
theorem k_api_Value.part_B : Part k_api_Value 2 (kInt .i64) (fun x => x.B) := fun h cs x e => ⟨[.int .i64 x.B], rfl, by subst e; exact seg_get [.int .u8 x.Kind, .int .i64 x.A, .int .i64 x.B] 2 1⟩
theorem k_api_Value.load {P : Program} {n : Nat} {σ : List (Nat × Value)} {w0 : World} {hA hV : Hp} {ps : List HP} {os : List HO} {L l : List Oper} {Q : Cont} {d : Nat} {t tr : TypeId} {x : Operand} {pos : String} {af : Array Edge} {g : Option (Nat × Bool)} {v : Value} (see : Sees w0 hA hV) (i : Nat) {x0 : api_Value} (hi : ps[i]? = some (elP k_api_Value v x0)) {dsc : TypeDesc} (hu : P.underlying t = some dsc) (hd : (match dsc with | .struct _ | .array _ _ => true | _ => false) = true) (hs : (P.info? t).map (·.size) = some 3) (hg : gd L σ g = some true) (hn : Nat.blt d n = true) (hx : ev σ x = some v)
    (h : SP P n ((d, .agg [.int .u8 x0.Kind, .int .i64 x0.A, .int .i64 x0.B].toArray) :: σ) (St w0 hA hV (ps) os) L l Q) : SP P n σ (St w0 hA hV ps os) L (⟨some d, .load t x, tr, pos, af, g⟩ :: l) Q :=
  SP.loadP see i hi hu hd hs hg hn hx fun cs a w ha hw => by
    obtain ⟨m, fr, hN, hO, n1, n2, dj, s1, s2, ap, s⟩ := hw
    obtain rfl := ap.get 0 rfl
    exact h a w ha ⟨m, fr, hN, hO, n1, n2, dj, s1, s2, (fun y hy => ap y (List.mem_cons_of_mem _ hy)), s⟩
structure api_Op where
  Kind : Int
  Method : Int
  Args : (List api_Value)
  Bytes : (List Int)
def api_Op.zero : api_Op := ⟨0, 0, [], []⟩
def k_api_Op : Kd api_Op := ⟨4, fun h cs x => ∃ v0 v1 : Value, cs = [.int .u8 x.Kind, .int .i64 x.Method, v0, v1] ∧ slR k_api_Value h v0 x.Args ∧ slR (kInt .u8) h v1 x.Bytes,
  fun _ _ _ _ s ⟨v0, v1, e, p0, p1⟩ => ⟨v0, v1, e, slR.mono s p0, slR.mono s p1⟩, fun _ _ _ ⟨v0, v1, e, p0, p1⟩ => by simp [e],
  fun _ _ _ ⟨v0, v1, e, p0, p1⟩ => by subst e; obtain ⟨_, _, rfl, -⟩ := p0; obtain ⟨_, _, rfl, -⟩ := p1; rfl⟩
def o_api_Op : Ko api_Op := ⟨k_api_Op, fun cs x => HO.ex fun v0 : Value => HO.ex fun v1 : Value => HO.pand (cs = [.int .u8 x.Kind, .int .i64 x.Method, v0, v1]) (HO.seps [slO k_api_Value 37 v0 x.Args, slO (kInt .u8) 5 v1 x.Bytes]), fun ⟨v0, v1, e, q⟩ sa sh => ⟨v0, v1, e, slO.read (Sep.get 0 rfl q) sa sh, slO.read (Sep.get 1 rfl q) sa sh⟩⟩
@[reducible] def api_Op.set_Args (x : api_Op) (l : (List api_Value)) : api_Op := { x with Args := l }
theorem o_api_Op.leaf2 : Leaf o_api_Op 2 k_api_Value 37 (fun x => x.Args) api_Op.set_Args := fun a h c x ⟨v0, v1, e, q⟩ => by
  subst e
  obtain ⟨h1, h2, dj, s1, s2, p, rest⟩ := Sep.take 0 _ rfl q
  exact ⟨v0, h1, h2, rfl, dj, s1, s2, p, fun a' h' l' sa dj' r => ⟨v0, v1, rfl, Sep.back 0 [slO k_api_Value 37 v0 x.Args, slO (kInt .u8) 5 v1 x.Bytes] (x := slO k_api_Value 37 v0 l') (Nat.le_of_ble_eq_true rfl) dj' r (Sep.mono _ sa (Sub.refl _) rest)⟩⟩
@[reducible] def api_Op.set_Bytes (x : api_Op) (l : (List Int)) : api_Op := { x with Bytes := l }
theorem o_api_Op.leaf3 : Leaf o_api_Op 3 (kInt .u8) 5 (fun x => x.Bytes) api_Op.set_Bytes := fun a h c x ⟨v0, v1, e, q⟩ => by
  subst e
  obtain ⟨h1, h2, dj, s1, s2, p, rest⟩ := Sep.take 1 _ rfl q
  exact ⟨v1, h1, h2, rfl, dj, s1, s2, p, fun a' h' l' sa dj' r => ⟨v0, v1, rfl, Sep.back 1 [slO k_api_Value 37 v0 x.Args, slO (kInt .u8) 5 v1 x.Bytes] (x := slO (kInt .u8) 5 v1 l') (Nat.le_of_ble_eq_true rfl) dj' r (Sep.mono _ sa (Sub.refl _) rest)⟩⟩
theorem k_api_Op.part_Kind : Part k_api_Op 0 (kInt .u8) (fun x => x.Kind) := fun h cs x ⟨v0, v1, e, p0, p1⟩ => ⟨[.int .u8 x.Kind], rfl, by subst e; exact seg_get [.int .u8 x.Kind, .int .i64 x.Method, v0, v1] 0 1⟩
theorem k_api_Op.part_Method : Part k_api_Op 1 (kInt .i64) (fun x => x.Method) := fun h cs x ⟨v0, v1, e, p0, p1⟩ => ⟨[.int .i64 x.Method], rfl, by subst e; exact seg_get [.int .u8 x.Kind, .int .i64 x.Method, v0, v1] 1 1⟩
theorem k_api_Op.part_Args : Part k_api_Op 2 (kSl k_api_Value) (fun x => x.Args) := fun h cs x ⟨v0, v1, e, p0, p1⟩ => ⟨[v0], ⟨v0, rfl, p0⟩, by subst e; exact seg_get [.int .u8 x.Kind, .int .i64 x.Method, v0, v1] 2 1⟩
theorem k_api_Op.part_Bytes : Part k_api_Op 3 (kSl (kInt .u8)) (fun x => x.Bytes) := fun h cs x ⟨v0, v1, e, p0, p1⟩ => ⟨[v1], ⟨v1, rfl, p1⟩, by subst e; exact seg_get [.int .u8 x.Kind, .int .i64 x.Method, v0, v1] 3 1⟩
theorem k_api_Op.load {P : Program} {n : Nat} {σ : List (Nat × Value)} {w0 : World} {hA hV : Hp} {ps : List HP} {os : List HO} {L l : List Oper} {Q : Cont} {d : Nat} {t tr : TypeId} {x : Operand} {pos : String} {af : Array Edge} {g : Option (Nat × Bool)} {v : Value} (see : Sees w0 hA hV) (i : Nat) {x0 : api_Op} (hi : ps[i]? = some (elP k_api_Op v x0)) {dsc : TypeDesc} (hu : P.underlying t = some dsc) (hd : (match dsc with | .struct _ | .array _ _ => true | _ => false) = true) (hs : (P.info? t).map (·.size) = some 4) (hg : gd L σ g = some true) (hn : Nat.blt d n = true) (hx : ev σ x = some v)
    (h : ∀ v0 v1, SP P n ((d, .agg [.int .u8 x0.Kind, .int .i64 x0.Method, v0, v1].toArray) :: σ) (St w0 hA hV (slP k_api_Value v0 x0.Args :: slP (kInt .u8) v1 x0.Bytes :: ps) os) L l Q) : SP P n σ (St w0 hA hV ps os) L (⟨some d, .load t x, tr, pos, af, g⟩ :: l) Q :=
  SP.loadP see i hi hu hd hs hg hn hx fun cs a w ha hw => by
    obtain ⟨m, fr, hN, hO, n1, n2, dj, s1, s2, ap, s⟩ := hw
    obtain ⟨v0, v1, e, p0, p1⟩ := ap.get 0 rfl
    subst e
    exact h v0 v1 a w ha ⟨m, fr, hN, hO, n1, n2, dj, s1, s2, All.cons p0 (All.cons p1 ((fun y hy => ap y (List.mem_cons_of_mem _ hy)))), s⟩
structure api_Outcome where
  Trap : Int
  Result : api_Value
def api_Outcome.zero : api_Outcome := ⟨0, api_Value.zero⟩
def k_api_Outcome : Kd api_Outcome := ⟨4, fun h cs x => cs = [.int .i64 x.Trap, .int .u8 x.Result.Kind, .int .i64 x.Result.A, .int .i64 x.Result.B], fun _ _ _ _ _ h => h, fun _ _ _ h => by simp [h], fun _ _ _ h => by subst h; rfl⟩
theorem k_api_Outcome.part_Trap : Part k_api_Outcome 0 (kInt .i64) (fun x => x.Trap) := fun h cs x e => ⟨[.int .i64 x.Trap], rfl, by subst e; exact seg_get [.int .i64 x.Trap, .int .u8 x.Result.Kind, .int .i64 x.Result.A, .int .i64 x.Result.B] 0 1⟩
theorem k_api_Outcome.part_Result : Part k_api_Outcome 1 k_api_Value (fun x => x.Result) := fun h cs x e => ⟨[.int .u8 x.Result.Kind, .int .i64 x.Result.A, .int .i64 x.Result.B], rfl, by subst e; exact seg_get [.int .i64 x.Trap, .int .u8 x.Result.Kind, .int .i64 x.Result.A, .int .i64 x.Result.B] 1 3⟩
theorem k_api_Outcome.load {P : Program} {n : Nat} {σ : List (Nat × Value)} {w0 : World} {hA hV : Hp} {ps : List HP} {os : List HO} {L l : List Oper} {Q : Cont} {d : Nat} {t tr : TypeId} {x : Operand} {pos : String} {af : Array Edge} {g : Option (Nat × Bool)} {v : Value} (see : Sees w0 hA hV) (i : Nat) {x0 : api_Outcome} (hi : ps[i]? = some (elP k_api_Outcome v x0)) {dsc : TypeDesc} (hu : P.underlying t = some dsc) (hd : (match dsc with | .struct _ | .array _ _ => true | _ => false) = true) (hs : (P.info? t).map (·.size) = some 4) (hg : gd L σ g = some true) (hn : Nat.blt d n = true) (hx : ev σ x = some v)
    (h : SP P n ((d, .agg [.int .i64 x0.Trap, .int .u8 x0.Result.Kind, .int .i64 x0.Result.A, .int .i64 x0.Result.B].toArray) :: σ) (St w0 hA hV (ps) os) L l Q) : SP P n σ (St w0 hA hV ps os) L (⟨some d, .load t x, tr, pos, af, g⟩ :: l) Q :=
  SP.loadP see i hi hu hd hs hg hn hx fun cs a w ha hw => by
    obtain ⟨m, fr, hN, hO, n1, n2, dj, s1, s2, ap, s⟩ := hw
    obtain rfl := ap.get 0 rfl
    exact h a w ha ⟨m, fr, hN, hO, n1, n2, dj, s1, s2, (fun y hy => ap y (List.mem_cons_of_mem _ hy)), s⟩
structure api_Reply where
  Err : Int
  Out : api_Outcome
def api_Reply.zero : api_Reply := ⟨0, api_Outcome.zero⟩
def k_api_Reply : Kd api_Reply := ⟨5, fun h cs x => cs = [.int .i64 x.Err, .int .i64 x.Out.Trap, .int .u8 x.Out.Result.Kind, .int .i64 x.Out.Result.A, .int .i64 x.Out.Result.B], fun _ _ _ _ _ h => h, fun _ _ _ h => by simp [h], fun _ _ _ h => by subst h; rfl⟩
theorem k_api_Reply.part_Err : Part k_api_Reply 0 (kInt .i64) (fun x => x.Err) := fun h cs x e => ⟨[.int .i64 x.Err], rfl, by subst e; exact seg_get [.int .i64 x.Err, .int .i64 x.Out.Trap, .int .u8 x.Out.Result.Kind, .int .i64 x.Out.Result.A, .int .i64 x.Out.Result.B] 0 1⟩
theorem k_api_Reply.part_Out : Part k_api_Reply 1 k_api_Outcome (fun x => x.Out) := fun h cs x e => ⟨[.int .i64 x.Out.Trap, .int .u8 x.Out.Result.Kind, .int .i64 x.Out.Result.A, .int .i64 x.Out.Result.B], rfl, by subst e; exact seg_get [.int .i64 x.Err, .int .i64 x.Out.Trap, .int .u8 x.Out.Result.Kind, .int .i64 x.Out.Result.A, .int .i64 x.Out.Result.B] 1 4⟩
theorem k_api_Reply.load {P : Program} {n : Nat} {σ : List (Nat × Value)} {w0 : World} {hA hV : Hp} {ps : List HP} {os : List HO} {L l : List Oper} {Q : Cont} {d : Nat} {t tr : TypeId} {x : Operand} {pos : String} {af : Array Edge} {g : Option (Nat × Bool)} {v : Value} (see : Sees w0 hA hV) (i : Nat) {x0 : api_Reply} (hi : ps[i]? = some (elP k_api_Reply v x0)) {dsc : TypeDesc} (hu : P.underlying t = some dsc) (hd : (match dsc with | .struct _ | .array _ _ => true | _ => false) = true) (hs : (P.info? t).map (·.size) = some 5) (hg : gd L σ g = some true) (hn : Nat.blt d n = true) (hx : ev σ x = some v)
    (h : SP P n ((d, .agg [.int .i64 x0.Err, .int .i64 x0.Out.Trap, .int .u8 x0.Out.Result.Kind, .int .i64 x0.Out.Result.A, .int .i64 x0.Out.Result.B].toArray) :: σ) (St w0 hA hV (ps) os) L l Q) : SP P n σ (St w0 hA hV ps os) L (⟨some d, .load t x, tr, pos, af, g⟩ :: l) Q :=
  SP.loadP see i hi hu hd hs hg hn hx fun cs a w ha hw => by
    obtain ⟨m, fr, hN, hO, n1, n2, dj, s1, s2, ap, s⟩ := hw
    obtain rfl := ap.get 0 rfl
    exact h a w ha ⟨m, fr, hN, hO, n1, n2, dj, s1, s2, (fun y hy => ap y (List.mem_cons_of_mem _ hy)), s⟩
structure engine_Call where
  Proc : Int
  Kind : Int
  Op : api_Op
  Reply : api_Reply
  Start : Int
  End : Int
  Steps : Int
def engine_Call.zero : engine_Call := ⟨0, 0, api_Op.zero, api_Reply.zero, 0, 0, 0⟩
def k_engine_Call : Kd engine_Call := ⟨14, fun h cs x => ∃ v0 v1 : Value, cs = [.int .i64 x.Proc, .int .u8 x.Kind, .int .u8 x.Op.Kind, .int .i64 x.Op.Method, v0, v1, .int .i64 x.Reply.Err, .int .i64 x.Reply.Out.Trap, .int .u8 x.Reply.Out.Result.Kind, .int .i64 x.Reply.Out.Result.A, .int .i64 x.Reply.Out.Result.B, .int .i64 x.Start, .int .i64 x.End, .int .i64 x.Steps] ∧ slR k_api_Value h v0 x.Op.Args ∧ slR (kInt .u8) h v1 x.Op.Bytes,
  fun _ _ _ _ s ⟨v0, v1, e, p0, p1⟩ => ⟨v0, v1, e, slR.mono s p0, slR.mono s p1⟩, fun _ _ _ ⟨v0, v1, e, p0, p1⟩ => by simp [e],
  fun _ _ _ ⟨v0, v1, e, p0, p1⟩ => by subst e; obtain ⟨_, _, rfl, -⟩ := p0; obtain ⟨_, _, rfl, -⟩ := p1; rfl⟩
def o_engine_Call : Ko engine_Call := ⟨k_engine_Call, fun cs x => HO.ex fun v0 : Value => HO.ex fun v1 : Value => HO.pand (cs = [.int .i64 x.Proc, .int .u8 x.Kind, .int .u8 x.Op.Kind, .int .i64 x.Op.Method, v0, v1, .int .i64 x.Reply.Err, .int .i64 x.Reply.Out.Trap, .int .u8 x.Reply.Out.Result.Kind, .int .i64 x.Reply.Out.Result.A, .int .i64 x.Reply.Out.Result.B, .int .i64 x.Start, .int .i64 x.End, .int .i64 x.Steps]) (HO.seps [slO k_api_Value 37 v0 x.Op.Args, slO (kInt .u8) 5 v1 x.Op.Bytes]), fun ⟨v0, v1, e, q⟩ sa sh => ⟨v0, v1, e, slO.read (Sep.get 0 rfl q) sa sh, slO.read (Sep.get 1 rfl q) sa sh⟩⟩
@[reducible] def engine_Call.set_Op_Args (x : engine_Call) (l : (List api_Value)) : engine_Call := { x with Op := { x.Op with Args := l } }
theorem o_engine_Call.leaf4 : Leaf o_engine_Call 4 k_api_Value 37 (fun x => x.Op.Args) engine_Call.set_Op_Args := fun a h c x ⟨v0, v1, e, q⟩ => by
  subst e
  obtain ⟨h1, h2, dj, s1, s2, p, rest⟩ := Sep.take 0 _ rfl q
  exact ⟨v0, h1, h2, rfl, dj, s1, s2, p, fun a' h' l' sa dj' r => ⟨v0, v1, rfl, Sep.back 0 [slO k_api_Value 37 v0 x.Op.Args, slO (kInt .u8) 5 v1 x.Op.Bytes] (x := slO k_api_Value 37 v0 l') (Nat.le_of_ble_eq_true rfl) dj' r (Sep.mono _ sa (Sub.refl _) rest)⟩⟩
@[reducible] def engine_Call.set_Op_Bytes (x : engine_Call) (l : (List Int)) : engine_Call := { x with Op := { x.Op with Bytes := l } }
theorem o_engine_Call.leaf5 : Leaf o_engine_Call 5 (kInt .u8) 5 (fun x => x.Op.Bytes) engine_Call.set_Op_Bytes := fun a h c x ⟨v0, v1, e, q⟩ => by
  subst e
  obtain ⟨h1, h2, dj, s1, s2, p, rest⟩ := Sep.take 1 _ rfl q
  exact ⟨v1, h1, h2, rfl, dj, s1, s2, p, fun a' h' l' sa dj' r => ⟨v0, v1, rfl, Sep.back 1 [slO k_api_Value 37 v0 x.Op.Args, slO (kInt .u8) 5 v1 x.Op.Bytes] (x := slO (kInt .u8) 5 v1 l') (Nat.le_of_ble_eq_true rfl) dj' r (Sep.mono _ sa (Sub.refl _) rest)⟩⟩
theorem k_engine_Call.part_Proc : Part k_engine_Call 0 (kInt .i64) (fun x => x.Proc) := fun h cs x ⟨v0, v1, e, p0, p1⟩ => ⟨[.int .i64 x.Proc], rfl, by subst e; exact seg_get [.int .i64 x.Proc, .int .u8 x.Kind, .int .u8 x.Op.Kind, .int .i64 x.Op.Method, v0, v1, .int .i64 x.Reply.Err, .int .i64 x.Reply.Out.Trap, .int .u8 x.Reply.Out.Result.Kind, .int .i64 x.Reply.Out.Result.A, .int .i64 x.Reply.Out.Result.B, .int .i64 x.Start, .int .i64 x.End, .int .i64 x.Steps] 0 1⟩
theorem k_engine_Call.part_Kind : Part k_engine_Call 1 (kInt .u8) (fun x => x.Kind) := fun h cs x ⟨v0, v1, e, p0, p1⟩ => ⟨[.int .u8 x.Kind], rfl, by subst e; exact seg_get [.int .i64 x.Proc, .int .u8 x.Kind, .int .u8 x.Op.Kind, .int .i64 x.Op.Method, v0, v1, .int .i64 x.Reply.Err, .int .i64 x.Reply.Out.Trap, .int .u8 x.Reply.Out.Result.Kind, .int .i64 x.Reply.Out.Result.A, .int .i64 x.Reply.Out.Result.B, .int .i64 x.Start, .int .i64 x.End, .int .i64 x.Steps] 1 1⟩
theorem k_engine_Call.part_Op : Part k_engine_Call 2 k_api_Op (fun x => x.Op) := fun h cs x ⟨v0, v1, e, p0, p1⟩ => ⟨[.int .u8 x.Op.Kind, .int .i64 x.Op.Method, v0, v1], ⟨v0, v1, rfl, p0, p1⟩, by subst e; exact seg_get [.int .i64 x.Proc, .int .u8 x.Kind, .int .u8 x.Op.Kind, .int .i64 x.Op.Method, v0, v1, .int .i64 x.Reply.Err, .int .i64 x.Reply.Out.Trap, .int .u8 x.Reply.Out.Result.Kind, .int .i64 x.Reply.Out.Result.A, .int .i64 x.Reply.Out.Result.B, .int .i64 x.Start, .int .i64 x.End, .int .i64 x.Steps] 2 4⟩
theorem k_engine_Call.part_Reply : Part k_engine_Call 6 k_api_Reply (fun x => x.Reply) := fun h cs x ⟨v0, v1, e, p0, p1⟩ => ⟨[.int .i64 x.Reply.Err, .int .i64 x.Reply.Out.Trap, .int .u8 x.Reply.Out.Result.Kind, .int .i64 x.Reply.Out.Result.A, .int .i64 x.Reply.Out.Result.B], rfl, by subst e; exact seg_get [.int .i64 x.Proc, .int .u8 x.Kind, .int .u8 x.Op.Kind, .int .i64 x.Op.Method, v0, v1, .int .i64 x.Reply.Err, .int .i64 x.Reply.Out.Trap, .int .u8 x.Reply.Out.Result.Kind, .int .i64 x.Reply.Out.Result.A, .int .i64 x.Reply.Out.Result.B, .int .i64 x.Start, .int .i64 x.End, .int .i64 x.Steps] 6 5⟩
theorem k_engine_Call.part_Start : Part k_engine_Call 11 (kInt .i64) (fun x => x.Start) := fun h cs x ⟨v0, v1, e, p0, p1⟩ => ⟨[.int .i64 x.Start], rfl, by subst e; exact seg_get [.int .i64 x.Proc, .int .u8 x.Kind, .int .u8 x.Op.Kind, .int .i64 x.Op.Method, v0, v1, .int .i64 x.Reply.Err, .int .i64 x.Reply.Out.Trap, .int .u8 x.Reply.Out.Result.Kind, .int .i64 x.Reply.Out.Result.A, .int .i64 x.Reply.Out.Result.B, .int .i64 x.Start, .int .i64 x.End, .int .i64 x.Steps] 11 1⟩
theorem k_engine_Call.part_End : Part k_engine_Call 12 (kInt .i64) (fun x => x.End) := fun h cs x ⟨v0, v1, e, p0, p1⟩ => ⟨[.int .i64 x.End], rfl, by subst e; exact seg_get [.int .i64 x.Proc, .int .u8 x.Kind, .int .u8 x.Op.Kind, .int .i64 x.Op.Method, v0, v1, .int .i64 x.Reply.Err, .int .i64 x.Reply.Out.Trap, .int .u8 x.Reply.Out.Result.Kind, .int .i64 x.Reply.Out.Result.A, .int .i64 x.Reply.Out.Result.B, .int .i64 x.Start, .int .i64 x.End, .int .i64 x.Steps] 12 1⟩
theorem k_engine_Call.part_Steps : Part k_engine_Call 13 (kInt .i64) (fun x => x.Steps) := fun h cs x ⟨v0, v1, e, p0, p1⟩ => ⟨[.int .i64 x.Steps], rfl, by subst e; exact seg_get [.int .i64 x.Proc, .int .u8 x.Kind, .int .u8 x.Op.Kind, .int .i64 x.Op.Method, v0, v1, .int .i64 x.Reply.Err, .int .i64 x.Reply.Out.Trap, .int .u8 x.Reply.Out.Result.Kind, .int .i64 x.Reply.Out.Result.A, .int .i64 x.Reply.Out.Result.B, .int .i64 x.Start, .int .i64 x.End, .int .i64 x.Steps] 13 1⟩
theorem k_engine_Call.load {P : Program} {n : Nat} {σ : List (Nat × Value)} {w0 : World} {hA hV : Hp} {ps : List HP} {os : List HO} {L l : List Oper} {Q : Cont} {d : Nat} {t tr : TypeId} {x : Operand} {pos : String} {af : Array Edge} {g : Option (Nat × Bool)} {v : Value} (see : Sees w0 hA hV) (i : Nat) {x0 : engine_Call} (hi : ps[i]? = some (elP k_engine_Call v x0)) {dsc : TypeDesc} (hu : P.underlying t = some dsc) (hd : (match dsc with | .struct _ | .array _ _ => true | _ => false) = true) (hs : (P.info? t).map (·.size) = some 14) (hg : gd L σ g = some true) (hn : Nat.blt d n = true) (hx : ev σ x = some v)
    (h : ∀ v0 v1, SP P n ((d, .agg [.int .i64 x0.Proc, .int .u8 x0.Kind, .int .u8 x0.Op.Kind, .int .i64 x0.Op.Method, v0, v1, .int .i64 x0.Reply.Err, .int .i64 x0.Reply.Out.Trap, .int .u8 x0.Reply.Out.Result.Kind, .int .i64 x0.Reply.Out.Result.A, .int .i64 x0.Reply.Out.Result.B, .int .i64 x0.Start, .int .i64 x0.End, .int .i64 x0.Steps].toArray) :: σ) (St w0 hA hV (slP k_api_Value v0 x0.Op.Args :: slP (kInt .u8) v1 x0.Op.Bytes :: ps) os) L l Q) : SP P n σ (St w0 hA hV ps os) L (⟨some d, .load t x, tr, pos, af, g⟩ :: l) Q :=
  SP.loadP see i hi hu hd hs hg hn hx fun cs a w ha hw => by
    obtain ⟨m, fr, hN, hO, n1, n2, dj, s1, s2, ap, s⟩ := hw
    obtain ⟨v0, v1, e, p0, p1⟩ := ap.get 0 rfl
    subst e
    exact h v0 v1 a w ha ⟨m, fr, hN, hO, n1, n2, dj, s1, s2, All.cons p0 (All.cons p1 ((fun y hy => ap y (List.mem_cons_of_mem _ hy)))), s⟩
structure history_Call where
  Proc : Int
  Op : api_Op
  Read : Bool
  Reply : api_Reply
  Start : Int
  End : Int
def history_Call.zero : history_Call := ⟨0, api_Op.zero, false, api_Reply.zero, 0, 0⟩
def k_history_Call : Kd history_Call := ⟨13, fun h cs x => ∃ v0 v1 : Value, cs = [.int .i64 x.Proc, .int .u8 x.Op.Kind, .int .i64 x.Op.Method, v0, v1, .bool x.Read, .int .i64 x.Reply.Err, .int .i64 x.Reply.Out.Trap, .int .u8 x.Reply.Out.Result.Kind, .int .i64 x.Reply.Out.Result.A, .int .i64 x.Reply.Out.Result.B, .int .i64 x.Start, .int .i64 x.End] ∧ slR k_api_Value h v0 x.Op.Args ∧ slR (kInt .u8) h v1 x.Op.Bytes,
  fun _ _ _ _ s ⟨v0, v1, e, p0, p1⟩ => ⟨v0, v1, e, slR.mono s p0, slR.mono s p1⟩, fun _ _ _ ⟨v0, v1, e, p0, p1⟩ => by simp [e],
  fun _ _ _ ⟨v0, v1, e, p0, p1⟩ => by subst e; obtain ⟨_, _, rfl, -⟩ := p0; obtain ⟨_, _, rfl, -⟩ := p1; rfl⟩
def o_history_Call : Ko history_Call := ⟨k_history_Call, fun cs x => HO.ex fun v0 : Value => HO.ex fun v1 : Value => HO.pand (cs = [.int .i64 x.Proc, .int .u8 x.Op.Kind, .int .i64 x.Op.Method, v0, v1, .bool x.Read, .int .i64 x.Reply.Err, .int .i64 x.Reply.Out.Trap, .int .u8 x.Reply.Out.Result.Kind, .int .i64 x.Reply.Out.Result.A, .int .i64 x.Reply.Out.Result.B, .int .i64 x.Start, .int .i64 x.End]) (HO.seps [slO k_api_Value 37 v0 x.Op.Args, slO (kInt .u8) 5 v1 x.Op.Bytes]), fun ⟨v0, v1, e, q⟩ sa sh => ⟨v0, v1, e, slO.read (Sep.get 0 rfl q) sa sh, slO.read (Sep.get 1 rfl q) sa sh⟩⟩
@[reducible] def history_Call.set_Op_Args (x : history_Call) (l : (List api_Value)) : history_Call := { x with Op := { x.Op with Args := l } }
theorem o_history_Call.leaf3 : Leaf o_history_Call 3 k_api_Value 37 (fun x => x.Op.Args) history_Call.set_Op_Args := fun a h c x ⟨v0, v1, e, q⟩ => by
  subst e
  obtain ⟨h1, h2, dj, s1, s2, p, rest⟩ := Sep.take 0 _ rfl q
  exact ⟨v0, h1, h2, rfl, dj, s1, s2, p, fun a' h' l' sa dj' r => ⟨v0, v1, rfl, Sep.back 0 [slO k_api_Value 37 v0 x.Op.Args, slO (kInt .u8) 5 v1 x.Op.Bytes] (x := slO k_api_Value 37 v0 l') (Nat.le_of_ble_eq_true rfl) dj' r (Sep.mono _ sa (Sub.refl _) rest)⟩⟩
@[reducible] def history_Call.set_Op_Bytes (x : history_Call) (l : (List Int)) : history_Call := { x with Op := { x.Op with Bytes := l } }
theorem o_history_Call.leaf4 : Leaf o_history_Call 4 (kInt .u8) 5 (fun x => x.Op.Bytes) history_Call.set_Op_Bytes := fun a h c x ⟨v0, v1, e, q⟩ => by
  subst e
  obtain ⟨h1, h2, dj, s1, s2, p, rest⟩ := Sep.take 1 _ rfl q
  exact ⟨v1, h1, h2, rfl, dj, s1, s2, p, fun a' h' l' sa dj' r => ⟨v0, v1, rfl, Sep.back 1 [slO k_api_Value 37 v0 x.Op.Args, slO (kInt .u8) 5 v1 x.Op.Bytes] (x := slO (kInt .u8) 5 v1 l') (Nat.le_of_ble_eq_true rfl) dj' r (Sep.mono _ sa (Sub.refl _) rest)⟩⟩
theorem k_history_Call.part_Proc : Part k_history_Call 0 (kInt .i64) (fun x => x.Proc) := fun h cs x ⟨v0, v1, e, p0, p1⟩ => ⟨[.int .i64 x.Proc], rfl, by subst e; exact seg_get [.int .i64 x.Proc, .int .u8 x.Op.Kind, .int .i64 x.Op.Method, v0, v1, .bool x.Read, .int .i64 x.Reply.Err, .int .i64 x.Reply.Out.Trap, .int .u8 x.Reply.Out.Result.Kind, .int .i64 x.Reply.Out.Result.A, .int .i64 x.Reply.Out.Result.B, .int .i64 x.Start, .int .i64 x.End] 0 1⟩
theorem k_history_Call.part_Op : Part k_history_Call 1 k_api_Op (fun x => x.Op) := fun h cs x ⟨v0, v1, e, p0, p1⟩ => ⟨[.int .u8 x.Op.Kind, .int .i64 x.Op.Method, v0, v1], ⟨v0, v1, rfl, p0, p1⟩, by subst e; exact seg_get [.int .i64 x.Proc, .int .u8 x.Op.Kind, .int .i64 x.Op.Method, v0, v1, .bool x.Read, .int .i64 x.Reply.Err, .int .i64 x.Reply.Out.Trap, .int .u8 x.Reply.Out.Result.Kind, .int .i64 x.Reply.Out.Result.A, .int .i64 x.Reply.Out.Result.B, .int .i64 x.Start, .int .i64 x.End] 1 4⟩
theorem k_history_Call.part_Read : Part k_history_Call 5 kBool (fun x => x.Read) := fun h cs x ⟨v0, v1, e, p0, p1⟩ => ⟨[.bool x.Read], rfl, by subst e; exact seg_get [.int .i64 x.Proc, .int .u8 x.Op.Kind, .int .i64 x.Op.Method, v0, v1, .bool x.Read, .int .i64 x.Reply.Err, .int .i64 x.Reply.Out.Trap, .int .u8 x.Reply.Out.Result.Kind, .int .i64 x.Reply.Out.Result.A, .int .i64 x.Reply.Out.Result.B, .int .i64 x.Start, .int .i64 x.End] 5 1⟩
theorem k_history_Call.part_Reply : Part k_history_Call 6 k_api_Reply (fun x => x.Reply) := fun h cs x ⟨v0, v1, e, p0, p1⟩ => ⟨[.int .i64 x.Reply.Err, .int .i64 x.Reply.Out.Trap, .int .u8 x.Reply.Out.Result.Kind, .int .i64 x.Reply.Out.Result.A, .int .i64 x.Reply.Out.Result.B], rfl, by subst e; exact seg_get [.int .i64 x.Proc, .int .u8 x.Op.Kind, .int .i64 x.Op.Method, v0, v1, .bool x.Read, .int .i64 x.Reply.Err, .int .i64 x.Reply.Out.Trap, .int .u8 x.Reply.Out.Result.Kind, .int .i64 x.Reply.Out.Result.A, .int .i64 x.Reply.Out.Result.B, .int .i64 x.Start, .int .i64 x.End] 6 5⟩
theorem k_history_Call.part_Start : Part k_history_Call 11 (kInt .i64) (fun x => x.Start) := fun h cs x ⟨v0, v1, e, p0, p1⟩ => ⟨[.int .i64 x.Start], rfl, by subst e; exact seg_get [.int .i64 x.Proc, .int .u8 x.Op.Kind, .int .i64 x.Op.Method, v0, v1, .bool x.Read, .int .i64 x.Reply.Err, .int .i64 x.Reply.Out.Trap, .int .u8 x.Reply.Out.Result.Kind, .int .i64 x.Reply.Out.Result.A, .int .i64 x.Reply.Out.Result.B, .int .i64 x.Start, .int .i64 x.End] 11 1⟩
theorem k_history_Call.part_End : Part k_history_Call 12 (kInt .i64) (fun x => x.End) := fun h cs x ⟨v0, v1, e, p0, p1⟩ => ⟨[.int .i64 x.End], rfl, by subst e; exact seg_get [.int .i64 x.Proc, .int .u8 x.Op.Kind, .int .i64 x.Op.Method, v0, v1, .bool x.Read, .int .i64 x.Reply.Err, .int .i64 x.Reply.Out.Trap, .int .u8 x.Reply.Out.Result.Kind, .int .i64 x.Reply.Out.Result.A, .int .i64 x.Reply.Out.Result.B, .int .i64 x.Start, .int .i64 x.End] 12 1⟩
theorem k_history_Call.load {P : Program} {n : Nat} {σ : List (Nat × Value)} {w0 : World} {hA hV : Hp} {ps : List HP} {os : List HO} {L l : List Oper} {Q : Cont} {d : Nat} {t tr : TypeId} {x : Operand} {pos : String} {af : Array Edge} {g : Option (Nat × Bool)} {v : Value} (see : Sees w0 hA hV) (i : Nat) {x0 : history_Call} (hi : ps[i]? = some (elP k_history_Call v x0)) {dsc : TypeDesc} (hu : P.underlying t = some dsc) (hd : (match dsc with | .struct _ | .array _ _ => true | _ => false) = true) (hs : (P.info? t).map (·.size) = some 13) (hg : gd L σ g = some true) (hn : Nat.blt d n = true) (hx : ev σ x = some v)
    (h : ∀ v0 v1, SP P n ((d, .agg [.int .i64 x0.Proc, .int .u8 x0.Op.Kind, .int .i64 x0.Op.Method, v0, v1, .bool x0.Read, .int .i64 x0.Reply.Err, .int .i64 x0.Reply.Out.Trap, .int .u8 x0.Reply.Out.Result.Kind, .int .i64 x0.Reply.Out.Result.A, .int .i64 x0.Reply.Out.Result.B, .int .i64 x0.Start, .int .i64 x0.End].toArray) :: σ) (St w0 hA hV (slP k_api_Value v0 x0.Op.Args :: slP (kInt .u8) v1 x0.Op.Bytes :: ps) os) L l Q) : SP P n σ (St w0 hA hV ps os) L (⟨some d, .load t x, tr, pos, af, g⟩ :: l) Q :=
  SP.loadP see i hi hu hd hs hg hn hx fun cs a w ha hw => by
    obtain ⟨m, fr, hN, hO, n1, n2, dj, s1, s2, ap, s⟩ := hw
    obtain ⟨v0, v1, e, p0, p1⟩ := ap.get 0 rfl
    subst e
    exact h v0 v1 a w ha ⟨m, fr, hN, hO, n1, n2, dj, s1, s2, All.cons p0 (All.cons p1 ((fun y hy => ap y (List.mem_cons_of_mem _ hy)))), s⟩
theorem sz2 : (Try.prog.info? 2).map (·.size) = some 1 := by kernel_rfl
theorem sz3 : (Try.prog.info? 3).map (·.size) = some 1 := by kernel_rfl
theorem sz4 : (Try.prog.info? 4).map (·.size) = some 1 := by kernel_rfl
theorem sz5 : (Try.prog.info? 5).map (·.size) = some 1 := by kernel_rfl
theorem sz24 : (Try.prog.info? 24).map (·.size) = some 1 := by kernel_rfl
theorem sz32 : (Try.prog.info? 32).map (·.size) = some 1 := by kernel_rfl
theorem sz34 : (Try.prog.info? 34).map (·.size) = some 4 := by kernel_rfl
theorem sz37 : (Try.prog.info? 37).map (·.size) = some 3 := by kernel_rfl
theorem sz41 : (Try.prog.info? 41).map (·.size) = some 5 := by kernel_rfl
theorem sz43 : (Try.prog.info? 43).map (·.size) = some 14 := by kernel_rfl
theorem sz48 : (Try.prog.info? 48).map (·.size) = some 13 := by kernel_rfl
theorem inf5 : (Try.prog.info? 5).map (fun i => ((i.zero.map fun z => z.cells.toList), i.size, i.bytes)) = some (some [.int .u8 0], 1, 1) := by kernel_rfl
theorem inf34 : (Try.prog.info? 34).map (fun i => ((i.zero.map fun z => z.cells.toList), i.size, i.bytes)) = some (some [.int .u8 0, .int .i64 0, (.slice none 0 0), (.slice none 0 0)], 4, 64) := by kernel_rfl
theorem inf37 : (Try.prog.info? 37).map (fun i => ((i.zero.map fun z => z.cells.toList), i.size, i.bytes)) = some (some [.int .u8 0, .int .i64 0, .int .i64 0], 3, 24) := by kernel_rfl
theorem inf43 : (Try.prog.info? 43).map (fun i => ((i.zero.map fun z => z.cells.toList), i.size, i.bytes)) = some (some [.int .i64 0, .int .u8 0, .int .u8 0, .int .i64 0, (.slice none 0 0), (.slice none 0 0), .int .i64 0, .int .i64 0, .int .u8 0, .int .i64 0, .int .i64 0, .int .i64 0, .int .i64 0, .int .i64 0], 14, 144) := by kernel_rfl
theorem inf48 : (Try.prog.info? 48).map (fun i => ((i.zero.map fun z => z.cells.toList), i.size, i.bytes)) = some (some [.int .i64 0, .int .u8 0, .int .i64 0, (.slice none 0 0), (.slice none 0 0), .bool false, .int .i64 0, .int .i64 0, .int .u8 0, .int .i64 0, .int .i64 0, .int .i64 0, .int .i64 0], 13, 136) := by kernel_rfl
theorem bt48 : shapeOf Try.prog 48 = some ([.int .i64 0, .int .u8 0, .int .i64 0, (.slice none 0 0), (.slice none 0 0), .bool false, .int .i64 0, .int .i64 0, .int .u8 0, .int .i64 0, .int .i64 0, .int .i64 0, .int .i64 0], [(0, 1), (1, 4), (5, 1), (6, 5), (11, 1), (12, 1)]) := by kernel_rfl
theorem eqA37 (d : Nat) (w : World) (x0 y0 : Int) (x1 y1 : Int) (x2 y2 : Int) : (Op.equalIn (d + 2) 37 (.agg #[.int .u8 x0, .int .i64 x1, .int .i64 x2]) (.agg #[.int .u8 y0, .int .i64 y1, .int .i64 y2])).run Try.prog w = .ok (x0 == y0 && (x1 == y1 && (x2 == y2))) w := by
  refine eqA_of Try.underlying37 (by kernel_rfl) ?_
  refine eqf_cons (by rfl) (run_part1 Try.underlying5 rfl rfl) (run_part1 Try.underlying5 rfl rfl) (run_equalIn_int w _ 5 _ _ _ _ Try.underlying5) ?_
  refine eqf_cons (by rfl) (run_part1 Try.underlying2 rfl rfl) (run_part1 Try.underlying2 rfl rfl) (run_equalIn_int w _ 2 _ _ _ _ Try.underlying2) ?_
  exact eqf_last (by rfl) (run_part1 Try.underlying2 rfl rfl) (run_part1 Try.underlying2 rfl rfl) (run_equalIn_int w _ 2 _ _ _ _ Try.underlying2)
theorem szq37 : (Try.prog.info? 37).map (·.size) = some 3 := by kernel_rfl
theorem eqA39 (d : Nat) (w : World) (x0 y0 : Int) (x1 y1 : Int) (x2 y2 : Int) (x3 y3 : Int) : (Op.equalIn (d + 3) 39 (.agg #[.int .i64 x0, .int .u8 x1, .int .i64 x2, .int .i64 x3]) (.agg #[.int .i64 y0, .int .u8 y1, .int .i64 y2, .int .i64 y3])).run Try.prog w = .ok (x0 == y0 && ((x1 == y1 && (x2 == y2 && (x3 == y3))))) w := by
  refine eqA_of Try.underlying39 (by kernel_rfl) ?_
  refine eqf_cons (by rfl) (run_part1 Try.underlying3 rfl rfl) (run_part1 Try.underlying3 rfl rfl) (run_equalIn_int w _ 3 _ _ _ _ Try.underlying3) ?_
  exact eqf_last (by rfl) (run_partA Try.underlying37 rfl szq37 rfl) (run_partA Try.underlying37 rfl szq37 rfl) (eqA37 (d + 0) w _ _ _ _ _ _)
theorem szq39 : (Try.prog.info? 39).map (·.size) = some 4 := by kernel_rfl
theorem eqA41 (d : Nat) (w : World) (x0 y0 : Int) (x1 y1 : Int) (x2 y2 : Int) (x3 y3 : Int) (x4 y4 : Int) : (Op.equalIn (d + 4) 41 (.agg #[.int .i64 x0, .int .i64 x1, .int .u8 x2, .int .i64 x3, .int .i64 x4]) (.agg #[.int .i64 y0, .int .i64 y1, .int .u8 y2, .int .i64 y3, .int .i64 y4])).run Try.prog w = .ok (x0 == y0 && ((x1 == y1 && ((x2 == y2 && (x3 == y3 && (x4 == y4))))))) w := by
  refine eqA_of Try.underlying41 (by kernel_rfl) ?_
  refine eqf_cons (by rfl) (run_part1 Try.underlying35 rfl rfl) (run_part1 Try.underlying35 rfl rfl) (run_equalIn_int w _ 35 _ _ _ _ Try.underlying35) ?_
  exact eqf_last (by rfl) (run_partA Try.underlying39 rfl szq39 rfl) (run_partA Try.underlying39 rfl szq39 rfl) (eqA39 (d + 0) w _ _ _ _ _ _ _ _)
theorem fn11 : ((Try.prog.funcs[11]?).map fun fn => fn.body.isSome && !(fn.name == "runtime.NumGoroutine")) = some true := by rw [Try.func11]; rfl
theorem fn12 : ((Try.prog.funcs[12]?).map fun fn => fn.body.isSome && !(fn.name == "runtime.NumGoroutine")) = some true := by rw [Try.func12]; rfl
theorem fn39 : ((Try.prog.funcs[39]?).map fun fn => fn.body.isSome && !(fn.name == "runtime.NumGoroutine")) = some true := by rw [Try.func39]; rfl
theorem fn63 : ((Try.prog.funcs[63]?).map fun fn => fn.body.isSome && !(fn.name == "runtime.NumGoroutine")) = some true := by rw [Try.func63]; rfl
theorem fn64 : ((Try.prog.funcs[64]?).map fun fn => fn.body.isSome && !(fn.name == "runtime.NumGoroutine")) = some true := by rw [Try.func64]; rfl
theorem fn57 : ((Try.prog.funcs[57]?).map fun fn => fn.body.isSome && !(fn.name == "runtime.NumGoroutine")) = some true := by rw [Try.func57]; rfl
theorem fn42 : ((Try.prog.funcs[42]?).map fun fn => fn.body.isSome && !(fn.name == "runtime.NumGoroutine")) = some true := by rw [Try.func42]; rfl
theorem fn41 : ((Try.prog.funcs[41]?).map fun fn => fn.body.isSome && !(fn.name == "runtime.NumGoroutine")) = some true := by rw [Try.func41]; rfl
theorem fn40 : ((Try.prog.funcs[40]?).map fun fn => fn.body.isSome && !(fn.name == "runtime.NumGoroutine")) = some true := by rw [Try.func40]; rfl
theorem fn13 : ((Try.prog.funcs[13]?).map fun fn => fn.body.isSome && !(fn.name == "runtime.NumGoroutine")) = some true := by rw [Try.func13]; rfl
theorem fn58 : ((Try.prog.funcs[58]?).map fun fn => fn.body.isSome && !(fn.name == "runtime.NumGoroutine")) = some true := by rw [Try.func58]; rfl
theorem fn43 : ((Try.prog.funcs[43]?).map fun fn => fn.body.isSome && !(fn.name == "runtime.NumGoroutine")) = some true := by rw [Try.func43]; rfl
theorem fn14 : ((Try.prog.funcs[14]?).map fun fn => fn.body.isSome && !(fn.name == "runtime.NumGoroutine")) = some true := by rw [Try.func14]; rfl
theorem fn4 : ((Try.prog.funcs[4]?).map fun fn => fn.body.isSome && !(fn.name == "runtime.NumGoroutine")) = some true := by rw [Try.func4]; rfl
/-! ### capstan/capstanlaw20.Great: function 11 -/
def capstanlaw20_Great.f (op_0 : api_Op) : Option Bool :=
  some ((decide ((op_0.Args.length : Int) > 20)) || (decide ((op_0.Bytes.length : Int) > 3000)))
theorem capstanlaw20_Great.ok (op_0 : api_Op) (v_op_0_Args : Value) (v_op_0_Bytes : Value) (r : Bool) (H : capstanlaw20_Great.f op_0 = some r) (w : World) (hV : Hp) (sV : Sub hV (hp w)) (h0 : slR k_api_Value hV v_op_0_Args op_0.Args) (h1 : slR (kInt .u8) hV v_op_0_Bytes op_0.Bytes) :
    Trip Try.prog 11 [.agg #[.int .u8 op_0.Kind, .int .i64 op_0.Method, v_op_0_Args, v_op_0_Bytes]].toArray em hV w (fun v => HO.pure (v = .bool r)) := by
  have see : Sees w em hV := ⟨sV, Dj.em_right _⟩
  refine Trip.of (P := Try.prog) (n := 13) Try.func11 rfl rfl rfl (St.begin (All.cons (x := slP k_api_Value v_op_0_Args op_0.Args) h0 (All.cons (x := slP (kInt .u8) v_op_0_Bytes op_0.Bytes) h1 (All.nil _)))) ?_
  have ho := H
  refine CP.seq ?_
  refine CP.region ?_
  refine SP.box (cs := [.int .u8 op_0.Kind, .int .i64 op_0.Method, v_op_0_Args, v_op_0_Bytes]) rfl rfl rfl rfl (fun b3 => ?_)
  refine SP.val (Val.assign rfl) rfl rfl rfl ?_
  refine SP.nil ?_
  refine QE.then ?_
  refine CP.seq ?_
  refine CP.region ?_
  refine SP.val (Val.fieldAddr Try.underlying34 rfl sz32 rfl) rfl rfl rfl ?_
  refine SP.val (Val.load1 0 rfl Try.underlying32 rfl rfl rfl) rfl rfl rfl ?_
  refine SP.val (Val.lenP see 0 rfl Try.underlying32 rfl) rfl rfl rfl ?_
  refine SP.val (Val.gtr rfl rfl) rfl rfl rfl ?_
  refine SP.val (Val.move rfl) rfl rfl rfl ?_
  refine SP.join 5 (fun a w2 => Env 13 [(12, .bool ((decide ((op_0.Args.length : Int) > 20)) || (decide ((op_0.Bytes.length : Int) > 3000))))] a ∧ St w em hV [slP k_api_Value v_op_0_Args op_0.Args, slP (kInt .u8) v_op_0_Bytes op_0.Bytes] [boxO b3 [.int .u8 op_0.Kind, .int .i64 op_0.Method, v_op_0_Args, v_op_0_Bytes] 34] w2) ?_ ?_
  · rintro a w2 ⟨ha, hw⟩
    refine SP.app ha hw ?_
    clear ha hw a w2
    refine SP.val (Val.assign rfl) rfl rfl rfl ?_
    refine SP.nil ?_
    refine QE.then ?_
    refine CP.ret ?_
    obtain rfl := Option.some.inj ho
    exact QE.rets (rs := [.tmp 2]) (vs := [.bool ((decide ((op_0.Args.length : Int) > 20)) || (decide ((op_0.Bytes.length : Int) > 3000)))]) Try.results11 ⟨RVs.tmp rfl, trivial⟩ (fun w2 h => St.done (fun a b p s => rfl) h)
  · intro J
    by_cases hc : (op_0.Args.length : Int) > 20
    · have hq6 := (decide_eq_true hc)
      refine SP.isT (d := 7) rfl hq6 ?_
      refine SP.not rfl rfl rfl ?_
      refine SP.not rfl rfl rfl ?_
      refine SP.not rfl rfl rfl ?_
      refine SP.not rfl rfl rfl ?_
      refine SP.val (Val.pickT rfl rfl) rfl rfl rfl ?_
      exact J fun a w2 ha hw => ⟨ha.sub ⟨congrArg (fun z => some (Value.bool z)) (or_t hq6), trivial⟩, hw⟩
    · have hq6 := (decide_eq_false hc)
      refine SP.isF (d := 7) rfl hq6 ?_
      refine SP.val (Val.fieldAddr Try.underlying34 rfl sz24 rfl) rfl rfl rfl ?_
      refine SP.val (Val.load1 0 rfl Try.underlying24 rfl rfl rfl) rfl rfl rfl ?_
      refine SP.val (Val.lenP see 1 rfl Try.underlying24 rfl) rfl rfl rfl ?_
      refine SP.val (Val.gtr rfl rfl) rfl rfl rfl ?_
      refine SP.val (Val.pickF rfl rfl) rfl rfl rfl ?_
      exact J fun a w2 ha hw => ⟨ha.sub ⟨congrArg (fun z => some (Value.bool z)) (or_f hq6 rfl), trivial⟩, hw⟩
/-! ### capstan/capstanref30.Of: function 12 -/
inductive capstanref30_Of.S where
  | start
  | l1 (l26 : List history_Call) (x28 : Int)

def capstanref30_Of.j1 (l_0 : (List engine_Call)) (x28 : Int) (l46 : List history_Call) : Option (capstanref30_Of.S ⊕ (List history_Call)) :=
  some (.inl (.l1 l46 (IntKind.i64.wrap (x28 + 1))))

def capstanref30_Of.F (l_0 : (List engine_Call)) : capstanref30_Of.S → Option (capstanref30_Of.S ⊕ (List history_Call))
  | .start => some (.inl (.l1 [] 0))
  | .l1 l26 x28 => if x28 < (l_0.length : Int) then ((elt l_0 x28).bind fun x32 => if ((decide (x32.Kind = 1)) || (decide (x32.Kind = 2))) = true then (if (l26.length + [(⟨x32.Proc, (⟨x32.Op.Kind, x32.Op.Method, x32.Op.Args, x32.Op.Bytes⟩ : api_Op), decide (x32.Kind = 2), (⟨x32.Reply.Err, (⟨x32.Reply.Out.Trap, (⟨x32.Reply.Out.Result.Kind, x32.Reply.Out.Result.A, x32.Reply.Out.Result.B⟩ : api_Value)⟩ : api_Outcome)⟩ : api_Reply), x32.Start, x32.End⟩ : history_Call)].length) * 136 ≤ 140737488355328 then (capstanref30_Of.j1 l_0 x28 (l26 ++ [(⟨x32.Proc, (⟨x32.Op.Kind, x32.Op.Method, x32.Op.Args, x32.Op.Bytes⟩ : api_Op), decide (x32.Kind = 2), (⟨x32.Reply.Err, (⟨x32.Reply.Out.Trap, (⟨x32.Reply.Out.Result.Kind, x32.Reply.Out.Result.A, x32.Reply.Out.Result.B⟩ : api_Value)⟩ : api_Outcome)⟩ : api_Reply), x32.Start, x32.End⟩ : history_Call)])) else none) else (capstanref30_Of.j1 l_0 x28 l26)) else (some (.inr l26))

def capstanref30_Of.f (l_0 : (List engine_Call)) : Option (List history_Call) := runF (capstanref30_Of.F l_0) .start
theorem capstanref30_Of.ok (l_0 : (List engine_Call)) (v_l_0 : Value) (r : (List history_Call)) (H : capstanref30_Of.f l_0 = some r) (w : World) (hV : Hp) (sV : Sub hV (hp w)) (h0 : slR k_engine_Call hV v_l_0 l_0) :
    Trip Try.prog 12 [v_l_0].toArray em hV w (fun v => HO.ex fun u0 : Value => HO.pand (v = u0) (HO.seps [slO k_history_Call 48 u0 r])) := by
  have see : Sees w em hV := ⟨sV, Dj.em_right _⟩
  refine Trip.of (P := Try.prog) (n := 42) Try.func12 rfl rfl rfl (St.begin (All.cons (x := slP k_engine_Call v_l_0 l_0) h0 (All.nil _))) ?_
  obtain ⟨n0, hi⟩ := runF_iff.1 H
  obtain ⟨m0, o, hm0, ho, hr⟩ := iter_some hi
  clear hi
  refine CP.seq ?_
  refine CP.region ?_
  refine SP.val (Val.assign rfl) rfl rfl rfl ?_
  refine SP.nil ?_
  refine QE.then ?_
  refine CP.seq ?_
  refine CP.region ?_
  refine SP.val (Val.assign rfl) rfl rfl rfl ?_
  refine SP.nil ?_
  refine QE.then ?_
  refine CP.seq ?_
  refine CP.seq ?_
  refine CP.region ?_
  refine SP.val (Val.assign rfl) rfl rfl rfl ?_
  refine SP.nil ?_
  refine QE.then ?_
  refine CP.block ?_
  obtain rfl := Option.some.inj ho
  refine CP.loop (fun cl1 a w2 => ∃ l26 : List history_Call, ∃ x28 : Int, ∃ v27 : Value, cl1 ≤ m0 ∧ iter (capstanref30_Of.F l_0) cl1 (.l1 l26 x28) = some r ∧ Env 42 [(0, v_l_0), (3, v27), (4, .int .i64 x28)] a ∧ St w em hV [slP k_engine_Call v_l_0 l_0] [slO k_history_Call 48 v27 l26] w2) m0 (fun a w2 ha hw => ⟨[], 0, (.slice none 0 0), Nat.le_refl _, hr, ha.sub ⟨rfl, rfl, rfl, trivial⟩, (St.addO (slO.nil k_history_Call 48) hw)⟩) ?_
  clear hr
  rintro cl1 a w2 ⟨l26, x28, v27, hc_l1, hi, ha, hw⟩
  obtain ⟨m29, o, hm_m29, ho, hr⟩ := iter_some hi
  refine CP.app ha hw ?_
  clear ha hw a w2 hi
  refine CP.seq ?_
  refine CP.seq ?_
  refine CP.region ?_
  refine SP.val (Val.move rfl) rfl rfl rfl ?_
  refine SP.val (Val.move rfl) rfl rfl rfl ?_
  refine SP.val (Val.lenP see 0 rfl Try.underlying30 rfl) rfl rfl rfl ?_
  refine SP.val (Val.lss rfl rfl) rfl rfl rfl ?_
  refine SP.nil ?_
  refine QE.then ?_
  rcases if_some ho with ⟨hc, ho⟩ | ⟨hc, ho⟩
  · refine CP.condT rfl (decide_eq_true hc) ?_
    refine CP.skip ?_
    refine QE.then ?_
    refine CP.join (fun a w2 => ∃ l46 : List history_Call, ∃ v47 : Value, ∃ (m48 : Nat) (o : capstanref30_Of.S ⊕ (List history_Call)), m48 ≤ m29 ∧ capstanref30_Of.j1 l_0 x28 l46 = some o ∧ next (capstanref30_Of.F l_0) m48 o = some r ∧ Env 42 [(0, v_l_0), (3, v47), (4, .int .i64 x28)] a ∧ St w em hV [slP k_engine_Call v_l_0 l_0] [slO k_history_Call 48 v47 l46] w2) ?_ ?_
    · rintro a w2 ⟨l46, v47, m48, o, hm_m48, ho, hr, ha, hw⟩
      refine CP.app ha hw ?_
      clear ha hw a w2
      refine CP.region ?_
      refine SP.val (Val.move rfl) rfl rfl rfl ?_
      refine SP.val (Val.add rfl rfl) rfl rfl rfl ?_
      refine SP.val (Val.assign rfl) rfl rfl rfl ?_
      refine SP.nil ?_
      obtain rfl := Option.some.inj ho
      exact QE.lower m48 (by omega) fun a w2 ha hw => ⟨l46, (IntKind.i64.wrap (x28 + 1)), v47, (by omega), hr, ha.sub ⟨rfl, rfl, rfl, trivial⟩, hw⟩
    · refine CP.block ?_
      refine CP.seq ?_
      refine CP.region ?_
      refine SP.val (Val.move rfl) rfl rfl rfl ?_
      refine SP.val (Val.move rfl) rfl rfl rfl ?_
      obtain ⟨x32, hx, ho⟩ := bind_some ho
      have hx := elt_some hx
      refine SP.indexP see 0 rfl Try.underlying30 sz43 hx.1 hx.2 rfl rfl rfl rfl (fun p30 => ?_)
      clear hx
      refine k_engine_Call.load see 0 rfl Try.underlying43 rfl sz43 rfl rfl rfl (fun v33 v35 => ?_)
      refine SP.alloc (cs := [.int .i64 0, .int .u8 0, .int .u8 0, .int .i64 0, (.slice none 0 0), (.slice none 0 0), .int .i64 0, .int .i64 0, .int .u8 0, .int .i64 0, .int .i64 0, .int .i64 0, .int .i64 0, .int .i64 0]) inf43 rfl rfl (fun b37 => ?_)
      refine SP.have (fun w2 hw => slR.shape (St.pers 0 rfl see.sub see.dj hw)) (fun hs_v33 => ?_)
      refine SP.have (fun w2 hw => slR.shape (St.pers 1 rfl see.sub see.dj hw)) (fun hs_v35 => ?_)
      refine SP.store (v := .agg #[.int .i64 x32.Proc, .int .u8 x32.Kind, .int .u8 x32.Op.Kind, .int .i64 x32.Op.Method, v33, v35, .int .i64 x32.Reply.Err, .int .i64 x32.Reply.Out.Trap, .int .u8 x32.Reply.Out.Result.Kind, .int .i64 x32.Reply.Out.Result.A, .int .i64 x32.Reply.Out.Result.B, .int .i64 x32.Start, .int .i64 x32.End, .int .i64 x32.Steps]) (vs := [.int .i64 x32.Proc, .int .u8 x32.Kind, .int .u8 x32.Op.Kind, .int .i64 x32.Op.Method, v33, v35, .int .i64 x32.Reply.Err, .int .i64 x32.Reply.Out.Trap, .int .u8 x32.Reply.Out.Result.Kind, .int .i64 x32.Reply.Out.Result.A, .int .i64 x32.Reply.Out.Result.B, .int .i64 x32.Start, .int .i64 x32.End, .int .i64 x32.Steps]) 0 (by rfl) sz43 (by rfl) (by rfl) (by rfl) (by rfl) (one_cons rfl (one_cons rfl (one_cons rfl (one_cons rfl (one_cons hs_v33 (one_cons hs_v35 (one_cons rfl (one_cons rfl (one_cons rfl (one_cons rfl (one_cons rfl (one_cons rfl (one_cons rfl (one_cons rfl (rfl))))))))))))))) (by rfl) ?_
      refine SP.nil ?_
      refine QE.then ?_
      refine CP.seq ?_
      refine CP.region ?_
      refine SP.val (Val.fieldAddr Try.underlying43 rfl sz5 rfl) rfl rfl rfl ?_
      refine SP.val (Val.load1 0 rfl Try.underlying5 rfl rfl rfl) rfl rfl rfl ?_
      refine SP.val (Val.eql rfl rfl) rfl rfl rfl ?_
      refine SP.val (Val.move rfl) rfl rfl rfl ?_
      refine SP.join 4 (fun a w2 => Env 42 [(0, v_l_0), (3, v27), (4, .int .i64 x28), (5, .pointer (some ⟨b37, 0, none⟩)), (23, .bool ((decide (x32.Kind = 1)) || (decide (x32.Kind = 2))))] a ∧ St w em hV [slP k_api_Value v33 x32.Op.Args, slP (kInt .u8) v35 x32.Op.Bytes, elP k_engine_Call p30 x32, slP k_engine_Call v_l_0 l_0] [boxO b37 [.int .i64 x32.Proc, .int .u8 x32.Kind, .int .u8 x32.Op.Kind, .int .i64 x32.Op.Method, v33, v35, .int .i64 x32.Reply.Err, .int .i64 x32.Reply.Out.Trap, .int .u8 x32.Reply.Out.Result.Kind, .int .i64 x32.Reply.Out.Result.A, .int .i64 x32.Reply.Out.Result.B, .int .i64 x32.Start, .int .i64 x32.End, .int .i64 x32.Steps] 43, slO k_history_Call 48 v27 l26] w2) ?_ ?_
      · rintro a w2 ⟨ha, hw⟩
        refine SP.app ha hw ?_
        clear ha hw a w2
        refine SP.nil ?_
        refine QE.then ?_
        rcases if_some ho with ⟨hc, ho⟩ | ⟨hc, ho⟩
        · refine CP.condT rfl hc ?_
          refine CP.region ?_
          refine SP.val (Val.move rfl) rfl rfl rfl ?_
          refine SP.val (Val.fieldAddr Try.underlying43 rfl sz3 rfl) rfl rfl rfl ?_
          refine SP.val (Val.load1 0 rfl Try.underlying3 rfl rfl rfl) rfl rfl rfl ?_
          refine SP.val (Val.fieldAddr Try.underlying43 rfl sz34 rfl) rfl rfl rfl ?_
          refine SP.val (Val.loadA 0 rfl Try.underlying34 rfl sz34 rfl rfl rfl) rfl rfl rfl ?_
          refine SP.val (Val.fieldAddr Try.underlying43 rfl sz5 rfl) rfl rfl rfl ?_
          refine SP.val (Val.load1 0 rfl Try.underlying5 rfl rfl rfl) rfl rfl rfl ?_
          refine SP.val (Val.eql rfl rfl) rfl rfl rfl ?_
          refine SP.val (Val.fieldAddr Try.underlying43 rfl sz41 rfl) rfl rfl rfl ?_
          refine SP.val (Val.loadA 0 rfl Try.underlying41 rfl sz41 rfl rfl rfl) rfl rfl rfl ?_
          refine SP.val (Val.fieldAddr Try.underlying43 rfl sz3 rfl) rfl rfl rfl ?_
          refine SP.val (Val.load1 0 rfl Try.underlying3 rfl rfl rfl) rfl rfl rfl ?_
          refine SP.val (Val.fieldAddr Try.underlying43 rfl sz3 rfl) rfl rfl rfl ?_
          refine SP.val (Val.load1 0 rfl Try.underlying3 rfl rfl rfl) rfl rfl rfl ?_
          refine SP.val (Val.buildC (us := [(0, .int .i64 x32.Proc), (1, .agg #[.int .u8 x32.Op.Kind, .int .i64 x32.Op.Method, v33, v35]), (2, .bool (decide (x32.Kind = 2))), (3, .agg #[.int .i64 x32.Reply.Err, .int .i64 x32.Reply.Out.Trap, .int .u8 x32.Reply.Out.Result.Kind, .int .i64 x32.Reply.Out.Result.A, .int .i64 x32.Reply.Out.Result.B]), (4, .int .i64 x32.Start), (5, .int .i64 x32.End)]) (ucs := [(0, [.int .i64 x32.Proc]), (1, [.int .u8 x32.Op.Kind, .int .i64 x32.Op.Method, v33, v35]), (2, [.bool (decide (x32.Kind = 2))]), (3, [.int .i64 x32.Reply.Err, .int .i64 x32.Reply.Out.Trap, .int .u8 x32.Reply.Out.Result.Kind, .int .i64 x32.Reply.Out.Result.A, .int .i64 x32.Reply.Out.Result.B]), (4, [.int .i64 x32.Start]), (5, [.int .i64 x32.End])]) (cs := [.int .i64 x32.Proc, .int .u8 x32.Op.Kind, .int .i64 x32.Op.Method, v33, v35, .bool (decide (x32.Kind = 2)), .int .i64 x32.Reply.Err, .int .i64 x32.Reply.Out.Trap, .int .u8 x32.Reply.Out.Result.Kind, .int .i64 x32.Reply.Out.Result.A, .int .i64 x32.Reply.Out.Result.B, .int .i64 x32.Start, .int .i64 x32.End]) bt48 rfl rfl ⟨rfl, rfl, ⟨rfl, rfl, ⟨rfl, rfl, ⟨rfl, rfl, ⟨rfl, rfl, ⟨rfl, rfl, trivial⟩⟩⟩⟩⟩⟩ (by rfl)) rfl rfl rfl ?_
          refine SP.lit (k := k_history_Call) (xs := [(⟨x32.Proc, (⟨x32.Op.Kind, x32.Op.Method, x32.Op.Args, x32.Op.Bytes⟩ : api_Op), decide (x32.Kind = 2), (⟨x32.Reply.Err, (⟨x32.Reply.Out.Trap, (⟨x32.Reply.Out.Result.Kind, x32.Reply.Out.Result.A, x32.Reply.Out.Result.B⟩ : api_Value)⟩ : api_Outcome)⟩ : api_Reply), x32.Start, x32.End⟩ : history_Call)]) (vs := [.agg #[.int .i64 x32.Proc, .int .u8 x32.Op.Kind, .int .i64 x32.Op.Method, v33, v35, .bool (decide (x32.Kind = 2)), .int .i64 x32.Reply.Err, .int .i64 x32.Reply.Out.Trap, .int .u8 x32.Reply.Out.Result.Kind, .int .i64 x32.Reply.Out.Result.A, .int .i64 x32.Reply.Out.Result.B, .int .i64 x32.Start, .int .i64 x32.End]]) (cells := [.int .i64 x32.Proc, .int .u8 x32.Op.Kind, .int .i64 x32.Op.Method, v33, v35, .bool (decide (x32.Kind = 2)), .int .i64 x32.Reply.Err, .int .i64 x32.Reply.Out.Trap, .int .u8 x32.Reply.Out.Result.Kind, .int .i64 x32.Reply.Out.Result.A, .int .i64 x32.Reply.Out.Result.B, .int .i64 x32.Start, .int .i64 x32.End]) Try.underlying44 inf48 rfl rfl rfl rfl rfl rfl rfl rfl (fun _ ap => ⟨[.int .i64 x32.Proc, .int .u8 x32.Op.Kind, .int .i64 x32.Op.Method, v33, v35, .bool (decide (x32.Kind = 2)), .int .i64 x32.Reply.Err, .int .i64 x32.Reply.Out.Trap, .int .u8 x32.Reply.Out.Result.Kind, .int .i64 x32.Reply.Out.Result.A, .int .i64 x32.Reply.Out.Result.B, .int .i64 x32.Start, .int .i64 x32.End], _, rfl, ⟨_, _, rfl, ap.get 0 rfl, ap.get 1 rfl⟩, rfl⟩) rfl rfl rfl (fun v41 => ?_)
          refine SP.freezeS see 0 rfl ?_
          obtain ⟨hb, ho⟩ := must_some ho
          refine SP.append see 1 rfl 0 rfl Try.underlying44 inf48 rfl rfl hb rfl rfl rfl rfl rfl (fun v43 => ?_)
          clear hb
          refine SP.val (Val.assign rfl) rfl rfl rfl ?_
          refine SP.nil ?_
          refine QE.blockN ?_
          exact QE.meet fun a w2 ha hw => ⟨(l26 ++ [(⟨x32.Proc, (⟨x32.Op.Kind, x32.Op.Method, x32.Op.Args, x32.Op.Bytes⟩ : api_Op), decide (x32.Kind = 2), (⟨x32.Reply.Err, (⟨x32.Reply.Out.Trap, (⟨x32.Reply.Out.Result.Kind, x32.Reply.Out.Result.A, x32.Reply.Out.Result.B⟩ : api_Value)⟩ : api_Outcome)⟩ : api_Reply), x32.Start, x32.End⟩ : history_Call)]), v43, m29, _, (by omega), ho, hr, ha.sub ⟨rfl, rfl, rfl, trivial⟩, (St.selP [4] rfl (St.selO [1] rfl rfl hw))⟩
        · refine CP.condF rfl (bf hc) ?_
          refine CP.skip ?_
          refine QE.blockN ?_
          exact QE.meet fun a w2 ha hw => ⟨l26, v27, m29, _, (by omega), ho, hr, ha.sub ⟨rfl, rfl, rfl, trivial⟩, (St.selP [3] rfl (St.selO [1] rfl rfl hw))⟩
      · intro J
        by_cases hc : x32.Kind = 1
        · have hq40 := (decide_eq_true hc)
          refine SP.isT (d := 19) rfl hq40 ?_
          refine SP.not rfl rfl rfl ?_
          refine SP.not rfl rfl rfl ?_
          refine SP.not rfl rfl rfl ?_
          refine SP.val (Val.pickT rfl rfl) rfl rfl rfl ?_
          exact J fun a w2 ha hw => ⟨ha.sub ⟨rfl, rfl, rfl, rfl, congrArg (fun z => some (Value.bool z)) (or_t hq40), trivial⟩, hw⟩
        · have hq40 := (decide_eq_false hc)
          refine SP.isF (d := 19) rfl hq40 ?_
          refine SP.val (Val.fieldAddr Try.underlying43 rfl sz5 rfl) rfl rfl rfl ?_
          refine SP.val (Val.load1 0 rfl Try.underlying5 rfl rfl rfl) rfl rfl rfl ?_
          refine SP.val (Val.eql rfl rfl) rfl rfl rfl ?_
          refine SP.val (Val.pickF rfl rfl) rfl rfl rfl ?_
          exact J fun a w2 ha hw => ⟨ha.sub ⟨rfl, rfl, rfl, rfl, congrArg (fun z => some (Value.bool z)) (or_f hq40 rfl), trivial⟩, hw⟩
  · refine CP.condF rfl (decide_eq_false hc) ?_
    refine CP.exit ?_
    refine QE.thru (by intro e; cases e) ?_
    refine QE.thru (by intro e; cases e) ?_
    refine QE.blockE ?_
    refine QE.then ?_
    refine CP.seq ?_
    refine CP.region ?_
    refine SP.val (Val.move rfl) rfl rfl rfl ?_
    refine SP.val (Val.assign rfl) rfl rfl rfl ?_
    refine SP.nil ?_
    refine QE.then ?_
    refine CP.ret ?_
    obtain rfl := Option.some.inj ho
    obtain rfl := Option.some.inj hr
    exact QE.rets (rs := [.tmp 2]) (vs := [v27]) Try.results12 ⟨RVs.tmp rfl, trivial⟩ (fun w2 h => St.done (fun a b p s => ⟨_, rfl, s⟩) (St.selO [0] rfl rfl h))
/-! ### capstan/history.Of$1: function 39 -/
def history_Of_1.f (c_0 : engine_Call) : Option Bool :=
  some ((decide (c_0.Kind = 1)) || (decide (c_0.Kind = 2)))
theorem history_Of_1.ok (c_0 : engine_Call) (v_c_0_Op_Args : Value) (v_c_0_Op_Bytes : Value) (r : Bool) (H : history_Of_1.f c_0 = some r) (w : World) (hV : Hp) (sV : Sub hV (hp w)) (h0 : slR k_api_Value hV v_c_0_Op_Args c_0.Op.Args) (h1 : slR (kInt .u8) hV v_c_0_Op_Bytes c_0.Op.Bytes) :
    Trip Try.prog 39 [.agg #[.int .i64 c_0.Proc, .int .u8 c_0.Kind, .int .u8 c_0.Op.Kind, .int .i64 c_0.Op.Method, v_c_0_Op_Args, v_c_0_Op_Bytes, .int .i64 c_0.Reply.Err, .int .i64 c_0.Reply.Out.Trap, .int .u8 c_0.Reply.Out.Result.Kind, .int .i64 c_0.Reply.Out.Result.A, .int .i64 c_0.Reply.Out.Result.B, .int .i64 c_0.Start, .int .i64 c_0.End, .int .i64 c_0.Steps]].toArray em hV w (fun v => HO.pure (v = .bool r)) := by
  have see : Sees w em hV := ⟨sV, Dj.em_right _⟩
  refine Trip.of (P := Try.prog) (n := 11) Try.func39 rfl rfl rfl (St.begin (All.cons (x := slP k_api_Value v_c_0_Op_Args c_0.Op.Args) h0 (All.cons (x := slP (kInt .u8) v_c_0_Op_Bytes c_0.Op.Bytes) h1 (All.nil _)))) ?_
  have ho := H
  refine CP.seq ?_
  refine CP.region ?_
  refine SP.box (cs := [.int .i64 c_0.Proc, .int .u8 c_0.Kind, .int .u8 c_0.Op.Kind, .int .i64 c_0.Op.Method, v_c_0_Op_Args, v_c_0_Op_Bytes, .int .i64 c_0.Reply.Err, .int .i64 c_0.Reply.Out.Trap, .int .u8 c_0.Reply.Out.Result.Kind, .int .i64 c_0.Reply.Out.Result.A, .int .i64 c_0.Reply.Out.Result.B, .int .i64 c_0.Start, .int .i64 c_0.End, .int .i64 c_0.Steps]) rfl rfl rfl rfl (fun b3 => ?_)
  refine SP.val (Val.assign rfl) rfl rfl rfl ?_
  refine SP.nil ?_
  refine QE.then ?_
  refine CP.seq ?_
  refine CP.region ?_
  refine SP.val (Val.fieldAddr Try.underlying43 rfl sz5 rfl) rfl rfl rfl ?_
  refine SP.val (Val.load1 0 rfl Try.underlying5 rfl rfl rfl) rfl rfl rfl ?_
  refine SP.val (Val.eql rfl rfl) rfl rfl rfl ?_
  refine SP.val (Val.move rfl) rfl rfl rfl ?_
  refine SP.join 4 (fun a w2 => Env 11 [(10, .bool ((decide (c_0.Kind = 1)) || (decide (c_0.Kind = 2))))] a ∧ St w em hV [slP k_api_Value v_c_0_Op_Args c_0.Op.Args, slP (kInt .u8) v_c_0_Op_Bytes c_0.Op.Bytes] [boxO b3 [.int .i64 c_0.Proc, .int .u8 c_0.Kind, .int .u8 c_0.Op.Kind, .int .i64 c_0.Op.Method, v_c_0_Op_Args, v_c_0_Op_Bytes, .int .i64 c_0.Reply.Err, .int .i64 c_0.Reply.Out.Trap, .int .u8 c_0.Reply.Out.Result.Kind, .int .i64 c_0.Reply.Out.Result.A, .int .i64 c_0.Reply.Out.Result.B, .int .i64 c_0.Start, .int .i64 c_0.End, .int .i64 c_0.Steps] 43] w2) ?_ ?_
  · rintro a w2 ⟨ha, hw⟩
    refine SP.app ha hw ?_
    clear ha hw a w2
    refine SP.val (Val.assign rfl) rfl rfl rfl ?_
    refine SP.nil ?_
    refine QE.then ?_
    refine CP.ret ?_
    obtain rfl := Option.some.inj ho
    exact QE.rets (rs := [.tmp 2]) (vs := [.bool ((decide (c_0.Kind = 1)) || (decide (c_0.Kind = 2)))]) Try.results39 ⟨RVs.tmp rfl, trivial⟩ (fun w2 h => St.done (fun a b p s => rfl) h)
  · intro J
    by_cases hc : c_0.Kind = 1
    · have hq6 := (decide_eq_true hc)
      refine SP.isT (d := 6) rfl hq6 ?_
      refine SP.not rfl rfl rfl ?_
      refine SP.not rfl rfl rfl ?_
      refine SP.not rfl rfl rfl ?_
      refine SP.val (Val.pickT rfl rfl) rfl rfl rfl ?_
      exact J fun a w2 ha hw => ⟨ha.sub ⟨congrArg (fun z => some (Value.bool z)) (or_t hq6), trivial⟩, hw⟩
    · have hq6 := (decide_eq_false hc)
      refine SP.isF (d := 6) rfl hq6 ?_
      refine SP.val (Val.fieldAddr Try.underlying43 rfl sz5 rfl) rfl rfl rfl ?_
      refine SP.val (Val.load1 0 rfl Try.underlying5 rfl rfl rfl) rfl rfl rfl ?_
      refine SP.val (Val.eql rfl rfl) rfl rfl rfl ?_
      refine SP.val (Val.pickF rfl rfl) rfl rfl rfl ?_
      exact J fun a w2 ha hw => ⟨ha.sub ⟨congrArg (fun z => some (Value.bool z)) (or_f hq6 rfl), trivial⟩, hw⟩
/-! ### slices.Clone[[]capstan/api.Value,capstan/api.Value]: function 63 -/
def slices_Clone_api_Value_api_Value.f (s_0 : (List api_Value)) : Option (List api_Value) :=
  nilOr s_0 (some []) (if (([] : List api_Value).length + s_0.length) * 24 ≤ 140737488355328 then (some (([] : List api_Value) ++ s_0)) else none)
theorem slices_Clone_api_Value_api_Value.ok (s_0 : (List api_Value)) (v_s_0 : Value) (r : (List api_Value)) (H : slices_Clone_api_Value_api_Value.f s_0 = some r) (w : World) (hV : Hp) (sV : Sub hV (hp w)) (h0 : slR k_api_Value hV v_s_0 s_0) :
    Trip Try.prog 63 [v_s_0].toArray em hV w (fun v => HO.ex fun u0 : Value => HO.pand (v = u0) (HO.seps [slO k_api_Value 37 u0 r])) := by
  have see : Sees w em hV := ⟨sV, Dj.em_right _⟩
  refine Trip.of (P := Try.prog) (n := 8) Try.func63 rfl rfl rfl (St.begin (All.cons (x := slP k_api_Value v_s_0 s_0) h0 (All.nil _))) ?_
  have ho := H
  refine CP.seq ?_
  refine CP.region ?_
  refine SP.val (Val.assign rfl) rfl rfl rfl ?_
  refine SP.nil ?_
  refine QE.then ?_
  refine CP.seq ?_
  refine CP.seq ?_
  refine CP.region ?_
  refine SP.val (Val.move rfl) rfl rfl rfl ?_
  refine SP.val (Val.eqlNP see 0 rfl Try.underlying32 rfl rfl) rfl rfl rfl ?_
  refine SP.nil ?_
  refine QE.then ?_
  refine CP.have (fun w2 hw => slR.isNil (v := v_s_0) (St.pers 0 rfl see.sub see.dj hw)) (fun hnil => ?_)
  rcases Bool.eq_false_or_eq_true (nilB v_s_0) with hc | hc
  · replace ho := nilOr_t ho (hnil hc)
    refine CP.condT rfl hc ?_
    refine CP.seq ?_
    refine CP.region ?_
    refine SP.val (Val.assign rfl) rfl rfl rfl ?_
    refine SP.nil ?_
    refine QE.then ?_
    refine CP.ret ?_
    refine QE.thru (by intro e; cases e) ?_
    obtain rfl := Option.some.inj ho
    exact QE.rets (rs := [.tmp 2]) (vs := [(.slice none 0 0)]) Try.results63 ⟨RVs.tmp rfl, trivial⟩ (fun w2 h => St.done (fun a b p s => ⟨_, rfl, s⟩) (St.selO [0] rfl rfl (St.addO (slO.nil k_api_Value 37) h)))
  · replace ho := nilOr_f ho
    refine CP.condF rfl hc ?_
    refine CP.skip ?_
    refine QE.then ?_
    refine CP.seq ?_
    refine CP.region ?_
    refine SP.lit0 (k := k_api_Value) Try.underlying32 inf37 rfl rfl (fun v3 => ?_)
    refine SP.val (Val.move rfl) rfl rfl rfl ?_
    obtain ⟨hb, ho⟩ := must_some ho
    refine SP.append see 0 rfl 0 rfl Try.underlying32 inf37 rfl rfl hb rfl rfl rfl rfl rfl (fun v5 => ?_)
    clear hb
    refine SP.val (Val.assign rfl) rfl rfl rfl ?_
    refine SP.nil ?_
    refine QE.then ?_
    refine CP.ret ?_
    obtain rfl := Option.some.inj ho
    exact QE.rets (rs := [.tmp 2]) (vs := [v5]) Try.results63 ⟨RVs.tmp rfl, trivial⟩ (fun w2 h => St.done (fun a b p s => ⟨_, rfl, s⟩) (St.selO [0] rfl rfl h))
/-! ### bytes.Clone: function 64 -/
def bytes_Clone.f (b_0 : (List Int)) : Option (List Int) :=
  nilOr b_0 (some []) (if (([] : List Int).length + b_0.length) * 1 ≤ 140737488355328 then (some (([] : List Int) ++ b_0)) else none)
theorem bytes_Clone.ok (b_0 : (List Int)) (v_b_0 : Value) (r : (List Int)) (H : bytes_Clone.f b_0 = some r) (w : World) (hV : Hp) (sV : Sub hV (hp w)) (h0 : slR (kInt .u8) hV v_b_0 b_0) :
    Trip Try.prog 64 [v_b_0].toArray em hV w (fun v => HO.ex fun u0 : Value => HO.pand (v = u0) (HO.seps [slO (kInt .u8) 5 u0 r])) := by
  have see : Sees w em hV := ⟨sV, Dj.em_right _⟩
  refine Trip.of (P := Try.prog) (n := 8) Try.func64 rfl rfl rfl (St.begin (All.cons (x := slP (kInt .u8) v_b_0 b_0) h0 (All.nil _))) ?_
  have ho := H
  refine CP.seq ?_
  refine CP.region ?_
  refine SP.val (Val.assign rfl) rfl rfl rfl ?_
  refine SP.nil ?_
  refine QE.then ?_
  refine CP.seq ?_
  refine CP.seq ?_
  refine CP.region ?_
  refine SP.val (Val.move rfl) rfl rfl rfl ?_
  refine SP.val (Val.eqlNP see 0 rfl Try.underlying24 rfl rfl) rfl rfl rfl ?_
  refine SP.nil ?_
  refine QE.then ?_
  refine CP.have (fun w2 hw => slR.isNil (v := v_b_0) (St.pers 0 rfl see.sub see.dj hw)) (fun hnil => ?_)
  rcases Bool.eq_false_or_eq_true (nilB v_b_0) with hc | hc
  · replace ho := nilOr_t ho (hnil hc)
    refine CP.condT rfl hc ?_
    refine CP.seq ?_
    refine CP.region ?_
    refine SP.val (Val.assign rfl) rfl rfl rfl ?_
    refine SP.nil ?_
    refine QE.then ?_
    refine CP.ret ?_
    refine QE.thru (by intro e; cases e) ?_
    obtain rfl := Option.some.inj ho
    exact QE.rets (rs := [.tmp 2]) (vs := [(.slice none 0 0)]) Try.results64 ⟨RVs.tmp rfl, trivial⟩ (fun w2 h => St.done (fun a b p s => ⟨_, rfl, s⟩) (St.selO [0] rfl rfl (St.addO (slO.nil (kInt .u8) 5) h)))
  · replace ho := nilOr_f ho
    refine CP.condF rfl hc ?_
    refine CP.skip ?_
    refine QE.then ?_
    refine CP.seq ?_
    refine CP.region ?_
    refine SP.lit0 (k := (kInt .u8)) Try.underlying24 inf5 rfl rfl (fun v3 => ?_)
    refine SP.val (Val.move rfl) rfl rfl rfl ?_
    obtain ⟨hb, ho⟩ := must_some ho
    refine SP.append see 0 rfl 0 rfl Try.underlying24 inf5 rfl rfl hb rfl rfl rfl rfl rfl (fun v5 => ?_)
    clear hb
    refine SP.val (Val.assign rfl) rfl rfl rfl ?_
    refine SP.nil ?_
    refine QE.then ?_
    refine CP.ret ?_
    obtain rfl := Option.some.inj ho
    exact QE.rets (rs := [.tmp 2]) (vs := [v5]) Try.results64 ⟨RVs.tmp rfl, trivial⟩ (fun w2 h => St.done (fun a b p s => ⟨_, rfl, s⟩) (St.selO [0] rfl rfl h))
/-! ### capstan/entry.Copy: function 57 -/
def entry_Copy.f (op_0 : api_Op) : Option api_Op :=
  (slices_Clone_api_Value_api_Value.f op_0.Args).bind fun t22 => (bytes_Clone.f op_0.Bytes).bind fun t31 => some (⟨op_0.Kind, op_0.Method, t22, t31⟩ : api_Op)
theorem entry_Copy.ok (op_0 : api_Op) (v_op_0_Args : Value) (v_op_0_Bytes : Value) (r : api_Op) (H : entry_Copy.f op_0 = some r) (w : World) (hV : Hp) (sV : Sub hV (hp w)) (h0 : slR k_api_Value hV v_op_0_Args op_0.Args) (h1 : slR (kInt .u8) hV v_op_0_Bytes op_0.Bytes) :
    Trip Try.prog 57 [.agg #[.int .u8 op_0.Kind, .int .i64 op_0.Method, v_op_0_Args, v_op_0_Bytes]].toArray em hV w (fun v => HO.ex fun u0 : Value => HO.ex fun u1 : Value => HO.pand (v = .agg #[.int .u8 r.Kind, .int .i64 r.Method, u0, u1]) (HO.seps [slO k_api_Value 37 u0 r.Args, slO (kInt .u8) 5 u1 r.Bytes])) := by
  have see : Sees w em hV := ⟨sV, Dj.em_right _⟩
  refine Trip.of (P := Try.prog) (n := 12) Try.func57 rfl rfl rfl (St.begin (All.cons (x := slP k_api_Value v_op_0_Args op_0.Args) h0 (All.cons (x := slP (kInt .u8) v_op_0_Bytes op_0.Bytes) h1 (All.nil _)))) ?_
  have ho := H
  refine CP.seq ?_
  refine CP.region ?_
  refine SP.box (cs := [.int .u8 op_0.Kind, .int .i64 op_0.Method, v_op_0_Args, v_op_0_Bytes]) rfl rfl rfl rfl (fun b3 => ?_)
  refine SP.alloc (cs := [.int .u8 0, .int .i64 0, (.slice none 0 0), (.slice none 0 0)]) inf34 rfl rfl (fun b5 => ?_)
  refine SP.nil ?_
  refine QE.then ?_
  refine CP.seq ?_
  refine CP.drawA (by kernel_rfl) (fun w2 k h => h.drawn k) ?_
  refine DA.phase (fun i => Nat.ble 0 i && Nat.blt i 7) (fun w2 => St w em hV [slP k_api_Value v_op_0_Args op_0.Args, slP (kInt .u8) v_op_0_Bytes op_0.Bytes] [boxO b5 [.int .u8 0, .int .i64 0, (.slice none 0 0), (.slice none 0 0)] 34, boxO b3 [.int .u8 op_0.Kind, .int .i64 op_0.Method, v_op_0_Args, v_op_0_Bytes] 34] w2) ?_
  refine DT.take 0 rfl rfl rfl rfl (by kernel_rfl) (fun _ _ _ h => h) (Val.fieldAddr Try.underlying34 rfl sz32 rfl) (fun w2 hw => hw) ?_
  refine DT.take 1 rfl rfl rfl rfl (by kernel_rfl) (fun _ _ _ h => h) (Val.load1 1 rfl Try.underlying32 rfl rfl rfl) (fun w2 hw => hw) ?_
  refine DT.take 3 rfl rfl rfl rfl (by kernel_rfl) (fun _ _ _ h => h) (Val.fieldAddr Try.underlying34 rfl sz24 rfl) (fun w2 hw => hw) ?_
  refine DT.take 4 rfl rfl rfl rfl (by kernel_rfl) (fun _ _ _ h => h) (Val.load1 1 rfl Try.underlying24 rfl rfl rfl) (fun w2 hw => hw) ?_
  refine DT.one 2 rfl (by kernel_rfl) rfl ?_
  obtain ⟨t22, hc, ho⟩ := bind_some ho
  refine SP.callK see (caps := []) _ fn63 rfl rfl rfl rfl (fun w2 hP hs sub ap => slices_Clone_api_Value_api_Value.ok op_0.Args _ _ hc w2 hP sub (ap.get 0 rfl)) (fun vr => ?_)
  refine SP.ex (fun w2 h => St.open h) (fun v23 => ?_)
  refine SP.have (fun w2 h => (St.pand h).1.symm) (fun er => ?_)
  subst er
  refine SP.imp (fun w2 h => St.seps (St.pand h).2) ?_
  clear hc
  refine SP.nil ?_
  refine QE.atT (fun w2 hw => (St.selO [1, 2] rfl rfl hw)) ?_
  refine DT.take 6 rfl rfl rfl rfl (by kernel_rfl) (fun _ _ _ h => h) (Val.fieldAddr Try.underlying34 rfl sz32 rfl) (fun w2 hw => (St.selO [1, 2] rfl rfl hw)) ?_
  refine DT.one 5 rfl (by kernel_rfl) rfl ?_
  obtain ⟨t31, hc, ho⟩ := bind_some ho
  refine SP.callK see (caps := []) _ fn64 rfl rfl rfl rfl (fun w2 hP hs sub ap => bytes_Clone.ok op_0.Bytes _ _ hc w2 hP sub (ap.get 1 rfl)) (fun vr => ?_)
  refine SP.ex (fun w2 h => St.open h) (fun v32 => ?_)
  refine SP.have (fun w2 h => (St.pand h).1.symm) (fun er => ?_)
  subst er
  refine SP.imp (fun w2 h => St.seps (St.pand h).2) ?_
  clear hc
  refine SP.nil ?_
  refine QE.atT (fun w2 hw => (St.selO [2, 3] rfl rfl hw)) ?_
  refine DT.next (by kernel_rfl) ?_
  refine DA.one 7 rfl (by kernel_rfl) ?_
  refine SP.have (fun w2 hw => slO.shape (St.own 1 rfl see.sub see.dj hw)) (fun hs_v23 => ?_)
  refine SP.store (v := v23) (vs := [v23]) 3 (by rfl) sz32 (by rfl) (by rfl) (by rfl) (one_cells hs_v23) (one_cons hs_v23 (rfl)) (by rfl) ?_
  refine SP.nil ?_
  refine QE.atA ?_
  refine DA.one 8 rfl (by kernel_rfl) ?_
  refine SP.val (Val.fieldAddr Try.underlying34 rfl sz24 rfl) rfl rfl rfl ?_
  refine SP.nil ?_
  refine QE.atA ?_
  refine DA.one 9 rfl (by kernel_rfl) ?_
  refine SP.have (fun w2 hw => slO.shape (St.own 0 rfl see.sub see.dj hw)) (fun hs_v32 => ?_)
  refine SP.store (v := v32) (vs := [v32]) 3 (by rfl) sz24 (by rfl) (by rfl) (by rfl) (one_cells hs_v32) (one_cons hs_v32 (rfl)) (by rfl) ?_
  refine SP.nil ?_
  refine QE.atA ?_
  refine DA.done (by kernel_rfl) ?_
  refine QE.then ?_
  refine CP.seq ?_
  refine CP.region ?_
  refine SP.val (Val.loadA 3 rfl Try.underlying34 rfl sz34 rfl rfl rfl) rfl rfl rfl ?_
  refine SP.have (fun w2 hw => slO.shape (St.own 1 rfl see.sub see.dj hw)) (fun hs_v23 => ?_)
  refine SP.have (fun w2 hw => slO.shape (St.own 0 rfl see.sub see.dj hw)) (fun hs_v32 => ?_)
  refine SP.store (v := .agg #[.int .u8 op_0.Kind, .int .i64 op_0.Method, v23, v32]) (vs := [.int .u8 op_0.Kind, .int .i64 op_0.Method, v23, v32]) 2 (by rfl) sz34 (by rfl) (by rfl) (by rfl) (by rfl) (one_cons rfl (one_cons rfl (one_cons hs_v23 (one_cons hs_v32 (rfl))))) (by rfl) ?_
  refine SP.nil ?_
  refine QE.then ?_
  refine CP.ret ?_
  obtain rfl := Option.some.inj ho
  exact QE.rets (rs := [.cell 2 34]) (vs := [.agg #[.int .u8 op_0.Kind, .int .i64 op_0.Method, v23, v32]]) Try.results57 ⟨RVs.cellA 2 rfl rfl Try.underlying34 rfl sz34, trivial⟩ (fun w2 h => St.done (fun a b p s => ⟨_, _, rfl, s⟩) (St.selO [1, 0] rfl rfl h))
/-! ### capstan/history.own: function 42 -/
def history_own.f (c_0 : history_Call) : Option history_Call :=
  (entry_Copy.f c_0.Op).bind fun t7 => some (⟨c_0.Proc, (⟨t7.Kind, t7.Method, t7.Args, t7.Bytes⟩ : api_Op), c_0.Read, (⟨c_0.Reply.Err, (⟨c_0.Reply.Out.Trap, (⟨c_0.Reply.Out.Result.Kind, c_0.Reply.Out.Result.A, c_0.Reply.Out.Result.B⟩ : api_Value)⟩ : api_Outcome)⟩ : api_Reply), c_0.Start, c_0.End⟩ : history_Call)
theorem history_own.ok (c_0 : history_Call) (v_c_0_Op_Args : Value) (v_c_0_Op_Bytes : Value) (r : history_Call) (H : history_own.f c_0 = some r) (w : World) (hV : Hp) (sV : Sub hV (hp w)) (h0 : slR k_api_Value hV v_c_0_Op_Args c_0.Op.Args) (h1 : slR (kInt .u8) hV v_c_0_Op_Bytes c_0.Op.Bytes) :
    Trip Try.prog 42 [.agg #[.int .i64 c_0.Proc, .int .u8 c_0.Op.Kind, .int .i64 c_0.Op.Method, v_c_0_Op_Args, v_c_0_Op_Bytes, .bool c_0.Read, .int .i64 c_0.Reply.Err, .int .i64 c_0.Reply.Out.Trap, .int .u8 c_0.Reply.Out.Result.Kind, .int .i64 c_0.Reply.Out.Result.A, .int .i64 c_0.Reply.Out.Result.B, .int .i64 c_0.Start, .int .i64 c_0.End]].toArray em hV w (fun v => HO.ex fun u0 : Value => HO.ex fun u1 : Value => HO.pand (v = .agg #[.int .i64 r.Proc, .int .u8 r.Op.Kind, .int .i64 r.Op.Method, u0, u1, .bool r.Read, .int .i64 r.Reply.Err, .int .i64 r.Reply.Out.Trap, .int .u8 r.Reply.Out.Result.Kind, .int .i64 r.Reply.Out.Result.A, .int .i64 r.Reply.Out.Result.B, .int .i64 r.Start, .int .i64 r.End]) (HO.seps [slO k_api_Value 37 u0 r.Op.Args, slO (kInt .u8) 5 u1 r.Op.Bytes])) := by
  have see : Sees w em hV := ⟨sV, Dj.em_right _⟩
  refine Trip.of (P := Try.prog) (n := 8) Try.func42 rfl rfl rfl (St.begin (All.cons (x := slP k_api_Value v_c_0_Op_Args c_0.Op.Args) h0 (All.cons (x := slP (kInt .u8) v_c_0_Op_Bytes c_0.Op.Bytes) h1 (All.nil _)))) ?_
  have ho := H
  refine CP.seq ?_
  refine CP.region ?_
  refine SP.box (cs := [.int .i64 c_0.Proc, .int .u8 c_0.Op.Kind, .int .i64 c_0.Op.Method, v_c_0_Op_Args, v_c_0_Op_Bytes, .bool c_0.Read, .int .i64 c_0.Reply.Err, .int .i64 c_0.Reply.Out.Trap, .int .u8 c_0.Reply.Out.Result.Kind, .int .i64 c_0.Reply.Out.Result.A, .int .i64 c_0.Reply.Out.Result.B, .int .i64 c_0.Start, .int .i64 c_0.End]) rfl rfl rfl rfl (fun b3 => ?_)
  refine SP.alloc (cs := [.int .i64 0, .int .u8 0, .int .i64 0, (.slice none 0 0), (.slice none 0 0), .bool false, .int .i64 0, .int .i64 0, .int .u8 0, .int .i64 0, .int .i64 0, .int .i64 0, .int .i64 0]) inf48 rfl rfl (fun b5 => ?_)
  refine SP.nil ?_
  refine QE.then ?_
  refine CP.seq ?_
  refine CP.region ?_
  refine SP.val (Val.fieldAddr Try.underlying48 rfl sz34 rfl) rfl rfl rfl ?_
  refine SP.val (Val.loadA 1 rfl Try.underlying34 rfl sz34 rfl rfl rfl) rfl rfl rfl ?_
  obtain ⟨t7, hc, ho⟩ := bind_some ho
  refine SP.callK see (caps := []) _ fn57 rfl rfl rfl rfl (fun w2 hP hs sub ap => entry_Copy.ok c_0.Op _ _ _ hc w2 hP sub (ap.get 0 rfl) (ap.get 1 rfl)) (fun vr => ?_)
  refine SP.ex (fun w2 h => St.open h) (fun v8 => ?_)
  refine SP.ex (fun w2 h => St.open h) (fun v9 => ?_)
  refine SP.have (fun w2 h => (St.pand h).1.symm) (fun er => ?_)
  subst er
  refine SP.imp (fun w2 h => St.seps (St.pand h).2) ?_
  clear hc
  refine SP.val (Val.fieldAddr Try.underlying48 rfl sz34 rfl) rfl rfl rfl ?_
  refine SP.have (fun w2 hw => slO.shape (St.own 0 rfl see.sub see.dj hw)) (fun hs_v8 => ?_)
  refine SP.have (fun w2 hw => slO.shape (St.own 1 rfl see.sub see.dj hw)) (fun hs_v9 => ?_)
  refine SP.store (v := .agg #[.int .u8 t7.Kind, .int .i64 t7.Method, v8, v9]) (vs := [.int .u8 t7.Kind, .int .i64 t7.Method, v8, v9]) 3 (by rfl) sz34 (by rfl) (by rfl) (by rfl) (by rfl) (one_cons rfl (one_cons rfl (one_cons hs_v8 (one_cons hs_v9 (rfl))))) (by rfl) ?_
  refine SP.nil ?_
  refine QE.then ?_
  refine CP.seq ?_
  refine CP.region ?_
  refine SP.val (Val.loadA 3 rfl Try.underlying48 rfl sz48 rfl rfl rfl) rfl rfl rfl ?_
  refine SP.have (fun w2 hw => slO.shape (St.own 0 rfl see.sub see.dj hw)) (fun hs_v8 => ?_)
  refine SP.have (fun w2 hw => slO.shape (St.own 1 rfl see.sub see.dj hw)) (fun hs_v9 => ?_)
  refine SP.store (v := .agg #[.int .i64 c_0.Proc, .int .u8 t7.Kind, .int .i64 t7.Method, v8, v9, .bool c_0.Read, .int .i64 c_0.Reply.Err, .int .i64 c_0.Reply.Out.Trap, .int .u8 c_0.Reply.Out.Result.Kind, .int .i64 c_0.Reply.Out.Result.A, .int .i64 c_0.Reply.Out.Result.B, .int .i64 c_0.Start, .int .i64 c_0.End]) (vs := [.int .i64 c_0.Proc, .int .u8 t7.Kind, .int .i64 t7.Method, v8, v9, .bool c_0.Read, .int .i64 c_0.Reply.Err, .int .i64 c_0.Reply.Out.Trap, .int .u8 c_0.Reply.Out.Result.Kind, .int .i64 c_0.Reply.Out.Result.A, .int .i64 c_0.Reply.Out.Result.B, .int .i64 c_0.Start, .int .i64 c_0.End]) 2 (by rfl) sz48 (by rfl) (by rfl) (by rfl) (by rfl) (one_cons rfl (one_cons rfl (one_cons rfl (one_cons hs_v8 (one_cons hs_v9 (one_cons rfl (one_cons rfl (one_cons rfl (one_cons rfl (one_cons rfl (one_cons rfl (one_cons rfl (one_cons rfl (rfl)))))))))))))) (by rfl) ?_
  refine SP.nil ?_
  refine QE.then ?_
  refine CP.ret ?_
  obtain rfl := Option.some.inj ho
  exact QE.rets (rs := [.cell 2 48]) (vs := [.agg #[.int .i64 c_0.Proc, .int .u8 t7.Kind, .int .i64 t7.Method, v8, v9, .bool c_0.Read, .int .i64 c_0.Reply.Err, .int .i64 c_0.Reply.Out.Trap, .int .u8 c_0.Reply.Out.Result.Kind, .int .i64 c_0.Reply.Out.Result.A, .int .i64 c_0.Reply.Out.Result.B, .int .i64 c_0.Start, .int .i64 c_0.End]]) Try.results42 ⟨RVs.cellA 2 rfl rfl Try.underlying48 rfl sz48, trivial⟩ (fun w2 h => St.done (fun a b p s => ⟨_, _, rfl, s⟩) (St.selO [0, 1] rfl rfl h))
/-! ### capstan/history.Of$2: function 41 -/
def history_Of_2.f (c_0 : engine_Call) : Option history_Call :=
  (history_own.f (⟨c_0.Proc, (⟨c_0.Op.Kind, c_0.Op.Method, c_0.Op.Args, c_0.Op.Bytes⟩ : api_Op), decide (c_0.Kind = 2), (⟨c_0.Reply.Err, (⟨c_0.Reply.Out.Trap, (⟨c_0.Reply.Out.Result.Kind, c_0.Reply.Out.Result.A, c_0.Reply.Out.Result.B⟩ : api_Value)⟩ : api_Outcome)⟩ : api_Reply), c_0.Start, c_0.End⟩ : history_Call)).bind fun t7 => some t7
theorem history_Of_2.ok (c_0 : engine_Call) (v_c_0_Op_Args : Value) (v_c_0_Op_Bytes : Value) (r : history_Call) (H : history_Of_2.f c_0 = some r) (w : World) (hV : Hp) (sV : Sub hV (hp w)) (h0 : slR k_api_Value hV v_c_0_Op_Args c_0.Op.Args) (h1 : slR (kInt .u8) hV v_c_0_Op_Bytes c_0.Op.Bytes) :
    Trip Try.prog 41 [.agg #[.int .i64 c_0.Proc, .int .u8 c_0.Kind, .int .u8 c_0.Op.Kind, .int .i64 c_0.Op.Method, v_c_0_Op_Args, v_c_0_Op_Bytes, .int .i64 c_0.Reply.Err, .int .i64 c_0.Reply.Out.Trap, .int .u8 c_0.Reply.Out.Result.Kind, .int .i64 c_0.Reply.Out.Result.A, .int .i64 c_0.Reply.Out.Result.B, .int .i64 c_0.Start, .int .i64 c_0.End, .int .i64 c_0.Steps]].toArray em hV w (fun v => HO.ex fun u0 : Value => HO.ex fun u1 : Value => HO.pand (v = .agg #[.int .i64 r.Proc, .int .u8 r.Op.Kind, .int .i64 r.Op.Method, u0, u1, .bool r.Read, .int .i64 r.Reply.Err, .int .i64 r.Reply.Out.Trap, .int .u8 r.Reply.Out.Result.Kind, .int .i64 r.Reply.Out.Result.A, .int .i64 r.Reply.Out.Result.B, .int .i64 r.Start, .int .i64 r.End]) (HO.seps [slO k_api_Value 37 u0 r.Op.Args, slO (kInt .u8) 5 u1 r.Op.Bytes])) := by
  have see : Sees w em hV := ⟨sV, Dj.em_right _⟩
  refine Trip.of (P := Try.prog) (n := 18) Try.func41 rfl rfl rfl (St.begin (All.cons (x := slP k_api_Value v_c_0_Op_Args c_0.Op.Args) h0 (All.cons (x := slP (kInt .u8) v_c_0_Op_Bytes c_0.Op.Bytes) h1 (All.nil _)))) ?_
  have ho := H
  refine CP.seq ?_
  refine CP.region ?_
  refine SP.box (cs := [.int .i64 c_0.Proc, .int .u8 c_0.Kind, .int .u8 c_0.Op.Kind, .int .i64 c_0.Op.Method, v_c_0_Op_Args, v_c_0_Op_Bytes, .int .i64 c_0.Reply.Err, .int .i64 c_0.Reply.Out.Trap, .int .u8 c_0.Reply.Out.Result.Kind, .int .i64 c_0.Reply.Out.Result.A, .int .i64 c_0.Reply.Out.Result.B, .int .i64 c_0.Start, .int .i64 c_0.End, .int .i64 c_0.Steps]) rfl rfl rfl rfl (fun b3 => ?_)
  refine SP.alloc (cs := [.int .i64 0, .int .u8 0, .int .i64 0, (.slice none 0 0), (.slice none 0 0), .bool false, .int .i64 0, .int .i64 0, .int .u8 0, .int .i64 0, .int .i64 0, .int .i64 0, .int .i64 0]) inf48 rfl rfl (fun b5 => ?_)
  refine SP.nil ?_
  refine QE.then ?_
  refine CP.seq ?_
  refine CP.region ?_
  refine SP.val (Val.fieldAddr Try.underlying43 rfl sz3 rfl) rfl rfl rfl ?_
  refine SP.val (Val.load1 1 rfl Try.underlying3 rfl rfl rfl) rfl rfl rfl ?_
  refine SP.val (Val.fieldAddr Try.underlying43 rfl sz34 rfl) rfl rfl rfl ?_
  refine SP.val (Val.loadA 1 rfl Try.underlying34 rfl sz34 rfl rfl rfl) rfl rfl rfl ?_
  refine SP.val (Val.fieldAddr Try.underlying43 rfl sz5 rfl) rfl rfl rfl ?_
  refine SP.val (Val.load1 1 rfl Try.underlying5 rfl rfl rfl) rfl rfl rfl ?_
  refine SP.val (Val.eql rfl rfl) rfl rfl rfl ?_
  refine SP.val (Val.fieldAddr Try.underlying43 rfl sz41 rfl) rfl rfl rfl ?_
  refine SP.val (Val.loadA 1 rfl Try.underlying41 rfl sz41 rfl rfl rfl) rfl rfl rfl ?_
  refine SP.val (Val.fieldAddr Try.underlying43 rfl sz3 rfl) rfl rfl rfl ?_
  refine SP.val (Val.load1 1 rfl Try.underlying3 rfl rfl rfl) rfl rfl rfl ?_
  refine SP.val (Val.fieldAddr Try.underlying43 rfl sz3 rfl) rfl rfl rfl ?_
  refine SP.val (Val.load1 1 rfl Try.underlying3 rfl rfl rfl) rfl rfl rfl ?_
  refine SP.val (Val.buildC (us := [(0, .int .i64 c_0.Proc), (1, .agg #[.int .u8 c_0.Op.Kind, .int .i64 c_0.Op.Method, v_c_0_Op_Args, v_c_0_Op_Bytes]), (2, .bool (decide (c_0.Kind = 2))), (3, .agg #[.int .i64 c_0.Reply.Err, .int .i64 c_0.Reply.Out.Trap, .int .u8 c_0.Reply.Out.Result.Kind, .int .i64 c_0.Reply.Out.Result.A, .int .i64 c_0.Reply.Out.Result.B]), (4, .int .i64 c_0.Start), (5, .int .i64 c_0.End)]) (ucs := [(0, [.int .i64 c_0.Proc]), (1, [.int .u8 c_0.Op.Kind, .int .i64 c_0.Op.Method, v_c_0_Op_Args, v_c_0_Op_Bytes]), (2, [.bool (decide (c_0.Kind = 2))]), (3, [.int .i64 c_0.Reply.Err, .int .i64 c_0.Reply.Out.Trap, .int .u8 c_0.Reply.Out.Result.Kind, .int .i64 c_0.Reply.Out.Result.A, .int .i64 c_0.Reply.Out.Result.B]), (4, [.int .i64 c_0.Start]), (5, [.int .i64 c_0.End])]) (cs := [.int .i64 c_0.Proc, .int .u8 c_0.Op.Kind, .int .i64 c_0.Op.Method, v_c_0_Op_Args, v_c_0_Op_Bytes, .bool (decide (c_0.Kind = 2)), .int .i64 c_0.Reply.Err, .int .i64 c_0.Reply.Out.Trap, .int .u8 c_0.Reply.Out.Result.Kind, .int .i64 c_0.Reply.Out.Result.A, .int .i64 c_0.Reply.Out.Result.B, .int .i64 c_0.Start, .int .i64 c_0.End]) bt48 rfl rfl ⟨rfl, rfl, ⟨rfl, rfl, ⟨rfl, rfl, ⟨rfl, rfl, ⟨rfl, rfl, ⟨rfl, rfl, trivial⟩⟩⟩⟩⟩⟩ (by rfl)) rfl rfl rfl ?_
  obtain ⟨t7, hc, ho⟩ := bind_some ho
  refine SP.callK see (caps := []) _ fn42 rfl rfl rfl rfl (fun w2 hP hs sub ap => history_own.ok (⟨c_0.Proc, (⟨c_0.Op.Kind, c_0.Op.Method, c_0.Op.Args, c_0.Op.Bytes⟩ : api_Op), decide (c_0.Kind = 2), (⟨c_0.Reply.Err, (⟨c_0.Reply.Out.Trap, (⟨c_0.Reply.Out.Result.Kind, c_0.Reply.Out.Result.A, c_0.Reply.Out.Result.B⟩ : api_Value)⟩ : api_Outcome)⟩ : api_Reply), c_0.Start, c_0.End⟩ : history_Call) _ _ _ hc w2 hP sub (ap.get 0 rfl) (ap.get 1 rfl)) (fun vr => ?_)
  refine SP.ex (fun w2 h => St.open h) (fun v8 => ?_)
  refine SP.ex (fun w2 h => St.open h) (fun v9 => ?_)
  refine SP.have (fun w2 h => (St.pand h).1.symm) (fun er => ?_)
  subst er
  refine SP.imp (fun w2 h => St.seps (St.pand h).2) ?_
  clear hc
  refine SP.have (fun w2 hw => slO.shape (St.own 0 rfl see.sub see.dj hw)) (fun hs_v8 => ?_)
  refine SP.have (fun w2 hw => slO.shape (St.own 1 rfl see.sub see.dj hw)) (fun hs_v9 => ?_)
  refine SP.store (v := .agg #[.int .i64 t7.Proc, .int .u8 t7.Op.Kind, .int .i64 t7.Op.Method, v8, v9, .bool t7.Read, .int .i64 t7.Reply.Err, .int .i64 t7.Reply.Out.Trap, .int .u8 t7.Reply.Out.Result.Kind, .int .i64 t7.Reply.Out.Result.A, .int .i64 t7.Reply.Out.Result.B, .int .i64 t7.Start, .int .i64 t7.End]) (vs := [.int .i64 t7.Proc, .int .u8 t7.Op.Kind, .int .i64 t7.Op.Method, v8, v9, .bool t7.Read, .int .i64 t7.Reply.Err, .int .i64 t7.Reply.Out.Trap, .int .u8 t7.Reply.Out.Result.Kind, .int .i64 t7.Reply.Out.Result.A, .int .i64 t7.Reply.Out.Result.B, .int .i64 t7.Start, .int .i64 t7.End]) 2 (by rfl) sz48 (by rfl) (by rfl) (by rfl) (by rfl) (one_cons rfl (one_cons rfl (one_cons rfl (one_cons hs_v8 (one_cons hs_v9 (one_cons rfl (one_cons rfl (one_cons rfl (one_cons rfl (one_cons rfl (one_cons rfl (one_cons rfl (one_cons rfl (rfl)))))))))))))) (by rfl) ?_
  refine SP.nil ?_
  refine QE.then ?_
  refine CP.ret ?_
  obtain rfl := Option.some.inj ho
  exact QE.rets (rs := [.cell 2 48]) (vs := [.agg #[.int .i64 t7.Proc, .int .u8 t7.Op.Kind, .int .i64 t7.Op.Method, v8, v9, .bool t7.Read, .int .i64 t7.Reply.Err, .int .i64 t7.Reply.Out.Trap, .int .u8 t7.Reply.Out.Result.Kind, .int .i64 t7.Reply.Out.Result.A, .int .i64 t7.Reply.Out.Result.B, .int .i64 t7.Start, .int .i64 t7.End]]) Try.results41 ⟨RVs.cellA 2 rfl rfl Try.underlying48 rfl sz48, trivial⟩ (fun w2 h => St.done (fun a b p s => ⟨_, _, rfl, s⟩) (St.selO [0, 1] rfl rfl h))
/-! ### capstan/history.kept[capstan/engine.Call,capstan/history.Call]: function 40 -/
inductive history_kept_engine_Call_history_Call_s1.S where
  | start
  | l1 (l30 : List history_Call) (x32 : Int)

def history_kept_engine_Call_history_Call_s1.j1 (l_0 : (List engine_Call)) (x32 : Int) (l54 : List history_Call) : Option (history_kept_engine_Call_history_Call_s1.S ⊕ (List history_Call)) :=
  some (.inl (.l1 l54 (IntKind.i64.wrap (x32 + 1))))

def history_kept_engine_Call_history_Call_s1.F (l_0 : (List engine_Call)) : history_kept_engine_Call_history_Call_s1.S → Option (history_kept_engine_Call_history_Call_s1.S ⊕ (List history_Call))
  | .start => some (.inl (.l1 [] 0))
  | .l1 l30 x32 => if x32 < (l_0.length : Int) then ((elt l_0 x32).bind fun x36 => (history_Of_1.f x36).bind fun t43 => if t43 = true then ((history_Of_2.f x36).bind fun t44 => if (l30.length + [t44].length) * 136 ≤ 140737488355328 then (history_kept_engine_Call_history_Call_s1.j1 l_0 x32 (l30 ++ [t44])) else none) else (history_kept_engine_Call_history_Call_s1.j1 l_0 x32 l30)) else (some (.inr l30))

def history_kept_engine_Call_history_Call_s1.f (l_0 : (List engine_Call)) : Option (List history_Call) := runF (history_kept_engine_Call_history_Call_s1.F l_0) .start
theorem history_kept_engine_Call_history_Call_s1.ok (l_0 : (List engine_Call)) (v_l_0 : Value) (r : (List history_Call)) (H : history_kept_engine_Call_history_Call_s1.f l_0 = some r) (w : World) (hV : Hp) (sV : Sub hV (hp w)) (h0 : slR k_engine_Call hV v_l_0 l_0) :
    Trip Try.prog 40 [v_l_0, .func (.func 39) #[] #[], .func (.func 41) #[] #[]].toArray em hV w (fun v => HO.ex fun u0 : Value => HO.pand (v = u0) (HO.seps [slD o_history_Call 48 u0 r])) := by
  have see : Sees w em hV := ⟨sV, Dj.em_right _⟩
  refine Trip.of (P := Try.prog) (n := 27) Try.func40 rfl rfl rfl (St.begin (All.cons (x := slP k_engine_Call v_l_0 l_0) h0 (All.nil _))) ?_
  obtain ⟨n0, hi⟩ := runF_iff.1 H
  obtain ⟨m0, o, hm0, ho, hr⟩ := iter_some hi
  clear hi
  refine CP.seq ?_
  refine CP.region ?_
  refine SP.val (Val.assign rfl) rfl rfl rfl ?_
  refine SP.nil ?_
  refine QE.then ?_
  refine CP.seq ?_
  refine CP.region ?_
  refine SP.val (Val.assign rfl) rfl rfl rfl ?_
  refine SP.nil ?_
  refine QE.then ?_
  refine CP.seq ?_
  refine CP.seq ?_
  refine CP.region ?_
  refine SP.val (Val.move rfl) rfl rfl rfl ?_
  refine SP.val (Val.lenP see 0 rfl Try.underlying30 rfl) rfl rfl rfl ?_
  refine SP.val (Val.move rfl) rfl rfl rfl ?_
  refine SP.nil ?_
  refine QE.then ?_
  refine CP.block ?_
  obtain rfl := Option.some.inj ho
  refine CP.loop (fun cl1 a w2 => ∃ l30 : List history_Call, ∃ x32 : Int, ∃ v31 : Value, cl1 ≤ m0 ∧ iter (history_kept_engine_Call_history_Call_s1.F l_0) cl1 (.l1 l30 x32) = some r ∧ Env 27 [(1, .func (.func 39) #[] #[]), (2, .func (.func 41) #[] #[]), (7, v31), (10, v_l_0), (11, .int .i64 (l_0.length : Int)), (12, .int .i64 x32)] a ∧ St w em hV [slP k_engine_Call v_l_0 l_0] [slD o_history_Call 48 v31 l30] w2) m0 (fun a w2 ha hw => ⟨[], 0, (.slice none 0 0), Nat.le_refl _, hr, ha.sub ⟨rfl, rfl, rfl, rfl, rfl, rfl, trivial⟩, (St.addO (slD.nil o_history_Call 48) hw)⟩) ?_
  clear hr
  rintro cl1 a w2 ⟨l30, x32, v31, hc_l1, hi, ha, hw⟩
  obtain ⟨m33, o, hm_m33, ho, hr⟩ := iter_some hi
  refine CP.app ha hw ?_
  clear ha hw a w2 hi
  refine CP.seq ?_
  refine CP.region ?_
  refine SP.val (Val.lss rfl rfl) rfl rfl rfl ?_
  refine SP.nil ?_
  refine QE.then ?_
  refine CP.seq ?_
  rcases if_some ho with ⟨hc, ho⟩ | ⟨hc, ho⟩
  · refine CP.condT rfl (decide_eq_true hc) ?_
    refine CP.skip ?_
    refine QE.then ?_
    refine CP.join (fun a w2 => ∃ l54 : List history_Call, ∃ v55 : Value, ∃ (m56 : Nat) (o : history_kept_engine_Call_history_Call_s1.S ⊕ (List history_Call)), m56 ≤ m33 ∧ history_kept_engine_Call_history_Call_s1.j1 l_0 x32 l54 = some o ∧ next (history_kept_engine_Call_history_Call_s1.F l_0) m56 o = some r ∧ Env 27 [(1, .func (.func 39) #[] #[]), (2, .func (.func 41) #[] #[]), (7, v55), (10, v_l_0), (11, .int .i64 (l_0.length : Int)), (12, .int .i64 x32)] a ∧ St w em hV [slP k_engine_Call v_l_0 l_0] [slD o_history_Call 48 v55 l54] w2) ?_ ?_
    · rintro a w2 ⟨l54, v55, m56, o, hm_m56, ho, hr, ha, hw⟩
      refine CP.app ha hw ?_
      clear ha hw a w2
      refine CP.region ?_
      refine SP.val (Val.add rfl rfl) rfl rfl rfl ?_
      refine SP.val (Val.move rfl) rfl rfl rfl ?_
      refine SP.nil ?_
      obtain rfl := Option.some.inj ho
      exact QE.lower m56 (by omega) fun a w2 ha hw => ⟨l54, (IntKind.i64.wrap (x32 + 1)), v55, (by omega), hr, ha.sub ⟨rfl, rfl, rfl, rfl, rfl, rfl, trivial⟩, hw⟩
    · refine CP.block ?_
      refine CP.seq ?_
      refine CP.region ?_
      obtain ⟨x36, hx, ho⟩ := bind_some ho
      have hx := elt_some hx
      refine SP.indexP see 0 rfl Try.underlying30 sz43 hx.1 hx.2 rfl rfl rfl rfl (fun p34 => ?_)
      clear hx
      refine k_engine_Call.load see 0 rfl Try.underlying43 rfl sz43 rfl rfl rfl (fun v37 v39 => ?_)
      refine SP.alloc (cs := [.int .i64 0, .int .u8 0, .int .u8 0, .int .i64 0, (.slice none 0 0), (.slice none 0 0), .int .i64 0, .int .i64 0, .int .u8 0, .int .i64 0, .int .i64 0, .int .i64 0, .int .i64 0, .int .i64 0]) inf43 rfl rfl (fun b41 => ?_)
      refine SP.have (fun w2 hw => slR.shape (St.pers 0 rfl see.sub see.dj hw)) (fun hs_v37 => ?_)
      refine SP.have (fun w2 hw => slR.shape (St.pers 1 rfl see.sub see.dj hw)) (fun hs_v39 => ?_)
      refine SP.store (v := .agg #[.int .i64 x36.Proc, .int .u8 x36.Kind, .int .u8 x36.Op.Kind, .int .i64 x36.Op.Method, v37, v39, .int .i64 x36.Reply.Err, .int .i64 x36.Reply.Out.Trap, .int .u8 x36.Reply.Out.Result.Kind, .int .i64 x36.Reply.Out.Result.A, .int .i64 x36.Reply.Out.Result.B, .int .i64 x36.Start, .int .i64 x36.End, .int .i64 x36.Steps]) (vs := [.int .i64 x36.Proc, .int .u8 x36.Kind, .int .u8 x36.Op.Kind, .int .i64 x36.Op.Method, v37, v39, .int .i64 x36.Reply.Err, .int .i64 x36.Reply.Out.Trap, .int .u8 x36.Reply.Out.Result.Kind, .int .i64 x36.Reply.Out.Result.A, .int .i64 x36.Reply.Out.Result.B, .int .i64 x36.Start, .int .i64 x36.End, .int .i64 x36.Steps]) 0 (by rfl) sz43 (by rfl) (by rfl) (by rfl) (by rfl) (one_cons rfl (one_cons rfl (one_cons rfl (one_cons rfl (one_cons hs_v37 (one_cons hs_v39 (one_cons rfl (one_cons rfl (one_cons rfl (one_cons rfl (one_cons rfl (one_cons rfl (one_cons rfl (one_cons rfl (rfl))))))))))))))) (by rfl) ?_
      refine SP.nil ?_
      refine QE.then ?_
      refine CP.seq ?_
      refine CP.region ?_
      refine SP.val (Val.move rfl) rfl rfl rfl ?_
      refine SP.val (Val.loadA 0 rfl Try.underlying43 rfl sz43 rfl rfl rfl) rfl rfl rfl ?_
      obtain ⟨t43, hc, ho⟩ := bind_some ho
      refine SP.callV see (caps := []) (.bool t43) fn39 rfl rfl rfl rfl (fun w2 hP hs sub ap => history_Of_1.ok x36 _ _ _ hc w2 hP sub (ap.get 0 rfl) (ap.get 1 rfl)) ?_
      clear hc
      refine SP.nil ?_
      refine QE.then ?_
      rcases if_some ho with ⟨hc, ho⟩ | ⟨hc, ho⟩
      · refine CP.condT rfl hc ?_
        refine CP.region ?_
        refine SP.val (Val.move rfl) rfl rfl rfl ?_
        refine SP.val (Val.move rfl) rfl rfl rfl ?_
        refine SP.val (Val.loadA 0 rfl Try.underlying43 rfl sz43 rfl rfl rfl) rfl rfl rfl ?_
        obtain ⟨t44, hc, ho⟩ := bind_some ho
        refine SP.callK see (caps := []) _ fn41 rfl rfl rfl rfl (fun w2 hP hs sub ap => history_Of_2.ok x36 _ _ _ hc w2 hP sub (ap.get 0 rfl) (ap.get 1 rfl)) (fun vr => ?_)
        refine SP.ex (fun w2 h => St.open h) (fun v45 => ?_)
        refine SP.ex (fun w2 h => St.open h) (fun v46 => ?_)
        refine SP.have (fun w2 h => (St.pand h).1.symm) (fun er => ?_)
        subst er
        refine SP.imp (fun w2 h => St.seps (St.pand h).2) ?_
        clear hc
        refine SP.have (fun w2 hw => slO.shape (St.own 0 rfl see.sub see.dj hw)) (fun hs_v45 => ?_)
        refine SP.have (fun w2 hw => slO.shape (St.own 1 rfl see.sub see.dj hw)) (fun hs_v46 => ?_)
        refine SP.lit (k := kRaw 13) (xs := [[.int .i64 t44.Proc, .int .u8 t44.Op.Kind, .int .i64 t44.Op.Method, v45, v46, .bool t44.Read, .int .i64 t44.Reply.Err, .int .i64 t44.Reply.Out.Trap, .int .u8 t44.Reply.Out.Result.Kind, .int .i64 t44.Reply.Out.Result.A, .int .i64 t44.Reply.Out.Result.B, .int .i64 t44.Start, .int .i64 t44.End]]) (vs := [.agg #[.int .i64 t44.Proc, .int .u8 t44.Op.Kind, .int .i64 t44.Op.Method, v45, v46, .bool t44.Read, .int .i64 t44.Reply.Err, .int .i64 t44.Reply.Out.Trap, .int .u8 t44.Reply.Out.Result.Kind, .int .i64 t44.Reply.Out.Result.A, .int .i64 t44.Reply.Out.Result.B, .int .i64 t44.Start, .int .i64 t44.End]]) (cells := [.int .i64 t44.Proc, .int .u8 t44.Op.Kind, .int .i64 t44.Op.Method, v45, v46, .bool t44.Read, .int .i64 t44.Reply.Err, .int .i64 t44.Reply.Out.Trap, .int .u8 t44.Reply.Out.Result.Kind, .int .i64 t44.Reply.Out.Result.A, .int .i64 t44.Reply.Out.Result.B, .int .i64 t44.Start, .int .i64 t44.End]) Try.underlying44 inf48 rfl rfl rfl rfl rfl rfl rfl rfl (fun _ ap => ⟨[.int .i64 t44.Proc, .int .u8 t44.Op.Kind, .int .i64 t44.Op.Method, v45, v46, .bool t44.Read, .int .i64 t44.Reply.Err, .int .i64 t44.Reply.Out.Trap, .int .u8 t44.Reply.Out.Result.Kind, .int .i64 t44.Reply.Out.Result.A, .int .i64 t44.Reply.Out.Result.B, .int .i64 t44.Start, .int .i64 t44.End], _, rfl, ⟨rfl, rfl, one_cons rfl (one_cons rfl (one_cons rfl (one_cons hs_v45 (one_cons hs_v46 (one_cons rfl (one_cons rfl (one_cons rfl (one_cons rfl (one_cons rfl (one_cons rfl (one_cons rfl (one_cons rfl (rfl)))))))))))))⟩, rfl⟩) rfl rfl rfl (fun v49 => ?_)
        refine SP.imp (fun w2 hw => St.litD (k := o_history_Call) [slO k_api_Value 37 v45 t44.Op.Args, slO (kInt .u8) 5 v46 t44.Op.Bytes] (St.selO [0, 1, 2, 3, 4] rfl rfl hw) (fun a b q => ⟨_, _, rfl, q⟩)) ?_
        refine SP.imp (fun w2 hw => St.selO [2, 0, 1] rfl rfl hw) ?_
        obtain ⟨hb, ho⟩ := must_some ho
        refine SP.appendD see Try.underlying44 inf48 rfl rfl hb rfl rfl rfl rfl rfl (fun v51 => ?_)
        clear hb
        refine SP.val (Val.assign rfl) rfl rfl rfl ?_
        refine SP.nil ?_
        refine QE.blockN ?_
        exact QE.meet fun a w2 ha hw => ⟨(l30 ++ [t44]), v51, m33, _, (by omega), ho, hr, ha.sub ⟨rfl, rfl, rfl, rfl, rfl, rfl, trivial⟩, (St.selP [3] rfl (St.selO [0] rfl rfl hw))⟩
      · refine CP.condF rfl (bf hc) ?_
        refine CP.skip ?_
        refine QE.blockN ?_
        exact QE.meet fun a w2 ha hw => ⟨l30, v31, m33, _, (by omega), ho, hr, ha.sub ⟨rfl, rfl, rfl, rfl, rfl, rfl, trivial⟩, (St.selP [3] rfl (St.selO [1] rfl rfl hw))⟩
  · refine CP.condF rfl (decide_eq_false hc) ?_
    refine CP.exit ?_
    refine QE.thru (by intro e; cases e) ?_
    refine QE.thru (by intro e; cases e) ?_
    refine QE.blockE ?_
    refine QE.then ?_
    refine CP.seq ?_
    refine CP.region ?_
    refine SP.val (Val.move rfl) rfl rfl rfl ?_
    refine SP.val (Val.assign rfl) rfl rfl rfl ?_
    refine SP.nil ?_
    refine QE.then ?_
    refine CP.ret ?_
    obtain rfl := Option.some.inj ho
    obtain rfl := Option.some.inj hr
    exact QE.rets (rs := [.tmp 6]) (vs := [v31]) Try.results40 ⟨RVs.tmp rfl, trivial⟩ (fun w2 h => St.done (fun a b p s => ⟨_, rfl, s⟩) (St.selO [0] rfl rfl h))
/-! ### capstan/history.Of: function 13 -/
def history_Of.f (l_0 : (List engine_Call)) : Option (List history_Call) :=
  (history_kept_engine_Call_history_Call_s1.f l_0).bind fun t2 => some t2
theorem history_Of.ok (l_0 : (List engine_Call)) (v_l_0 : Value) (r : (List history_Call)) (H : history_Of.f l_0 = some r) (w : World) (hV : Hp) (sV : Sub hV (hp w)) (h0 : slR k_engine_Call hV v_l_0 l_0) :
    Trip Try.prog 13 [v_l_0].toArray em hV w (fun v => HO.ex fun u0 : Value => HO.pand (v = u0) (HO.seps [slD o_history_Call 48 u0 r])) := by
  have see : Sees w em hV := ⟨sV, Dj.em_right _⟩
  refine Trip.of (P := Try.prog) (n := 7) Try.func13 rfl rfl rfl (St.begin (All.cons (x := slP k_engine_Call v_l_0 l_0) h0 (All.nil _))) ?_
  have ho := H
  refine CP.seq ?_
  refine CP.region ?_
  refine SP.val (Val.assign rfl) rfl rfl rfl ?_
  refine SP.nil ?_
  refine QE.then ?_
  refine CP.seq ?_
  refine CP.region ?_
  refine SP.val (Val.assign rfl) rfl rfl rfl ?_
  refine SP.nil ?_
  refine QE.then ?_
  refine CP.seq ?_
  refine CP.region ?_
  refine SP.val (Val.move rfl) rfl rfl rfl ?_
  refine SP.val (Val.move rfl) rfl rfl rfl ?_
  obtain ⟨t2, hc, ho⟩ := bind_some ho
  refine SP.callK see (caps := []) _ fn40 rfl rfl rfl rfl (fun w2 hP hs sub ap => history_kept_engine_Call_history_Call_s1.ok l_0 _ _ hc w2 hP sub (ap.get 0 rfl)) (fun vr => ?_)
  refine SP.ex (fun w2 h => St.open h) (fun v3 => ?_)
  refine SP.have (fun w2 h => (St.pand h).1.symm) (fun er => ?_)
  subst er
  refine SP.imp (fun w2 h => St.seps (St.pand h).2) ?_
  clear hc
  refine SP.val (Val.assign rfl) rfl rfl rfl ?_
  refine SP.nil ?_
  refine QE.then ?_
  refine CP.ret ?_
  obtain rfl := Option.some.inj ho
  exact QE.rets (rs := [.tmp 2]) (vs := [v3]) Try.results13 ⟨RVs.tmp rfl, trivial⟩ (fun w2 h => St.done (fun a b p s => ⟨_, rfl, s⟩) (St.selO [0] rfl rfl h))
/-! ### capstan/capstanref17.Same: function 58 -/
inductive capstanref17_Same.S where
  | start
  | l1 (x12 : Int)

def capstanref17_Same.F (a_0 : (List api_Value)) (b_1 : (List api_Value)) : capstanref17_Same.S → Option (capstanref17_Same.S ⊕ Bool)
  | .start => if (a_0.length : Int) ≠ (b_1.length : Int) then (some (.inr false)) else (some (.inl (.l1 0)))
  | .l1 x12 => if x12 < (a_0.length : Int) then ((elt a_0 x12).bind fun x16 => (elt b_1 x12).bind fun x20 => if (!(x16.Kind == x20.Kind && (x16.A == x20.A && (x16.B == x20.B)))) = true then (some (.inr false)) else (some (.inl (.l1 (IntKind.i64.wrap (x12 + 1)))))) else (some (.inr true))

def capstanref17_Same.f (a_0 : (List api_Value)) (b_1 : (List api_Value)) : Option Bool := runF (capstanref17_Same.F a_0 b_1) .start
theorem capstanref17_Same.ok (a_0 : (List api_Value)) (b_1 : (List api_Value)) (v_a_0 : Value) (v_b_1 : Value) (r : Bool) (H : capstanref17_Same.f a_0 b_1 = some r) (w : World) (hV : Hp) (sV : Sub hV (hp w)) (h0 : slR k_api_Value hV v_a_0 a_0) (h1 : slR k_api_Value hV v_b_1 b_1) :
    Trip Try.prog 58 [v_a_0, v_b_1].toArray em hV w (fun v => HO.pure (v = .bool r)) := by
  have see : Sees w em hV := ⟨sV, Dj.em_right _⟩
  refine Trip.of (P := Try.prog) (n := 26) Try.func58 rfl rfl rfl (St.begin (All.cons (x := slP k_api_Value v_a_0 a_0) h0 (All.cons (x := slP k_api_Value v_b_1 b_1) h1 (All.nil _)))) ?_
  obtain ⟨n0, hi⟩ := runF_iff.1 H
  obtain ⟨m0, o, hm0, ho, hr⟩ := iter_some hi
  clear hi
  refine CP.seq ?_
  refine CP.region ?_
  refine SP.val (Val.assign rfl) rfl rfl rfl ?_
  refine SP.nil ?_
  refine QE.then ?_
  refine CP.seq ?_
  refine CP.seq ?_
  refine CP.region ?_
  refine SP.val (Val.move rfl) rfl rfl rfl ?_
  refine SP.val (Val.lenP see 0 rfl Try.underlying32 rfl) rfl rfl rfl ?_
  refine SP.val (Val.move rfl) rfl rfl rfl ?_
  refine SP.val (Val.lenP see 1 rfl Try.underlying32 rfl) rfl rfl rfl ?_
  refine SP.val (Val.neq rfl rfl) rfl rfl rfl ?_
  refine SP.nil ?_
  refine QE.then ?_
  rcases if_some ho with ⟨hc, ho⟩ | ⟨hc, ho⟩
  · refine CP.condT rfl (decide_eq_true hc) ?_
    refine CP.seq ?_
    refine CP.region ?_
    refine SP.val (Val.assign rfl) rfl rfl rfl ?_
    refine SP.nil ?_
    refine QE.then ?_
    refine CP.ret ?_
    refine QE.thru (by intro e; cases e) ?_
    obtain rfl := Option.some.inj ho
    obtain rfl := Option.some.inj hr
    exact QE.rets (rs := [.tmp 4]) (vs := [.bool false]) Try.results58 ⟨RVs.tmp rfl, trivial⟩ (fun w2 h => St.done (fun a b p s => rfl) h)
  · refine CP.condF rfl (decide_eq_false hc) ?_
    refine CP.skip ?_
    refine QE.then ?_
    refine CP.seq ?_
    refine CP.seq ?_
    refine CP.region ?_
    refine SP.val (Val.assign rfl) rfl rfl rfl ?_
    refine SP.nil ?_
    refine QE.then ?_
    refine CP.block ?_
    obtain rfl := Option.some.inj ho
    refine CP.loop (fun cl1 a w2 => ∃ x12 : Int, cl1 ≤ m0 ∧ iter (capstanref17_Same.F a_0 b_1) cl1 (.l1 x12) = some r ∧ Env 26 [(0, v_a_0), (1, v_b_1), (5, .int .i64 x12)] a ∧ St w em hV [slP k_api_Value v_a_0 a_0, slP k_api_Value v_b_1 b_1] [] w2) m0 (fun a w2 ha hw => ⟨0, Nat.le_refl _, hr, ha.sub ⟨rfl, rfl, rfl, trivial⟩, hw⟩) ?_
    clear hr
    rintro cl1 a w2 ⟨x12, hc_l1, hi, ha, hw⟩
    obtain ⟨m13, o, hm_m13, ho, hr⟩ := iter_some hi
    refine CP.app ha hw ?_
    clear ha hw a w2 hi
    refine CP.seq ?_
    refine CP.seq ?_
    refine CP.region ?_
    refine SP.val (Val.move rfl) rfl rfl rfl ?_
    refine SP.val (Val.move rfl) rfl rfl rfl ?_
    refine SP.val (Val.lenP see 0 rfl Try.underlying32 rfl) rfl rfl rfl ?_
    refine SP.val (Val.lss rfl rfl) rfl rfl rfl ?_
    refine SP.nil ?_
    refine QE.then ?_
    rcases if_some ho with ⟨hc, ho⟩ | ⟨hc, ho⟩
    · refine CP.condT rfl (decide_eq_true hc) ?_
      refine CP.skip ?_
      refine QE.then ?_
      refine CP.seq ?_
      refine CP.block ?_
      refine CP.seq ?_
      refine CP.drawA (by kernel_rfl) (fun w2 k h => h.drawn k) ?_
      obtain ⟨x16, hx, ho⟩ := bind_some ho
      have hx := elt_some hx
      refine DA.ghost (fun w2 h => h.elem see 0 rfl hx.1 hx.2) (fun p14 h_p14 => ?_)
      clear hx
      refine DA.ghost (fun w2 h => h.openE see 0 rfl (fun _ : Unit => [.int .u8 x16.Kind, .int .i64 x16.A, .int .i64 x16.B]) (fun _ => []) (fun h cs e => ⟨(), e, All.nil _⟩)) (fun _ _ => ?_)
      obtain ⟨x20, hx, ho⟩ := bind_some ho
      have hx := elt_some hx
      refine DA.ghost (fun w2 h => h.elem see 3 rfl hx.1 hx.2) (fun p18 h_p18 => ?_)
      clear hx
      refine DA.ghost (fun w2 h => h.openE see 0 rfl (fun _ : Unit => [.int .u8 x20.Kind, .int .i64 x20.A, .int .i64 x20.B]) (fun _ => []) (fun h cs e => ⟨(), e, All.nil _⟩)) (fun _ _ => ?_)
      refine DA.phase (fun i => Nat.ble 0 i && Nat.blt i 9) (fun w2 => St w em hV [atP p18 [.int .u8 x20.Kind, .int .i64 x20.A, .int .i64 x20.B], elP k_api_Value p18 x20, atP p14 [.int .u8 x16.Kind, .int .i64 x16.A, .int .i64 x16.B], elP k_api_Value p14 x16, slP k_api_Value v_a_0 a_0, slP k_api_Value v_b_1 b_1] [] w2) ?_
      refine DT.take 0 rfl rfl rfl rfl (by kernel_rfl) (fun _ _ _ h => h) (Val.move rfl) (fun w2 hw => hw) ?_
      refine DT.take 1 rfl rfl rfl rfl (by kernel_rfl) (fun _ _ _ h => h) (Val.move rfl) (fun w2 hw => hw) ?_
      refine DT.take 2 rfl rfl rfl rfl (by kernel_rfl) (fun _ _ _ h => h) (Val.indexE h_p14 Try.underlying32 sz37 rfl rfl) (fun w2 hw => hw) ?_
      refine DT.take 3 rfl rfl rfl rfl (by kernel_rfl) (fun _ _ _ h => h) (Val.loadAtA see 2 rfl Try.underlying37 rfl sz37 rfl) (fun w2 hw => hw) ?_
      refine DT.take 4 rfl rfl rfl rfl (by kernel_rfl) (fun _ _ _ h => h) (Val.move rfl) (fun w2 hw => hw) ?_
      refine DT.take 5 rfl rfl rfl rfl (by kernel_rfl) (fun _ _ _ h => h) (Val.move rfl) (fun w2 hw => hw) ?_
      refine DT.take 6 rfl rfl rfl rfl (by kernel_rfl) (fun _ _ _ h => h) (Val.indexE h_p18 Try.underlying32 sz37 rfl rfl) (fun w2 hw => hw) ?_
      refine DT.take 7 rfl rfl rfl rfl (by kernel_rfl) (fun _ _ _ h => h) (Val.loadAtA see 0 rfl Try.underlying37 rfl sz37 rfl) (fun w2 hw => hw) ?_
      refine DT.take 8 rfl rfl rfl rfl (by kernel_rfl) (fun _ _ _ h => h) (Val.neqA (by kernel_rfl) (fun w2 => eqA37 9998 w2 x16.Kind x20.Kind x16.A x20.A x16.B x20.B) rfl rfl) (fun w2 hw => hw) ?_
      refine DT.next (by kernel_rfl) ?_
      refine DA.done (by kernel_rfl) ?_
      refine QE.then ?_
      rcases if_some ho with ⟨hc, ho⟩ | ⟨hc, ho⟩
      · refine CP.condT rfl hc ?_
        refine CP.seq ?_
        refine CP.region ?_
        refine SP.val (Val.assign rfl) rfl rfl rfl ?_
        refine SP.nil ?_
        refine QE.then ?_
        refine CP.ret ?_
        refine QE.blockR ?_
        refine QE.thru (by intro e; cases e) ?_
        refine QE.thru (by intro e; cases e) ?_
        refine QE.blockR ?_
        refine QE.thru (by intro e; cases e) ?_
        obtain rfl := Option.some.inj ho
        obtain rfl := Option.some.inj hr
        exact QE.rets (rs := [.tmp 4]) (vs := [.bool false]) Try.results58 ⟨RVs.tmp rfl, trivial⟩ (fun w2 h => St.done (fun a b p s => rfl) h)
      · refine CP.condF rfl (bf hc) ?_
        refine CP.skip ?_
        refine QE.blockN ?_
        refine QE.then ?_
        refine CP.region ?_
        refine SP.val (Val.move rfl) rfl rfl rfl ?_
        refine SP.val (Val.add rfl rfl) rfl rfl rfl ?_
        refine SP.val (Val.assign rfl) rfl rfl rfl ?_
        refine SP.nil ?_
        obtain rfl := Option.some.inj ho
        exact QE.lower m13 (by omega) fun a w2 ha hw => ⟨(IntKind.i64.wrap (x12 + 1)), (by omega), hr, ha.sub ⟨rfl, rfl, rfl, trivial⟩, (St.selP [4, 5] rfl hw)⟩
    · refine CP.condF rfl (decide_eq_false hc) ?_
      refine CP.exit ?_
      refine QE.thru (by intro e; cases e) ?_
      refine QE.thru (by intro e; cases e) ?_
      refine QE.blockE ?_
      refine QE.then ?_
      refine CP.seq ?_
      refine CP.region ?_
      refine SP.val (Val.assign rfl) rfl rfl rfl ?_
      refine SP.nil ?_
      refine QE.then ?_
      refine CP.ret ?_
      obtain rfl := Option.some.inj ho
      obtain rfl := Option.some.inj hr
      exact QE.rets (rs := [.tmp 4]) (vs := [.bool true]) Try.results58 ⟨RVs.tmp rfl, trivial⟩ (fun w2 h => St.done (fun a b p s => rfl) h)
/-! ### capstan/capstanref20.Same: function 43 -/
def capstanref20_Same.f (a_0 : api_Op) (b_1 : api_Op) : Option Bool :=
  (if ((decide (a_0.Kind = b_1.Kind)) && (decide (a_0.Method = b_1.Method))) = true then ((capstanref17_Same.f a_0.Args b_1.Args).bind fun t13 => some t13) else (some false)).bind fun t14 => some (t14 && ((strOfNums a_0.Bytes).toList == (strOfNums b_1.Bytes).toList))
theorem capstanref20_Same.ok (a_0 : api_Op) (b_1 : api_Op) (v_a_0_Args : Value) (v_a_0_Bytes : Value) (v_b_1_Args : Value) (v_b_1_Bytes : Value) (r : Bool) (H : capstanref20_Same.f a_0 b_1 = some r) (w : World) (hV : Hp) (sV : Sub hV (hp w)) (h0 : slR k_api_Value hV v_a_0_Args a_0.Args) (h1 : slR (kInt .u8) hV v_a_0_Bytes a_0.Bytes) (h2 : slR k_api_Value hV v_b_1_Args b_1.Args) (h3 : slR (kInt .u8) hV v_b_1_Bytes b_1.Bytes) :
    Trip Try.prog 43 [.agg #[.int .u8 a_0.Kind, .int .i64 a_0.Method, v_a_0_Args, v_a_0_Bytes], .agg #[.int .u8 b_1.Kind, .int .i64 b_1.Method, v_b_1_Args, v_b_1_Bytes]].toArray em hV w (fun v => HO.pure (v = .bool r)) := by
  have see : Sees w em hV := ⟨sV, Dj.em_right _⟩
  refine Trip.of (P := Try.prog) (n := 33) Try.func43 rfl rfl rfl (St.begin (All.cons (x := slP k_api_Value v_a_0_Args a_0.Args) h0 (All.cons (x := slP (kInt .u8) v_a_0_Bytes a_0.Bytes) h1 (All.cons (x := slP k_api_Value v_b_1_Args b_1.Args) h2 (All.cons (x := slP (kInt .u8) v_b_1_Bytes b_1.Bytes) h3 (All.nil _)))))) ?_
  have ho := H
  refine CP.seq ?_
  refine CP.region ?_
  refine SP.box (cs := [.int .u8 a_0.Kind, .int .i64 a_0.Method, v_a_0_Args, v_a_0_Bytes]) rfl rfl rfl rfl (fun b5 => ?_)
  refine SP.box (cs := [.int .u8 b_1.Kind, .int .i64 b_1.Method, v_b_1_Args, v_b_1_Bytes]) rfl rfl rfl rfl (fun b7 => ?_)
  refine SP.val (Val.assign rfl) rfl rfl rfl ?_
  refine SP.nil ?_
  refine QE.then ?_
  refine CP.seq ?_
  refine CP.region ?_
  refine SP.val (Val.fieldAddr Try.underlying34 rfl sz5 rfl) rfl rfl rfl ?_
  refine SP.val (Val.load1 1 rfl Try.underlying5 rfl rfl rfl) rfl rfl rfl ?_
  refine SP.val (Val.fieldAddr Try.underlying34 rfl sz5 rfl) rfl rfl rfl ?_
  refine SP.val (Val.load1 0 rfl Try.underlying5 rfl rfl rfl) rfl rfl rfl ?_
  refine SP.val (Val.eql rfl rfl) rfl rfl rfl ?_
  refine SP.val (Val.move rfl) rfl rfl rfl ?_
  refine SP.join 6 (fun a w2 => Env 33 [(2, .pointer (some ⟨b5, 0, none⟩)), (3, .pointer (some ⟨b7, 0, none⟩)), (16, .bool ((decide (a_0.Kind = b_1.Kind)) && (decide (a_0.Method = b_1.Method))))] a ∧ St w em hV [slP k_api_Value v_a_0_Args a_0.Args, slP (kInt .u8) v_a_0_Bytes a_0.Bytes, slP k_api_Value v_b_1_Args b_1.Args, slP (kInt .u8) v_b_1_Bytes b_1.Bytes] [boxO b7 [.int .u8 b_1.Kind, .int .i64 b_1.Method, v_b_1_Args, v_b_1_Bytes] 34, boxO b5 [.int .u8 a_0.Kind, .int .i64 a_0.Method, v_a_0_Args, v_a_0_Bytes] 34] w2) ?_ ?_
  · rintro a w2 ⟨ha, hw⟩
    refine SP.app ha hw ?_
    clear ha hw a w2
    refine SP.val (Val.move rfl) rfl rfl rfl ?_
    obtain ⟨t14, hg_t14, ho⟩ := bind_some ho
    refine SP.join 6 (fun a w2 => Env 33 [(2, .pointer (some ⟨b5, 0, none⟩)), (3, .pointer (some ⟨b7, 0, none⟩)), (23, .bool t14)] a ∧ St w em hV [slP k_api_Value v_a_0_Args a_0.Args, slP (kInt .u8) v_a_0_Bytes a_0.Bytes, slP k_api_Value v_b_1_Args b_1.Args, slP (kInt .u8) v_b_1_Bytes b_1.Bytes] [boxO b7 [.int .u8 b_1.Kind, .int .i64 b_1.Method, v_b_1_Args, v_b_1_Bytes] 34, boxO b5 [.int .u8 a_0.Kind, .int .i64 a_0.Method, v_a_0_Args, v_a_0_Bytes] 34] w2) ?_ ?_
    · rintro a w2 ⟨ha, hw⟩
      refine SP.app ha hw ?_
      clear ha hw a w2 hg_t14
      refine SP.val (Val.move rfl) rfl rfl rfl ?_
      refine SP.join 8 (fun a w2 => Env 33 [(32, .bool (t14 && ((strOfNums a_0.Bytes).toList == (strOfNums b_1.Bytes).toList)))] a ∧ St w em hV [slP k_api_Value v_a_0_Args a_0.Args, slP (kInt .u8) v_a_0_Bytes a_0.Bytes, slP k_api_Value v_b_1_Args b_1.Args, slP (kInt .u8) v_b_1_Bytes b_1.Bytes] [boxO b7 [.int .u8 b_1.Kind, .int .i64 b_1.Method, v_b_1_Args, v_b_1_Bytes] 34, boxO b5 [.int .u8 a_0.Kind, .int .i64 a_0.Method, v_a_0_Args, v_a_0_Bytes] 34] w2) ?_ ?_
      · rintro a w2 ⟨ha, hw⟩
        refine SP.app ha hw ?_
        clear ha hw a w2
        refine SP.val (Val.assign rfl) rfl rfl rfl ?_
        refine SP.nil ?_
        refine QE.then ?_
        refine CP.ret ?_
        obtain rfl := Option.some.inj ho
        exact QE.rets (rs := [.tmp 4]) (vs := [.bool (t14 && ((strOfNums a_0.Bytes).toList == (strOfNums b_1.Bytes).toList))]) Try.results43 ⟨RVs.tmp rfl, trivial⟩ (fun w2 h => St.done (fun a b p s => rfl) h)
      · intro J
        by_cases hc : t14 = true
        · have hq16 := hc
          refine SP.isT (d := 24) rfl hq16 ?_
          refine SP.val (Val.fieldAddr Try.underlying34 rfl sz24 rfl) rfl rfl rfl ?_
          refine SP.val (Val.load1 1 rfl Try.underlying24 rfl rfl rfl) rfl rfl rfl ?_
          refine SP.val (Val.convBS see 1 rfl Try.underlying24 Try.underlying5 Try.underlying9 rfl) rfl rfl rfl ?_
          refine SP.val (Val.fieldAddr Try.underlying34 rfl sz24 rfl) rfl rfl rfl ?_
          refine SP.val (Val.load1 0 rfl Try.underlying24 rfl rfl rfl) rfl rfl rfl ?_
          refine SP.val (Val.convBS see 3 rfl Try.underlying24 Try.underlying5 Try.underlying9 rfl) rfl rfl rfl ?_
          refine SP.val (Val.eqlS rfl rfl) rfl rfl rfl ?_
          refine SP.val (Val.pickT rfl rfl) rfl rfl rfl ?_
          exact J fun a w2 ha hw => ⟨ha.sub ⟨congrArg (fun z => some (Value.bool z)) (and_t hq16 rfl), trivial⟩, hw⟩
        · have hq16 := (bf hc)
          refine SP.isF (d := 24) rfl hq16 ?_
          refine SP.not rfl rfl rfl ?_
          refine SP.not rfl rfl rfl ?_
          refine SP.not rfl rfl rfl ?_
          refine SP.not rfl rfl rfl ?_
          refine SP.not rfl rfl rfl ?_
          refine SP.not rfl rfl rfl ?_
          refine SP.not rfl rfl rfl ?_
          refine SP.val (Val.pickF rfl rfl) rfl rfl rfl ?_
          exact J fun a w2 ha hw => ⟨ha.sub ⟨congrArg (fun z => some (Value.bool z)) (and_f hq16), trivial⟩, hw⟩
    · intro J
      clear ho
      have ho := hg_t14
      clear hg_t14
      rcases if_some ho with ⟨hc, ho⟩ | ⟨hc, ho⟩
      · have hq12 := hc
        refine SP.isT (d := 17) rfl hq12 ?_
        refine SP.val (Val.fieldAddr Try.underlying34 rfl sz32 rfl) rfl rfl rfl ?_
        refine SP.val (Val.load1 1 rfl Try.underlying32 rfl rfl rfl) rfl rfl rfl ?_
        refine SP.val (Val.fieldAddr Try.underlying34 rfl sz32 rfl) rfl rfl rfl ?_
        refine SP.val (Val.load1 0 rfl Try.underlying32 rfl rfl rfl) rfl rfl rfl ?_
        obtain ⟨t13, hc, ho⟩ := bind_some ho
        refine SP.callV see (caps := []) (.bool t13) fn58 rfl rfl rfl rfl (fun w2 hP hs sub ap => capstanref17_Same.ok a_0.Args b_1.Args _ _ _ hc w2 hP sub (ap.get 0 rfl) (ap.get 2 rfl)) ?_
        clear hc
        refine SP.val (Val.pickT rfl rfl) rfl rfl rfl ?_
        obtain rfl := Option.some.inj ho
        exact J fun a w2 ha hw => ⟨ha.sub ⟨rfl, rfl, rfl, trivial⟩, hw⟩
      · have hq12 := (bf hc)
        refine SP.isF (d := 17) rfl hq12 ?_
        refine SP.not rfl rfl rfl ?_
        refine SP.not rfl rfl rfl ?_
        refine SP.not rfl rfl rfl ?_
        refine SP.not rfl rfl rfl ?_
        refine SP.not rfl rfl rfl ?_
        refine SP.val (Val.pickF rfl rfl) rfl rfl rfl ?_
        obtain rfl := Option.some.inj ho
        exact J fun a w2 ha hw => ⟨ha.sub ⟨rfl, rfl, rfl, trivial⟩, hw⟩
  · intro J
    by_cases hc : a_0.Kind = b_1.Kind
    · have hq10 := (decide_eq_true hc)
      refine SP.isT (d := 10) rfl hq10 ?_
      refine SP.val (Val.fieldAddr Try.underlying34 rfl sz3 rfl) rfl rfl rfl ?_
      refine SP.val (Val.load1 1 rfl Try.underlying3 rfl rfl rfl) rfl rfl rfl ?_
      refine SP.val (Val.fieldAddr Try.underlying34 rfl sz3 rfl) rfl rfl rfl ?_
      refine SP.val (Val.load1 0 rfl Try.underlying3 rfl rfl rfl) rfl rfl rfl ?_
      refine SP.val (Val.eql rfl rfl) rfl rfl rfl ?_
      refine SP.val (Val.pickT rfl rfl) rfl rfl rfl ?_
      exact J fun a w2 ha hw => ⟨ha.sub ⟨rfl, rfl, congrArg (fun z => some (Value.bool z)) (and_t hq10 rfl), trivial⟩, hw⟩
    · have hq10 := (decide_eq_false hc)
      refine SP.isF (d := 10) rfl hq10 ?_
      refine SP.not rfl rfl rfl ?_
      refine SP.not rfl rfl rfl ?_
      refine SP.not rfl rfl rfl ?_
      refine SP.not rfl rfl rfl ?_
      refine SP.not rfl rfl rfl ?_
      refine SP.val (Val.pickF rfl rfl) rfl rfl rfl ?_
      exact J fun a w2 ha hw => ⟨ha.sub ⟨rfl, rfl, congrArg (fun z => some (Value.bool z)) (and_f hq10), trivial⟩, hw⟩
/-! ### capstan/capstanref30.Same: function 14 -/
inductive capstanref30_Same.S where
  | start
  | l1 (x98 : Int)

def capstanref30_Same.j1 (a_0 : (List history_Call)) (b_1 : (List history_Call)) (x98 : Int) (b192 : Bool) : Option (capstanref30_Same.S ⊕ Bool) :=
  if b192 = true then (some (.inr false)) else (some (.inl (.l1 (IntKind.i64.wrap (x98 + 1)))))

def capstanref30_Same.F (a_0 : (List history_Call)) (b_1 : (List history_Call)) : capstanref30_Same.S → Option (capstanref30_Same.S ⊕ Bool)
  | .start => if (a_0.length : Int) ≠ (b_1.length : Int) then (some (.inr false)) else (some (.inl (.l1 0)))
  | .l1 x98 => if x98 < (a_0.length : Int) then ((elt a_0 x98).bind fun x102 => (elt b_1 x98).bind fun x108 => if x102.Proc ≠ x108.Proc then (capstanref30_Same.j1 a_0 b_1 x98 true) else ((elt a_0 x98).bind fun x116 => (elt b_1 x98).bind fun x126 => (capstanref20_Same.f x116.Op x126.Op).bind fun t134 => if (!t134) = true then (capstanref30_Same.j1 a_0 b_1 x98 true) else ((elt a_0 x98).bind fun x140 => (elt b_1 x98).bind fun x146 => if (!(x140.Read == x146.Read)) = true then (capstanref30_Same.j1 a_0 b_1 x98 true) else ((elt a_0 x98).bind fun x154 => (elt b_1 x98).bind fun x160 => if (!(x154.Reply.Err == x160.Reply.Err && ((x154.Reply.Out.Trap == x160.Reply.Out.Trap && ((x154.Reply.Out.Result.Kind == x160.Reply.Out.Result.Kind && (x154.Reply.Out.Result.A == x160.Reply.Out.Result.A && (x154.Reply.Out.Result.B == x160.Reply.Out.Result.B)))))))) = true then (capstanref30_Same.j1 a_0 b_1 x98 true) else ((elt a_0 x98).bind fun x168 => (elt b_1 x98).bind fun x174 => if x168.Start ≠ x174.Start then (capstanref30_Same.j1 a_0 b_1 x98 true) else ((elt a_0 x98).bind fun x182 => (elt b_1 x98).bind fun x188 => capstanref30_Same.j1 a_0 b_1 x98 (decide (x182.End ≠ x188.End)))))))) else (some (.inr true))

def capstanref30_Same.f (a_0 : (List history_Call)) (b_1 : (List history_Call)) : Option Bool := runF (capstanref30_Same.F a_0 b_1) .start
theorem capstanref30_Same.ok (a_0 : (List history_Call)) (b_1 : (List history_Call)) (v_a_0 : Value) (v_b_1 : Value) (r : Bool) (H : capstanref30_Same.f a_0 b_1 = some r) (w : World) (hV : Hp) (sV : Sub hV (hp w)) (h0 : slR k_history_Call hV v_a_0 a_0) (h1 : slR k_history_Call hV v_b_1 b_1) :
    Trip Try.prog 14 [v_a_0, v_b_1].toArray em hV w (fun v => HO.pure (v = .bool r)) := by
  have see : Sees w em hV := ⟨sV, Dj.em_right _⟩
  refine Trip.of (P := Try.prog) (n := 94) Try.func14 rfl rfl rfl (St.begin (All.cons (x := slP k_history_Call v_a_0 a_0) h0 (All.cons (x := slP k_history_Call v_b_1 b_1) h1 (All.nil _)))) ?_
  obtain ⟨n0, hi⟩ := runF_iff.1 H
  obtain ⟨m0, o, hm0, ho, hr⟩ := iter_some hi
  clear hi
  refine CP.seq ?_
  refine CP.region ?_
  refine SP.val (Val.assign rfl) rfl rfl rfl ?_
  refine SP.nil ?_
  refine QE.then ?_
  refine CP.seq ?_
  refine CP.seq ?_
  refine CP.region ?_
  refine SP.val (Val.move rfl) rfl rfl rfl ?_
  refine SP.val (Val.lenP see 0 rfl Try.underlying44 rfl) rfl rfl rfl ?_
  refine SP.val (Val.move rfl) rfl rfl rfl ?_
  refine SP.val (Val.lenP see 1 rfl Try.underlying44 rfl) rfl rfl rfl ?_
  refine SP.val (Val.neq rfl rfl) rfl rfl rfl ?_
  refine SP.nil ?_
  refine QE.then ?_
  rcases if_some ho with ⟨hc, ho⟩ | ⟨hc, ho⟩
  · refine CP.condT rfl (decide_eq_true hc) ?_
    refine CP.seq ?_
    refine CP.region ?_
    refine SP.val (Val.assign rfl) rfl rfl rfl ?_
    refine SP.nil ?_
    refine QE.then ?_
    refine CP.ret ?_
    refine QE.thru (by intro e; cases e) ?_
    obtain rfl := Option.some.inj ho
    obtain rfl := Option.some.inj hr
    exact QE.rets (rs := [.tmp 4]) (vs := [.bool false]) Try.results14 ⟨RVs.tmp rfl, trivial⟩ (fun w2 h => St.done (fun a b p s => rfl) h)
  · refine CP.condF rfl (decide_eq_false hc) ?_
    refine CP.skip ?_
    refine QE.then ?_
    refine CP.seq ?_
    refine CP.seq ?_
    refine CP.region ?_
    refine SP.val (Val.assign rfl) rfl rfl rfl ?_
    refine SP.nil ?_
    refine QE.then ?_
    refine CP.block ?_
    obtain rfl := Option.some.inj ho
    refine CP.loop (fun cl1 a w2 => ∃ x98 : Int, cl1 ≤ m0 ∧ iter (capstanref30_Same.F a_0 b_1) cl1 (.l1 x98) = some r ∧ Env 94 [(0, v_a_0), (1, v_b_1), (5, .int .i64 x98)] a ∧ St w em hV [slP k_history_Call v_a_0 a_0, slP k_history_Call v_b_1 b_1] [] w2) m0 (fun a w2 ha hw => ⟨0, Nat.le_refl _, hr, ha.sub ⟨rfl, rfl, rfl, trivial⟩, hw⟩) ?_
    clear hr
    rintro cl1 a w2 ⟨x98, hc_l1, hi, ha, hw⟩
    obtain ⟨m99, o, hm_m99, ho, hr⟩ := iter_some hi
    refine CP.app ha hw ?_
    clear ha hw a w2 hi
    refine CP.seq ?_
    refine CP.seq ?_
    refine CP.region ?_
    refine SP.val (Val.move rfl) rfl rfl rfl ?_
    refine SP.val (Val.move rfl) rfl rfl rfl ?_
    refine SP.val (Val.lenP see 0 rfl Try.underlying44 rfl) rfl rfl rfl ?_
    refine SP.val (Val.lss rfl rfl) rfl rfl rfl ?_
    refine SP.nil ?_
    refine QE.then ?_
    rcases if_some ho with ⟨hc, ho⟩ | ⟨hc, ho⟩
    · refine CP.condT rfl (decide_eq_true hc) ?_
      refine CP.skip ?_
      refine QE.then ?_
      refine CP.seq ?_
      refine CP.block ?_
      refine CP.join (fun a w2 => ∃ b192 : Bool, ∃ (m193 : Nat) (o : capstanref30_Same.S ⊕ Bool), m193 ≤ m99 ∧ capstanref30_Same.j1 a_0 b_1 x98 b192 = some o ∧ next (capstanref30_Same.F a_0 b_1) m193 o = some r ∧ Env 94 [(0, v_a_0), (1, v_b_1), (5, .int .i64 x98), (93, .bool b192)] a ∧ St w em hV [slP k_history_Call v_a_0 a_0, slP k_history_Call v_b_1 b_1] [] w2) ?_ ?_
      · rintro a w2 ⟨b192, m193, o, hm_m193, ho, hr, ha, hw⟩
        refine CP.app ha hw ?_
        clear ha hw a w2
        rcases if_some ho with ⟨hc, ho⟩ | ⟨hc, ho⟩
        · refine CP.condT rfl hc ?_
          refine CP.seq ?_
          refine CP.region ?_
          refine SP.val (Val.assign rfl) rfl rfl rfl ?_
          refine SP.nil ?_
          refine QE.then ?_
          refine CP.ret ?_
          refine QE.blockR ?_
          refine QE.thru (by intro e; cases e) ?_
          refine QE.thru (by intro e; cases e) ?_
          refine QE.blockR ?_
          refine QE.thru (by intro e; cases e) ?_
          obtain rfl := Option.some.inj ho
          obtain rfl := Option.some.inj hr
          exact QE.rets (rs := [.tmp 4]) (vs := [.bool false]) Try.results14 ⟨RVs.tmp rfl, trivial⟩ (fun w2 h => St.done (fun a b p s => rfl) h)
        · refine CP.condF rfl (bf hc) ?_
          refine CP.skip ?_
          refine QE.blockN ?_
          refine QE.then ?_
          refine CP.region ?_
          refine SP.val (Val.move rfl) rfl rfl rfl ?_
          refine SP.val (Val.add rfl rfl) rfl rfl rfl ?_
          refine SP.val (Val.assign rfl) rfl rfl rfl ?_
          refine SP.nil ?_
          obtain rfl := Option.some.inj ho
          exact QE.lower m193 (by omega) fun a w2 ha hw => ⟨(IntKind.i64.wrap (x98 + 1)), (by omega), hr, ha.sub ⟨rfl, rfl, rfl, trivial⟩, hw⟩
      · refine CP.drawA (by kernel_rfl) (fun w2 k h => h.drawn k) ?_
        obtain ⟨x102, hx, ho⟩ := bind_some ho
        have hx := elt_some hx
        refine DA.ghost (fun w2 h => h.elem see 0 rfl hx.1 hx.2) (fun p100 h_p100 => ?_)
        clear hx
        refine DA.ghost (fun w2 h => h.fieldE see 0 rfl k_history_Call.part_Proc) (fun p103 h_p103 => ?_)
        refine DA.ghost (fun w2 h => h.openE see 0 rfl (fun _ : Unit => [.int .i64 x102.Proc]) (fun _ => []) (fun h cs e => ⟨(), e, All.nil _⟩)) (fun _ _ => ?_)
        obtain ⟨x108, hx, ho⟩ := bind_some ho
        have hx := elt_some hx
        refine DA.ghost (fun w2 h => h.elem see 4 rfl hx.1 hx.2) (fun p106 h_p106 => ?_)
        clear hx
        refine DA.ghost (fun w2 h => h.fieldE see 0 rfl k_history_Call.part_Proc) (fun p109 h_p109 => ?_)
        refine DA.ghost (fun w2 h => h.openE see 0 rfl (fun _ : Unit => [.int .i64 x108.Proc]) (fun _ => []) (fun h cs e => ⟨(), e, All.nil _⟩)) (fun _ _ => ?_)
        rcases if_some ho with ⟨hc, ho⟩ | ⟨hc, ho⟩
        · have hg112 := (decide_eq_true hc)
          clear hc
          refine DA.phase (fun i => Nat.ble 0 i && Nat.blt i 77) (fun w2 => St w em hV [atP p109 [.int .i64 x108.Proc], elP (kInt .i64) p109 x108.Proc, elP k_history_Call p106 x108, atP p103 [.int .i64 x102.Proc], elP (kInt .i64) p103 x102.Proc, elP k_history_Call p100 x102, slP k_history_Call v_a_0 a_0, slP k_history_Call v_b_1 b_1] [] w2) ?_
          refine DT.take 0 rfl rfl rfl rfl (by kernel_rfl) (fun _ _ _ h => h) (Val.move rfl) (fun w2 hw => hw) ?_
          refine DT.take 1 rfl rfl rfl rfl (by kernel_rfl) (fun _ _ _ h => h) (Val.move rfl) (fun w2 hw => hw) ?_
          refine DT.take 2 rfl rfl rfl rfl (by kernel_rfl) (fun _ _ _ h => h) (Val.indexE h_p100 Try.underlying44 sz48 rfl rfl) (fun w2 hw => hw) ?_
          refine DT.take 3 rfl rfl rfl rfl (by kernel_rfl) (fun _ _ _ h => h) (Val.fieldE h_p103 Try.underlying48 rfl rfl sz3 rfl) (fun w2 hw => hw) ?_
          refine DT.take 4 rfl rfl rfl rfl (by kernel_rfl) (fun _ _ _ h => h) (Val.loadAt1 see 3 rfl Try.underlying3 rfl rfl) (fun w2 hw => hw) ?_
          refine DT.take 5 rfl rfl rfl rfl (by kernel_rfl) (fun _ _ _ h => h) (Val.move rfl) (fun w2 hw => hw) ?_
          refine DT.take 6 rfl rfl rfl rfl (by kernel_rfl) (fun _ _ _ h => h) (Val.move rfl) (fun w2 hw => hw) ?_
          refine DT.take 7 rfl rfl rfl rfl (by kernel_rfl) (fun _ _ _ h => h) (Val.indexE h_p106 Try.underlying44 sz48 rfl rfl) (fun w2 hw => hw) ?_
          refine DT.take 8 rfl rfl rfl rfl (by kernel_rfl) (fun _ _ _ h => h) (Val.fieldE h_p109 Try.underlying48 rfl rfl sz3 rfl) (fun w2 hw => hw) ?_
          refine DT.take 9 rfl rfl rfl rfl (by kernel_rfl) (fun _ _ _ h => h) (Val.loadAt1 see 0 rfl Try.underlying3 rfl rfl) (fun w2 hw => hw) ?_
          refine DT.take 10 rfl rfl rfl rfl (by kernel_rfl) (fun _ _ _ h => h) (Val.neq rfl rfl) (fun w2 hw => hw) ?_
          refine DT.take 11 rfl rfl rfl rfl (by kernel_rfl) (fun _ _ _ h => h) (Val.move rfl) (fun w2 hw => hw) ?_
          refine DT.is (d := 28) (b := true) rfl hg112 ?_
          refine DT.not 12 rfl rfl rfl rfl (by kernel_rfl) (fun _ _ _ h => h) (fun w2 hw => hw) ?_
          refine DT.not 13 rfl rfl rfl rfl (by kernel_rfl) (fun _ _ _ h => h) (fun w2 hw => hw) ?_
          refine DT.not 14 rfl rfl rfl rfl (by kernel_rfl) (fun _ _ _ h => h) (fun w2 hw => hw) ?_
          refine DT.not 15 rfl rfl rfl rfl (by kernel_rfl) (fun _ _ _ h => h) (fun w2 hw => hw) ?_
          refine DT.not 16 rfl rfl rfl rfl (by kernel_rfl) (fun _ _ _ h => h) (fun w2 hw => hw) ?_
          refine DT.not 17 rfl rfl rfl rfl (by kernel_rfl) (fun _ _ _ h => h) (fun w2 hw => hw) ?_
          refine DT.not 18 rfl rfl rfl rfl (by kernel_rfl) (fun _ _ _ h => h) (fun w2 hw => hw) ?_
          refine DT.not 19 rfl rfl rfl rfl (by kernel_rfl) (fun _ _ _ h => h) (fun w2 hw => hw) ?_
          refine DT.not 20 rfl rfl rfl rfl (by kernel_rfl) (fun _ _ _ h => h) (fun w2 hw => hw) ?_
          refine DT.not 21 rfl rfl rfl rfl (by kernel_rfl) (fun _ _ _ h => h) (fun w2 hw => hw) ?_
          refine DT.not 22 rfl rfl rfl rfl (by kernel_rfl) (fun _ _ _ h => h) (fun w2 hw => hw) ?_
          refine DT.not 23 rfl rfl rfl rfl (by kernel_rfl) (fun _ _ _ h => h) (fun w2 hw => hw) ?_
          refine DT.take 24 rfl rfl rfl rfl (by kernel_rfl) (fun _ _ _ h => h) (Val.pickT rfl rfl) (fun w2 hw => hw) ?_
          refine DT.take 25 rfl rfl rfl rfl (by kernel_rfl) (fun _ _ _ h => h) (Val.move rfl) (fun w2 hw => hw) ?_
          refine DT.not 26 rfl rfl rfl rfl (by kernel_rfl) (fun _ _ _ h => h) (fun w2 hw => hw) ?_
          refine DT.not 27 rfl rfl rfl rfl (by kernel_rfl) (fun _ _ _ h => h) (fun w2 hw => hw) ?_
          refine DT.not 28 rfl rfl rfl rfl (by kernel_rfl) (fun _ _ _ h => h) (fun w2 hw => hw) ?_
          refine DT.not 29 rfl rfl rfl rfl (by kernel_rfl) (fun _ _ _ h => h) (fun w2 hw => hw) ?_
          refine DT.not 30 rfl rfl rfl rfl (by kernel_rfl) (fun _ _ _ h => h) (fun w2 hw => hw) ?_
          refine DT.not 31 rfl rfl rfl rfl (by kernel_rfl) (fun _ _ _ h => h) (fun w2 hw => hw) ?_
          refine DT.not 32 rfl rfl rfl rfl (by kernel_rfl) (fun _ _ _ h => h) (fun w2 hw => hw) ?_
          refine DT.not 33 rfl rfl rfl rfl (by kernel_rfl) (fun _ _ _ h => h) (fun w2 hw => hw) ?_
          refine DT.not 34 rfl rfl rfl rfl (by kernel_rfl) (fun _ _ _ h => h) (fun w2 hw => hw) ?_
          refine DT.not 35 rfl rfl rfl rfl (by kernel_rfl) (fun _ _ _ h => h) (fun w2 hw => hw) ?_
          refine DT.not 36 rfl rfl rfl rfl (by kernel_rfl) (fun _ _ _ h => h) (fun w2 hw => hw) ?_
          refine DT.take 37 rfl rfl rfl rfl (by kernel_rfl) (fun _ _ _ h => h) (Val.pickT rfl rfl) (fun w2 hw => hw) ?_
          refine DT.take 38 rfl rfl rfl rfl (by kernel_rfl) (fun _ _ _ h => h) (Val.move rfl) (fun w2 hw => hw) ?_
          refine DT.not 39 rfl rfl rfl rfl (by kernel_rfl) (fun _ _ _ h => h) (fun w2 hw => hw) ?_
          refine DT.not 40 rfl rfl rfl rfl (by kernel_rfl) (fun _ _ _ h => h) (fun w2 hw => hw) ?_
          refine DT.not 41 rfl rfl rfl rfl (by kernel_rfl) (fun _ _ _ h => h) (fun w2 hw => hw) ?_
          refine DT.not 42 rfl rfl rfl rfl (by kernel_rfl) (fun _ _ _ h => h) (fun w2 hw => hw) ?_
          refine DT.not 43 rfl rfl rfl rfl (by kernel_rfl) (fun _ _ _ h => h) (fun w2 hw => hw) ?_
          refine DT.not 44 rfl rfl rfl rfl (by kernel_rfl) (fun _ _ _ h => h) (fun w2 hw => hw) ?_
          refine DT.not 45 rfl rfl rfl rfl (by kernel_rfl) (fun _ _ _ h => h) (fun w2 hw => hw) ?_
          refine DT.not 46 rfl rfl rfl rfl (by kernel_rfl) (fun _ _ _ h => h) (fun w2 hw => hw) ?_
          refine DT.not 47 rfl rfl rfl rfl (by kernel_rfl) (fun _ _ _ h => h) (fun w2 hw => hw) ?_
          refine DT.not 48 rfl rfl rfl rfl (by kernel_rfl) (fun _ _ _ h => h) (fun w2 hw => hw) ?_
          refine DT.not 49 rfl rfl rfl rfl (by kernel_rfl) (fun _ _ _ h => h) (fun w2 hw => hw) ?_
          refine DT.take 50 rfl rfl rfl rfl (by kernel_rfl) (fun _ _ _ h => h) (Val.pickT rfl rfl) (fun w2 hw => hw) ?_
          refine DT.take 51 rfl rfl rfl rfl (by kernel_rfl) (fun _ _ _ h => h) (Val.move rfl) (fun w2 hw => hw) ?_
          refine DT.not 52 rfl rfl rfl rfl (by kernel_rfl) (fun _ _ _ h => h) (fun w2 hw => hw) ?_
          refine DT.not 53 rfl rfl rfl rfl (by kernel_rfl) (fun _ _ _ h => h) (fun w2 hw => hw) ?_
          refine DT.not 54 rfl rfl rfl rfl (by kernel_rfl) (fun _ _ _ h => h) (fun w2 hw => hw) ?_
          refine DT.not 55 rfl rfl rfl rfl (by kernel_rfl) (fun _ _ _ h => h) (fun w2 hw => hw) ?_
          refine DT.not 56 rfl rfl rfl rfl (by kernel_rfl) (fun _ _ _ h => h) (fun w2 hw => hw) ?_
          refine DT.not 57 rfl rfl rfl rfl (by kernel_rfl) (fun _ _ _ h => h) (fun w2 hw => hw) ?_
          refine DT.not 58 rfl rfl rfl rfl (by kernel_rfl) (fun _ _ _ h => h) (fun w2 hw => hw) ?_
          refine DT.not 59 rfl rfl rfl rfl (by kernel_rfl) (fun _ _ _ h => h) (fun w2 hw => hw) ?_
          refine DT.not 60 rfl rfl rfl rfl (by kernel_rfl) (fun _ _ _ h => h) (fun w2 hw => hw) ?_
          refine DT.not 61 rfl rfl rfl rfl (by kernel_rfl) (fun _ _ _ h => h) (fun w2 hw => hw) ?_
          refine DT.not 62 rfl rfl rfl rfl (by kernel_rfl) (fun _ _ _ h => h) (fun w2 hw => hw) ?_
          refine DT.take 63 rfl rfl rfl rfl (by kernel_rfl) (fun _ _ _ h => h) (Val.pickT rfl rfl) (fun w2 hw => hw) ?_
          refine DT.take 64 rfl rfl rfl rfl (by kernel_rfl) (fun _ _ _ h => h) (Val.move rfl) (fun w2 hw => hw) ?_
          refine DT.not 65 rfl rfl rfl rfl (by kernel_rfl) (fun _ _ _ h => h) (fun w2 hw => hw) ?_
          refine DT.not 66 rfl rfl rfl rfl (by kernel_rfl) (fun _ _ _ h => h) (fun w2 hw => hw) ?_
          refine DT.not 67 rfl rfl rfl rfl (by kernel_rfl) (fun _ _ _ h => h) (fun w2 hw => hw) ?_
          refine DT.not 68 rfl rfl rfl rfl (by kernel_rfl) (fun _ _ _ h => h) (fun w2 hw => hw) ?_
          refine DT.not 69 rfl rfl rfl rfl (by kernel_rfl) (fun _ _ _ h => h) (fun w2 hw => hw) ?_
          refine DT.not 70 rfl rfl rfl rfl (by kernel_rfl) (fun _ _ _ h => h) (fun w2 hw => hw) ?_
          refine DT.not 71 rfl rfl rfl rfl (by kernel_rfl) (fun _ _ _ h => h) (fun w2 hw => hw) ?_
          refine DT.not 72 rfl rfl rfl rfl (by kernel_rfl) (fun _ _ _ h => h) (fun w2 hw => hw) ?_
          refine DT.not 73 rfl rfl rfl rfl (by kernel_rfl) (fun _ _ _ h => h) (fun w2 hw => hw) ?_
          refine DT.not 74 rfl rfl rfl rfl (by kernel_rfl) (fun _ _ _ h => h) (fun w2 hw => hw) ?_
          refine DT.not 75 rfl rfl rfl rfl (by kernel_rfl) (fun _ _ _ h => h) (fun w2 hw => hw) ?_
          refine DT.take 76 rfl rfl rfl rfl (by kernel_rfl) (fun _ _ _ h => h) (Val.pickT rfl rfl) (fun w2 hw => hw) ?_
          refine DT.next (by kernel_rfl) ?_
          refine DA.done (by kernel_rfl) ?_
          exact QE.meet fun a w2 ha hw => ⟨true, m99, _, (by omega), ho, hr, ha.sub ⟨rfl, rfl, rfl, rfl, trivial⟩, (St.selP [6, 7] rfl hw)⟩
        · have hg113 := (decide_eq_false hc)
          clear hc
          obtain ⟨x116, hx, ho⟩ := bind_some ho
          have hx := elt_some hx
          refine DA.ghost (fun w2 h => h.elem see 6 rfl hx.1 hx.2) (fun p114 h_p114 => ?_)
          clear hx
          refine DA.ghost (fun w2 h => h.fieldE see 0 rfl k_history_Call.part_Op) (fun p117 h_p117 => ?_)
          refine DA.ghost (fun w2 h => h.openE see 0 rfl (fun ((v119, v121) : Value × Value) => [.int .u8 x116.Op.Kind, .int .i64 x116.Op.Method, v119, v121]) (fun ((v119, v121) : Value × Value) => [slP k_api_Value v119 x116.Op.Args, slP (kInt .u8) v121 x116.Op.Bytes]) (fun h cs ⟨v119, v121, e, p0, p1⟩ => ⟨(v119, v121), e, All.cons p0 (All.cons p1 (All.nil _))⟩)) (fun z_ _ => ?_)
          obtain ⟨v119, v121⟩ := z_
          obtain ⟨x126, hx, ho⟩ := bind_some ho
          have hx := elt_some hx
          refine DA.ghost (fun w2 h => h.elem see 12 rfl hx.1 hx.2) (fun p124 h_p124 => ?_)
          clear hx
          refine DA.ghost (fun w2 h => h.fieldE see 0 rfl k_history_Call.part_Op) (fun p127 h_p127 => ?_)
          refine DA.ghost (fun w2 h => h.openE see 0 rfl (fun ((v129, v131) : Value × Value) => [.int .u8 x126.Op.Kind, .int .i64 x126.Op.Method, v129, v131]) (fun ((v129, v131) : Value × Value) => [slP k_api_Value v129 x126.Op.Args, slP (kInt .u8) v131 x126.Op.Bytes]) (fun h cs ⟨v129, v131, e, p0, p1⟩ => ⟨(v129, v131), e, All.cons p0 (All.cons p1 (All.nil _))⟩)) (fun z_ _ => ?_)
          obtain ⟨v129, v131⟩ := z_
          obtain ⟨t134, hc135, ho⟩ := bind_some ho
          rcases if_some ho with ⟨hc, ho⟩ | ⟨hc, ho⟩
          · have hg136 := hc
            clear hc
            refine DA.phase (fun i => Nat.ble 0 i && Nat.blt i 77) (fun w2 => St w em hV [atP p127 [.int .u8 x126.Op.Kind, .int .i64 x126.Op.Method, v129, v131], slP k_api_Value v129 x126.Op.Args, slP (kInt .u8) v131 x126.Op.Bytes, elP k_api_Op p127 x126.Op, elP k_history_Call p124 x126, atP p117 [.int .u8 x116.Op.Kind, .int .i64 x116.Op.Method, v119, v121], slP k_api_Value v119 x116.Op.Args, slP (kInt .u8) v121 x116.Op.Bytes, elP k_api_Op p117 x116.Op, elP k_history_Call p114 x116, atP p109 [.int .i64 x108.Proc], elP (kInt .i64) p109 x108.Proc, elP k_history_Call p106 x108, atP p103 [.int .i64 x102.Proc], elP (kInt .i64) p103 x102.Proc, elP k_history_Call p100 x102, slP k_history_Call v_a_0 a_0, slP k_history_Call v_b_1 b_1] [] w2) ?_
            refine DT.take 0 rfl rfl rfl rfl (by kernel_rfl) (fun _ _ _ h => h) (Val.move rfl) (fun w2 hw => hw) ?_
            refine DT.take 1 rfl rfl rfl rfl (by kernel_rfl) (fun _ _ _ h => h) (Val.move rfl) (fun w2 hw => hw) ?_
            refine DT.take 2 rfl rfl rfl rfl (by kernel_rfl) (fun _ _ _ h => h) (Val.indexE h_p100 Try.underlying44 sz48 rfl rfl) (fun w2 hw => hw) ?_
            refine DT.take 3 rfl rfl rfl rfl (by kernel_rfl) (fun _ _ _ h => h) (Val.fieldE h_p103 Try.underlying48 rfl rfl sz3 rfl) (fun w2 hw => hw) ?_
            refine DT.take 4 rfl rfl rfl rfl (by kernel_rfl) (fun _ _ _ h => h) (Val.loadAt1 see 13 rfl Try.underlying3 rfl rfl) (fun w2 hw => hw) ?_
            refine DT.take 5 rfl rfl rfl rfl (by kernel_rfl) (fun _ _ _ h => h) (Val.move rfl) (fun w2 hw => hw) ?_
            refine DT.take 6 rfl rfl rfl rfl (by kernel_rfl) (fun _ _ _ h => h) (Val.move rfl) (fun w2 hw => hw) ?_
            refine DT.take 7 rfl rfl rfl rfl (by kernel_rfl) (fun _ _ _ h => h) (Val.indexE h_p106 Try.underlying44 sz48 rfl rfl) (fun w2 hw => hw) ?_
            refine DT.take 8 rfl rfl rfl rfl (by kernel_rfl) (fun _ _ _ h => h) (Val.fieldE h_p109 Try.underlying48 rfl rfl sz3 rfl) (fun w2 hw => hw) ?_
            refine DT.take 9 rfl rfl rfl rfl (by kernel_rfl) (fun _ _ _ h => h) (Val.loadAt1 see 10 rfl Try.underlying3 rfl rfl) (fun w2 hw => hw) ?_
            refine DT.take 10 rfl rfl rfl rfl (by kernel_rfl) (fun _ _ _ h => h) (Val.neq rfl rfl) (fun w2 hw => hw) ?_
            refine DT.take 11 rfl rfl rfl rfl (by kernel_rfl) (fun _ _ _ h => h) (Val.move rfl) (fun w2 hw => hw) ?_
            refine DT.is (d := 28) (b := false) rfl hg113 ?_
            refine DT.take 12 rfl rfl rfl rfl (by kernel_rfl) (fun _ _ _ h => h) (Val.move rfl) (fun w2 hw => hw) ?_
            refine DT.take 13 rfl rfl rfl rfl (by kernel_rfl) (fun _ _ _ h => h) (Val.move rfl) (fun w2 hw => hw) ?_
            refine DT.take 14 rfl rfl rfl rfl (by kernel_rfl) (fun _ _ _ h => h) (Val.indexE h_p114 Try.underlying44 sz48 rfl rfl) (fun w2 hw => hw) ?_
            refine DT.take 15 rfl rfl rfl rfl (by kernel_rfl) (fun _ _ _ h => h) (Val.fieldE h_p117 Try.underlying48 rfl rfl sz34 rfl) (fun w2 hw => hw) ?_
            refine DT.take 16 rfl rfl rfl rfl (by kernel_rfl) (fun _ _ _ h => h) (Val.loadAtA see 5 rfl Try.underlying34 rfl sz34 rfl) (fun w2 hw => hw) ?_
            refine DT.take 17 rfl rfl rfl rfl (by kernel_rfl) (fun _ _ _ h => h) (Val.move rfl) (fun w2 hw => hw) ?_
            refine DT.take 18 rfl rfl rfl rfl (by kernel_rfl) (fun _ _ _ h => h) (Val.move rfl) (fun w2 hw => hw) ?_
            refine DT.take 19 rfl rfl rfl rfl (by kernel_rfl) (fun _ _ _ h => h) (Val.indexE h_p124 Try.underlying44 sz48 rfl rfl) (fun w2 hw => hw) ?_
            refine DT.take 20 rfl rfl rfl rfl (by kernel_rfl) (fun _ _ _ h => h) (Val.fieldE h_p127 Try.underlying48 rfl rfl sz34 rfl) (fun w2 hw => hw) ?_
            refine DT.take 21 rfl rfl rfl rfl (by kernel_rfl) (fun _ _ _ h => h) (Val.loadAtA see 0 rfl Try.underlying34 rfl sz34 rfl) (fun w2 hw => hw) ?_
            refine DT.one 22 rfl (by kernel_rfl) rfl ?_
            refine SP.callV see (caps := []) (.bool t134) fn43 rfl rfl rfl rfl (fun w2 hP hs sub ap => capstanref20_Same.ok x116.Op x126.Op _ _ _ _ _ hc135 w2 hP sub (ap.get 6 rfl) (ap.get 7 rfl) (ap.get 1 rfl) (ap.get 2 rfl)) ?_
            refine SP.nil ?_
            refine QE.atT (fun w2 hw => hw) ?_
            refine DT.take 23 rfl rfl rfl rfl (by kernel_rfl) (fun _ _ _ h => h) (Val.notB rfl) (fun w2 hw => hw) ?_
            refine DT.take 24 rfl rfl rfl rfl (by kernel_rfl) (fun _ _ _ h => h) (Val.pickF rfl rfl) (fun w2 hw => hw) ?_
            refine DT.take 25 rfl rfl rfl rfl (by kernel_rfl) (fun _ _ _ h => h) (Val.move rfl) (fun w2 hw => hw) ?_
            refine DT.is (d := 42) (b := true) rfl hg136 ?_
            refine DT.not 26 rfl rfl rfl rfl (by kernel_rfl) (fun _ _ _ h => h) (fun w2 hw => hw) ?_
            refine DT.not 27 rfl rfl rfl rfl (by kernel_rfl) (fun _ _ _ h => h) (fun w2 hw => hw) ?_
            refine DT.not 28 rfl rfl rfl rfl (by kernel_rfl) (fun _ _ _ h => h) (fun w2 hw => hw) ?_
            refine DT.not 29 rfl rfl rfl rfl (by kernel_rfl) (fun _ _ _ h => h) (fun w2 hw => hw) ?_
            refine DT.not 30 rfl rfl rfl rfl (by kernel_rfl) (fun _ _ _ h => h) (fun w2 hw => hw) ?_
            refine DT.not 31 rfl rfl rfl rfl (by kernel_rfl) (fun _ _ _ h => h) (fun w2 hw => hw) ?_
            refine DT.not 32 rfl rfl rfl rfl (by kernel_rfl) (fun _ _ _ h => h) (fun w2 hw => hw) ?_
            refine DT.not 33 rfl rfl rfl rfl (by kernel_rfl) (fun _ _ _ h => h) (fun w2 hw => hw) ?_
            refine DT.not 34 rfl rfl rfl rfl (by kernel_rfl) (fun _ _ _ h => h) (fun w2 hw => hw) ?_
            refine DT.not 35 rfl rfl rfl rfl (by kernel_rfl) (fun _ _ _ h => h) (fun w2 hw => hw) ?_
            refine DT.not 36 rfl rfl rfl rfl (by kernel_rfl) (fun _ _ _ h => h) (fun w2 hw => hw) ?_
            refine DT.take 37 rfl rfl rfl rfl (by kernel_rfl) (fun _ _ _ h => h) (Val.pickT rfl rfl) (fun w2 hw => hw) ?_
            refine DT.take 38 rfl rfl rfl rfl (by kernel_rfl) (fun _ _ _ h => h) (Val.move rfl) (fun w2 hw => hw) ?_
            refine DT.not 39 rfl rfl rfl rfl (by kernel_rfl) (fun _ _ _ h => h) (fun w2 hw => hw) ?_
            refine DT.not 40 rfl rfl rfl rfl (by kernel_rfl) (fun _ _ _ h => h) (fun w2 hw => hw) ?_
            refine DT.not 41 rfl rfl rfl rfl (by kernel_rfl) (fun _ _ _ h => h) (fun w2 hw => hw) ?_
            refine DT.not 42 rfl rfl rfl rfl (by kernel_rfl) (fun _ _ _ h => h) (fun w2 hw => hw) ?_
            refine DT.not 43 rfl rfl rfl rfl (by kernel_rfl) (fun _ _ _ h => h) (fun w2 hw => hw) ?_
            refine DT.not 44 rfl rfl rfl rfl (by kernel_rfl) (fun _ _ _ h => h) (fun w2 hw => hw) ?_
            refine DT.not 45 rfl rfl rfl rfl (by kernel_rfl) (fun _ _ _ h => h) (fun w2 hw => hw) ?_
            refine DT.not 46 rfl rfl rfl rfl (by kernel_rfl) (fun _ _ _ h => h) (fun w2 hw => hw) ?_
            refine DT.not 47 rfl rfl rfl rfl (by kernel_rfl) (fun _ _ _ h => h) (fun w2 hw => hw) ?_
            refine DT.not 48 rfl rfl rfl rfl (by kernel_rfl) (fun _ _ _ h => h) (fun w2 hw => hw) ?_
            refine DT.not 49 rfl rfl rfl rfl (by kernel_rfl) (fun _ _ _ h => h) (fun w2 hw => hw) ?_
            refine DT.take 50 rfl rfl rfl rfl (by kernel_rfl) (fun _ _ _ h => h) (Val.pickT rfl rfl) (fun w2 hw => hw) ?_
            refine DT.take 51 rfl rfl rfl rfl (by kernel_rfl) (fun _ _ _ h => h) (Val.move rfl) (fun w2 hw => hw) ?_
            refine DT.not 52 rfl rfl rfl rfl (by kernel_rfl) (fun _ _ _ h => h) (fun w2 hw => hw) ?_
            refine DT.not 53 rfl rfl rfl rfl (by kernel_rfl) (fun _ _ _ h => h) (fun w2 hw => hw) ?_
            refine DT.not 54 rfl rfl rfl rfl (by kernel_rfl) (fun _ _ _ h => h) (fun w2 hw => hw) ?_
            refine DT.not 55 rfl rfl rfl rfl (by kernel_rfl) (fun _ _ _ h => h) (fun w2 hw => hw) ?_
            refine DT.not 56 rfl rfl rfl rfl (by kernel_rfl) (fun _ _ _ h => h) (fun w2 hw => hw) ?_
            refine DT.not 57 rfl rfl rfl rfl (by kernel_rfl) (fun _ _ _ h => h) (fun w2 hw => hw) ?_
            refine DT.not 58 rfl rfl rfl rfl (by kernel_rfl) (fun _ _ _ h => h) (fun w2 hw => hw) ?_
            refine DT.not 59 rfl rfl rfl rfl (by kernel_rfl) (fun _ _ _ h => h) (fun w2 hw => hw) ?_
            refine DT.not 60 rfl rfl rfl rfl (by kernel_rfl) (fun _ _ _ h => h) (fun w2 hw => hw) ?_
            refine DT.not 61 rfl rfl rfl rfl (by kernel_rfl) (fun _ _ _ h => h) (fun w2 hw => hw) ?_
            refine DT.not 62 rfl rfl rfl rfl (by kernel_rfl) (fun _ _ _ h => h) (fun w2 hw => hw) ?_
            refine DT.take 63 rfl rfl rfl rfl (by kernel_rfl) (fun _ _ _ h => h) (Val.pickT rfl rfl) (fun w2 hw => hw) ?_
            refine DT.take 64 rfl rfl rfl rfl (by kernel_rfl) (fun _ _ _ h => h) (Val.move rfl) (fun w2 hw => hw) ?_
            refine DT.not 65 rfl rfl rfl rfl (by kernel_rfl) (fun _ _ _ h => h) (fun w2 hw => hw) ?_
            refine DT.not 66 rfl rfl rfl rfl (by kernel_rfl) (fun _ _ _ h => h) (fun w2 hw => hw) ?_
            refine DT.not 67 rfl rfl rfl rfl (by kernel_rfl) (fun _ _ _ h => h) (fun w2 hw => hw) ?_
            refine DT.not 68 rfl rfl rfl rfl (by kernel_rfl) (fun _ _ _ h => h) (fun w2 hw => hw) ?_
            refine DT.not 69 rfl rfl rfl rfl (by kernel_rfl) (fun _ _ _ h => h) (fun w2 hw => hw) ?_
            refine DT.not 70 rfl rfl rfl rfl (by kernel_rfl) (fun _ _ _ h => h) (fun w2 hw => hw) ?_
            refine DT.not 71 rfl rfl rfl rfl (by kernel_rfl) (fun _ _ _ h => h) (fun w2 hw => hw) ?_
            refine DT.not 72 rfl rfl rfl rfl (by kernel_rfl) (fun _ _ _ h => h) (fun w2 hw => hw) ?_
            refine DT.not 73 rfl rfl rfl rfl (by kernel_rfl) (fun _ _ _ h => h) (fun w2 hw => hw) ?_
            refine DT.not 74 rfl rfl rfl rfl (by kernel_rfl) (fun _ _ _ h => h) (fun w2 hw => hw) ?_
            refine DT.not 75 rfl rfl rfl rfl (by kernel_rfl) (fun _ _ _ h => h) (fun w2 hw => hw) ?_
            refine DT.take 76 rfl rfl rfl rfl (by kernel_rfl) (fun _ _ _ h => h) (Val.pickT rfl rfl) (fun w2 hw => hw) ?_
            refine DT.next (by kernel_rfl) ?_
            refine DA.done (by kernel_rfl) ?_
            exact QE.meet fun a w2 ha hw => ⟨true, m99, _, (by omega), ho, hr, ha.sub ⟨rfl, rfl, rfl, rfl, trivial⟩, (St.selP [16, 17] rfl hw)⟩
          · have hg137 := (bf hc)
            clear hc
            obtain ⟨x140, hx, ho⟩ := bind_some ho
            have hx := elt_some hx
            refine DA.ghost (fun w2 h => h.elem see 16 rfl hx.1 hx.2) (fun p138 h_p138 => ?_)
            clear hx
            refine DA.ghost (fun w2 h => h.fieldE see 0 rfl k_history_Call.part_Read) (fun p141 h_p141 => ?_)
            refine DA.ghost (fun w2 h => h.openE see 0 rfl (fun _ : Unit => [.bool x140.Read]) (fun _ => []) (fun h cs e => ⟨(), e, All.nil _⟩)) (fun _ _ => ?_)
            obtain ⟨x146, hx, ho⟩ := bind_some ho
            have hx := elt_some hx
            refine DA.ghost (fun w2 h => h.elem see 20 rfl hx.1 hx.2) (fun p144 h_p144 => ?_)
            clear hx
            refine DA.ghost (fun w2 h => h.fieldE see 0 rfl k_history_Call.part_Read) (fun p147 h_p147 => ?_)
            refine DA.ghost (fun w2 h => h.openE see 0 rfl (fun _ : Unit => [.bool x146.Read]) (fun _ => []) (fun h cs e => ⟨(), e, All.nil _⟩)) (fun _ _ => ?_)
            rcases if_some ho with ⟨hc, ho⟩ | ⟨hc, ho⟩
            · have hg150 := hc
              clear hc
              refine DA.phase (fun i => Nat.ble 0 i && Nat.blt i 77) (fun w2 => St w em hV [atP p147 [.bool x146.Read], elP kBool p147 x146.Read, elP k_history_Call p144 x146, atP p141 [.bool x140.Read], elP kBool p141 x140.Read, elP k_history_Call p138 x140, atP p127 [.int .u8 x126.Op.Kind, .int .i64 x126.Op.Method, v129, v131], slP k_api_Value v129 x126.Op.Args, slP (kInt .u8) v131 x126.Op.Bytes, elP k_api_Op p127 x126.Op, elP k_history_Call p124 x126, atP p117 [.int .u8 x116.Op.Kind, .int .i64 x116.Op.Method, v119, v121], slP k_api_Value v119 x116.Op.Args, slP (kInt .u8) v121 x116.Op.Bytes, elP k_api_Op p117 x116.Op, elP k_history_Call p114 x116, atP p109 [.int .i64 x108.Proc], elP (kInt .i64) p109 x108.Proc, elP k_history_Call p106 x108, atP p103 [.int .i64 x102.Proc], elP (kInt .i64) p103 x102.Proc, elP k_history_Call p100 x102, slP k_history_Call v_a_0 a_0, slP k_history_Call v_b_1 b_1] [] w2) ?_
              refine DT.take 0 rfl rfl rfl rfl (by kernel_rfl) (fun _ _ _ h => h) (Val.move rfl) (fun w2 hw => hw) ?_
              refine DT.take 1 rfl rfl rfl rfl (by kernel_rfl) (fun _ _ _ h => h) (Val.move rfl) (fun w2 hw => hw) ?_
              refine DT.take 2 rfl rfl rfl rfl (by kernel_rfl) (fun _ _ _ h => h) (Val.indexE h_p100 Try.underlying44 sz48 rfl rfl) (fun w2 hw => hw) ?_
              refine DT.take 3 rfl rfl rfl rfl (by kernel_rfl) (fun _ _ _ h => h) (Val.fieldE h_p103 Try.underlying48 rfl rfl sz3 rfl) (fun w2 hw => hw) ?_
              refine DT.take 4 rfl rfl rfl rfl (by kernel_rfl) (fun _ _ _ h => h) (Val.loadAt1 see 19 rfl Try.underlying3 rfl rfl) (fun w2 hw => hw) ?_
              refine DT.take 5 rfl rfl rfl rfl (by kernel_rfl) (fun _ _ _ h => h) (Val.move rfl) (fun w2 hw => hw) ?_
              refine DT.take 6 rfl rfl rfl rfl (by kernel_rfl) (fun _ _ _ h => h) (Val.move rfl) (fun w2 hw => hw) ?_
              refine DT.take 7 rfl rfl rfl rfl (by kernel_rfl) (fun _ _ _ h => h) (Val.indexE h_p106 Try.underlying44 sz48 rfl rfl) (fun w2 hw => hw) ?_
              refine DT.take 8 rfl rfl rfl rfl (by kernel_rfl) (fun _ _ _ h => h) (Val.fieldE h_p109 Try.underlying48 rfl rfl sz3 rfl) (fun w2 hw => hw) ?_
              refine DT.take 9 rfl rfl rfl rfl (by kernel_rfl) (fun _ _ _ h => h) (Val.loadAt1 see 16 rfl Try.underlying3 rfl rfl) (fun w2 hw => hw) ?_
              refine DT.take 10 rfl rfl rfl rfl (by kernel_rfl) (fun _ _ _ h => h) (Val.neq rfl rfl) (fun w2 hw => hw) ?_
              refine DT.take 11 rfl rfl rfl rfl (by kernel_rfl) (fun _ _ _ h => h) (Val.move rfl) (fun w2 hw => hw) ?_
              refine DT.is (d := 28) (b := false) rfl hg113 ?_
              refine DT.take 12 rfl rfl rfl rfl (by kernel_rfl) (fun _ _ _ h => h) (Val.move rfl) (fun w2 hw => hw) ?_
              refine DT.take 13 rfl rfl rfl rfl (by kernel_rfl) (fun _ _ _ h => h) (Val.move rfl) (fun w2 hw => hw) ?_
              refine DT.take 14 rfl rfl rfl rfl (by kernel_rfl) (fun _ _ _ h => h) (Val.indexE h_p114 Try.underlying44 sz48 rfl rfl) (fun w2 hw => hw) ?_
              refine DT.take 15 rfl rfl rfl rfl (by kernel_rfl) (fun _ _ _ h => h) (Val.fieldE h_p117 Try.underlying48 rfl rfl sz34 rfl) (fun w2 hw => hw) ?_
              refine DT.take 16 rfl rfl rfl rfl (by kernel_rfl) (fun _ _ _ h => h) (Val.loadAtA see 11 rfl Try.underlying34 rfl sz34 rfl) (fun w2 hw => hw) ?_
              refine DT.take 17 rfl rfl rfl rfl (by kernel_rfl) (fun _ _ _ h => h) (Val.move rfl) (fun w2 hw => hw) ?_
              refine DT.take 18 rfl rfl rfl rfl (by kernel_rfl) (fun _ _ _ h => h) (Val.move rfl) (fun w2 hw => hw) ?_
              refine DT.take 19 rfl rfl rfl rfl (by kernel_rfl) (fun _ _ _ h => h) (Val.indexE h_p124 Try.underlying44 sz48 rfl rfl) (fun w2 hw => hw) ?_
              refine DT.take 20 rfl rfl rfl rfl (by kernel_rfl) (fun _ _ _ h => h) (Val.fieldE h_p127 Try.underlying48 rfl rfl sz34 rfl) (fun w2 hw => hw) ?_
              refine DT.take 21 rfl rfl rfl rfl (by kernel_rfl) (fun _ _ _ h => h) (Val.loadAtA see 6 rfl Try.underlying34 rfl sz34 rfl) (fun w2 hw => hw) ?_
              refine DT.one 22 rfl (by kernel_rfl) rfl ?_
              refine SP.callV see (caps := []) (.bool t134) fn43 rfl rfl rfl rfl (fun w2 hP hs sub ap => capstanref20_Same.ok x116.Op x126.Op _ _ _ _ _ hc135 w2 hP sub (ap.get 12 rfl) (ap.get 13 rfl) (ap.get 7 rfl) (ap.get 8 rfl)) ?_
              refine SP.nil ?_
              refine QE.atT (fun w2 hw => hw) ?_
              refine DT.take 23 rfl rfl rfl rfl (by kernel_rfl) (fun _ _ _ h => h) (Val.notB rfl) (fun w2 hw => hw) ?_
              refine DT.take 24 rfl rfl rfl rfl (by kernel_rfl) (fun _ _ _ h => h) (Val.pickF rfl rfl) (fun w2 hw => hw) ?_
              refine DT.take 25 rfl rfl rfl rfl (by kernel_rfl) (fun _ _ _ h => h) (Val.move rfl) (fun w2 hw => hw) ?_
              refine DT.is (d := 42) (b := false) rfl hg137 ?_
              refine DT.take 26 rfl rfl rfl rfl (by kernel_rfl) (fun _ _ _ h => h) (Val.move rfl) (fun w2 hw => hw) ?_
              refine DT.take 27 rfl rfl rfl rfl (by kernel_rfl) (fun _ _ _ h => h) (Val.move rfl) (fun w2 hw => hw) ?_
              refine DT.take 28 rfl rfl rfl rfl (by kernel_rfl) (fun _ _ _ h => h) (Val.indexE h_p138 Try.underlying44 sz48 rfl rfl) (fun w2 hw => hw) ?_
              refine DT.take 29 rfl rfl rfl rfl (by kernel_rfl) (fun _ _ _ h => h) (Val.fieldE h_p141 Try.underlying48 rfl rfl sz4 rfl) (fun w2 hw => hw) ?_
              refine DT.take 30 rfl rfl rfl rfl (by kernel_rfl) (fun _ _ _ h => h) (Val.loadAt1 see 3 rfl Try.underlying4 rfl rfl) (fun w2 hw => hw) ?_
              refine DT.take 31 rfl rfl rfl rfl (by kernel_rfl) (fun _ _ _ h => h) (Val.move rfl) (fun w2 hw => hw) ?_
              refine DT.take 32 rfl rfl rfl rfl (by kernel_rfl) (fun _ _ _ h => h) (Val.move rfl) (fun w2 hw => hw) ?_
              refine DT.take 33 rfl rfl rfl rfl (by kernel_rfl) (fun _ _ _ h => h) (Val.indexE h_p144 Try.underlying44 sz48 rfl rfl) (fun w2 hw => hw) ?_
              refine DT.take 34 rfl rfl rfl rfl (by kernel_rfl) (fun _ _ _ h => h) (Val.fieldE h_p147 Try.underlying48 rfl rfl sz4 rfl) (fun w2 hw => hw) ?_
              refine DT.take 35 rfl rfl rfl rfl (by kernel_rfl) (fun _ _ _ h => h) (Val.loadAt1 see 0 rfl Try.underlying4 rfl rfl) (fun w2 hw => hw) ?_
              refine DT.take 36 rfl rfl rfl rfl (by kernel_rfl) (fun _ _ _ h => h) (Val.neqB Try.underlying4 rfl rfl) (fun w2 hw => hw) ?_
              refine DT.take 37 rfl rfl rfl rfl (by kernel_rfl) (fun _ _ _ h => h) (Val.pickF rfl rfl) (fun w2 hw => hw) ?_
              refine DT.take 38 rfl rfl rfl rfl (by kernel_rfl) (fun _ _ _ h => h) (Val.move rfl) (fun w2 hw => hw) ?_
              refine DT.is (d := 55) (b := true) rfl hg150 ?_
              refine DT.not 39 rfl rfl rfl rfl (by kernel_rfl) (fun _ _ _ h => h) (fun w2 hw => hw) ?_
              refine DT.not 40 rfl rfl rfl rfl (by kernel_rfl) (fun _ _ _ h => h) (fun w2 hw => hw) ?_
              refine DT.not 41 rfl rfl rfl rfl (by kernel_rfl) (fun _ _ _ h => h) (fun w2 hw => hw) ?_
              refine DT.not 42 rfl rfl rfl rfl (by kernel_rfl) (fun _ _ _ h => h) (fun w2 hw => hw) ?_
              refine DT.not 43 rfl rfl rfl rfl (by kernel_rfl) (fun _ _ _ h => h) (fun w2 hw => hw) ?_
              refine DT.not 44 rfl rfl rfl rfl (by kernel_rfl) (fun _ _ _ h => h) (fun w2 hw => hw) ?_
              refine DT.not 45 rfl rfl rfl rfl (by kernel_rfl) (fun _ _ _ h => h) (fun w2 hw => hw) ?_
              refine DT.not 46 rfl rfl rfl rfl (by kernel_rfl) (fun _ _ _ h => h) (fun w2 hw => hw) ?_
              refine DT.not 47 rfl rfl rfl rfl (by kernel_rfl) (fun _ _ _ h => h) (fun w2 hw => hw) ?_
              refine DT.not 48 rfl rfl rfl rfl (by kernel_rfl) (fun _ _ _ h => h) (fun w2 hw => hw) ?_
              refine DT.not 49 rfl rfl rfl rfl (by kernel_rfl) (fun _ _ _ h => h) (fun w2 hw => hw) ?_
              refine DT.take 50 rfl rfl rfl rfl (by kernel_rfl) (fun _ _ _ h => h) (Val.pickT rfl rfl) (fun w2 hw => hw) ?_
              refine DT.take 51 rfl rfl rfl rfl (by kernel_rfl) (fun _ _ _ h => h) (Val.move rfl) (fun w2 hw => hw) ?_
              refine DT.not 52 rfl rfl rfl rfl (by kernel_rfl) (fun _ _ _ h => h) (fun w2 hw => hw) ?_
              refine DT.not 53 rfl rfl rfl rfl (by kernel_rfl) (fun _ _ _ h => h) (fun w2 hw => hw) ?_
              refine DT.not 54 rfl rfl rfl rfl (by kernel_rfl) (fun _ _ _ h => h) (fun w2 hw => hw) ?_
              refine DT.not 55 rfl rfl rfl rfl (by kernel_rfl) (fun _ _ _ h => h) (fun w2 hw => hw) ?_
              refine DT.not 56 rfl rfl rfl rfl (by kernel_rfl) (fun _ _ _ h => h) (fun w2 hw => hw) ?_
              refine DT.not 57 rfl rfl rfl rfl (by kernel_rfl) (fun _ _ _ h => h) (fun w2 hw => hw) ?_
              refine DT.not 58 rfl rfl rfl rfl (by kernel_rfl) (fun _ _ _ h => h) (fun w2 hw => hw) ?_
              refine DT.not 59 rfl rfl rfl rfl (by kernel_rfl) (fun _ _ _ h => h) (fun w2 hw => hw) ?_
              refine DT.not 60 rfl rfl rfl rfl (by kernel_rfl) (fun _ _ _ h => h) (fun w2 hw => hw) ?_
              refine DT.not 61 rfl rfl rfl rfl (by kernel_rfl) (fun _ _ _ h => h) (fun w2 hw => hw) ?_
              refine DT.not 62 rfl rfl rfl rfl (by kernel_rfl) (fun _ _ _ h => h) (fun w2 hw => hw) ?_
              refine DT.take 63 rfl rfl rfl rfl (by kernel_rfl) (fun _ _ _ h => h) (Val.pickT rfl rfl) (fun w2 hw => hw) ?_
              refine DT.take 64 rfl rfl rfl rfl (by kernel_rfl) (fun _ _ _ h => h) (Val.move rfl) (fun w2 hw => hw) ?_
              refine DT.not 65 rfl rfl rfl rfl (by kernel_rfl) (fun _ _ _ h => h) (fun w2 hw => hw) ?_
              refine DT.not 66 rfl rfl rfl rfl (by kernel_rfl) (fun _ _ _ h => h) (fun w2 hw => hw) ?_
              refine DT.not 67 rfl rfl rfl rfl (by kernel_rfl) (fun _ _ _ h => h) (fun w2 hw => hw) ?_
              refine DT.not 68 rfl rfl rfl rfl (by kernel_rfl) (fun _ _ _ h => h) (fun w2 hw => hw) ?_
              refine DT.not 69 rfl rfl rfl rfl (by kernel_rfl) (fun _ _ _ h => h) (fun w2 hw => hw) ?_
              refine DT.not 70 rfl rfl rfl rfl (by kernel_rfl) (fun _ _ _ h => h) (fun w2 hw => hw) ?_
              refine DT.not 71 rfl rfl rfl rfl (by kernel_rfl) (fun _ _ _ h => h) (fun w2 hw => hw) ?_
              refine DT.not 72 rfl rfl rfl rfl (by kernel_rfl) (fun _ _ _ h => h) (fun w2 hw => hw) ?_
              refine DT.not 73 rfl rfl rfl rfl (by kernel_rfl) (fun _ _ _ h => h) (fun w2 hw => hw) ?_
              refine DT.not 74 rfl rfl rfl rfl (by kernel_rfl) (fun _ _ _ h => h) (fun w2 hw => hw) ?_
              refine DT.not 75 rfl rfl rfl rfl (by kernel_rfl) (fun _ _ _ h => h) (fun w2 hw => hw) ?_
              refine DT.take 76 rfl rfl rfl rfl (by kernel_rfl) (fun _ _ _ h => h) (Val.pickT rfl rfl) (fun w2 hw => hw) ?_
              refine DT.next (by kernel_rfl) ?_
              refine DA.done (by kernel_rfl) ?_
              exact QE.meet fun a w2 ha hw => ⟨true, m99, _, (by omega), ho, hr, ha.sub ⟨rfl, rfl, rfl, rfl, trivial⟩, (St.selP [22, 23] rfl hw)⟩
            · have hg151 := (bf hc)
              clear hc
              obtain ⟨x154, hx, ho⟩ := bind_some ho
              have hx := elt_some hx
              refine DA.ghost (fun w2 h => h.elem see 22 rfl hx.1 hx.2) (fun p152 h_p152 => ?_)
              clear hx
              refine DA.ghost (fun w2 h => h.fieldE see 0 rfl k_history_Call.part_Reply) (fun p155 h_p155 => ?_)
              refine DA.ghost (fun w2 h => h.openE see 0 rfl (fun _ : Unit => [.int .i64 x154.Reply.Err, .int .i64 x154.Reply.Out.Trap, .int .u8 x154.Reply.Out.Result.Kind, .int .i64 x154.Reply.Out.Result.A, .int .i64 x154.Reply.Out.Result.B]) (fun _ => []) (fun h cs e => ⟨(), e, All.nil _⟩)) (fun _ _ => ?_)
              obtain ⟨x160, hx, ho⟩ := bind_some ho
              have hx := elt_some hx
              refine DA.ghost (fun w2 h => h.elem see 26 rfl hx.1 hx.2) (fun p158 h_p158 => ?_)
              clear hx
              refine DA.ghost (fun w2 h => h.fieldE see 0 rfl k_history_Call.part_Reply) (fun p161 h_p161 => ?_)
              refine DA.ghost (fun w2 h => h.openE see 0 rfl (fun _ : Unit => [.int .i64 x160.Reply.Err, .int .i64 x160.Reply.Out.Trap, .int .u8 x160.Reply.Out.Result.Kind, .int .i64 x160.Reply.Out.Result.A, .int .i64 x160.Reply.Out.Result.B]) (fun _ => []) (fun h cs e => ⟨(), e, All.nil _⟩)) (fun _ _ => ?_)
              rcases if_some ho with ⟨hc, ho⟩ | ⟨hc, ho⟩
              · have hg164 := hc
                clear hc
                refine DA.phase (fun i => Nat.ble 0 i && Nat.blt i 77) (fun w2 => St w em hV [atP p161 [.int .i64 x160.Reply.Err, .int .i64 x160.Reply.Out.Trap, .int .u8 x160.Reply.Out.Result.Kind, .int .i64 x160.Reply.Out.Result.A, .int .i64 x160.Reply.Out.Result.B], elP k_api_Reply p161 x160.Reply, elP k_history_Call p158 x160, atP p155 [.int .i64 x154.Reply.Err, .int .i64 x154.Reply.Out.Trap, .int .u8 x154.Reply.Out.Result.Kind, .int .i64 x154.Reply.Out.Result.A, .int .i64 x154.Reply.Out.Result.B], elP k_api_Reply p155 x154.Reply, elP k_history_Call p152 x154, atP p147 [.bool x146.Read], elP kBool p147 x146.Read, elP k_history_Call p144 x146, atP p141 [.bool x140.Read], elP kBool p141 x140.Read, elP k_history_Call p138 x140, atP p127 [.int .u8 x126.Op.Kind, .int .i64 x126.Op.Method, v129, v131], slP k_api_Value v129 x126.Op.Args, slP (kInt .u8) v131 x126.Op.Bytes, elP k_api_Op p127 x126.Op, elP k_history_Call p124 x126, atP p117 [.int .u8 x116.Op.Kind, .int .i64 x116.Op.Method, v119, v121], slP k_api_Value v119 x116.Op.Args, slP (kInt .u8) v121 x116.Op.Bytes, elP k_api_Op p117 x116.Op, elP k_history_Call p114 x116, atP p109 [.int .i64 x108.Proc], elP (kInt .i64) p109 x108.Proc, elP k_history_Call p106 x108, atP p103 [.int .i64 x102.Proc], elP (kInt .i64) p103 x102.Proc, elP k_history_Call p100 x102, slP k_history_Call v_a_0 a_0, slP k_history_Call v_b_1 b_1] [] w2) ?_
                refine DT.take 0 rfl rfl rfl rfl (by kernel_rfl) (fun _ _ _ h => h) (Val.move rfl) (fun w2 hw => hw) ?_
                refine DT.take 1 rfl rfl rfl rfl (by kernel_rfl) (fun _ _ _ h => h) (Val.move rfl) (fun w2 hw => hw) ?_
                refine DT.take 2 rfl rfl rfl rfl (by kernel_rfl) (fun _ _ _ h => h) (Val.indexE h_p100 Try.underlying44 sz48 rfl rfl) (fun w2 hw => hw) ?_
                refine DT.take 3 rfl rfl rfl rfl (by kernel_rfl) (fun _ _ _ h => h) (Val.fieldE h_p103 Try.underlying48 rfl rfl sz3 rfl) (fun w2 hw => hw) ?_
                refine DT.take 4 rfl rfl rfl rfl (by kernel_rfl) (fun _ _ _ h => h) (Val.loadAt1 see 25 rfl Try.underlying3 rfl rfl) (fun w2 hw => hw) ?_
                refine DT.take 5 rfl rfl rfl rfl (by kernel_rfl) (fun _ _ _ h => h) (Val.move rfl) (fun w2 hw => hw) ?_
                refine DT.take 6 rfl rfl rfl rfl (by kernel_rfl) (fun _ _ _ h => h) (Val.move rfl) (fun w2 hw => hw) ?_
                refine DT.take 7 rfl rfl rfl rfl (by kernel_rfl) (fun _ _ _ h => h) (Val.indexE h_p106 Try.underlying44 sz48 rfl rfl) (fun w2 hw => hw) ?_
                refine DT.take 8 rfl rfl rfl rfl (by kernel_rfl) (fun _ _ _ h => h) (Val.fieldE h_p109 Try.underlying48 rfl rfl sz3 rfl) (fun w2 hw => hw) ?_
                refine DT.take 9 rfl rfl rfl rfl (by kernel_rfl) (fun _ _ _ h => h) (Val.loadAt1 see 22 rfl Try.underlying3 rfl rfl) (fun w2 hw => hw) ?_
                refine DT.take 10 rfl rfl rfl rfl (by kernel_rfl) (fun _ _ _ h => h) (Val.neq rfl rfl) (fun w2 hw => hw) ?_
                refine DT.take 11 rfl rfl rfl rfl (by kernel_rfl) (fun _ _ _ h => h) (Val.move rfl) (fun w2 hw => hw) ?_
                refine DT.is (d := 28) (b := false) rfl hg113 ?_
                refine DT.take 12 rfl rfl rfl rfl (by kernel_rfl) (fun _ _ _ h => h) (Val.move rfl) (fun w2 hw => hw) ?_
                refine DT.take 13 rfl rfl rfl rfl (by kernel_rfl) (fun _ _ _ h => h) (Val.move rfl) (fun w2 hw => hw) ?_
                refine DT.take 14 rfl rfl rfl rfl (by kernel_rfl) (fun _ _ _ h => h) (Val.indexE h_p114 Try.underlying44 sz48 rfl rfl) (fun w2 hw => hw) ?_
                refine DT.take 15 rfl rfl rfl rfl (by kernel_rfl) (fun _ _ _ h => h) (Val.fieldE h_p117 Try.underlying48 rfl rfl sz34 rfl) (fun w2 hw => hw) ?_
                refine DT.take 16 rfl rfl rfl rfl (by kernel_rfl) (fun _ _ _ h => h) (Val.loadAtA see 17 rfl Try.underlying34 rfl sz34 rfl) (fun w2 hw => hw) ?_
                refine DT.take 17 rfl rfl rfl rfl (by kernel_rfl) (fun _ _ _ h => h) (Val.move rfl) (fun w2 hw => hw) ?_
                refine DT.take 18 rfl rfl rfl rfl (by kernel_rfl) (fun _ _ _ h => h) (Val.move rfl) (fun w2 hw => hw) ?_
                refine DT.take 19 rfl rfl rfl rfl (by kernel_rfl) (fun _ _ _ h => h) (Val.indexE h_p124 Try.underlying44 sz48 rfl rfl) (fun w2 hw => hw) ?_
                refine DT.take 20 rfl rfl rfl rfl (by kernel_rfl) (fun _ _ _ h => h) (Val.fieldE h_p127 Try.underlying48 rfl rfl sz34 rfl) (fun w2 hw => hw) ?_
                refine DT.take 21 rfl rfl rfl rfl (by kernel_rfl) (fun _ _ _ h => h) (Val.loadAtA see 12 rfl Try.underlying34 rfl sz34 rfl) (fun w2 hw => hw) ?_
                refine DT.one 22 rfl (by kernel_rfl) rfl ?_
                refine SP.callV see (caps := []) (.bool t134) fn43 rfl rfl rfl rfl (fun w2 hP hs sub ap => capstanref20_Same.ok x116.Op x126.Op _ _ _ _ _ hc135 w2 hP sub (ap.get 18 rfl) (ap.get 19 rfl) (ap.get 13 rfl) (ap.get 14 rfl)) ?_
                refine SP.nil ?_
                refine QE.atT (fun w2 hw => hw) ?_
                refine DT.take 23 rfl rfl rfl rfl (by kernel_rfl) (fun _ _ _ h => h) (Val.notB rfl) (fun w2 hw => hw) ?_
                refine DT.take 24 rfl rfl rfl rfl (by kernel_rfl) (fun _ _ _ h => h) (Val.pickF rfl rfl) (fun w2 hw => hw) ?_
                refine DT.take 25 rfl rfl rfl rfl (by kernel_rfl) (fun _ _ _ h => h) (Val.move rfl) (fun w2 hw => hw) ?_
                refine DT.is (d := 42) (b := false) rfl hg137 ?_
                refine DT.take 26 rfl rfl rfl rfl (by kernel_rfl) (fun _ _ _ h => h) (Val.move rfl) (fun w2 hw => hw) ?_
                refine DT.take 27 rfl rfl rfl rfl (by kernel_rfl) (fun _ _ _ h => h) (Val.move rfl) (fun w2 hw => hw) ?_
                refine DT.take 28 rfl rfl rfl rfl (by kernel_rfl) (fun _ _ _ h => h) (Val.indexE h_p138 Try.underlying44 sz48 rfl rfl) (fun w2 hw => hw) ?_
                refine DT.take 29 rfl rfl rfl rfl (by kernel_rfl) (fun _ _ _ h => h) (Val.fieldE h_p141 Try.underlying48 rfl rfl sz4 rfl) (fun w2 hw => hw) ?_
                refine DT.take 30 rfl rfl rfl rfl (by kernel_rfl) (fun _ _ _ h => h) (Val.loadAt1 see 9 rfl Try.underlying4 rfl rfl) (fun w2 hw => hw) ?_
                refine DT.take 31 rfl rfl rfl rfl (by kernel_rfl) (fun _ _ _ h => h) (Val.move rfl) (fun w2 hw => hw) ?_
                refine DT.take 32 rfl rfl rfl rfl (by kernel_rfl) (fun _ _ _ h => h) (Val.move rfl) (fun w2 hw => hw) ?_
                refine DT.take 33 rfl rfl rfl rfl (by kernel_rfl) (fun _ _ _ h => h) (Val.indexE h_p144 Try.underlying44 sz48 rfl rfl) (fun w2 hw => hw) ?_
                refine DT.take 34 rfl rfl rfl rfl (by kernel_rfl) (fun _ _ _ h => h) (Val.fieldE h_p147 Try.underlying48 rfl rfl sz4 rfl) (fun w2 hw => hw) ?_
                refine DT.take 35 rfl rfl rfl rfl (by kernel_rfl) (fun _ _ _ h => h) (Val.loadAt1 see 6 rfl Try.underlying4 rfl rfl) (fun w2 hw => hw) ?_
                refine DT.take 36 rfl rfl rfl rfl (by kernel_rfl) (fun _ _ _ h => h) (Val.neqB Try.underlying4 rfl rfl) (fun w2 hw => hw) ?_
                refine DT.take 37 rfl rfl rfl rfl (by kernel_rfl) (fun _ _ _ h => h) (Val.pickF rfl rfl) (fun w2 hw => hw) ?_
                refine DT.take 38 rfl rfl rfl rfl (by kernel_rfl) (fun _ _ _ h => h) (Val.move rfl) (fun w2 hw => hw) ?_
                refine DT.is (d := 55) (b := false) rfl hg151 ?_
                refine DT.take 39 rfl rfl rfl rfl (by kernel_rfl) (fun _ _ _ h => h) (Val.move rfl) (fun w2 hw => hw) ?_
                refine DT.take 40 rfl rfl rfl rfl (by kernel_rfl) (fun _ _ _ h => h) (Val.move rfl) (fun w2 hw => hw) ?_
                refine DT.take 41 rfl rfl rfl rfl (by kernel_rfl) (fun _ _ _ h => h) (Val.indexE h_p152 Try.underlying44 sz48 rfl rfl) (fun w2 hw => hw) ?_
                refine DT.take 42 rfl rfl rfl rfl (by kernel_rfl) (fun _ _ _ h => h) (Val.fieldE h_p155 Try.underlying48 rfl rfl sz41 rfl) (fun w2 hw => hw) ?_
                refine DT.take 43 rfl rfl rfl rfl (by kernel_rfl) (fun _ _ _ h => h) (Val.loadAtA see 3 rfl Try.underlying41 rfl sz41 rfl) (fun w2 hw => hw) ?_
                refine DT.take 44 rfl rfl rfl rfl (by kernel_rfl) (fun _ _ _ h => h) (Val.move rfl) (fun w2 hw => hw) ?_
                refine DT.take 45 rfl rfl rfl rfl (by kernel_rfl) (fun _ _ _ h => h) (Val.move rfl) (fun w2 hw => hw) ?_
                refine DT.take 46 rfl rfl rfl rfl (by kernel_rfl) (fun _ _ _ h => h) (Val.indexE h_p158 Try.underlying44 sz48 rfl rfl) (fun w2 hw => hw) ?_
                refine DT.take 47 rfl rfl rfl rfl (by kernel_rfl) (fun _ _ _ h => h) (Val.fieldE h_p161 Try.underlying48 rfl rfl sz41 rfl) (fun w2 hw => hw) ?_
                refine DT.take 48 rfl rfl rfl rfl (by kernel_rfl) (fun _ _ _ h => h) (Val.loadAtA see 0 rfl Try.underlying41 rfl sz41 rfl) (fun w2 hw => hw) ?_
                refine DT.take 49 rfl rfl rfl rfl (by kernel_rfl) (fun _ _ _ h => h) (Val.neqA (by kernel_rfl) (fun w2 => eqA41 9996 w2 x154.Reply.Err x160.Reply.Err x154.Reply.Out.Trap x160.Reply.Out.Trap x154.Reply.Out.Result.Kind x160.Reply.Out.Result.Kind x154.Reply.Out.Result.A x160.Reply.Out.Result.A x154.Reply.Out.Result.B x160.Reply.Out.Result.B) rfl rfl) (fun w2 hw => hw) ?_
                refine DT.take 50 rfl rfl rfl rfl (by kernel_rfl) (fun _ _ _ h => h) (Val.pickF rfl rfl) (fun w2 hw => hw) ?_
                refine DT.take 51 rfl rfl rfl rfl (by kernel_rfl) (fun _ _ _ h => h) (Val.move rfl) (fun w2 hw => hw) ?_
                refine DT.is (d := 68) (b := true) rfl hg164 ?_
                refine DT.not 52 rfl rfl rfl rfl (by kernel_rfl) (fun _ _ _ h => h) (fun w2 hw => hw) ?_
                refine DT.not 53 rfl rfl rfl rfl (by kernel_rfl) (fun _ _ _ h => h) (fun w2 hw => hw) ?_
                refine DT.not 54 rfl rfl rfl rfl (by kernel_rfl) (fun _ _ _ h => h) (fun w2 hw => hw) ?_
                refine DT.not 55 rfl rfl rfl rfl (by kernel_rfl) (fun _ _ _ h => h) (fun w2 hw => hw) ?_
                refine DT.not 56 rfl rfl rfl rfl (by kernel_rfl) (fun _ _ _ h => h) (fun w2 hw => hw) ?_
                refine DT.not 57 rfl rfl rfl rfl (by kernel_rfl) (fun _ _ _ h => h) (fun w2 hw => hw) ?_
                refine DT.not 58 rfl rfl rfl rfl (by kernel_rfl) (fun _ _ _ h => h) (fun w2 hw => hw) ?_
                refine DT.not 59 rfl rfl rfl rfl (by kernel_rfl) (fun _ _ _ h => h) (fun w2 hw => hw) ?_
                refine DT.not 60 rfl rfl rfl rfl (by kernel_rfl) (fun _ _ _ h => h) (fun w2 hw => hw) ?_
                refine DT.not 61 rfl rfl rfl rfl (by kernel_rfl) (fun _ _ _ h => h) (fun w2 hw => hw) ?_
                refine DT.not 62 rfl rfl rfl rfl (by kernel_rfl) (fun _ _ _ h => h) (fun w2 hw => hw) ?_
                refine DT.take 63 rfl rfl rfl rfl (by kernel_rfl) (fun _ _ _ h => h) (Val.pickT rfl rfl) (fun w2 hw => hw) ?_
                refine DT.take 64 rfl rfl rfl rfl (by kernel_rfl) (fun _ _ _ h => h) (Val.move rfl) (fun w2 hw => hw) ?_
                refine DT.not 65 rfl rfl rfl rfl (by kernel_rfl) (fun _ _ _ h => h) (fun w2 hw => hw) ?_
                refine DT.not 66 rfl rfl rfl rfl (by kernel_rfl) (fun _ _ _ h => h) (fun w2 hw => hw) ?_
                refine DT.not 67 rfl rfl rfl rfl (by kernel_rfl) (fun _ _ _ h => h) (fun w2 hw => hw) ?_
                refine DT.not 68 rfl rfl rfl rfl (by kernel_rfl) (fun _ _ _ h => h) (fun w2 hw => hw) ?_
                refine DT.not 69 rfl rfl rfl rfl (by kernel_rfl) (fun _ _ _ h => h) (fun w2 hw => hw) ?_
                refine DT.not 70 rfl rfl rfl rfl (by kernel_rfl) (fun _ _ _ h => h) (fun w2 hw => hw) ?_
                refine DT.not 71 rfl rfl rfl rfl (by kernel_rfl) (fun _ _ _ h => h) (fun w2 hw => hw) ?_
                refine DT.not 72 rfl rfl rfl rfl (by kernel_rfl) (fun _ _ _ h => h) (fun w2 hw => hw) ?_
                refine DT.not 73 rfl rfl rfl rfl (by kernel_rfl) (fun _ _ _ h => h) (fun w2 hw => hw) ?_
                refine DT.not 74 rfl rfl rfl rfl (by kernel_rfl) (fun _ _ _ h => h) (fun w2 hw => hw) ?_
                refine DT.not 75 rfl rfl rfl rfl (by kernel_rfl) (fun _ _ _ h => h) (fun w2 hw => hw) ?_
                refine DT.take 76 rfl rfl rfl rfl (by kernel_rfl) (fun _ _ _ h => h) (Val.pickT rfl rfl) (fun w2 hw => hw) ?_
                refine DT.next (by kernel_rfl) ?_
                refine DA.done (by kernel_rfl) ?_
                exact QE.meet fun a w2 ha hw => ⟨true, m99, _, (by omega), ho, hr, ha.sub ⟨rfl, rfl, rfl, rfl, trivial⟩, (St.selP [28, 29] rfl hw)⟩
              · have hg165 := (bf hc)
                clear hc
                obtain ⟨x168, hx, ho⟩ := bind_some ho
                have hx := elt_some hx
                refine DA.ghost (fun w2 h => h.elem see 28 rfl hx.1 hx.2) (fun p166 h_p166 => ?_)
                clear hx
                refine DA.ghost (fun w2 h => h.fieldE see 0 rfl k_history_Call.part_Start) (fun p169 h_p169 => ?_)
                refine DA.ghost (fun w2 h => h.openE see 0 rfl (fun _ : Unit => [.int .i64 x168.Start]) (fun _ => []) (fun h cs e => ⟨(), e, All.nil _⟩)) (fun _ _ => ?_)
                obtain ⟨x174, hx, ho⟩ := bind_some ho
                have hx := elt_some hx
                refine DA.ghost (fun w2 h => h.elem see 32 rfl hx.1 hx.2) (fun p172 h_p172 => ?_)
                clear hx
                refine DA.ghost (fun w2 h => h.fieldE see 0 rfl k_history_Call.part_Start) (fun p175 h_p175 => ?_)
                refine DA.ghost (fun w2 h => h.openE see 0 rfl (fun _ : Unit => [.int .i64 x174.Start]) (fun _ => []) (fun h cs e => ⟨(), e, All.nil _⟩)) (fun _ _ => ?_)
                rcases if_some ho with ⟨hc, ho⟩ | ⟨hc, ho⟩
                · have hg178 := (decide_eq_true hc)
                  clear hc
                  refine DA.phase (fun i => Nat.ble 0 i && Nat.blt i 77) (fun w2 => St w em hV [atP p175 [.int .i64 x174.Start], elP (kInt .i64) p175 x174.Start, elP k_history_Call p172 x174, atP p169 [.int .i64 x168.Start], elP (kInt .i64) p169 x168.Start, elP k_history_Call p166 x168, atP p161 [.int .i64 x160.Reply.Err, .int .i64 x160.Reply.Out.Trap, .int .u8 x160.Reply.Out.Result.Kind, .int .i64 x160.Reply.Out.Result.A, .int .i64 x160.Reply.Out.Result.B], elP k_api_Reply p161 x160.Reply, elP k_history_Call p158 x160, atP p155 [.int .i64 x154.Reply.Err, .int .i64 x154.Reply.Out.Trap, .int .u8 x154.Reply.Out.Result.Kind, .int .i64 x154.Reply.Out.Result.A, .int .i64 x154.Reply.Out.Result.B], elP k_api_Reply p155 x154.Reply, elP k_history_Call p152 x154, atP p147 [.bool x146.Read], elP kBool p147 x146.Read, elP k_history_Call p144 x146, atP p141 [.bool x140.Read], elP kBool p141 x140.Read, elP k_history_Call p138 x140, atP p127 [.int .u8 x126.Op.Kind, .int .i64 x126.Op.Method, v129, v131], slP k_api_Value v129 x126.Op.Args, slP (kInt .u8) v131 x126.Op.Bytes, elP k_api_Op p127 x126.Op, elP k_history_Call p124 x126, atP p117 [.int .u8 x116.Op.Kind, .int .i64 x116.Op.Method, v119, v121], slP k_api_Value v119 x116.Op.Args, slP (kInt .u8) v121 x116.Op.Bytes, elP k_api_Op p117 x116.Op, elP k_history_Call p114 x116, atP p109 [.int .i64 x108.Proc], elP (kInt .i64) p109 x108.Proc, elP k_history_Call p106 x108, atP p103 [.int .i64 x102.Proc], elP (kInt .i64) p103 x102.Proc, elP k_history_Call p100 x102, slP k_history_Call v_a_0 a_0, slP k_history_Call v_b_1 b_1] [] w2) ?_
                  refine DT.take 0 rfl rfl rfl rfl (by kernel_rfl) (fun _ _ _ h => h) (Val.move rfl) (fun w2 hw => hw) ?_
                  refine DT.take 1 rfl rfl rfl rfl (by kernel_rfl) (fun _ _ _ h => h) (Val.move rfl) (fun w2 hw => hw) ?_
                  refine DT.take 2 rfl rfl rfl rfl (by kernel_rfl) (fun _ _ _ h => h) (Val.indexE h_p100 Try.underlying44 sz48 rfl rfl) (fun w2 hw => hw) ?_
                  refine DT.take 3 rfl rfl rfl rfl (by kernel_rfl) (fun _ _ _ h => h) (Val.fieldE h_p103 Try.underlying48 rfl rfl sz3 rfl) (fun w2 hw => hw) ?_
                  refine DT.take 4 rfl rfl rfl rfl (by kernel_rfl) (fun _ _ _ h => h) (Val.loadAt1 see 31 rfl Try.underlying3 rfl rfl) (fun w2 hw => hw) ?_
                  refine DT.take 5 rfl rfl rfl rfl (by kernel_rfl) (fun _ _ _ h => h) (Val.move rfl) (fun w2 hw => hw) ?_
                  refine DT.take 6 rfl rfl rfl rfl (by kernel_rfl) (fun _ _ _ h => h) (Val.move rfl) (fun w2 hw => hw) ?_
                  refine DT.take 7 rfl rfl rfl rfl (by kernel_rfl) (fun _ _ _ h => h) (Val.indexE h_p106 Try.underlying44 sz48 rfl rfl) (fun w2 hw => hw) ?_
                  refine DT.take 8 rfl rfl rfl rfl (by kernel_rfl) (fun _ _ _ h => h) (Val.fieldE h_p109 Try.underlying48 rfl rfl sz3 rfl) (fun w2 hw => hw) ?_
                  refine DT.take 9 rfl rfl rfl rfl (by kernel_rfl) (fun _ _ _ h => h) (Val.loadAt1 see 28 rfl Try.underlying3 rfl rfl) (fun w2 hw => hw) ?_
                  refine DT.take 10 rfl rfl rfl rfl (by kernel_rfl) (fun _ _ _ h => h) (Val.neq rfl rfl) (fun w2 hw => hw) ?_
                  refine DT.take 11 rfl rfl rfl rfl (by kernel_rfl) (fun _ _ _ h => h) (Val.move rfl) (fun w2 hw => hw) ?_
                  refine DT.is (d := 28) (b := false) rfl hg113 ?_
                  refine DT.take 12 rfl rfl rfl rfl (by kernel_rfl) (fun _ _ _ h => h) (Val.move rfl) (fun w2 hw => hw) ?_
                  refine DT.take 13 rfl rfl rfl rfl (by kernel_rfl) (fun _ _ _ h => h) (Val.move rfl) (fun w2 hw => hw) ?_
                  refine DT.take 14 rfl rfl rfl rfl (by kernel_rfl) (fun _ _ _ h => h) (Val.indexE h_p114 Try.underlying44 sz48 rfl rfl) (fun w2 hw => hw) ?_
                  refine DT.take 15 rfl rfl rfl rfl (by kernel_rfl) (fun _ _ _ h => h) (Val.fieldE h_p117 Try.underlying48 rfl rfl sz34 rfl) (fun w2 hw => hw) ?_
                  refine DT.take 16 rfl rfl rfl rfl (by kernel_rfl) (fun _ _ _ h => h) (Val.loadAtA see 23 rfl Try.underlying34 rfl sz34 rfl) (fun w2 hw => hw) ?_
                  refine DT.take 17 rfl rfl rfl rfl (by kernel_rfl) (fun _ _ _ h => h) (Val.move rfl) (fun w2 hw => hw) ?_
                  refine DT.take 18 rfl rfl rfl rfl (by kernel_rfl) (fun _ _ _ h => h) (Val.move rfl) (fun w2 hw => hw) ?_
                  refine DT.take 19 rfl rfl rfl rfl (by kernel_rfl) (fun _ _ _ h => h) (Val.indexE h_p124 Try.underlying44 sz48 rfl rfl) (fun w2 hw => hw) ?_
                  refine DT.take 20 rfl rfl rfl rfl (by kernel_rfl) (fun _ _ _ h => h) (Val.fieldE h_p127 Try.underlying48 rfl rfl sz34 rfl) (fun w2 hw => hw) ?_
                  refine DT.take 21 rfl rfl rfl rfl (by kernel_rfl) (fun _ _ _ h => h) (Val.loadAtA see 18 rfl Try.underlying34 rfl sz34 rfl) (fun w2 hw => hw) ?_
                  refine DT.one 22 rfl (by kernel_rfl) rfl ?_
                  refine SP.callV see (caps := []) (.bool t134) fn43 rfl rfl rfl rfl (fun w2 hP hs sub ap => capstanref20_Same.ok x116.Op x126.Op _ _ _ _ _ hc135 w2 hP sub (ap.get 24 rfl) (ap.get 25 rfl) (ap.get 19 rfl) (ap.get 20 rfl)) ?_
                  refine SP.nil ?_
                  refine QE.atT (fun w2 hw => hw) ?_
                  refine DT.take 23 rfl rfl rfl rfl (by kernel_rfl) (fun _ _ _ h => h) (Val.notB rfl) (fun w2 hw => hw) ?_
                  refine DT.take 24 rfl rfl rfl rfl (by kernel_rfl) (fun _ _ _ h => h) (Val.pickF rfl rfl) (fun w2 hw => hw) ?_
                  refine DT.take 25 rfl rfl rfl rfl (by kernel_rfl) (fun _ _ _ h => h) (Val.move rfl) (fun w2 hw => hw) ?_
                  refine DT.is (d := 42) (b := false) rfl hg137 ?_
                  refine DT.take 26 rfl rfl rfl rfl (by kernel_rfl) (fun _ _ _ h => h) (Val.move rfl) (fun w2 hw => hw) ?_
                  refine DT.take 27 rfl rfl rfl rfl (by kernel_rfl) (fun _ _ _ h => h) (Val.move rfl) (fun w2 hw => hw) ?_
                  refine DT.take 28 rfl rfl rfl rfl (by kernel_rfl) (fun _ _ _ h => h) (Val.indexE h_p138 Try.underlying44 sz48 rfl rfl) (fun w2 hw => hw) ?_
                  refine DT.take 29 rfl rfl rfl rfl (by kernel_rfl) (fun _ _ _ h => h) (Val.fieldE h_p141 Try.underlying48 rfl rfl sz4 rfl) (fun w2 hw => hw) ?_
                  refine DT.take 30 rfl rfl rfl rfl (by kernel_rfl) (fun _ _ _ h => h) (Val.loadAt1 see 15 rfl Try.underlying4 rfl rfl) (fun w2 hw => hw) ?_
                  refine DT.take 31 rfl rfl rfl rfl (by kernel_rfl) (fun _ _ _ h => h) (Val.move rfl) (fun w2 hw => hw) ?_
                  refine DT.take 32 rfl rfl rfl rfl (by kernel_rfl) (fun _ _ _ h => h) (Val.move rfl) (fun w2 hw => hw) ?_
                  refine DT.take 33 rfl rfl rfl rfl (by kernel_rfl) (fun _ _ _ h => h) (Val.indexE h_p144 Try.underlying44 sz48 rfl rfl) (fun w2 hw => hw) ?_
                  refine DT.take 34 rfl rfl rfl rfl (by kernel_rfl) (fun _ _ _ h => h) (Val.fieldE h_p147 Try.underlying48 rfl rfl sz4 rfl) (fun w2 hw => hw) ?_
                  refine DT.take 35 rfl rfl rfl rfl (by kernel_rfl) (fun _ _ _ h => h) (Val.loadAt1 see 12 rfl Try.underlying4 rfl rfl) (fun w2 hw => hw) ?_
                  refine DT.take 36 rfl rfl rfl rfl (by kernel_rfl) (fun _ _ _ h => h) (Val.neqB Try.underlying4 rfl rfl) (fun w2 hw => hw) ?_
                  refine DT.take 37 rfl rfl rfl rfl (by kernel_rfl) (fun _ _ _ h => h) (Val.pickF rfl rfl) (fun w2 hw => hw) ?_
                  refine DT.take 38 rfl rfl rfl rfl (by kernel_rfl) (fun _ _ _ h => h) (Val.move rfl) (fun w2 hw => hw) ?_
                  refine DT.is (d := 55) (b := false) rfl hg151 ?_
                  refine DT.take 39 rfl rfl rfl rfl (by kernel_rfl) (fun _ _ _ h => h) (Val.move rfl) (fun w2 hw => hw) ?_
                  refine DT.take 40 rfl rfl rfl rfl (by kernel_rfl) (fun _ _ _ h => h) (Val.move rfl) (fun w2 hw => hw) ?_
                  refine DT.take 41 rfl rfl rfl rfl (by kernel_rfl) (fun _ _ _ h => h) (Val.indexE h_p152 Try.underlying44 sz48 rfl rfl) (fun w2 hw => hw) ?_
                  refine DT.take 42 rfl rfl rfl rfl (by kernel_rfl) (fun _ _ _ h => h) (Val.fieldE h_p155 Try.underlying48 rfl rfl sz41 rfl) (fun w2 hw => hw) ?_
                  refine DT.take 43 rfl rfl rfl rfl (by kernel_rfl) (fun _ _ _ h => h) (Val.loadAtA see 9 rfl Try.underlying41 rfl sz41 rfl) (fun w2 hw => hw) ?_
                  refine DT.take 44 rfl rfl rfl rfl (by kernel_rfl) (fun _ _ _ h => h) (Val.move rfl) (fun w2 hw => hw) ?_
                  refine DT.take 45 rfl rfl rfl rfl (by kernel_rfl) (fun _ _ _ h => h) (Val.move rfl) (fun w2 hw => hw) ?_
                  refine DT.take 46 rfl rfl rfl rfl (by kernel_rfl) (fun _ _ _ h => h) (Val.indexE h_p158 Try.underlying44 sz48 rfl rfl) (fun w2 hw => hw) ?_
                  refine DT.take 47 rfl rfl rfl rfl (by kernel_rfl) (fun _ _ _ h => h) (Val.fieldE h_p161 Try.underlying48 rfl rfl sz41 rfl) (fun w2 hw => hw) ?_
                  refine DT.take 48 rfl rfl rfl rfl (by kernel_rfl) (fun _ _ _ h => h) (Val.loadAtA see 6 rfl Try.underlying41 rfl sz41 rfl) (fun w2 hw => hw) ?_
                  refine DT.take 49 rfl rfl rfl rfl (by kernel_rfl) (fun _ _ _ h => h) (Val.neqA (by kernel_rfl) (fun w2 => eqA41 9996 w2 x154.Reply.Err x160.Reply.Err x154.Reply.Out.Trap x160.Reply.Out.Trap x154.Reply.Out.Result.Kind x160.Reply.Out.Result.Kind x154.Reply.Out.Result.A x160.Reply.Out.Result.A x154.Reply.Out.Result.B x160.Reply.Out.Result.B) rfl rfl) (fun w2 hw => hw) ?_
                  refine DT.take 50 rfl rfl rfl rfl (by kernel_rfl) (fun _ _ _ h => h) (Val.pickF rfl rfl) (fun w2 hw => hw) ?_
                  refine DT.take 51 rfl rfl rfl rfl (by kernel_rfl) (fun _ _ _ h => h) (Val.move rfl) (fun w2 hw => hw) ?_
                  refine DT.is (d := 68) (b := false) rfl hg165 ?_
                  refine DT.take 52 rfl rfl rfl rfl (by kernel_rfl) (fun _ _ _ h => h) (Val.move rfl) (fun w2 hw => hw) ?_
                  refine DT.take 53 rfl rfl rfl rfl (by kernel_rfl) (fun _ _ _ h => h) (Val.move rfl) (fun w2 hw => hw) ?_
                  refine DT.take 54 rfl rfl rfl rfl (by kernel_rfl) (fun _ _ _ h => h) (Val.indexE h_p166 Try.underlying44 sz48 rfl rfl) (fun w2 hw => hw) ?_
                  refine DT.take 55 rfl rfl rfl rfl (by kernel_rfl) (fun _ _ _ h => h) (Val.fieldE h_p169 Try.underlying48 rfl rfl sz3 rfl) (fun w2 hw => hw) ?_
                  refine DT.take 56 rfl rfl rfl rfl (by kernel_rfl) (fun _ _ _ h => h) (Val.loadAt1 see 3 rfl Try.underlying3 rfl rfl) (fun w2 hw => hw) ?_
                  refine DT.take 57 rfl rfl rfl rfl (by kernel_rfl) (fun _ _ _ h => h) (Val.move rfl) (fun w2 hw => hw) ?_
                  refine DT.take 58 rfl rfl rfl rfl (by kernel_rfl) (fun _ _ _ h => h) (Val.move rfl) (fun w2 hw => hw) ?_
                  refine DT.take 59 rfl rfl rfl rfl (by kernel_rfl) (fun _ _ _ h => h) (Val.indexE h_p172 Try.underlying44 sz48 rfl rfl) (fun w2 hw => hw) ?_
                  refine DT.take 60 rfl rfl rfl rfl (by kernel_rfl) (fun _ _ _ h => h) (Val.fieldE h_p175 Try.underlying48 rfl rfl sz3 rfl) (fun w2 hw => hw) ?_
                  refine DT.take 61 rfl rfl rfl rfl (by kernel_rfl) (fun _ _ _ h => h) (Val.loadAt1 see 0 rfl Try.underlying3 rfl rfl) (fun w2 hw => hw) ?_
                  refine DT.take 62 rfl rfl rfl rfl (by kernel_rfl) (fun _ _ _ h => h) (Val.neq rfl rfl) (fun w2 hw => hw) ?_
                  refine DT.take 63 rfl rfl rfl rfl (by kernel_rfl) (fun _ _ _ h => h) (Val.pickF rfl rfl) (fun w2 hw => hw) ?_
                  refine DT.take 64 rfl rfl rfl rfl (by kernel_rfl) (fun _ _ _ h => h) (Val.move rfl) (fun w2 hw => hw) ?_
                  refine DT.is (d := 81) (b := true) rfl hg178 ?_
                  refine DT.not 65 rfl rfl rfl rfl (by kernel_rfl) (fun _ _ _ h => h) (fun w2 hw => hw) ?_
                  refine DT.not 66 rfl rfl rfl rfl (by kernel_rfl) (fun _ _ _ h => h) (fun w2 hw => hw) ?_
                  refine DT.not 67 rfl rfl rfl rfl (by kernel_rfl) (fun _ _ _ h => h) (fun w2 hw => hw) ?_
                  refine DT.not 68 rfl rfl rfl rfl (by kernel_rfl) (fun _ _ _ h => h) (fun w2 hw => hw) ?_
                  refine DT.not 69 rfl rfl rfl rfl (by kernel_rfl) (fun _ _ _ h => h) (fun w2 hw => hw) ?_
                  refine DT.not 70 rfl rfl rfl rfl (by kernel_rfl) (fun _ _ _ h => h) (fun w2 hw => hw) ?_
                  refine DT.not 71 rfl rfl rfl rfl (by kernel_rfl) (fun _ _ _ h => h) (fun w2 hw => hw) ?_
                  refine DT.not 72 rfl rfl rfl rfl (by kernel_rfl) (fun _ _ _ h => h) (fun w2 hw => hw) ?_
                  refine DT.not 73 rfl rfl rfl rfl (by kernel_rfl) (fun _ _ _ h => h) (fun w2 hw => hw) ?_
                  refine DT.not 74 rfl rfl rfl rfl (by kernel_rfl) (fun _ _ _ h => h) (fun w2 hw => hw) ?_
                  refine DT.not 75 rfl rfl rfl rfl (by kernel_rfl) (fun _ _ _ h => h) (fun w2 hw => hw) ?_
                  refine DT.take 76 rfl rfl rfl rfl (by kernel_rfl) (fun _ _ _ h => h) (Val.pickT rfl rfl) (fun w2 hw => hw) ?_
                  refine DT.next (by kernel_rfl) ?_
                  refine DA.done (by kernel_rfl) ?_
                  exact QE.meet fun a w2 ha hw => ⟨true, m99, _, (by omega), ho, hr, ha.sub ⟨rfl, rfl, rfl, rfl, trivial⟩, (St.selP [34, 35] rfl hw)⟩
                · have hg179 := (decide_eq_false hc)
                  clear hc
                  obtain ⟨x182, hx, ho⟩ := bind_some ho
                  have hx := elt_some hx
                  refine DA.ghost (fun w2 h => h.elem see 34 rfl hx.1 hx.2) (fun p180 h_p180 => ?_)
                  clear hx
                  refine DA.ghost (fun w2 h => h.fieldE see 0 rfl k_history_Call.part_End) (fun p183 h_p183 => ?_)
                  refine DA.ghost (fun w2 h => h.openE see 0 rfl (fun _ : Unit => [.int .i64 x182.End]) (fun _ => []) (fun h cs e => ⟨(), e, All.nil _⟩)) (fun _ _ => ?_)
                  obtain ⟨x188, hx, ho⟩ := bind_some ho
                  have hx := elt_some hx
                  refine DA.ghost (fun w2 h => h.elem see 38 rfl hx.1 hx.2) (fun p186 h_p186 => ?_)
                  clear hx
                  refine DA.ghost (fun w2 h => h.fieldE see 0 rfl k_history_Call.part_End) (fun p189 h_p189 => ?_)
                  refine DA.ghost (fun w2 h => h.openE see 0 rfl (fun _ : Unit => [.int .i64 x188.End]) (fun _ => []) (fun h cs e => ⟨(), e, All.nil _⟩)) (fun _ _ => ?_)
                  refine DA.phase (fun i => Nat.ble 0 i && Nat.blt i 77) (fun w2 => St w em hV [atP p189 [.int .i64 x188.End], elP (kInt .i64) p189 x188.End, elP k_history_Call p186 x188, atP p183 [.int .i64 x182.End], elP (kInt .i64) p183 x182.End, elP k_history_Call p180 x182, atP p175 [.int .i64 x174.Start], elP (kInt .i64) p175 x174.Start, elP k_history_Call p172 x174, atP p169 [.int .i64 x168.Start], elP (kInt .i64) p169 x168.Start, elP k_history_Call p166 x168, atP p161 [.int .i64 x160.Reply.Err, .int .i64 x160.Reply.Out.Trap, .int .u8 x160.Reply.Out.Result.Kind, .int .i64 x160.Reply.Out.Result.A, .int .i64 x160.Reply.Out.Result.B], elP k_api_Reply p161 x160.Reply, elP k_history_Call p158 x160, atP p155 [.int .i64 x154.Reply.Err, .int .i64 x154.Reply.Out.Trap, .int .u8 x154.Reply.Out.Result.Kind, .int .i64 x154.Reply.Out.Result.A, .int .i64 x154.Reply.Out.Result.B], elP k_api_Reply p155 x154.Reply, elP k_history_Call p152 x154, atP p147 [.bool x146.Read], elP kBool p147 x146.Read, elP k_history_Call p144 x146, atP p141 [.bool x140.Read], elP kBool p141 x140.Read, elP k_history_Call p138 x140, atP p127 [.int .u8 x126.Op.Kind, .int .i64 x126.Op.Method, v129, v131], slP k_api_Value v129 x126.Op.Args, slP (kInt .u8) v131 x126.Op.Bytes, elP k_api_Op p127 x126.Op, elP k_history_Call p124 x126, atP p117 [.int .u8 x116.Op.Kind, .int .i64 x116.Op.Method, v119, v121], slP k_api_Value v119 x116.Op.Args, slP (kInt .u8) v121 x116.Op.Bytes, elP k_api_Op p117 x116.Op, elP k_history_Call p114 x116, atP p109 [.int .i64 x108.Proc], elP (kInt .i64) p109 x108.Proc, elP k_history_Call p106 x108, atP p103 [.int .i64 x102.Proc], elP (kInt .i64) p103 x102.Proc, elP k_history_Call p100 x102, slP k_history_Call v_a_0 a_0, slP k_history_Call v_b_1 b_1] [] w2) ?_
                  refine DT.take 0 rfl rfl rfl rfl (by kernel_rfl) (fun _ _ _ h => h) (Val.move rfl) (fun w2 hw => hw) ?_
                  refine DT.take 1 rfl rfl rfl rfl (by kernel_rfl) (fun _ _ _ h => h) (Val.move rfl) (fun w2 hw => hw) ?_
                  refine DT.take 2 rfl rfl rfl rfl (by kernel_rfl) (fun _ _ _ h => h) (Val.indexE h_p100 Try.underlying44 sz48 rfl rfl) (fun w2 hw => hw) ?_
                  refine DT.take 3 rfl rfl rfl rfl (by kernel_rfl) (fun _ _ _ h => h) (Val.fieldE h_p103 Try.underlying48 rfl rfl sz3 rfl) (fun w2 hw => hw) ?_
                  refine DT.take 4 rfl rfl rfl rfl (by kernel_rfl) (fun _ _ _ h => h) (Val.loadAt1 see 37 rfl Try.underlying3 rfl rfl) (fun w2 hw => hw) ?_
                  refine DT.take 5 rfl rfl rfl rfl (by kernel_rfl) (fun _ _ _ h => h) (Val.move rfl) (fun w2 hw => hw) ?_
                  refine DT.take 6 rfl rfl rfl rfl (by kernel_rfl) (fun _ _ _ h => h) (Val.move rfl) (fun w2 hw => hw) ?_
                  refine DT.take 7 rfl rfl rfl rfl (by kernel_rfl) (fun _ _ _ h => h) (Val.indexE h_p106 Try.underlying44 sz48 rfl rfl) (fun w2 hw => hw) ?_
                  refine DT.take 8 rfl rfl rfl rfl (by kernel_rfl) (fun _ _ _ h => h) (Val.fieldE h_p109 Try.underlying48 rfl rfl sz3 rfl) (fun w2 hw => hw) ?_
                  refine DT.take 9 rfl rfl rfl rfl (by kernel_rfl) (fun _ _ _ h => h) (Val.loadAt1 see 34 rfl Try.underlying3 rfl rfl) (fun w2 hw => hw) ?_
                  refine DT.take 10 rfl rfl rfl rfl (by kernel_rfl) (fun _ _ _ h => h) (Val.neq rfl rfl) (fun w2 hw => hw) ?_
                  refine DT.take 11 rfl rfl rfl rfl (by kernel_rfl) (fun _ _ _ h => h) (Val.move rfl) (fun w2 hw => hw) ?_
                  refine DT.is (d := 28) (b := false) rfl hg113 ?_
                  refine DT.take 12 rfl rfl rfl rfl (by kernel_rfl) (fun _ _ _ h => h) (Val.move rfl) (fun w2 hw => hw) ?_
                  refine DT.take 13 rfl rfl rfl rfl (by kernel_rfl) (fun _ _ _ h => h) (Val.move rfl) (fun w2 hw => hw) ?_
                  refine DT.take 14 rfl rfl rfl rfl (by kernel_rfl) (fun _ _ _ h => h) (Val.indexE h_p114 Try.underlying44 sz48 rfl rfl) (fun w2 hw => hw) ?_
                  refine DT.take 15 rfl rfl rfl rfl (by kernel_rfl) (fun _ _ _ h => h) (Val.fieldE h_p117 Try.underlying48 rfl rfl sz34 rfl) (fun w2 hw => hw) ?_
                  refine DT.take 16 rfl rfl rfl rfl (by kernel_rfl) (fun _ _ _ h => h) (Val.loadAtA see 29 rfl Try.underlying34 rfl sz34 rfl) (fun w2 hw => hw) ?_
                  refine DT.take 17 rfl rfl rfl rfl (by kernel_rfl) (fun _ _ _ h => h) (Val.move rfl) (fun w2 hw => hw) ?_
                  refine DT.take 18 rfl rfl rfl rfl (by kernel_rfl) (fun _ _ _ h => h) (Val.move rfl) (fun w2 hw => hw) ?_
                  refine DT.take 19 rfl rfl rfl rfl (by kernel_rfl) (fun _ _ _ h => h) (Val.indexE h_p124 Try.underlying44 sz48 rfl rfl) (fun w2 hw => hw) ?_
                  refine DT.take 20 rfl rfl rfl rfl (by kernel_rfl) (fun _ _ _ h => h) (Val.fieldE h_p127 Try.underlying48 rfl rfl sz34 rfl) (fun w2 hw => hw) ?_
                  refine DT.take 21 rfl rfl rfl rfl (by kernel_rfl) (fun _ _ _ h => h) (Val.loadAtA see 24 rfl Try.underlying34 rfl sz34 rfl) (fun w2 hw => hw) ?_
                  refine DT.one 22 rfl (by kernel_rfl) rfl ?_
                  refine SP.callV see (caps := []) (.bool t134) fn43 rfl rfl rfl rfl (fun w2 hP hs sub ap => capstanref20_Same.ok x116.Op x126.Op _ _ _ _ _ hc135 w2 hP sub (ap.get 30 rfl) (ap.get 31 rfl) (ap.get 25 rfl) (ap.get 26 rfl)) ?_
                  refine SP.nil ?_
                  refine QE.atT (fun w2 hw => hw) ?_
                  refine DT.take 23 rfl rfl rfl rfl (by kernel_rfl) (fun _ _ _ h => h) (Val.notB rfl) (fun w2 hw => hw) ?_
                  refine DT.take 24 rfl rfl rfl rfl (by kernel_rfl) (fun _ _ _ h => h) (Val.pickF rfl rfl) (fun w2 hw => hw) ?_
                  refine DT.take 25 rfl rfl rfl rfl (by kernel_rfl) (fun _ _ _ h => h) (Val.move rfl) (fun w2 hw => hw) ?_
                  refine DT.is (d := 42) (b := false) rfl hg137 ?_
                  refine DT.take 26 rfl rfl rfl rfl (by kernel_rfl) (fun _ _ _ h => h) (Val.move rfl) (fun w2 hw => hw) ?_
                  refine DT.take 27 rfl rfl rfl rfl (by kernel_rfl) (fun _ _ _ h => h) (Val.move rfl) (fun w2 hw => hw) ?_
                  refine DT.take 28 rfl rfl rfl rfl (by kernel_rfl) (fun _ _ _ h => h) (Val.indexE h_p138 Try.underlying44 sz48 rfl rfl) (fun w2 hw => hw) ?_
                  refine DT.take 29 rfl rfl rfl rfl (by kernel_rfl) (fun _ _ _ h => h) (Val.fieldE h_p141 Try.underlying48 rfl rfl sz4 rfl) (fun w2 hw => hw) ?_
                  refine DT.take 30 rfl rfl rfl rfl (by kernel_rfl) (fun _ _ _ h => h) (Val.loadAt1 see 21 rfl Try.underlying4 rfl rfl) (fun w2 hw => hw) ?_
                  refine DT.take 31 rfl rfl rfl rfl (by kernel_rfl) (fun _ _ _ h => h) (Val.move rfl) (fun w2 hw => hw) ?_
                  refine DT.take 32 rfl rfl rfl rfl (by kernel_rfl) (fun _ _ _ h => h) (Val.move rfl) (fun w2 hw => hw) ?_
                  refine DT.take 33 rfl rfl rfl rfl (by kernel_rfl) (fun _ _ _ h => h) (Val.indexE h_p144 Try.underlying44 sz48 rfl rfl) (fun w2 hw => hw) ?_
                  refine DT.take 34 rfl rfl rfl rfl (by kernel_rfl) (fun _ _ _ h => h) (Val.fieldE h_p147 Try.underlying48 rfl rfl sz4 rfl) (fun w2 hw => hw) ?_
                  refine DT.take 35 rfl rfl rfl rfl (by kernel_rfl) (fun _ _ _ h => h) (Val.loadAt1 see 18 rfl Try.underlying4 rfl rfl) (fun w2 hw => hw) ?_
                  refine DT.take 36 rfl rfl rfl rfl (by kernel_rfl) (fun _ _ _ h => h) (Val.neqB Try.underlying4 rfl rfl) (fun w2 hw => hw) ?_
                  refine DT.take 37 rfl rfl rfl rfl (by kernel_rfl) (fun _ _ _ h => h) (Val.pickF rfl rfl) (fun w2 hw => hw) ?_
                  refine DT.take 38 rfl rfl rfl rfl (by kernel_rfl) (fun _ _ _ h => h) (Val.move rfl) (fun w2 hw => hw) ?_
                  refine DT.is (d := 55) (b := false) rfl hg151 ?_
                  refine DT.take 39 rfl rfl rfl rfl (by kernel_rfl) (fun _ _ _ h => h) (Val.move rfl) (fun w2 hw => hw) ?_
                  refine DT.take 40 rfl rfl rfl rfl (by kernel_rfl) (fun _ _ _ h => h) (Val.move rfl) (fun w2 hw => hw) ?_
                  refine DT.take 41 rfl rfl rfl rfl (by kernel_rfl) (fun _ _ _ h => h) (Val.indexE h_p152 Try.underlying44 sz48 rfl rfl) (fun w2 hw => hw) ?_
                  refine DT.take 42 rfl rfl rfl rfl (by kernel_rfl) (fun _ _ _ h => h) (Val.fieldE h_p155 Try.underlying48 rfl rfl sz41 rfl) (fun w2 hw => hw) ?_
                  refine DT.take 43 rfl rfl rfl rfl (by kernel_rfl) (fun _ _ _ h => h) (Val.loadAtA see 15 rfl Try.underlying41 rfl sz41 rfl) (fun w2 hw => hw) ?_
                  refine DT.take 44 rfl rfl rfl rfl (by kernel_rfl) (fun _ _ _ h => h) (Val.move rfl) (fun w2 hw => hw) ?_
                  refine DT.take 45 rfl rfl rfl rfl (by kernel_rfl) (fun _ _ _ h => h) (Val.move rfl) (fun w2 hw => hw) ?_
                  refine DT.take 46 rfl rfl rfl rfl (by kernel_rfl) (fun _ _ _ h => h) (Val.indexE h_p158 Try.underlying44 sz48 rfl rfl) (fun w2 hw => hw) ?_
                  refine DT.take 47 rfl rfl rfl rfl (by kernel_rfl) (fun _ _ _ h => h) (Val.fieldE h_p161 Try.underlying48 rfl rfl sz41 rfl) (fun w2 hw => hw) ?_
                  refine DT.take 48 rfl rfl rfl rfl (by kernel_rfl) (fun _ _ _ h => h) (Val.loadAtA see 12 rfl Try.underlying41 rfl sz41 rfl) (fun w2 hw => hw) ?_
                  refine DT.take 49 rfl rfl rfl rfl (by kernel_rfl) (fun _ _ _ h => h) (Val.neqA (by kernel_rfl) (fun w2 => eqA41 9996 w2 x154.Reply.Err x160.Reply.Err x154.Reply.Out.Trap x160.Reply.Out.Trap x154.Reply.Out.Result.Kind x160.Reply.Out.Result.Kind x154.Reply.Out.Result.A x160.Reply.Out.Result.A x154.Reply.Out.Result.B x160.Reply.Out.Result.B) rfl rfl) (fun w2 hw => hw) ?_
                  refine DT.take 50 rfl rfl rfl rfl (by kernel_rfl) (fun _ _ _ h => h) (Val.pickF rfl rfl) (fun w2 hw => hw) ?_
                  refine DT.take 51 rfl rfl rfl rfl (by kernel_rfl) (fun _ _ _ h => h) (Val.move rfl) (fun w2 hw => hw) ?_
                  refine DT.is (d := 68) (b := false) rfl hg165 ?_
                  refine DT.take 52 rfl rfl rfl rfl (by kernel_rfl) (fun _ _ _ h => h) (Val.move rfl) (fun w2 hw => hw) ?_
                  refine DT.take 53 rfl rfl rfl rfl (by kernel_rfl) (fun _ _ _ h => h) (Val.move rfl) (fun w2 hw => hw) ?_
                  refine DT.take 54 rfl rfl rfl rfl (by kernel_rfl) (fun _ _ _ h => h) (Val.indexE h_p166 Try.underlying44 sz48 rfl rfl) (fun w2 hw => hw) ?_
                  refine DT.take 55 rfl rfl rfl rfl (by kernel_rfl) (fun _ _ _ h => h) (Val.fieldE h_p169 Try.underlying48 rfl rfl sz3 rfl) (fun w2 hw => hw) ?_
                  refine DT.take 56 rfl rfl rfl rfl (by kernel_rfl) (fun _ _ _ h => h) (Val.loadAt1 see 9 rfl Try.underlying3 rfl rfl) (fun w2 hw => hw) ?_
                  refine DT.take 57 rfl rfl rfl rfl (by kernel_rfl) (fun _ _ _ h => h) (Val.move rfl) (fun w2 hw => hw) ?_
                  refine DT.take 58 rfl rfl rfl rfl (by kernel_rfl) (fun _ _ _ h => h) (Val.move rfl) (fun w2 hw => hw) ?_
                  refine DT.take 59 rfl rfl rfl rfl (by kernel_rfl) (fun _ _ _ h => h) (Val.indexE h_p172 Try.underlying44 sz48 rfl rfl) (fun w2 hw => hw) ?_
                  refine DT.take 60 rfl rfl rfl rfl (by kernel_rfl) (fun _ _ _ h => h) (Val.fieldE h_p175 Try.underlying48 rfl rfl sz3 rfl) (fun w2 hw => hw) ?_
                  refine DT.take 61 rfl rfl rfl rfl (by kernel_rfl) (fun _ _ _ h => h) (Val.loadAt1 see 6 rfl Try.underlying3 rfl rfl) (fun w2 hw => hw) ?_
                  refine DT.take 62 rfl rfl rfl rfl (by kernel_rfl) (fun _ _ _ h => h) (Val.neq rfl rfl) (fun w2 hw => hw) ?_
                  refine DT.take 63 rfl rfl rfl rfl (by kernel_rfl) (fun _ _ _ h => h) (Val.pickF rfl rfl) (fun w2 hw => hw) ?_
                  refine DT.take 64 rfl rfl rfl rfl (by kernel_rfl) (fun _ _ _ h => h) (Val.move rfl) (fun w2 hw => hw) ?_
                  refine DT.is (d := 81) (b := false) rfl hg179 ?_
                  refine DT.take 65 rfl rfl rfl rfl (by kernel_rfl) (fun _ _ _ h => h) (Val.move rfl) (fun w2 hw => hw) ?_
                  refine DT.take 66 rfl rfl rfl rfl (by kernel_rfl) (fun _ _ _ h => h) (Val.move rfl) (fun w2 hw => hw) ?_
                  refine DT.take 67 rfl rfl rfl rfl (by kernel_rfl) (fun _ _ _ h => h) (Val.indexE h_p180 Try.underlying44 sz48 rfl rfl) (fun w2 hw => hw) ?_
                  refine DT.take 68 rfl rfl rfl rfl (by kernel_rfl) (fun _ _ _ h => h) (Val.fieldE h_p183 Try.underlying48 rfl rfl sz3 rfl) (fun w2 hw => hw) ?_
                  refine DT.take 69 rfl rfl rfl rfl (by kernel_rfl) (fun _ _ _ h => h) (Val.loadAt1 see 3 rfl Try.underlying3 rfl rfl) (fun w2 hw => hw) ?_
                  refine DT.take 70 rfl rfl rfl rfl (by kernel_rfl) (fun _ _ _ h => h) (Val.move rfl) (fun w2 hw => hw) ?_
                  refine DT.take 71 rfl rfl rfl rfl (by kernel_rfl) (fun _ _ _ h => h) (Val.move rfl) (fun w2 hw => hw) ?_
                  refine DT.take 72 rfl rfl rfl rfl (by kernel_rfl) (fun _ _ _ h => h) (Val.indexE h_p186 Try.underlying44 sz48 rfl rfl) (fun w2 hw => hw) ?_
                  refine DT.take 73 rfl rfl rfl rfl (by kernel_rfl) (fun _ _ _ h => h) (Val.fieldE h_p189 Try.underlying48 rfl rfl sz3 rfl) (fun w2 hw => hw) ?_
                  refine DT.take 74 rfl rfl rfl rfl (by kernel_rfl) (fun _ _ _ h => h) (Val.loadAt1 see 0 rfl Try.underlying3 rfl rfl) (fun w2 hw => hw) ?_
                  refine DT.take 75 rfl rfl rfl rfl (by kernel_rfl) (fun _ _ _ h => h) (Val.neq rfl rfl) (fun w2 hw => hw) ?_
                  refine DT.take 76 rfl rfl rfl rfl (by kernel_rfl) (fun _ _ _ h => h) (Val.pickF rfl rfl) (fun w2 hw => hw) ?_
                  refine DT.next (by kernel_rfl) ?_
                  refine DA.done (by kernel_rfl) ?_
                  exact QE.meet fun a w2 ha hw => ⟨(decide (x182.End ≠ x188.End)), m99, _, (by omega), ho, hr, ha.sub ⟨rfl, rfl, rfl, rfl, trivial⟩, (St.selP [40, 41] rfl hw)⟩
    · refine CP.condF rfl (decide_eq_false hc) ?_
      refine CP.exit ?_
      refine QE.thru (by intro e; cases e) ?_
      refine QE.thru (by intro e; cases e) ?_
      refine QE.blockE ?_
      refine QE.then ?_
      refine CP.seq ?_
      refine CP.region ?_
      refine SP.val (Val.assign rfl) rfl rfl rfl ?_
      refine SP.nil ?_
      refine QE.then ?_
      refine CP.ret ?_
      obtain rfl := Option.some.inj ho
      obtain rfl := Option.some.inj hr
      exact QE.rets (rs := [.tmp 4]) (vs := [.bool true]) Try.results14 ⟨RVs.tmp rfl, trivial⟩ (fun w2 h => St.done (fun a b p s => rfl) h)
/-! ### capstan/capstanlaw30.HistoryOf: function 4 -/
inductive capstanlaw30_HistoryOf.S where
  | start
  | l1 (x588 : Int)
  | l2 (t600 : (List history_Call)) (x888 : Int)
  | l3 (t600 : (List history_Call)) (x888 : Int) (l1031 : List history_Call) (x1033 : Int)
  | l4 (t600 : (List history_Call)) (x888 : Int) (x1033 : Int) (l1100 : List history_Call) (x1102 : Int)
  | l5 (t600 : (List history_Call)) (x888 : Int) (x1033 : Int) (l1143 : List history_Call) (x1145 : Int)

def capstanlaw30_HistoryOf.F (l_0 : (List engine_Call)) : capstanlaw30_HistoryOf.S → Option (capstanlaw30_HistoryOf.S ⊕ Bool)
  | .start => if (l_0.length : Int) > 200 then (some (.inr true)) else (some (.inl (.l1 0)))
  | .l1 x588 => if x588 < (l_0.length : Int) then ((elt l_0 x588).bind fun x592 => (capstanlaw20_Great.f x592.Op).bind fun t599 => if t599 = true then (some (.inr true)) else (some (.inl (.l1 (IntKind.i64.wrap (x588 + 1)))))) else ((capstanref30_Of.f l_0).bind fun t600 => some (.inl (.l2 t600 0)))
  | .l2 t600 x888 => if x888 < 2 then ((history_Of.f l_0).bind fun t890 => (capstanref30_Same.f t890 t600).bind fun t893 => if (!t893) = true then (some (.inr false)) else (some (.inl (.l3 t600 x888 t890 0)))) else (some (.inr true))
  | .l3 t600 x888 l1031 x1033 => if x1033 < (l1031.length : Int) then (some (.inl (.l4 t600 x888 x1033 l1031 0))) else (some (.inl (.l2 t600 (IntKind.i64.wrap (x888 + 1)))))
  | .l4 t600 x888 x1033 l1100 x1102 => (elt l1100 x1033).bind fun x1105 => if x1102 < (x1105.Op.Args.length : Int) then ((elt l1100 x1033).bind fun x1112 => (elt x1112.Op.Args x1102).bind fun x1119 => (elt x1112.Op.Args x1102).bind fun x1122 => some (.inl (.l4 t600 x888 x1033 (l1100.set x1033.toNat (history_Call.set_Op_Args x1112 (x1112.Op.Args.set x1102.toNat (⟨x1122.Kind, IntKind.i64.wrap (x1119.A + 1), x1122.B⟩ : api_Value)))) (IntKind.i64.wrap (x1102 + 1))))) else (some (.inl (.l5 t600 x888 x1033 l1100 0)))
  | .l5 t600 x888 x1033 l1143 x1145 => (elt l1143 x1033).bind fun x1148 => if x1145 < (x1148.Op.Bytes.length : Int) then ((elt l1143 x1033).bind fun x1155 => (elt x1155.Op.Bytes x1145).bind fun x1162 => (elt x1155.Op.Bytes x1145).bind fun x1164 => some (.inl (.l5 t600 x888 x1033 (l1143.set x1033.toNat (history_Call.set_Op_Bytes x1155 (x1155.Op.Bytes.set x1145.toNat (IntKind.u8.wrap (x1162 + 1))))) (IntKind.i64.wrap (x1145 + 1))))) else (some (.inl (.l3 t600 x888 l1143 (IntKind.i64.wrap (x1033 + 1)))))

def capstanlaw30_HistoryOf.f (l_0 : (List engine_Call)) : Option Bool := runF (capstanlaw30_HistoryOf.F l_0) .start
theorem capstanlaw30_HistoryOf.ok (l_0 : (List engine_Call)) (v_l_0 : Value) (r : Bool) (H : capstanlaw30_HistoryOf.f l_0 = some r) (w : World) (hV : Hp) (sV : Sub hV (hp w)) (h0 : slR k_engine_Call hV v_l_0 l_0) :
    Trip Try.prog 4 [v_l_0].toArray em hV w (fun v => HO.pure (v = .bool r)) := by
  have see : Sees w em hV := ⟨sV, Dj.em_right _⟩
  refine Trip.of (P := Try.prog) (n := 89) Try.func4 rfl rfl rfl (St.begin (All.cons (x := slP k_engine_Call v_l_0 l_0) h0 (All.nil _))) ?_
  obtain ⟨n0, hi⟩ := runF_iff.1 H
  obtain ⟨m0, o, hm0, ho, hr⟩ := iter_some hi
  clear hi
  refine CP.seq ?_
  refine CP.region ?_
  refine SP.val (Val.assign rfl) rfl rfl rfl ?_
  refine SP.nil ?_
  refine QE.then ?_
  refine CP.seq ?_
  refine CP.seq ?_
  refine CP.region ?_
  refine SP.val (Val.move rfl) rfl rfl rfl ?_
  refine SP.val (Val.lenP see 0 rfl Try.underlying30 rfl) rfl rfl rfl ?_
  refine SP.val (Val.gtr rfl rfl) rfl rfl rfl ?_
  refine SP.nil ?_
  refine QE.then ?_
  rcases if_some ho with ⟨hc, ho⟩ | ⟨hc, ho⟩
  · refine CP.condT rfl (decide_eq_true hc) ?_
    refine CP.seq ?_
    refine CP.region ?_
    refine SP.val (Val.assign rfl) rfl rfl rfl ?_
    refine SP.nil ?_
    refine QE.then ?_
    refine CP.ret ?_
    refine QE.thru (by intro e; cases e) ?_
    obtain rfl := Option.some.inj ho
    obtain rfl := Option.some.inj hr
    exact QE.rets (rs := [.tmp 2]) (vs := [.bool true]) Try.results4 ⟨RVs.tmp rfl, trivial⟩ (fun w2 h => St.done (fun a b p s => rfl) h)
  · refine CP.condF rfl (decide_eq_false hc) ?_
    refine CP.skip ?_
    refine QE.then ?_
    refine CP.seq ?_
    refine CP.seq ?_
    refine CP.region ?_
    refine SP.val (Val.assign rfl) rfl rfl rfl ?_
    refine SP.nil ?_
    refine QE.then ?_
    refine CP.block ?_
    obtain rfl := Option.some.inj ho
    refine CP.loop (fun cl1 a w2 => ∃ x588 : Int, cl1 ≤ m0 ∧ iter (capstanlaw30_HistoryOf.F l_0) cl1 (.l1 x588) = some r ∧ Env 89 [(0, v_l_0), (3, .int .i64 x588)] a ∧ St w em hV [slP k_engine_Call v_l_0 l_0] [] w2) m0 (fun a w2 ha hw => ⟨0, Nat.le_refl _, hr, ha.sub ⟨rfl, rfl, trivial⟩, hw⟩) ?_
    clear hr
    rintro cl1 a w2 ⟨x588, hc_l1, hi, ha, hw⟩
    obtain ⟨m589, o, hm_m589, ho, hr⟩ := iter_some hi
    refine CP.app ha hw ?_
    clear ha hw a w2 hi
    refine CP.seq ?_
    refine CP.seq ?_
    refine CP.region ?_
    refine SP.val (Val.move rfl) rfl rfl rfl ?_
    refine SP.val (Val.move rfl) rfl rfl rfl ?_
    refine SP.val (Val.lenP see 0 rfl Try.underlying30 rfl) rfl rfl rfl ?_
    refine SP.val (Val.lss rfl rfl) rfl rfl rfl ?_
    refine SP.nil ?_
    refine QE.then ?_
    rcases if_some ho with ⟨hc, ho⟩ | ⟨hc, ho⟩
    · refine CP.condT rfl (decide_eq_true hc) ?_
      refine CP.skip ?_
      refine QE.then ?_
      refine CP.seq ?_
      refine CP.block ?_
      refine CP.seq ?_
      refine CP.region ?_
      refine SP.val (Val.move rfl) rfl rfl rfl ?_
      refine SP.val (Val.move rfl) rfl rfl rfl ?_
      obtain ⟨x592, hx, ho⟩ := bind_some ho
      have hx := elt_some hx
      refine SP.indexP see 0 rfl Try.underlying30 sz43 hx.1 hx.2 rfl rfl rfl rfl (fun p590 => ?_)
      clear hx
      refine SP.fieldP see 0 rfl Try.underlying43 rfl sz34 k_engine_Call.part_Op rfl rfl rfl (fun p593 => ?_)
      refine k_api_Op.load see 0 rfl Try.underlying34 rfl sz34 rfl rfl rfl (fun v595 v597 => ?_)
      obtain ⟨t599, hc, ho⟩ := bind_some ho
      refine SP.callV see (caps := []) (.bool t599) fn11 rfl rfl rfl rfl (fun w2 hP hs sub ap => capstanlaw20_Great.ok x592.Op _ _ _ hc w2 hP sub (ap.get 0 rfl) (ap.get 1 rfl)) ?_
      clear hc
      refine SP.nil ?_
      refine QE.then ?_
      rcases if_some ho with ⟨hc, ho⟩ | ⟨hc, ho⟩
      · refine CP.condT rfl hc ?_
        refine CP.seq ?_
        refine CP.region ?_
        refine SP.val (Val.assign rfl) rfl rfl rfl ?_
        refine SP.nil ?_
        refine QE.then ?_
        refine CP.ret ?_
        refine QE.blockR ?_
        refine QE.thru (by intro e; cases e) ?_
        refine QE.thru (by intro e; cases e) ?_
        refine QE.blockR ?_
        refine QE.thru (by intro e; cases e) ?_
        obtain rfl := Option.some.inj ho
        obtain rfl := Option.some.inj hr
        exact QE.rets (rs := [.tmp 2]) (vs := [.bool true]) Try.results4 ⟨RVs.tmp rfl, trivial⟩ (fun w2 h => St.done (fun a b p s => rfl) h)
      · refine CP.condF rfl (bf hc) ?_
        refine CP.skip ?_
        refine QE.blockN ?_
        refine QE.then ?_
        refine CP.region ?_
        refine SP.val (Val.move rfl) rfl rfl rfl ?_
        refine SP.val (Val.add rfl rfl) rfl rfl rfl ?_
        refine SP.val (Val.assign rfl) rfl rfl rfl ?_
        refine SP.nil ?_
        obtain rfl := Option.some.inj ho
        exact QE.lower m589 (by omega) fun a w2 ha hw => ⟨(IntKind.i64.wrap (x588 + 1)), (by omega), hr, ha.sub ⟨rfl, rfl, trivial⟩, (St.selP [4] rfl hw)⟩
    · refine CP.condF rfl (decide_eq_false hc) ?_
      refine CP.exit ?_
      refine QE.thru (by intro e; cases e) ?_
      refine QE.thru (by intro e; cases e) ?_
      refine QE.blockE ?_
      refine QE.then ?_
      refine CP.seq ?_
      refine CP.region ?_
      refine SP.val (Val.move rfl) rfl rfl rfl ?_
      obtain ⟨t600, hc, ho⟩ := bind_some ho
      refine SP.callK see (caps := []) _ fn12 rfl rfl rfl rfl (fun w2 hP hs sub ap => capstanref30_Of.ok l_0 _ _ hc w2 hP sub (ap.get 0 rfl)) (fun vr => ?_)
      refine SP.ex (fun w2 h => St.open h) (fun v601 => ?_)
      refine SP.have (fun w2 h => (St.pand h).1.symm) (fun er => ?_)
      subst er
      refine SP.imp (fun w2 h => St.seps (St.pand h).2) ?_
      clear hc
      refine SP.val (Val.assign rfl) rfl rfl rfl ?_
      refine SP.nil ?_
      refine QE.then ?_
      refine CP.seq ?_
      refine CP.seq ?_
      refine CP.region ?_
      refine SP.val (Val.assign rfl) rfl rfl rfl ?_
      refine SP.nil ?_
      refine QE.then ?_
      refine CP.block ?_
      obtain rfl := Option.some.inj ho
      refine CP.loop (fun cl2 a w2 => ∃ x888 : Int, cl2 ≤ m589 ∧ iter (capstanlaw30_HistoryOf.F l_0) cl2 (.l2 t600 x888) = some r ∧ Env 89 [(0, v_l_0), (4, v601), (5, .int .i64 x888)] a ∧ St w em hV [slP k_engine_Call v_l_0 l_0] [slO k_history_Call 48 v601 t600] w2) m589 (fun a w2 ha hw => ⟨0, Nat.le_refl _, hr, ha.sub ⟨rfl, rfl, rfl, trivial⟩, hw⟩) ?_
      clear hr
      rintro cl2 a w2 ⟨x888, hc_l2, hi, ha, hw⟩
      obtain ⟨m889, o, hm_m889, ho, hr⟩ := iter_some hi
      refine CP.app ha hw ?_
      clear ha hw a w2 hi
      refine CP.seq ?_
      refine CP.seq ?_
      refine CP.region ?_
      refine SP.val (Val.move rfl) rfl rfl rfl ?_
      refine SP.val (Val.lss rfl rfl) rfl rfl rfl ?_
      refine SP.nil ?_
      refine QE.then ?_
      rcases if_some ho with ⟨hc, ho⟩ | ⟨hc, ho⟩
      · refine CP.condT rfl (decide_eq_true hc) ?_
        refine CP.skip ?_
        refine QE.then ?_
        refine CP.seq ?_
        refine CP.block ?_
        refine CP.seq ?_
        refine CP.region ?_
        refine SP.val (Val.move rfl) rfl rfl rfl ?_
        obtain ⟨t890, hc, ho⟩ := bind_some ho
        refine SP.callK see (caps := []) _ fn13 rfl rfl rfl rfl (fun w2 hP hs sub ap => history_Of.ok l_0 _ _ hc w2 hP sub (ap.get 0 rfl)) (fun vr => ?_)
        refine SP.ex (fun w2 h => St.open h) (fun v891 => ?_)
        refine SP.have (fun w2 h => (St.pand h).1.symm) (fun er => ?_)
        subst er
        refine SP.imp (fun w2 h => St.seps (St.pand h).2) ?_
        clear hc
        refine SP.val (Val.assign rfl) rfl rfl rfl ?_
        refine SP.nil ?_
        refine QE.then ?_
        refine CP.seq ?_
        refine CP.seq ?_
        refine CP.region ?_
        refine SP.val (Val.move rfl) rfl rfl rfl ?_
        refine SP.val (Val.move rfl) rfl rfl rfl ?_
        obtain ⟨t893, hc, ho⟩ := bind_some ho
        refine SP.callVO see (caps := []) (.bool t893) fn14 rfl rfl rfl rfl (fun w2 hs => capstanref30_Same.ok t890 t600 _ _ _ hc w2 (hp w2) (Sub.refl _) (slD.read (St.own 0 rfl see.sub see.dj hs) (Sub.refl _) (Sub.refl _)) (slO.read (St.own 1 rfl see.sub see.dj hs) (Sub.refl _) (Sub.refl _))) ?_
        clear hc
        refine SP.val (Val.notB rfl) rfl rfl rfl ?_
        refine SP.nil ?_
        refine QE.then ?_
        rcases if_some ho with ⟨hc, ho⟩ | ⟨hc, ho⟩
        · refine CP.condT rfl hc ?_
          refine CP.seq ?_
          refine CP.region ?_
          refine SP.val (Val.assign rfl) rfl rfl rfl ?_
          refine SP.nil ?_
          refine QE.then ?_
          refine CP.ret ?_
          refine QE.thru (by intro e; cases e) ?_
          refine QE.blockR ?_
          refine QE.thru (by intro e; cases e) ?_
          refine QE.thru (by intro e; cases e) ?_
          refine QE.blockR ?_
          refine QE.thru (by intro e; cases e) ?_
          obtain rfl := Option.some.inj ho
          obtain rfl := Option.some.inj hr
          exact QE.rets (rs := [.tmp 2]) (vs := [.bool false]) Try.results4 ⟨RVs.tmp rfl, trivial⟩ (fun w2 h => St.done (fun a b p s => rfl) h)
        · refine CP.condF rfl (bf hc) ?_
          refine CP.skip ?_
          refine QE.then ?_
          refine CP.seq ?_
          refine CP.region ?_
          refine SP.val (Val.assign rfl) rfl rfl rfl ?_
          refine SP.nil ?_
          refine QE.then ?_
          refine CP.block ?_
          obtain rfl := Option.some.inj ho
          refine CP.loop (fun cl3 a w2 => ∃ l1031 : List history_Call, ∃ x1033 : Int, ∃ v1032 : Value, cl3 ≤ m889 ∧ iter (capstanlaw30_HistoryOf.F l_0) cl3 (.l3 t600 x888 l1031 x1033) = some r ∧ Env 89 [(0, v_l_0), (4, v601), (5, .int .i64 x888), (6, v1032), (7, .int .i64 x1033)] a ∧ St w em hV [slP k_engine_Call v_l_0 l_0] [slD o_history_Call 48 v1032 l1031, slO k_history_Call 48 v601 t600] w2) m889 (fun a w2 ha hw => ⟨t890, 0, v891, Nat.le_refl _, hr, ha.sub ⟨rfl, rfl, rfl, rfl, rfl, trivial⟩, hw⟩) ?_
          clear hr
          rintro cl3 a w2 ⟨l1031, x1033, v1032, hc_l3, hi, ha, hw⟩
          obtain ⟨m1034, o, hm_m1034, ho, hr⟩ := iter_some hi
          refine CP.app ha hw ?_
          clear ha hw a w2 hi
          refine CP.seq ?_
          refine CP.seq ?_
          refine CP.region ?_
          refine SP.val (Val.move rfl) rfl rfl rfl ?_
          refine SP.val (Val.move rfl) rfl rfl rfl ?_
          refine SP.val (Val.lenW (fun w2 hw => slD.flat (St.own 0 rfl see.sub see.dj hw) (Sub.refl _) (Sub.refl _)) Try.underlying44 rfl) rfl rfl rfl ?_
          refine SP.val (Val.lss rfl rfl) rfl rfl rfl ?_
          refine SP.nil ?_
          refine QE.then ?_
          rcases if_some ho with ⟨hc, ho⟩ | ⟨hc, ho⟩
          · refine CP.condT rfl (decide_eq_true hc) ?_
            refine CP.skip ?_
            refine QE.then ?_
            refine CP.seq ?_
            refine CP.block ?_
            refine CP.seq ?_
            refine CP.seq ?_
            refine CP.region ?_
            refine SP.val (Val.assign rfl) rfl rfl rfl ?_
            refine SP.nil ?_
            refine QE.then ?_
            refine CP.block ?_
            obtain rfl := Option.some.inj ho
            refine CP.loop (fun cl4 a w2 => ∃ l1100 : List history_Call, ∃ x1102 : Int, ∃ v1101 : Value, cl4 ≤ m1034 ∧ iter (capstanlaw30_HistoryOf.F l_0) cl4 (.l4 t600 x888 x1033 l1100 x1102) = some r ∧ Env 89 [(0, v_l_0), (4, v601), (5, .int .i64 x888), (6, v1101), (7, .int .i64 x1033), (8, .int .i64 x1102)] a ∧ St w em hV [slP k_engine_Call v_l_0 l_0] [slD o_history_Call 48 v1101 l1100, slO k_history_Call 48 v601 t600] w2) m1034 (fun a w2 ha hw => ⟨l1031, 0, v1032, Nat.le_refl _, hr, ha.sub ⟨rfl, rfl, rfl, rfl, rfl, rfl, trivial⟩, hw⟩) ?_
            clear hr
            rintro cl4 a w2 ⟨l1100, x1102, v1101, hc_l4, hi, ha, hw⟩
            obtain ⟨m1103, o, hm_m1103, ho, hr⟩ := iter_some hi
            refine CP.app ha hw ?_
            clear ha hw a w2 hi
            refine CP.seq ?_
            refine CP.seq ?_
            refine CP.region ?_
            refine SP.val (Val.move rfl) rfl rfl rfl ?_
            refine SP.val (Val.move rfl) rfl rfl rfl ?_
            refine SP.val (Val.move rfl) rfl rfl rfl ?_
            obtain ⟨x1105, hx_x1105, ho⟩ := bind_some ho
            have hx_x1105 := elt_some hx_x1105
            refine SP.indexW (fun w2 hw => slD.flat (St.own 0 rfl see.sub see.dj hw) (Sub.refl _) (Sub.refl _)) Try.underlying44 sz48 hx_x1105.1 hx_x1105.2 rfl rfl rfl rfl (fun p1104 h_p1104 => ?_)
            refine SP.fieldO h_p1104 Try.underlying48 rfl sz34 rfl rfl rfl (fun p1106 h_p1106 => ?_)
            refine SP.fieldO h_p1106 Try.underlying34 rfl sz32 rfl rfl rfl (fun p1107 h_p1107 => ?_)
            refine SP.loadDS o_history_Call.leaf3 hx_x1105.2 h_p1107 Try.underlying32 rfl rfl rfl (fun v1108 => ?_)
            refine SP.val (Val.lenW (fun w2 hw => slO.whole (St.own 0 rfl see.sub see.dj hw)) Try.underlying32 rfl) rfl rfl rfl ?_
            refine SP.val (Val.lss rfl rfl) rfl rfl rfl ?_
            refine SP.nil ?_
            refine QE.then ?_
            rcases if_some ho with ⟨hc, ho⟩ | ⟨hc, ho⟩
            · refine CP.condT rfl (decide_eq_true hc) ?_
              refine CP.skip ?_
              refine QE.then ?_
              refine CP.seq ?_
              refine CP.block ?_
              refine CP.region ?_
              refine SP.val (Val.move rfl) rfl rfl rfl ?_
              refine SP.val (Val.move rfl) rfl rfl rfl ?_
              refine SP.imp (fun w2 hw => St.unfocus0 hx_x1105.2 rfl hw) ?_
              obtain ⟨x1112, hx_x1112, ho⟩ := bind_some ho
              have hx_x1112 := elt_some hx_x1112
              refine SP.indexW (fun w2 hw => slD.flat (St.own 0 rfl see.sub see.dj hw) (Sub.refl _) (Sub.refl _)) Try.underlying44 sz48 hx_x1112.1 hx_x1112.2 rfl rfl rfl rfl (fun p1111 h_p1111 => ?_)
              refine SP.fieldO h_p1111 Try.underlying48 rfl sz34 rfl rfl rfl (fun p1113 h_p1113 => ?_)
              refine SP.fieldO h_p1113 Try.underlying34 rfl sz32 rfl rfl rfl (fun p1114 h_p1114 => ?_)
              refine SP.loadDS o_history_Call.leaf3 hx_x1112.2 h_p1114 Try.underlying32 rfl rfl rfl (fun v1115 => ?_)
              refine SP.val (Val.move rfl) rfl rfl rfl ?_
              obtain ⟨x1119, hx_x1119, ho⟩ := bind_some ho
              have hx_x1119 := elt_some hx_x1119
              refine SP.indexW (fun w2 hw => slO.whole (St.own 0 rfl see.sub see.dj hw)) Try.underlying32 sz37 hx_x1119.1 hx_x1119.2 rfl rfl rfl rfl (fun p1118 h_p1118 => ?_)
              refine SP.fieldO h_p1118 Try.underlying37 rfl sz2 rfl rfl rfl (fun p1120 h_p1120 => ?_)
              refine SP.val (Val.loadW1 (off := 1) (k := k_api_Value) (fun w2 hw => slO.whole (St.own 0 rfl see.sub see.dj hw)) hx_x1119.2 h_p1120 (fun _ _ e => by subst e; rfl) Try.underlying2 rfl rfl) rfl rfl rfl ?_
              refine SP.val (Val.add rfl rfl) rfl rfl rfl ?_
              obtain ⟨x1122, hx_x1122, ho⟩ := bind_some ho
              have hx_x1122 := elt_some hx_x1122
              refine SP.indexW (fun w2 hw => slO.whole (St.own 0 rfl see.sub see.dj hw)) Try.underlying32 sz37 hx_x1122.1 hx_x1122.2 rfl rfl rfl rfl (fun p1121 h_p1121 => ?_)
              refine SP.fieldO h_p1121 Try.underlying37 rfl sz2 rfl rfl rfl (fun p1123 h_p1123 => ?_)
              refine SP.storeO (z0 := (⟨x1122.Kind, IntKind.i64.wrap (x1119.A + 1), x1122.B⟩ : api_Value)) (off := 1) (vs := [.int .i64 (IntKind.i64.wrap (x1119.A + 1))]) see 0 rfl hx_x1122.2 h_p1123 rfl rfl sz2 rfl (fun a cs _ e => by subst e; rfl) rfl rfl rfl ?_
              refine SP.nil ?_
              refine QE.blockN ?_
              refine QE.then ?_
              refine CP.region ?_
              refine SP.val (Val.move rfl) rfl rfl rfl ?_
              refine SP.val (Val.add rfl rfl) rfl rfl rfl ?_
              refine SP.val (Val.assign rfl) rfl rfl rfl ?_
              refine SP.nil ?_
              refine QE.imp (fun w2 hw => St.unfocus hw) ?_
              obtain rfl := Option.some.inj ho
              exact QE.lower m1103 (by omega) fun a w2 ha hw => ⟨(l1100.set x1033.toNat (history_Call.set_Op_Args x1112 (x1112.Op.Args.set x1102.toNat (⟨x1122.Kind, IntKind.i64.wrap (x1119.A + 1), x1122.B⟩ : api_Value)))), (IntKind.i64.wrap (x1102 + 1)), v1101, (by omega), hr, ha.sub ⟨rfl, rfl, rfl, rfl, rfl, rfl, trivial⟩, hw⟩
            · refine CP.condF rfl (decide_eq_false hc) ?_
              refine CP.exit ?_
              refine QE.thru (by intro e; cases e) ?_
              refine QE.thru (by intro e; cases e) ?_
              refine QE.blockE ?_
              refine QE.then ?_
              refine CP.seq ?_
              refine CP.region ?_
              refine SP.val (Val.assign rfl) rfl rfl rfl ?_
              refine SP.nil ?_
              refine QE.then ?_
              refine CP.block ?_
              refine CP.imp (fun w2 hw => St.unfocus0 hx_x1105.2 rfl hw) ?_
              obtain rfl := Option.some.inj ho
              refine CP.loop (fun cl5 a w2 => ∃ l1143 : List history_Call, ∃ x1145 : Int, ∃ v1144 : Value, cl5 ≤ m1103 ∧ iter (capstanlaw30_HistoryOf.F l_0) cl5 (.l5 t600 x888 x1033 l1143 x1145) = some r ∧ Env 89 [(0, v_l_0), (4, v601), (5, .int .i64 x888), (6, v1144), (7, .int .i64 x1033), (9, .int .i64 x1145)] a ∧ St w em hV [slP k_engine_Call v_l_0 l_0] [slD o_history_Call 48 v1144 l1143, slO k_history_Call 48 v601 t600] w2) m1103 (fun a w2 ha hw => ⟨l1100, 0, v1101, Nat.le_refl _, hr, ha.sub ⟨rfl, rfl, rfl, rfl, rfl, rfl, trivial⟩, hw⟩) ?_
              clear hr
              rintro cl5 a w2 ⟨l1143, x1145, v1144, hc_l5, hi, ha, hw⟩
              obtain ⟨m1146, o, hm_m1146, ho, hr⟩ := iter_some hi
              refine CP.app ha hw ?_
              clear ha hw a w2 hi
              refine CP.seq ?_
              refine CP.seq ?_
              refine CP.region ?_
              refine SP.val (Val.move rfl) rfl rfl rfl ?_
              refine SP.val (Val.move rfl) rfl rfl rfl ?_
              refine SP.val (Val.move rfl) rfl rfl rfl ?_
              obtain ⟨x1148, hx_x1148, ho⟩ := bind_some ho
              have hx_x1148 := elt_some hx_x1148
              refine SP.indexW (fun w2 hw => slD.flat (St.own 0 rfl see.sub see.dj hw) (Sub.refl _) (Sub.refl _)) Try.underlying44 sz48 hx_x1148.1 hx_x1148.2 rfl rfl rfl rfl (fun p1147 h_p1147 => ?_)
              refine SP.fieldO h_p1147 Try.underlying48 rfl sz34 rfl rfl rfl (fun p1149 h_p1149 => ?_)
              refine SP.fieldO h_p1149 Try.underlying34 rfl sz24 rfl rfl rfl (fun p1150 h_p1150 => ?_)
              refine SP.loadDS o_history_Call.leaf4 hx_x1148.2 h_p1150 Try.underlying24 rfl rfl rfl (fun v1151 => ?_)
              refine SP.val (Val.lenW (fun w2 hw => slO.whole (St.own 0 rfl see.sub see.dj hw)) Try.underlying24 rfl) rfl rfl rfl ?_
              refine SP.val (Val.lss rfl rfl) rfl rfl rfl ?_
              refine SP.nil ?_
              refine QE.then ?_
              rcases if_some ho with ⟨hc, ho⟩ | ⟨hc, ho⟩
              · refine CP.condT rfl (decide_eq_true hc) ?_
                refine CP.skip ?_
                refine QE.then ?_
                refine CP.seq ?_
                refine CP.block ?_
                refine CP.region ?_
                refine SP.val (Val.move rfl) rfl rfl rfl ?_
                refine SP.val (Val.move rfl) rfl rfl rfl ?_
                refine SP.imp (fun w2 hw => St.unfocus0 hx_x1148.2 rfl hw) ?_
                obtain ⟨x1155, hx_x1155, ho⟩ := bind_some ho
                have hx_x1155 := elt_some hx_x1155
                refine SP.indexW (fun w2 hw => slD.flat (St.own 0 rfl see.sub see.dj hw) (Sub.refl _) (Sub.refl _)) Try.underlying44 sz48 hx_x1155.1 hx_x1155.2 rfl rfl rfl rfl (fun p1154 h_p1154 => ?_)
                refine SP.fieldO h_p1154 Try.underlying48 rfl sz34 rfl rfl rfl (fun p1156 h_p1156 => ?_)
                refine SP.fieldO h_p1156 Try.underlying34 rfl sz24 rfl rfl rfl (fun p1157 h_p1157 => ?_)
                refine SP.loadDS o_history_Call.leaf4 hx_x1155.2 h_p1157 Try.underlying24 rfl rfl rfl (fun v1158 => ?_)
                refine SP.val (Val.move rfl) rfl rfl rfl ?_
                obtain ⟨x1162, hx_x1162, ho⟩ := bind_some ho
                have hx_x1162 := elt_some hx_x1162
                refine SP.indexW (fun w2 hw => slO.whole (St.own 0 rfl see.sub see.dj hw)) Try.underlying24 sz5 hx_x1162.1 hx_x1162.2 rfl rfl rfl rfl (fun p1161 h_p1161 => ?_)
                refine SP.val (Val.loadW1 (off := 0) (k := (kInt .u8)) (fun w2 hw => slO.whole (St.own 0 rfl see.sub see.dj hw)) hx_x1162.2 h_p1161 (fun _ _ e => by subst e; rfl) Try.underlying5 rfl rfl) rfl rfl rfl ?_
                refine SP.val (Val.add rfl rfl) rfl rfl rfl ?_
                obtain ⟨x1164, hx_x1164, ho⟩ := bind_some ho
                have hx_x1164 := elt_some hx_x1164
                refine SP.indexW (fun w2 hw => slO.whole (St.own 0 rfl see.sub see.dj hw)) Try.underlying24 sz5 hx_x1164.1 hx_x1164.2 rfl rfl rfl rfl (fun p1163 h_p1163 => ?_)
                refine SP.storeO (z0 := IntKind.u8.wrap (x1162 + 1)) (off := 0) (vs := [.int .u8 (IntKind.u8.wrap (x1162 + 1))]) see 0 rfl hx_x1164.2 h_p1163 rfl rfl sz5 rfl (fun a cs _ e => by subst e; rfl) rfl rfl rfl ?_
                refine SP.nil ?_
                refine QE.blockN ?_
                refine QE.then ?_
                refine CP.region ?_
                refine SP.val (Val.move rfl) rfl rfl rfl ?_
                refine SP.val (Val.add rfl rfl) rfl rfl rfl ?_
                refine SP.val (Val.assign rfl) rfl rfl rfl ?_
                refine SP.nil ?_
                refine QE.imp (fun w2 hw => St.unfocus hw) ?_
                obtain rfl := Option.some.inj ho
                exact QE.lower m1146 (by omega) fun a w2 ha hw => ⟨(l1143.set x1033.toNat (history_Call.set_Op_Bytes x1155 (x1155.Op.Bytes.set x1145.toNat (IntKind.u8.wrap (x1162 + 1))))), (IntKind.i64.wrap (x1145 + 1)), v1144, (by omega), hr, ha.sub ⟨rfl, rfl, rfl, rfl, rfl, rfl, trivial⟩, hw⟩
              · refine CP.condF rfl (decide_eq_false hc) ?_
                refine CP.exit ?_
                refine QE.thru (by intro e; cases e) ?_
                refine QE.thru (by intro e; cases e) ?_
                refine QE.blockE ?_
                refine QE.blockN ?_
                refine QE.then ?_
                refine CP.region ?_
                refine SP.val (Val.move rfl) rfl rfl rfl ?_
                refine SP.val (Val.add rfl rfl) rfl rfl rfl ?_
                refine SP.val (Val.assign rfl) rfl rfl rfl ?_
                refine SP.nil ?_
                refine QE.imp (fun w2 hw => St.unfocus0 hx_x1148.2 rfl hw) ?_
                obtain rfl := Option.some.inj ho
                exact QE.lower m1146 (by omega) fun a w2 ha hw => ⟨l1143, (IntKind.i64.wrap (x1033 + 1)), v1144, (by omega), hr, ha.sub ⟨rfl, rfl, rfl, rfl, rfl, trivial⟩, hw⟩
          · refine CP.condF rfl (decide_eq_false hc) ?_
            refine CP.exit ?_
            refine QE.thru (by intro e; cases e) ?_
            refine QE.thru (by intro e; cases e) ?_
            refine QE.blockE ?_
            refine QE.blockN ?_
            refine QE.then ?_
            refine CP.region ?_
            refine SP.val (Val.move rfl) rfl rfl rfl ?_
            refine SP.val (Val.add rfl rfl) rfl rfl rfl ?_
            refine SP.val (Val.assign rfl) rfl rfl rfl ?_
            refine SP.nil ?_
            obtain rfl := Option.some.inj ho
            exact QE.lower m1034 (by omega) fun a w2 ha hw => ⟨(IntKind.i64.wrap (x888 + 1)), (by omega), hr, ha.sub ⟨rfl, rfl, rfl, trivial⟩, (St.selO [1] rfl rfl hw)⟩
      · refine CP.condF rfl (decide_eq_false hc) ?_
        refine CP.exit ?_
        refine QE.thru (by intro e; cases e) ?_
        refine QE.thru (by intro e; cases e) ?_
        refine QE.blockE ?_
        refine QE.then ?_
        refine CP.seq ?_
        refine CP.region ?_
        refine SP.val (Val.assign rfl) rfl rfl rfl ?_
        refine SP.nil ?_
        refine QE.then ?_
        refine CP.ret ?_
        obtain rfl := Option.some.inj ho
        obtain rfl := Option.some.inj hr
        exact QE.rets (rs := [.tmp 2]) (vs := [.bool true]) Try.results4 ⟨RVs.tmp rfl, trivial⟩ (fun w2 h => St.done (fun a b p s => rfl) h)
theorem cl5 : Try.prog.cellsOf 5 = 1 := by kernel_rfl
theorem cl2 : Try.prog.cellsOf 2 = 1 := by kernel_rfl
theorem cl37 : Try.prog.cellsOf 37 = 3 := by kernel_rfl
def wf_api_Value (x : api_Value) : Prop := (Lit.int .u8 x.Kind).wf = true ∧ (Lit.int .i64 x.A).wf = true ∧ (Lit.int .i64 x.B).wf = true
theorem opens_api_Value : Opens Try.prog 37 k_api_Value wf_api_Value := by
  intro H enc W fuel cs d ps h
  cases fuel with
  | zero => simp [DataW.trod] at h
  | succ n =>
    obtain ⟨hl, hf⟩ := trod_struct Try.underlying37 h
    rw [cl37] at hl
    obtain ⟨c0, c1, c2, rfl⟩ := len3 hl
    obtain ⟨d0, q0, h0⟩ := hf 0 _ rfl
    replace h0 : DataW.trod enc Try.prog W 0 (fun _ => true) true n 5 (List.take (Try.prog.cellsOf 5) [c0, c1, c2]) = some (d0, q0) := h0
    rw [cl5] at h0
    replace h0 : DataW.trod enc Try.prog W 0 (fun _ => true) true n 5 [c0] = some (d0, q0) := h0
    obtain ⟨x0, r0, w0⟩ := (Opens.int Try.underlying5) enc W n _ _ _ h0
    obtain ⟨rfl, -⟩ := List.cons.inj r0
    obtain ⟨d1, q1, h1⟩ := hf 1 _ rfl
    replace h1 : DataW.trod enc Try.prog W 0 (fun _ => true) true n 2 (List.take (Try.prog.cellsOf 2) [c1, c2]) = some (d1, q1) := h1
    rw [cl2] at h1
    replace h1 : DataW.trod enc Try.prog W 0 (fun _ => true) true n 2 [c1] = some (d1, q1) := h1
    obtain ⟨x1, r1, w1⟩ := (Opens.int Try.underlying2) enc W n _ _ _ h1
    obtain ⟨rfl, -⟩ := List.cons.inj r1
    obtain ⟨d2, q2, h2⟩ := hf 2 _ rfl
    replace h2 : DataW.trod enc Try.prog W 0 (fun _ => true) true n 2 (List.take (Try.prog.cellsOf 2) [c2]) = some (d2, q2) := h2
    rw [cl2] at h2
    replace h2 : DataW.trod enc Try.prog W 0 (fun _ => true) true n 2 [c2] = some (d2, q2) := h2
    obtain ⟨x2, r2, w2⟩ := (Opens.int Try.underlying2) enc W n _ _ _ h2
    obtain ⟨rfl, -⟩ := List.cons.inj r2
    exact ⟨⟨x0, x1, x2⟩, rfl, w0, w1, w2⟩
theorem cl3 : Try.prog.cellsOf 3 = 1 := by kernel_rfl
theorem cl32 : Try.prog.cellsOf 32 = 1 := by kernel_rfl
theorem cl24 : Try.prog.cellsOf 24 = 1 := by kernel_rfl
theorem cl34 : Try.prog.cellsOf 34 = 4 := by kernel_rfl
def wf_api_Op (x : api_Op) : Prop := (Lit.int .u8 x.Kind).wf = true ∧ (Lit.int .i64 x.Method).wf = true ∧ (x.Args.length ≤ maxLen ∧ ∀ y ∈ x.Args, wf_api_Value y) ∧ (x.Bytes.length ≤ maxLen ∧ ∀ y ∈ x.Bytes, (Lit.int .u8 y).wf = true)
theorem opens_api_Op : Opens Try.prog 34 k_api_Op wf_api_Op := by
  intro H enc W fuel cs d ps h
  cases fuel with
  | zero => simp [DataW.trod] at h
  | succ n =>
    obtain ⟨hl, hf⟩ := trod_struct Try.underlying34 h
    rw [cl34] at hl
    obtain ⟨c0, c1, c2, c3, rfl⟩ := len4 hl
    obtain ⟨d0, q0, h0⟩ := hf 0 _ rfl
    replace h0 : DataW.trod enc Try.prog W 0 (fun _ => true) true n 5 (List.take (Try.prog.cellsOf 5) [c0, c1, c2, c3]) = some (d0, q0) := h0
    rw [cl5] at h0
    replace h0 : DataW.trod enc Try.prog W 0 (fun _ => true) true n 5 [c0] = some (d0, q0) := h0
    obtain ⟨x0, r0, w0⟩ := (Opens.int Try.underlying5) enc W n _ _ _ h0
    obtain ⟨rfl, -⟩ := List.cons.inj r0
    obtain ⟨d1, q1, h1⟩ := hf 1 _ rfl
    replace h1 : DataW.trod enc Try.prog W 0 (fun _ => true) true n 3 (List.take (Try.prog.cellsOf 3) [c1, c2, c3]) = some (d1, q1) := h1
    rw [cl3] at h1
    replace h1 : DataW.trod enc Try.prog W 0 (fun _ => true) true n 3 [c1] = some (d1, q1) := h1
    obtain ⟨x1, r1, w1⟩ := (Opens.int Try.underlying3) enc W n _ _ _ h1
    obtain ⟨rfl, -⟩ := List.cons.inj r1
    obtain ⟨d2, q2, h2⟩ := hf 2 _ rfl
    replace h2 : DataW.trod enc Try.prog W 0 (fun _ => true) true n 32 (List.take (Try.prog.cellsOf 32) [c2, c3]) = some (d2, q2) := h2
    rw [cl32] at h2
    replace h2 : DataW.trod enc Try.prog W 0 (fun _ => true) true n 32 [c2] = some (d2, q2) := h2
    obtain ⟨x2, r2, w2⟩ := (Opens.slice Try.underlying32 opens_api_Value cl37 (by decide)) enc W n _ _ _ h2
    obtain ⟨v2, e2, r2⟩ := r2
    obtain ⟨rfl, -⟩ := List.cons.inj e2
    obtain ⟨d3, q3, h3⟩ := hf 3 _ rfl
    replace h3 : DataW.trod enc Try.prog W 0 (fun _ => true) true n 24 (List.take (Try.prog.cellsOf 24) [c3]) = some (d3, q3) := h3
    rw [cl24] at h3
    replace h3 : DataW.trod enc Try.prog W 0 (fun _ => true) true n 24 [c3] = some (d3, q3) := h3
    obtain ⟨x3, r3, w3⟩ := (Opens.slice Try.underlying24 (Opens.int Try.underlying5) cl5 (by decide)) enc W n _ _ _ h3
    obtain ⟨v3, e3, r3⟩ := r3
    obtain ⟨rfl, -⟩ := List.cons.inj e3
    exact ⟨⟨x0, x1, x2, x3⟩, ⟨_, _, rfl, r2, r3⟩, w0, w1, w2, w3⟩
theorem cl39 : Try.prog.cellsOf 39 = 4 := by kernel_rfl
def wf_api_Outcome (x : api_Outcome) : Prop := (Lit.int .i64 x.Trap).wf = true ∧ wf_api_Value x.Result
theorem opens_api_Outcome : Opens Try.prog 39 k_api_Outcome wf_api_Outcome := by
  intro H enc W fuel cs d ps h
  cases fuel with
  | zero => simp [DataW.trod] at h
  | succ n =>
    obtain ⟨hl, hf⟩ := trod_struct Try.underlying39 h
    rw [cl39] at hl
    obtain ⟨c0, c1, c2, c3, rfl⟩ := len4 hl
    obtain ⟨d0, q0, h0⟩ := hf 0 _ rfl
    replace h0 : DataW.trod enc Try.prog W 0 (fun _ => true) true n 3 (List.take (Try.prog.cellsOf 3) [c0, c1, c2, c3]) = some (d0, q0) := h0
    rw [cl3] at h0
    replace h0 : DataW.trod enc Try.prog W 0 (fun _ => true) true n 3 [c0] = some (d0, q0) := h0
    obtain ⟨x0, r0, w0⟩ := (Opens.int Try.underlying3) enc W n _ _ _ h0
    obtain ⟨rfl, -⟩ := List.cons.inj r0
    obtain ⟨d1, q1, h1⟩ := hf 1 _ rfl
    replace h1 : DataW.trod enc Try.prog W 0 (fun _ => true) true n 37 (List.take (Try.prog.cellsOf 37) [c1, c2, c3]) = some (d1, q1) := h1
    rw [cl37] at h1
    replace h1 : DataW.trod enc Try.prog W 0 (fun _ => true) true n 37 [c1, c2, c3] = some (d1, q1) := h1
    obtain ⟨x1, r1, w1⟩ := opens_api_Value enc W n _ _ _ h1
    have e1 : [c1, c2, c3] = [.int .u8 x1.Kind, .int .i64 x1.A, .int .i64 x1.B] := r1
    simp only [List.cons.injEq, and_true] at e1
    obtain ⟨rfl, rfl, rfl⟩ := e1
    exact ⟨⟨x0, x1⟩, rfl, w0, w1⟩
theorem cl35 : Try.prog.cellsOf 35 = 1 := by kernel_rfl
theorem cl41 : Try.prog.cellsOf 41 = 5 := by kernel_rfl
def wf_api_Reply (x : api_Reply) : Prop := (Lit.int .i64 x.Err).wf = true ∧ wf_api_Outcome x.Out
theorem opens_api_Reply : Opens Try.prog 41 k_api_Reply wf_api_Reply := by
  intro H enc W fuel cs d ps h
  cases fuel with
  | zero => simp [DataW.trod] at h
  | succ n =>
    obtain ⟨hl, hf⟩ := trod_struct Try.underlying41 h
    rw [cl41] at hl
    obtain ⟨c0, c1, c2, c3, c4, rfl⟩ := len5 hl
    obtain ⟨d0, q0, h0⟩ := hf 0 _ rfl
    replace h0 : DataW.trod enc Try.prog W 0 (fun _ => true) true n 35 (List.take (Try.prog.cellsOf 35) [c0, c1, c2, c3, c4]) = some (d0, q0) := h0
    rw [cl35] at h0
    replace h0 : DataW.trod enc Try.prog W 0 (fun _ => true) true n 35 [c0] = some (d0, q0) := h0
    obtain ⟨x0, r0, w0⟩ := (Opens.int Try.underlying35) enc W n _ _ _ h0
    obtain ⟨rfl, -⟩ := List.cons.inj r0
    obtain ⟨d1, q1, h1⟩ := hf 1 _ rfl
    replace h1 : DataW.trod enc Try.prog W 0 (fun _ => true) true n 39 (List.take (Try.prog.cellsOf 39) [c1, c2, c3, c4]) = some (d1, q1) := h1
    rw [cl39] at h1
    replace h1 : DataW.trod enc Try.prog W 0 (fun _ => true) true n 39 [c1, c2, c3, c4] = some (d1, q1) := h1
    obtain ⟨x1, r1, w1⟩ := opens_api_Outcome enc W n _ _ _ h1
    have e1 : [c1, c2, c3, c4] = [.int .i64 x1.Trap, .int .u8 x1.Result.Kind, .int .i64 x1.Result.A, .int .i64 x1.Result.B] := r1
    simp only [List.cons.injEq, and_true] at e1
    obtain ⟨rfl, rfl, rfl, rfl⟩ := e1
    exact ⟨⟨x0, x1⟩, rfl, w0, w1⟩
theorem cl43 : Try.prog.cellsOf 43 = 14 := by kernel_rfl
def wf_engine_Call (x : engine_Call) : Prop := (Lit.int .i64 x.Proc).wf = true ∧ (Lit.int .u8 x.Kind).wf = true ∧ wf_api_Op x.Op ∧ wf_api_Reply x.Reply ∧ (Lit.int .i64 x.Start).wf = true ∧ (Lit.int .i64 x.End).wf = true ∧ (Lit.int .i64 x.Steps).wf = true
theorem opens_engine_Call : Opens Try.prog 43 k_engine_Call wf_engine_Call := by
  intro H enc W fuel cs d ps h
  cases fuel with
  | zero => simp [DataW.trod] at h
  | succ n =>
    obtain ⟨hl, hf⟩ := trod_struct Try.underlying43 h
    rw [cl43] at hl
    obtain ⟨c0, c1, c2, c3, c4, c5, c6, c7, c8, c9, c10, c11, c12, c13, rfl⟩ := len14 hl
    obtain ⟨d0, q0, h0⟩ := hf 0 _ rfl
    replace h0 : DataW.trod enc Try.prog W 0 (fun _ => true) true n 3 (List.take (Try.prog.cellsOf 3) [c0, c1, c2, c3, c4, c5, c6, c7, c8, c9, c10, c11, c12, c13]) = some (d0, q0) := h0
    rw [cl3] at h0
    replace h0 : DataW.trod enc Try.prog W 0 (fun _ => true) true n 3 [c0] = some (d0, q0) := h0
    obtain ⟨x0, r0, w0⟩ := (Opens.int Try.underlying3) enc W n _ _ _ h0
    obtain ⟨rfl, -⟩ := List.cons.inj r0
    obtain ⟨d1, q1, h1⟩ := hf 1 _ rfl
    replace h1 : DataW.trod enc Try.prog W 0 (fun _ => true) true n 5 (List.take (Try.prog.cellsOf 5) [c1, c2, c3, c4, c5, c6, c7, c8, c9, c10, c11, c12, c13]) = some (d1, q1) := h1
    rw [cl5] at h1
    replace h1 : DataW.trod enc Try.prog W 0 (fun _ => true) true n 5 [c1] = some (d1, q1) := h1
    obtain ⟨x1, r1, w1⟩ := (Opens.int Try.underlying5) enc W n _ _ _ h1
    obtain ⟨rfl, -⟩ := List.cons.inj r1
    obtain ⟨d2, q2, h2⟩ := hf 2 _ rfl
    replace h2 : DataW.trod enc Try.prog W 0 (fun _ => true) true n 34 (List.take (Try.prog.cellsOf 34) [c2, c3, c4, c5, c6, c7, c8, c9, c10, c11, c12, c13]) = some (d2, q2) := h2
    rw [cl34] at h2
    replace h2 : DataW.trod enc Try.prog W 0 (fun _ => true) true n 34 [c2, c3, c4, c5] = some (d2, q2) := h2
    obtain ⟨x2, r2, w2⟩ := opens_api_Op enc W n _ _ _ h2
    obtain ⟨v4, v5, e2, r2_2, r2_3⟩ := r2
    simp only [List.cons.injEq, and_true] at e2
    obtain ⟨rfl, rfl, rfl, rfl⟩ := e2
    obtain ⟨d3, q3, h3⟩ := hf 3 _ rfl
    replace h3 : DataW.trod enc Try.prog W 0 (fun _ => true) true n 41 (List.take (Try.prog.cellsOf 41) [c6, c7, c8, c9, c10, c11, c12, c13]) = some (d3, q3) := h3
    rw [cl41] at h3
    replace h3 : DataW.trod enc Try.prog W 0 (fun _ => true) true n 41 [c6, c7, c8, c9, c10] = some (d3, q3) := h3
    obtain ⟨x3, r3, w3⟩ := opens_api_Reply enc W n _ _ _ h3
    have e3 : [c6, c7, c8, c9, c10] = [.int .i64 x3.Err, .int .i64 x3.Out.Trap, .int .u8 x3.Out.Result.Kind, .int .i64 x3.Out.Result.A, .int .i64 x3.Out.Result.B] := r3
    simp only [List.cons.injEq, and_true] at e3
    obtain ⟨rfl, rfl, rfl, rfl, rfl⟩ := e3
    obtain ⟨d4, q4, h4⟩ := hf 4 _ rfl
    replace h4 : DataW.trod enc Try.prog W 0 (fun _ => true) true n 3 (List.take (Try.prog.cellsOf 3) [c11, c12, c13]) = some (d4, q4) := h4
    rw [cl3] at h4
    replace h4 : DataW.trod enc Try.prog W 0 (fun _ => true) true n 3 [c11] = some (d4, q4) := h4
    obtain ⟨x4, r4, w4⟩ := (Opens.int Try.underlying3) enc W n _ _ _ h4
    obtain ⟨rfl, -⟩ := List.cons.inj r4
    obtain ⟨d5, q5, h5⟩ := hf 5 _ rfl
    replace h5 : DataW.trod enc Try.prog W 0 (fun _ => true) true n 3 (List.take (Try.prog.cellsOf 3) [c12, c13]) = some (d5, q5) := h5
    rw [cl3] at h5
    replace h5 : DataW.trod enc Try.prog W 0 (fun _ => true) true n 3 [c12] = some (d5, q5) := h5
    obtain ⟨x5, r5, w5⟩ := (Opens.int Try.underlying3) enc W n _ _ _ h5
    obtain ⟨rfl, -⟩ := List.cons.inj r5
    obtain ⟨d6, q6, h6⟩ := hf 6 _ rfl
    replace h6 : DataW.trod enc Try.prog W 0 (fun _ => true) true n 3 (List.take (Try.prog.cellsOf 3) [c13]) = some (d6, q6) := h6
    rw [cl3] at h6
    replace h6 : DataW.trod enc Try.prog W 0 (fun _ => true) true n 3 [c13] = some (d6, q6) := h6
    obtain ⟨x6, r6, w6⟩ := (Opens.int Try.underlying3) enc W n _ _ _ h6
    obtain ⟨rfl, -⟩ := List.cons.inj r6
    exact ⟨⟨x0, x1, x2, x3, x4, x5, x6⟩, ⟨_, _, rfl, r2_2, r2_3⟩, w0, w1, w2, w3, w4, w5, w6⟩
/-- What is left to be shown of the law: of plain values alone. -/
def capstanlaw30_HistoryOf.Pure : Prop := ∀ (x0 : (List engine_Call)), (x0.length ≤ maxLen ∧ ∀ y ∈ x0, wf_engine_Call y) → capstanlaw30_HistoryOf.f x0 = some true
end Go.Proofs.Ytbejlahmhloloaa
end
