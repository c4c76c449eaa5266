/- Functions of the program as plain functions, with the proof that the code computes them: printed by gen.py of this session. -/
import Derived.Test.YtgfjjjbpikfgaaaGreatDoorProg
import Derived.Test.YtgfjjjbpikfgaaaGreatDoorQ22v188945
set_option linter.unusedVariables false
set_option linter.unusedSimpArgs false
set_option maxRecDepth 20000
set_option maxHeartbeats 2000000
noncomputable section
namespace Go.Proofs.YtgfjjjbpikfgaaaGreatDoor
open Go.Q
structure api_Value where
  Kind : Int
  A : Int
  B : Int
def api_Value.zero : api_Value := ⟨0, 0, 0⟩
def k_api_Value : Kd api_Value := ⟨3, fun h cs x => cs = [.int .u8 x.Kind, .int .i64 x.A, .int .i64 x.B], fun _ _ _ _ _ h => h, fun _ _ _ h => by simp [h], fun _ _ _ h => by subst h; rfl⟩
theorem k_api_Value.part_Kind : Part k_api_Value 0 (kInt .u8) (fun x => x.Kind) := fun h cs x e => ⟨[.int .u8 x.Kind], rfl, by subst e; exact seg_get [.int .u8 x.Kind, .int .i64 x.A, .int .i64 x.B] 0 1⟩
theorem k_api_Value.part_A : Part k_api_Value 1 (kInt .i64) (fun x => x.A) := fun h cs x e => ⟨[.int .i64 x.A], rfl, by subst e; exact seg_get [.int .u8 x.Kind, .int .i64 x.A, .int .i64 x.B] 1 1⟩
theorem k_api_Value.part_B : Part k_api_Value 2 (kInt .i64) (fun x => x.B) := fun h cs x e => ⟨[.int .i64 x.B], rfl, by subst e; exact seg_get [.int .u8 x.Kind, .int .i64 x.A, .int .i64 x.B] 2 1⟩
theorem k_api_Value.load {P : Program} {n : Fr} {ρ : Option Nat} {σ : List (Nat × Value)} {w0 : World} {hA hV : Hp} {ps : List HP} {os : List HO} {L l : List Oper} {Q : Cont} {d : Nat} {t tr : TypeId} {x : Operand} {pos : String} {af : Array Edge} {g : Option (Nat × Bool)} {v : Value} (see : Sees w0 hA hV) (i : Nat) {x0 : api_Value} (hi : ps[i]? = some (elP k_api_Value v x0)) {dsc : TypeDesc} (hu : P.underlying t = some dsc) (hd : (match dsc with | .struct _ | .array _ _ => true | _ => false) = true) (hs : (P.info? t).map (·.size) = some 3) (hg : gd L σ g = some true) (hn : Nat.blt d n.n = true) (hx : ev σ x = some v)
    (h : SP P n ρ ((d, .agg [.int .u8 x0.Kind, .int .i64 x0.A, .int .i64 x0.B].toArray) :: σ) (St w0 hA hV (ps) os) L l Q) : SP P n ρ σ (St w0 hA hV ps os) L (⟨some d, .load t x, tr, pos, af, g⟩ :: l) Q :=
  SP.loadP see i hi hu hd hs hg hn hx fun cs a w ha hw => by
    obtain ⟨m, fr, hN, hO, n1, n2, dj, s1, s2, ap, s⟩ := hw
    obtain rfl := ap.get 0 rfl
    exact h a w ha ⟨m, fr, hN, hO, n1, n2, dj, s1, s2, (fun y hy => ap y (List.mem_cons_of_mem _ hy)), s⟩
structure api_Outcome where
  Trap : Int
  Result : api_Value
def api_Outcome.zero : api_Outcome := ⟨0, api_Value.zero⟩
def k_api_Outcome : Kd api_Outcome := ⟨4, fun h cs x => cs = [.int .i64 x.Trap, .int .u8 x.Result.Kind, .int .i64 x.Result.A, .int .i64 x.Result.B], fun _ _ _ _ _ h => h, fun _ _ _ h => by simp [h], fun _ _ _ h => by subst h; rfl⟩
theorem k_api_Outcome.part_Trap : Part k_api_Outcome 0 (kInt .i64) (fun x => x.Trap) := fun h cs x e => ⟨[.int .i64 x.Trap], rfl, by subst e; exact seg_get [.int .i64 x.Trap, .int .u8 x.Result.Kind, .int .i64 x.Result.A, .int .i64 x.Result.B] 0 1⟩
theorem k_api_Outcome.part_Result : Part k_api_Outcome 1 k_api_Value (fun x => x.Result) := fun h cs x e => ⟨[.int .u8 x.Result.Kind, .int .i64 x.Result.A, .int .i64 x.Result.B], rfl, by subst e; exact seg_get [.int .i64 x.Trap, .int .u8 x.Result.Kind, .int .i64 x.Result.A, .int .i64 x.Result.B] 1 3⟩
theorem k_api_Outcome.load {P : Program} {n : Fr} {ρ : Option Nat} {σ : List (Nat × Value)} {w0 : World} {hA hV : Hp} {ps : List HP} {os : List HO} {L l : List Oper} {Q : Cont} {d : Nat} {t tr : TypeId} {x : Operand} {pos : String} {af : Array Edge} {g : Option (Nat × Bool)} {v : Value} (see : Sees w0 hA hV) (i : Nat) {x0 : api_Outcome} (hi : ps[i]? = some (elP k_api_Outcome v x0)) {dsc : TypeDesc} (hu : P.underlying t = some dsc) (hd : (match dsc with | .struct _ | .array _ _ => true | _ => false) = true) (hs : (P.info? t).map (·.size) = some 4) (hg : gd L σ g = some true) (hn : Nat.blt d n.n = true) (hx : ev σ x = some v)
    (h : SP P n ρ ((d, .agg [.int .i64 x0.Trap, .int .u8 x0.Result.Kind, .int .i64 x0.Result.A, .int .i64 x0.Result.B].toArray) :: σ) (St w0 hA hV (ps) os) L l Q) : SP P n ρ σ (St w0 hA hV ps os) L (⟨some d, .load t x, tr, pos, af, g⟩ :: l) Q :=
  SP.loadP see i hi hu hd hs hg hn hx fun cs a w ha hw => by
    obtain ⟨m, fr, hN, hO, n1, n2, dj, s1, s2, ap, s⟩ := hw
    obtain rfl := ap.get 0 rfl
    exact h a w ha ⟨m, fr, hN, hO, n1, n2, dj, s1, s2, (fun y hy => ap y (List.mem_cons_of_mem _ hy)), s⟩
structure api_Reply where
  Err : Int
  Out : api_Outcome
def api_Reply.zero : api_Reply := ⟨0, api_Outcome.zero⟩
def k_api_Reply : Kd api_Reply := ⟨5, fun h cs x => cs = [.int .i64 x.Err, .int .i64 x.Out.Trap, .int .u8 x.Out.Result.Kind, .int .i64 x.Out.Result.A, .int .i64 x.Out.Result.B], fun _ _ _ _ _ h => h, fun _ _ _ h => by simp [h], fun _ _ _ h => by subst h; rfl⟩
theorem k_api_Reply.part_Err : Part k_api_Reply 0 (kInt .i64) (fun x => x.Err) := fun h cs x e => ⟨[.int .i64 x.Err], rfl, by subst e; exact seg_get [.int .i64 x.Err, .int .i64 x.Out.Trap, .int .u8 x.Out.Result.Kind, .int .i64 x.Out.Result.A, .int .i64 x.Out.Result.B] 0 1⟩
theorem k_api_Reply.part_Out : Part k_api_Reply 1 k_api_Outcome (fun x => x.Out) := fun h cs x e => ⟨[.int .i64 x.Out.Trap, .int .u8 x.Out.Result.Kind, .int .i64 x.Out.Result.A, .int .i64 x.Out.Result.B], rfl, by subst e; exact seg_get [.int .i64 x.Err, .int .i64 x.Out.Trap, .int .u8 x.Out.Result.Kind, .int .i64 x.Out.Result.A, .int .i64 x.Out.Result.B] 1 4⟩
theorem k_api_Reply.load {P : Program} {n : Fr} {ρ : Option Nat} {σ : List (Nat × Value)} {w0 : World} {hA hV : Hp} {ps : List HP} {os : List HO} {L l : List Oper} {Q : Cont} {d : Nat} {t tr : TypeId} {x : Operand} {pos : String} {af : Array Edge} {g : Option (Nat × Bool)} {v : Value} (see : Sees w0 hA hV) (i : Nat) {x0 : api_Reply} (hi : ps[i]? = some (elP k_api_Reply v x0)) {dsc : TypeDesc} (hu : P.underlying t = some dsc) (hd : (match dsc with | .struct _ | .array _ _ => true | _ => false) = true) (hs : (P.info? t).map (·.size) = some 5) (hg : gd L σ g = some true) (hn : Nat.blt d n.n = true) (hx : ev σ x = some v)
    (h : SP P n ρ ((d, .agg [.int .i64 x0.Err, .int .i64 x0.Out.Trap, .int .u8 x0.Out.Result.Kind, .int .i64 x0.Out.Result.A, .int .i64 x0.Out.Result.B].toArray) :: σ) (St w0 hA hV (ps) os) L l Q) : SP P n ρ σ (St w0 hA hV ps os) L (⟨some d, .load t x, tr, pos, af, g⟩ :: l) Q :=
  SP.loadP see i hi hu hd hs hg hn hx fun cs a w ha hw => by
    obtain ⟨m, fr, hN, hO, n1, n2, dj, s1, s2, ap, s⟩ := hw
    obtain rfl := ap.get 0 rfl
    exact h a w ha ⟨m, fr, hN, hO, n1, n2, dj, s1, s2, (fun y hy => ap y (List.mem_cons_of_mem _ hy)), s⟩
structure api_Op where
  Kind : Int
  Method : Int
  Args : (List api_Value)
  Bytes : (List Int)
def api_Op.zero : api_Op := ⟨0, 0, [], []⟩
def k_api_Op : Kd api_Op := ⟨4, fun h cs x => ∃ v0 v1 : Value, cs = [.int .u8 x.Kind, .int .i64 x.Method, v0, v1] ∧ slR k_api_Value h v0 x.Args ∧ slR (kInt .u8) h v1 x.Bytes,
  fun _ _ _ _ s ⟨v0, v1, e, p0, p1⟩ => ⟨v0, v1, e, slR.mono s p0, slR.mono s p1⟩, fun _ _ _ ⟨v0, v1, e, p0, p1⟩ => by simp [e],
  fun _ _ _ ⟨v0, v1, e, p0, p1⟩ => by subst e; obtain ⟨_, _, rfl, -⟩ := p0; obtain ⟨_, _, rfl, -⟩ := p1; rfl⟩
def o_api_Op : Ko api_Op := ⟨k_api_Op, fun cs x => HO.ex fun v0 : Value => HO.ex fun v1 : Value => HO.pand (cs = [.int .u8 x.Kind, .int .i64 x.Method, v0, v1]) (HO.seps [slO k_api_Value 35 v0 x.Args, slO (kInt .u8) 5 v1 x.Bytes]), fun ⟨v0, v1, e, q⟩ sa sh => ⟨v0, v1, e, slO.read (Sep.get 0 rfl q) sa sh, slO.read (Sep.get 1 rfl q) sa sh⟩⟩
@[reducible] def api_Op.set_Args (x : api_Op) (l : (List api_Value)) : api_Op := { x with Args := l }
theorem o_api_Op.leaf2 : Leaf o_api_Op 2 k_api_Value 35 (fun x => x.Args) api_Op.set_Args := fun a h c x ⟨v0, v1, e, q⟩ => by
  subst e
  obtain ⟨h1, h2, dj, s1, s2, p, rest⟩ := Sep.take 0 _ rfl q
  exact ⟨v0, h1, h2, rfl, dj, s1, s2, p, fun a' h' l' sa dj' r => ⟨v0, v1, rfl, Sep.back 0 [slO k_api_Value 35 v0 x.Args, slO (kInt .u8) 5 v1 x.Bytes] (x := slO k_api_Value 35 v0 l') (Nat.le_of_ble_eq_true rfl) dj' r (Sep.mono _ sa (Sub.refl _) rest)⟩⟩
@[reducible] def api_Op.set_Bytes (x : api_Op) (l : (List Int)) : api_Op := { x with Bytes := l }
theorem o_api_Op.leaf3 : Leaf o_api_Op 3 (kInt .u8) 5 (fun x => x.Bytes) api_Op.set_Bytes := fun a h c x ⟨v0, v1, e, q⟩ => by
  subst e
  obtain ⟨h1, h2, dj, s1, s2, p, rest⟩ := Sep.take 1 _ rfl q
  exact ⟨v1, h1, h2, rfl, dj, s1, s2, p, fun a' h' l' sa dj' r => ⟨v0, v1, rfl, Sep.back 1 [slO k_api_Value 35 v0 x.Args, slO (kInt .u8) 5 v1 x.Bytes] (x := slO (kInt .u8) 5 v1 l') (Nat.le_of_ble_eq_true rfl) dj' r (Sep.mono _ sa (Sub.refl _) rest)⟩⟩
theorem k_api_Op.part_Kind : Part k_api_Op 0 (kInt .u8) (fun x => x.Kind) := fun h cs x ⟨v0, v1, e, p0, p1⟩ => ⟨[.int .u8 x.Kind], rfl, by subst e; exact seg_get [.int .u8 x.Kind, .int .i64 x.Method, v0, v1] 0 1⟩
theorem k_api_Op.part_Method : Part k_api_Op 1 (kInt .i64) (fun x => x.Method) := fun h cs x ⟨v0, v1, e, p0, p1⟩ => ⟨[.int .i64 x.Method], rfl, by subst e; exact seg_get [.int .u8 x.Kind, .int .i64 x.Method, v0, v1] 1 1⟩
theorem k_api_Op.part_Args : Part k_api_Op 2 (kSl k_api_Value) (fun x => x.Args) := fun h cs x ⟨v0, v1, e, p0, p1⟩ => ⟨[v0], ⟨v0, rfl, p0⟩, by subst e; exact seg_get [.int .u8 x.Kind, .int .i64 x.Method, v0, v1] 2 1⟩
theorem k_api_Op.part_Bytes : Part k_api_Op 3 (kSl (kInt .u8)) (fun x => x.Bytes) := fun h cs x ⟨v0, v1, e, p0, p1⟩ => ⟨[v1], ⟨v1, rfl, p1⟩, by subst e; exact seg_get [.int .u8 x.Kind, .int .i64 x.Method, v0, v1] 3 1⟩
theorem k_api_Op.load {P : Program} {n : Fr} {ρ : Option Nat} {σ : List (Nat × Value)} {w0 : World} {hA hV : Hp} {ps : List HP} {os : List HO} {L l : List Oper} {Q : Cont} {d : Nat} {t tr : TypeId} {x : Operand} {pos : String} {af : Array Edge} {g : Option (Nat × Bool)} {v : Value} (see : Sees w0 hA hV) (i : Nat) {x0 : api_Op} (hi : ps[i]? = some (elP k_api_Op v x0)) {dsc : TypeDesc} (hu : P.underlying t = some dsc) (hd : (match dsc with | .struct _ | .array _ _ => true | _ => false) = true) (hs : (P.info? t).map (·.size) = some 4) (hg : gd L σ g = some true) (hn : Nat.blt d n.n = true) (hx : ev σ x = some v)
    (h : ∀ v0 v1, SP P n ρ ((d, .agg [.int .u8 x0.Kind, .int .i64 x0.Method, v0, v1].toArray) :: σ) (St w0 hA hV (slP k_api_Value v0 x0.Args :: slP (kInt .u8) v1 x0.Bytes :: ps) os) L l Q) : SP P n ρ σ (St w0 hA hV ps os) L (⟨some d, .load t x, tr, pos, af, g⟩ :: l) Q :=
  SP.loadP see i hi hu hd hs hg hn hx fun cs a w ha hw => by
    obtain ⟨m, fr, hN, hO, n1, n2, dj, s1, s2, ap, s⟩ := hw
    obtain ⟨v0, v1, e, p0, p1⟩ := ap.get 0 rfl
    subst e
    exact h v0 v1 a w ha ⟨m, fr, hN, hO, n1, n2, dj, s1, s2, All.cons p0 (All.cons p1 ((fun y hy => ap y (List.mem_cons_of_mem _ hy)))), s⟩
theorem sz3 : (Tryz.prog.info? 3).map (·.size) = some 1 := by kernel_rfl
theorem sz5 : (Tryz.prog.info? 5).map (·.size) = some 1 := by kernel_rfl
theorem sz22 : (Tryz.prog.info? 22).map (·.size) = some 1 := by kernel_rfl
theorem sz23 : (Tryz.prog.info? 23).map (·.size) = some 1 := by kernel_rfl
theorem sz25 : (Tryz.prog.info? 25).map (·.size) = some 4 := by kernel_rfl
theorem sz39 : (Tryz.prog.info? 39).map (·.size) = some 5 := by kernel_rfl
theorem sz48 : (Tryz.prog.info? 48).map (·.size) = some 6 := by kernel_rfl
theorem sz62 : (Tryz.prog.info? 62).map (·.size) = some 6 := by kernel_rfl
theorem sz88 : (Tryz.prog.info? 88).map (·.size) = some 1 := by kernel_rfl
theorem inf25 : (Tryz.prog.info? 25).map (fun i => ((i.zero.map fun z => z.cells.toList), i.size, i.bytes)) = some (some [.int .u8 0, .int .i64 0, (.slice none 0 0), (.slice none 0 0)], 4, 64) := by kernel_rfl
theorem inf39 : (Tryz.prog.info? 39).map (fun i => ((i.zero.map fun z => z.cells.toList), i.size, i.bytes)) = some (some [.int .i64 0, .int .i64 0, .int .u8 0, .int .i64 0, .int .i64 0], 5, 40) := by kernel_rfl
theorem inf48 : (Tryz.prog.info? 48).map (fun i => ((i.zero.map fun z => z.cells.toList), i.size, i.bytes)) = some (some [.int .i64 0, .int .i64 0, .int .u8 0, .int .i64 0, (.slice none 0 0), (.slice none 0 0)], 6, 80) := by kernel_rfl
theorem inf88 : (Tryz.prog.info? 88).map (fun i => ((i.zero.map fun z => z.cells.toList), i.size, i.bytes)) = some (some [.pointer none], 1, 8) := by kernel_rfl
theorem inf107 : (Tryz.prog.info? 107).map (fun i => ((i.zero.map fun z => z.cells.toList), i.size, i.bytes)) = some (some [.int .i64 0, .int .i64 0, .int .i64 0, .int .u8 0, .int .i64 0, (.slice none 0 0), (.slice none 0 0)], 7, 88) := by kernel_rfl
theorem inf187 : (Tryz.prog.info? 187).map (fun i => ((i.zero.map fun z => z.cells.toList), i.size, i.bytes)) = some (some [.int .i64 0, .int .u8 0, .int .i64 0, (.slice none 0 0), (.slice none 0 0), .int .i64 0, .int .i64 0], 7, 88) := by kernel_rfl
theorem bt25 : shapeOf Tryz.prog 25 = some ([.int .u8 0, .int .i64 0, (.slice none 0 0), (.slice none 0 0)], [(0, 1), (1, 1), (2, 1), (3, 1)]) := by kernel_rfl
theorem bt39 : shapeOf Tryz.prog 39 = some ([.int .i64 0, .int .i64 0, .int .u8 0, .int .i64 0, .int .i64 0], [(0, 1), (1, 4)]) := by kernel_rfl
theorem bt48 : shapeOf Tryz.prog 48 = some ([.int .i64 0, .int .i64 0, .int .u8 0, .int .i64 0, (.slice none 0 0), (.slice none 0 0)], [(0, 1), (1, 1), (2, 4)]) := by kernel_rfl
theorem bt62 : shapeOf Tryz.prog 62 = some ([(.slice none 0 0), (.slice none 0 0), (.slice none 0 0), .int .i64 0, (.slice none 0 0), (.slice none 0 0)], [(0, 4), (4, 1), (5, 1)]) := by kernel_rfl
theorem bt64 : shapeOf Tryz.prog 64 = some ([.int .i64 0, (.slice none 0 0), (.slice none 0 0), (.slice none 0 0), .int .i64 0, (.slice none 0 0), (.slice none 0 0)], [(0, 1), (1, 6)]) := by kernel_rfl
theorem bt141 : shapeOf Tryz.prog 141 = some ([(.slice none 0 0), (.slice none 0 0), .int .i64 0, (.slice none 0 0), (.slice none 0 0), (.slice none 0 0), .int .i64 0, (.slice none 0 0), (.slice none 0 0)], [(0, 1), (1, 1), (2, 7)]) := by kernel_rfl
theorem eqA35 (d : Nat) (w : World) (x0 y0 : Int) (x1 y1 : Int) (x2 y2 : Int) : (Op.equalIn (d + 2) 35 (.agg #[.int .u8 x0, .int .i64 x1, .int .i64 x2]) (.agg #[.int .u8 y0, .int .i64 y1, .int .i64 y2])).run Tryz.prog w = .ok (x0 == y0 && (x1 == y1 && (x2 == y2))) w := by
  refine eqA_of Tryz.underlying35 (by kernel_rfl) ?_
  refine eqf_cons (by rfl) (run_part1 Tryz.underlying5 rfl rfl) (run_part1 Tryz.underlying5 rfl rfl) (run_equalIn_int w _ 5 _ _ _ _ Tryz.underlying5) ?_
  refine eqf_cons (by rfl) (run_part1 Tryz.underlying2 rfl rfl) (run_part1 Tryz.underlying2 rfl rfl) (run_equalIn_int w _ 2 _ _ _ _ Tryz.underlying2) ?_
  exact eqf_last (by rfl) (run_part1 Tryz.underlying2 rfl rfl) (run_part1 Tryz.underlying2 rfl rfl) (run_equalIn_int w _ 2 _ _ _ _ Tryz.underlying2)
theorem szq35 : (Tryz.prog.info? 35).map (·.size) = some 3 := by kernel_rfl
theorem eqA37 (d : Nat) (w : World) (x0 y0 : Int) (x1 y1 : Int) (x2 y2 : Int) (x3 y3 : Int) : (Op.equalIn (d + 3) 37 (.agg #[.int .i64 x0, .int .u8 x1, .int .i64 x2, .int .i64 x3]) (.agg #[.int .i64 y0, .int .u8 y1, .int .i64 y2, .int .i64 y3])).run Tryz.prog w = .ok (x0 == y0 && ((x1 == y1 && (x2 == y2 && (x3 == y3))))) w := by
  refine eqA_of Tryz.underlying37 (by kernel_rfl) ?_
  refine eqf_cons (by rfl) (run_part1 Tryz.underlying3 rfl rfl) (run_part1 Tryz.underlying3 rfl rfl) (run_equalIn_int w _ 3 _ _ _ _ Tryz.underlying3) ?_
  exact eqf_last (by rfl) (run_partA Tryz.underlying35 rfl szq35 rfl) (run_partA Tryz.underlying35 rfl szq35 rfl) (eqA35 (d + 0) w _ _ _ _ _ _)
theorem szq37 : (Tryz.prog.info? 37).map (·.size) = some 4 := by kernel_rfl
theorem eqA39 (d : Nat) (w : World) (x0 y0 : Int) (x1 y1 : Int) (x2 y2 : Int) (x3 y3 : Int) (x4 y4 : Int) : (Op.equalIn (d + 4) 39 (.agg #[.int .i64 x0, .int .i64 x1, .int .u8 x2, .int .i64 x3, .int .i64 x4]) (.agg #[.int .i64 y0, .int .i64 y1, .int .u8 y2, .int .i64 y3, .int .i64 y4])).run Tryz.prog w = .ok (x0 == y0 && ((x1 == y1 && ((x2 == y2 && (x3 == y3 && (x4 == y4))))))) w := by
  refine eqA_of Tryz.underlying39 (by kernel_rfl) ?_
  refine eqf_cons (by rfl) (run_part1 Tryz.underlying33 rfl rfl) (run_part1 Tryz.underlying33 rfl rfl) (run_equalIn_int w _ 33 _ _ _ _ Tryz.underlying33) ?_
  exact eqf_last (by rfl) (run_partA Tryz.underlying37 rfl szq37 rfl) (run_partA Tryz.underlying37 rfl szq37 rfl) (eqA37 (d + 0) w _ _ _ _ _ _ _ _)
theorem fn69 : ((Tryz.prog.funcs[69]?).map fun fn => fn.body.isSome && !(fn.name == "runtime.NumGoroutine")) = some true := by rw [Tryz.func69]; rfl
theorem fn25 : ((Tryz.prog.funcs[25]?).map fun fn => fn.body.isSome && !(fn.name == "runtime.NumGoroutine")) = some true := by rw [Tryz.func25]; rfl
theorem fn36 : ((Tryz.prog.funcs[36]?).map fun fn => fn.body.isSome && !(fn.name == "runtime.NumGoroutine")) = some true := by rw [Tryz.func36]; rfl
theorem fn35 : ((Tryz.prog.funcs[35]?).map fun fn => fn.body.isSome && !(fn.name == "runtime.NumGoroutine")) = some true := by rw [Tryz.func35]; rfl
theorem fn37 : ((Tryz.prog.funcs[37]?).map fun fn => fn.body.isSome && !(fn.name == "runtime.NumGoroutine")) = some true := by rw [Tryz.func37]; rfl
theorem fn38 : ((Tryz.prog.funcs[38]?).map fun fn => fn.body.isSome && !(fn.name == "runtime.NumGoroutine")) = some true := by rw [Tryz.func38]; rfl
theorem fn39 : ((Tryz.prog.funcs[39]?).map fun fn => fn.body.isSome && !(fn.name == "runtime.NumGoroutine")) = some true := by rw [Tryz.func39]; rfl
theorem fn29 : ((Tryz.prog.funcs[29]?).map fun fn => fn.body.isSome && !(fn.name == "runtime.NumGoroutine")) = some true := by rw [Tryz.func29]; rfl
theorem fn63 : ((Tryz.prog.funcs[63]?).map fun fn => fn.body.isSome && !(fn.name == "runtime.NumGoroutine")) = some true := by rw [Tryz.func63]; rfl
theorem fn103 : ((Tryz.prog.funcs[103]?).map fun fn => fn.body.isSome && !(fn.name == "runtime.NumGoroutine")) = some true := by rw [Tryz.func103]; rfl
theorem fn73 : ((Tryz.prog.funcs[73]?).map fun fn => fn.body.isSome && !(fn.name == "runtime.NumGoroutine")) = some true := by rw [Tryz.func73]; rfl
theorem fn66 : ((Tryz.prog.funcs[66]?).map fun fn => fn.body.isSome && !(fn.name == "runtime.NumGoroutine")) = some true := by rw [Tryz.func66]; rfl
theorem fn20 : ((Tryz.prog.funcs[20]?).map fun fn => fn.body.isSome && !(fn.name == "runtime.NumGoroutine")) = some true := by rw [Tryz.func20]; rfl
theorem fn71 : ((Tryz.prog.funcs[71]?).map fun fn => fn.body.isSome && !(fn.name == "runtime.NumGoroutine")) = some true := by rw [Tryz.func71]; rfl
theorem fn79 : ((Tryz.prog.funcs[79]?).map fun fn => fn.body.isSome && !(fn.name == "runtime.NumGoroutine")) = some true := by rw [Tryz.func79]; rfl
theorem fn40 : ((Tryz.prog.funcs[40]?).map fun fn => fn.body.isSome && !(fn.name == "runtime.NumGoroutine")) = some true := by rw [Tryz.func40]; rfl
theorem fn41 : ((Tryz.prog.funcs[41]?).map fun fn => fn.body.isSome && !(fn.name == "runtime.NumGoroutine")) = some true := by rw [Tryz.func41]; rfl
theorem fn6 : ((Tryz.prog.funcs[6]?).map fun fn => fn.body.isSome && !(fn.name == "runtime.NumGoroutine")) = some true := by rw [Tryz.func6]; rfl
/-! ### capstan/mem.Arena: function 69 -/
def mem_Arena_s1.f  : Option Unit :=
  some ()
theorem mem_Arena_s1.ok   (r : Unit) (H : mem_Arena_s1.f  = some r) (w : World) (hV : Hp) (sV : Sub hV (hp w))  :
    Trip Tryz.prog 69 [.int .i64 1, .int .i64 1].toArray em hV w (fun v => HO.pure (v = .int .i64 4)) := by
  have see : Sees w em hV := ⟨sV, Dj.em_right _⟩
  refine Trip.of (P := Tryz.prog) (n := ⟨24, []⟩) Tryz.func69 rfl ⟨rfl, rfl⟩ rfl (St.begin (All.nil _)) ?_
  have ho := H
  refine CP.seq ?_
  refine CP.region ?_
  refine SP.val (Val.assign rfl) rfl rfl rfl ?_
  refine SP.nil ?_
  refine QE.then ?_
  refine CP.seq ?_
  refine CP.seq ?_
  refine CP.region ?_
  refine SP.val (Val.move rfl) rfl rfl rfl ?_
  refine SP.val (Val.cast (v := .bool false) (Val.lss rfl rfl) rfl) rfl rfl rfl ?_
  refine SP.val (Val.move rfl) rfl rfl rfl ?_
  refine SP.val (Val.move rfl) rfl rfl rfl ?_
  refine SP.val (Val.cast (v := .bool false) (Val.gtr rfl rfl) rfl) rfl rfl rfl ?_
  refine SP.val (Val.pickF rfl rfl) rfl rfl rfl ?_
  refine SP.val (Val.move rfl) rfl rfl rfl ?_
  refine SP.val (Val.move rfl) rfl rfl rfl ?_
  refine SP.val (Val.cast (v := .bool false) (Val.lss rfl rfl) rfl) rfl rfl rfl ?_
  refine SP.val (Val.pickF rfl rfl) rfl rfl rfl ?_
  refine SP.val (Val.move rfl) rfl rfl rfl ?_
  refine SP.val (Val.move rfl) rfl rfl rfl ?_
  refine SP.val (Val.cast (v := .bool false) (Val.gtr rfl rfl) rfl) rfl rfl rfl ?_
  refine SP.val (Val.pickF rfl rfl) rfl rfl rfl ?_
  refine SP.nil ?_
  refine QE.then ?_
  refine CP.condF rfl rfl ?_
  refine CP.skip ?_
  refine QE.then ?_
  refine CP.seq ?_
  refine CP.region ?_
  refine SP.val (Val.move rfl) rfl rfl rfl ?_
  refine SP.val (Val.cast (v := .int .i64 2) (Val.mul rfl rfl) rfl) rfl rfl rfl ?_
  refine SP.val (Val.move rfl) rfl rfl rfl ?_
  refine SP.val (Val.cast (v := .int .i64 2) (Val.mul rfl rfl) rfl) rfl rfl rfl ?_
  refine SP.val (Val.cast (v := .int .i64 4) (Val.add rfl rfl) rfl) rfl rfl rfl ?_
  refine SP.val (Val.assign rfl) rfl rfl rfl ?_
  refine SP.nil ?_
  refine QE.then ?_
  refine CP.ret ?_
  obtain rfl := Option.some.inj ho
  exact QE.rets (rs := [.tmp 4]) (vs := [.int .i64 4]) Tryz.results69 rfl ⟨RVs.tmp rfl, trivial⟩ (fun w2 h => St.done (fun a b p s => rfl) h)
/-! ### capstan/mem.New: function 25 -/
def mem_New_s1.f  : Option (Unit × Int) :=
  (mem_Arena_s1.f ).bind fun t3 => if (0 : Int) ≤ 1 ∧ (88 : Int) * 1 ≤ 281474976710656 ∧ (1 : Int) ≤ 9223372036854775807 then (if (0 : Int) ≤ 4 ∧ (88 : Int) * 4 ≤ 281474976710656 ∧ (4 : Int) ≤ 9223372036854775807 then (some ((), 0)) else none) else none
theorem mem_New_s1.ok   (r : Unit × Int) (H : mem_New_s1.f  = some r) (w : World) (hV : Hp) (sV : Sub hV (hp w))  :
    Trip Tryz.prog 25 [.int .i64 1, .int .i64 1, .agg #[(.slice none 0 0), (.slice none 0 0), (.slice none 0 0), .int .i64 0, (.slice none 0 0), (.slice none 0 0)]].toArray em hV w (fun v => HO.ex fun u0 : Value => HO.pand (v = .tuple #[u0, .int .i64 r.2]) (HO.seps [HO.em])) := by
  have see : Sees w em hV := ⟨sV, Dj.em_right _⟩
  refine Trip.of (P := Tryz.prog) (n := ⟨22, []⟩) Tryz.func25 rfl ⟨rfl, rfl⟩ rfl (St.begin (All.nil _)) ?_
  have ho := H
  refine CP.seq ?_
  refine CP.region ?_
  refine SP.box (cs := [(.slice none 0 0), (.slice none 0 0), (.slice none 0 0), .int .i64 0, (.slice none 0 0), (.slice none 0 0)]) rfl rfl rfl rfl (fun b1 => ?_)
  refine SP.val (Val.assign rfl) rfl rfl rfl ?_
  refine SP.val (Val.assign rfl) rfl rfl rfl ?_
  refine SP.nil ?_
  refine QE.then ?_
  refine CP.seq ?_
  refine CP.region ?_
  refine SP.val (Val.move rfl) rfl rfl rfl ?_
  refine SP.val (Val.move rfl) rfl rfl rfl ?_
  obtain ⟨t3, hc, ho⟩ := bind_some (x := mem_Arena_s1.f ) ho
  refine SP.callV see (caps := []) (.int .i64 4) fn69 rfl rfl rfl rfl (fun w2 hP hs sub ap => mem_Arena_s1.ok   _ hc w2 hP sub ) ?_
  clear hc
  refine SP.val (Val.assign rfl) rfl rfl rfl ?_
  refine SP.nil ?_
  refine QE.then ?_
  refine CP.seq ?_
  refine CP.seq ?_
  refine CP.region ?_
  refine SP.val (Val.move rfl) rfl rfl rfl ?_
  refine SP.val (Val.cast (v := .bool false) (Val.eql rfl rfl) rfl) rfl rfl rfl ?_
  refine SP.nil ?_
  refine QE.then ?_
  refine CP.condF rfl rfl ?_
  refine CP.skip ?_
  refine QE.then ?_
  refine CP.seq ?_
  refine CP.drawA (by kernel_rfl) (fun w2 k h => h.drawn k) ?_
  obtain ⟨hm4, ho⟩ := must_some ho
  obtain ⟨hm5, ho⟩ := must_some ho
  refine DA.phase (fun i => Nat.ble 0 i && Nat.blt i 6) (fun w2 => St w em hV [] [boxO b1 [(.slice none 0 0), (.slice none 0 0), (.slice none 0 0), .int .i64 0, (.slice none 0 0), (.slice none 0 0)] 62] w2) ?_
  refine DT.take 0 rfl rfl rfl rfl (by kernel_rfl) (fun _ _ _ h => h) (Val.move rfl) (fun w2 hw => hw) ?_
  refine DT.take 2 rfl rfl rfl rfl (by kernel_rfl) (fun _ _ _ h => h) (Val.move rfl) (fun w2 hw => hw) ?_
  refine DT.take 4 rfl rfl rfl rfl (by kernel_rfl) (fun _ _ _ h => h) (Val.loadA 0 rfl Tryz.underlying62 rfl sz62 rfl rfl rfl) (fun w2 hw => hw) ?_
  refine DT.take 5 rfl rfl rfl rfl (by kernel_rfl) (fun _ _ _ h => h) (Val.buildC (us := [(1, .agg #[(.slice none 0 0), (.slice none 0 0), (.slice none 0 0), .int .i64 0, (.slice none 0 0), (.slice none 0 0)])]) (ucs := [(1, [(.slice none 0 0), (.slice none 0 0), (.slice none 0 0), .int .i64 0, (.slice none 0 0), (.slice none 0 0)])]) (cs := [.int .i64 0, (.slice none 0 0), (.slice none 0 0), (.slice none 0 0), .int .i64 0, (.slice none 0 0), (.slice none 0 0)]) bt64 rfl rfl ⟨rfl, rfl, trivial⟩ (by rfl)) (fun w2 hw => hw) ?_
  refine DT.list (l2 := #[true, false, true, false, true, true, false, false, false, false]) (by kernel_rfl) ?_
  refine DT.cut (ι := Nat × Nat) (fun z => [(6, .pointer none), (7, .int .i64 0), (15, (.slice (some ⟨z.1, 0, none⟩) (1 : Int).toNat (1 : Int).toNat)), (17, (.slice (some ⟨z.2, 0, none⟩) (4 : Int).toNat (4 : Int).toNat)), (19, .agg #[.int .i64 0, (.slice none 0 0), (.slice none 0 0), (.slice none 0 0), .int .i64 0, (.slice none 0 0), (.slice none 0 0)])]) (fun z w2 => St w em hV [] [HO.em, HO.em, boxO b1 [(.slice none 0 0), (.slice none 0 0), (.slice none 0 0), .int .i64 0, (.slice none 0 0), (.slice none 0 0)] 62] w2) 4 #[true, true, true, true, true, true, false, false, false, false] (fun z => ?_) (fun J24 => ?_)
  · obtain ⟨b20, b22⟩ := z
    refine DT.next (by kernel_rfl) ?_
    refine DA.one 6 rfl (by kernel_rfl) ?_
    refine SP.val (Val.buildC (us := [(0, (.slice (some ⟨b20, 0, none⟩) (1 : Int).toNat (1 : Int).toNat)), (1, (.slice (some ⟨b22, 0, none⟩) (4 : Int).toNat (4 : Int).toNat)), (2, .agg #[.int .i64 0, (.slice none 0 0), (.slice none 0 0), (.slice none 0 0), .int .i64 0, (.slice none 0 0), (.slice none 0 0)])]) (ucs := [(0, [(.slice (some ⟨b20, 0, none⟩) (1 : Int).toNat (1 : Int).toNat)]), (1, [(.slice (some ⟨b22, 0, none⟩) (4 : Int).toNat (4 : Int).toNat)]), (2, [.int .i64 0, (.slice none 0 0), (.slice none 0 0), (.slice none 0 0), .int .i64 0, (.slice none 0 0), (.slice none 0 0)])]) (cs := [(.slice (some ⟨b20, 0, none⟩) (1 : Int).toNat (1 : Int).toNat), (.slice (some ⟨b22, 0, none⟩) (4 : Int).toNat (4 : Int).toNat), .int .i64 0, (.slice none 0 0), (.slice none 0 0), (.slice none 0 0), .int .i64 0, (.slice none 0 0), (.slice none 0 0)]) bt141 rfl rfl ⟨rfl, rfl, ⟨rfl, rfl, ⟨rfl, rfl, trivial⟩⟩⟩ (by rfl)) rfl rfl rfl ?_
    refine SP.nil ?_
    refine QE.atA ?_
    refine DA.one 7 rfl (by kernel_rfl) ?_
    refine SP.box (cs := [(.slice (some ⟨b20, 0, none⟩) (1 : Int).toNat (1 : Int).toNat), (.slice (some ⟨b22, 0, none⟩) (4 : Int).toNat (4 : Int).toNat), .int .i64 0, (.slice none 0 0), (.slice none 0 0), (.slice none 0 0), .int .i64 0, (.slice none 0 0), (.slice none 0 0)]) rfl rfl rfl rfl (fun b25 => ?_)
    refine SP.nil ?_
    refine QE.atA ?_
    refine DA.one 8 rfl (by kernel_rfl) ?_
    refine SP.val (Val.assign rfl) rfl rfl rfl ?_
    refine SP.nil ?_
    refine QE.atA ?_
    refine DA.one 9 rfl (by kernel_rfl) ?_
    refine SP.val (Val.assign rfl) rfl rfl rfl ?_
    refine SP.nil ?_
    refine QE.atA ?_
    refine DA.done (by kernel_rfl) ?_
    refine QE.then ?_
    refine CP.ret ?_
    obtain rfl := Option.some.inj ho
    exact QE.rets (rs := [.tmp 6, .tmp 7]) (vs := [.pointer (some ⟨b25, 0, none⟩), .int .i64 0]) Tryz.results25 rfl ⟨RVs.tmp rfl, RVs.tmp rfl, trivial⟩ (fun w2 h => St.done (fun a b p s => ⟨_, rfl, s⟩) (St.selO [0] rfl rfl (St.addO (x := HO.em) (fun _ => trivial) h)))
  refine DT.cut (ι := Nat) (fun z => [(6, .pointer none), (7, .int .i64 0), (15, (.slice (some ⟨z, 0, none⟩) (1 : Int).toNat (1 : Int).toNat)), (16, .int .i64 4), (19, .agg #[.int .i64 0, (.slice none 0 0), (.slice none 0 0), (.slice none 0 0), .int .i64 0, (.slice none 0 0), (.slice none 0 0)])]) (fun z w2 => St w em hV [] [HO.em, boxO b1 [(.slice none 0 0), (.slice none 0 0), (.slice none 0 0), .int .i64 0, (.slice none 0 0), (.slice none 0 0)] 62] w2) 5 #[true, true, true, false, true, true, false, false, false, false] (fun z => ?_) (fun J30 => ?_)
  · rename Nat => b28
    refine DT.any 3 [] (by kernel_rfl) ⟨⟨_, rfl, rfl, ?_⟩, trivial⟩
    · refine SP.makeAny Tryz.underlying139 inf107 rfl rfl rfl rfl hm5 (fun b31 => ?_)
      refine SP.nil ?_
      refine QE.atT (fun w2 hw => (St.selO [2] rfl rfl hw)) ?_
      refine DT.list (l2 := #[true, true, true, true, true, true, false, false, false, false]) (by kernel_rfl) ?_
      exact DT.weak (by exact ⟨rfl, rfl, rfl, rfl, rfl, trivial⟩) (by exact fun w2 hw => hw) (J24 (b28, b31))
  refine DT.cut (ι := Nat) (fun z => [(6, .pointer none), (7, .int .i64 0), (14, .int .i64 1), (17, (.slice (some ⟨z, 0, none⟩) (4 : Int).toNat (4 : Int).toNat)), (19, .agg #[.int .i64 0, (.slice none 0 0), (.slice none 0 0), (.slice none 0 0), .int .i64 0, (.slice none 0 0), (.slice none 0 0)])]) (fun z w2 => St w em hV [] [HO.em, boxO b1 [(.slice none 0 0), (.slice none 0 0), (.slice none 0 0), .int .i64 0, (.slice none 0 0), (.slice none 0 0)] 62] w2) 5 #[true, false, true, true, true, true, false, false, false, false] (fun z => ?_) (fun J35 => ?_)
  · rename Nat => b33
    refine DT.any 1 [] (by kernel_rfl) ⟨⟨_, rfl, rfl, ?_⟩, trivial⟩
    · refine SP.makeAny Tryz.underlying138 inf187 rfl rfl rfl rfl hm4 (fun b36 => ?_)
      refine SP.nil ?_
      refine QE.atT (fun w2 hw => (St.selO [2] rfl rfl hw)) ?_
      refine DT.list (l2 := #[true, true, true, true, true, true, false, false, false, false]) (by kernel_rfl) ?_
      exact DT.weak (by exact ⟨rfl, rfl, rfl, rfl, rfl, trivial⟩) (by exact fun w2 hw => (St.selO [1, 0, 2] rfl rfl hw)) (J24 (b36, b33))
  refine DT.any 1 [3] (by kernel_rfl) ⟨⟨_, rfl, rfl, ?_⟩, ⟨_, rfl, rfl, ?_⟩, trivial⟩
  · refine SP.makeAny Tryz.underlying138 inf187 rfl rfl rfl rfl hm4 (fun b38 => ?_)
    refine SP.nil ?_
    refine QE.atT (fun w2 hw => (St.selO [1] rfl rfl hw)) ?_
    refine DT.list (l2 := #[true, true, true, false, true, true, false, false, false, false]) (by kernel_rfl) ?_
    exact DT.weak (by exact ⟨rfl, rfl, rfl, rfl, rfl, trivial⟩) (by exact fun w2 hw => hw) (J30 b38)
  · refine SP.makeAny Tryz.underlying139 inf107 rfl rfl rfl rfl hm5 (fun b40 => ?_)
    refine SP.nil ?_
    refine QE.atT (fun w2 hw => (St.selO [1] rfl rfl hw)) ?_
    refine DT.list (l2 := #[true, false, true, true, true, true, false, false, false, false]) (by kernel_rfl) ?_
    exact DT.weak (by exact ⟨rfl, rfl, rfl, rfl, rfl, trivial⟩) (by exact fun w2 hw => hw) (J35 b40)
/-! ### (*capstan/client.Update).Over: function 36 -/
def client_Update_Over_s1.f  : Option Unit :=
  some ()
theorem client_Update_Over_s1.ok   (r : Unit) (H : client_Update_Over_s1.f  = some r) (w : World) (hV : Hp) (sV : Sub hV (hp w))  :
    Trip Tryz.prog 36 [.pointer none].toArray em hV w (fun v => HO.pure (v = .bool true)) := by
  have see : Sees w em hV := ⟨sV, Dj.em_right _⟩
  refine Trip.of (P := Tryz.prog) (n := ⟨12, []⟩) Tryz.func36 rfl ⟨rfl, rfl⟩ rfl (St.begin (All.nil _)) ?_
  have ho := H
  refine CP.seq ?_
  refine CP.region ?_
  refine SP.val (Val.assign rfl) rfl rfl rfl ?_
  refine SP.nil ?_
  refine QE.then ?_
  refine CP.seq ?_
  refine CP.region ?_
  refine SP.val (Val.move rfl) rfl rfl rfl ?_
  refine SP.val (Val.cast (v := .bool true) (Val.eqlPN Tryz.underlying88 rfl rfl) rfl) rfl rfl rfl ?_
  refine SP.val (Val.move rfl) rfl rfl rfl ?_
  refine SP.not rfl rfl rfl ?_
  refine SP.not rfl rfl rfl ?_
  refine SP.not rfl rfl rfl ?_
  refine SP.not rfl rfl rfl ?_
  refine SP.not rfl rfl rfl ?_
  refine SP.val (Val.pickT rfl rfl) rfl rfl rfl ?_
  refine SP.val (Val.assign rfl) rfl rfl rfl ?_
  refine SP.nil ?_
  refine QE.then ?_
  refine CP.ret ?_
  obtain rfl := Option.some.inj ho
  exact QE.rets (rs := [.tmp 2]) (vs := [.bool true]) Tryz.results36 rfl ⟨RVs.tmp rfl, trivial⟩ (fun w2 h => St.done (fun a b p s => rfl) h)
/-! ### (*capstan/client.Update).Step: function 35 -/
def client_Update_Step_s1.j1   : Option Unit :=
  some ()

def client_Update_Step_s1.f  : Option Unit :=
  (client_Update_Over_s1.f ).bind fun t3 => client_Update_Step_s1.j1
theorem client_Update_Step_s1.ok  (q_1 : Value) (r : Unit) (H : client_Update_Step_s1.f  = some r) (w : World) (hV : Hp) (sV : Sub hV (hp w)) (h0 : anyP.p hV) :
    Trip Tryz.prog 35 [.pointer none, q_1].toArray em hV w (fun v => HO.pure (v = .bool false)) := by
  have see : Sees w em hV := ⟨sV, Dj.em_right _⟩
  refine Trip.of (P := Tryz.prog) (n := ⟨22, []⟩) Tryz.func35 rfl ⟨rfl, rfl⟩ rfl (St.begin (All.cons (x := anyP) h0 (All.nil _))) ?_
  have ho := H
  refine CP.seq ?_
  refine CP.region ?_
  refine SP.val (Val.assign rfl) rfl rfl rfl ?_
  refine SP.nil ?_
  refine QE.then ?_
  refine CP.seq ?_
  refine CP.join (fun a w2 => client_Update_Step_s1.j1 = some r ∧ Env ⟨22, []⟩ [(0, .pointer none), (1, q_1), (15, .bool true)] a ∧ St w em hV [] [] w2) ?_ ?_
  · rintro a w2 ⟨ho, ha, hw⟩
    refine CP.app ha hw ?_
    clear ha hw a w2
    refine CP.condT rfl rfl ?_
    refine CP.seq ?_
    refine CP.region ?_
    refine SP.val (Val.assign rfl) rfl rfl rfl ?_
    refine SP.nil ?_
    refine QE.then ?_
    refine CP.ret ?_
    refine QE.thru (by intro e; cases e) ?_
    obtain rfl := Option.some.inj ho
    exact QE.rets (rs := [.tmp 4]) (vs := [.bool false]) Tryz.results35 rfl ⟨RVs.tmp rfl, trivial⟩ (fun w2 h => St.done (fun a b p s => rfl) h)
  · refine CP.drawA (by kernel_rfl) (fun w2 k h => h.drawn k) ?_
    refine DA.one 0 rfl (by kernel_rfl) ?_
    refine SP.val (Val.move rfl) rfl rfl rfl ?_
    refine SP.nil ?_
    refine QE.atA ?_
    refine DA.one 1 rfl (by kernel_rfl) ?_
    obtain ⟨t3, hc, ho⟩ := bind_some (x := client_Update_Over_s1.f ) ho
    refine SP.callV see (caps := []) (.bool true) fn36 rfl rfl rfl rfl (fun w2 hP hs sub ap => client_Update_Over_s1.ok   _ hc w2 hP sub ) ?_
    clear hc
    refine SP.nil ?_
    refine QE.atA ?_
    refine DA.one 2 rfl (by kernel_rfl) ?_
    refine SP.val (Val.move rfl) rfl rfl rfl ?_
    refine SP.nil ?_
    refine QE.atA ?_
    refine DA.phase (fun i => Nat.ble 3 i && Nat.blt i 9) (fun w2 => St w em hV [anyP] [] w2) ?_
    refine DT.not 3 rfl rfl rfl rfl (by kernel_rfl) (fun _ _ _ h => h) (fun w2 hw => hw) ?_
    refine DT.not 4 rfl rfl rfl rfl (by kernel_rfl) (fun _ _ _ h => h) (fun w2 hw => hw) ?_
    refine DT.not 5 rfl rfl rfl rfl (by kernel_rfl) (fun _ _ _ h => h) (fun w2 hw => hw) ?_
    refine DT.not 6 rfl rfl rfl rfl (by kernel_rfl) (fun _ _ _ h => h) (fun w2 hw => hw) ?_
    refine DT.not 7 rfl rfl rfl rfl (by kernel_rfl) (fun _ _ _ h => h) (fun w2 hw => hw) ?_
    refine DT.not 8 rfl rfl rfl rfl (by kernel_rfl) (fun _ _ _ h => h) (fun w2 hw => hw) ?_
    refine DT.next (by kernel_rfl) ?_
    refine DA.phase (fun i => Nat.ble 9 i && Nat.blt i 10) (fun w2 => St w em hV [anyP] [] w2) ?_
    refine DT.not 9 rfl rfl rfl rfl (by kernel_rfl) (fun _ _ _ h => h) (fun w2 hw => hw) ?_
    refine DT.next (by kernel_rfl) ?_
    refine DA.one 10 rfl (by kernel_rfl) ?_
    refine SP.val (Val.pickT rfl rfl) rfl rfl rfl ?_
    refine SP.nil ?_
    refine QE.atA ?_
    refine DA.done (by kernel_rfl) ?_
    exact QE.meet fun a w2 ha hw => ⟨ho, ha.sub ⟨rfl, rfl, rfl, trivial⟩, (St.selP [] rfl hw)⟩
/-! ### (*capstan/client.Update).Reply: function 37 -/
def client_Update_Reply_s1.f  : Option Unit :=
  some ()
theorem client_Update_Reply_s1.ok   (r : Unit) (H : client_Update_Reply_s1.f  = some r) (w : World) (hV : Hp) (sV : Sub hV (hp w))  :
    Trip Tryz.prog 37 [.pointer none].toArray em hV w (fun v => HO.pure (v = .agg #[.int .i64 0, .int .i64 0, .int .u8 0, .int .i64 0, .int .i64 0])) := by
  have see : Sees w em hV := ⟨sV, Dj.em_right _⟩
  refine Trip.of (P := Tryz.prog) (n := ⟨17, []⟩) Tryz.func37 rfl ⟨rfl, rfl⟩ rfl (St.begin (All.nil _)) ?_
  have ho := H
  refine CP.seq ?_
  refine CP.region ?_
  refine SP.alloc (cs := [.int .i64 0, .int .i64 0, .int .u8 0, .int .i64 0, .int .i64 0]) inf39 rfl rfl (fun b1 => ?_)
  refine SP.nil ?_
  refine QE.then ?_
  refine CP.seq ?_
  refine CP.seq ?_
  refine CP.region ?_
  refine SP.val (Val.move rfl) rfl rfl rfl ?_
  refine SP.val (Val.cast (v := .bool true) (Val.eqlPN Tryz.underlying88 rfl rfl) rfl) rfl rfl rfl ?_
  refine SP.val (Val.move rfl) rfl rfl rfl ?_
  refine SP.not rfl rfl rfl ?_
  refine SP.not rfl rfl rfl ?_
  refine SP.not rfl rfl rfl ?_
  refine SP.not rfl rfl rfl ?_
  refine SP.not rfl rfl rfl ?_
  refine SP.val (Val.pickT rfl rfl) rfl rfl rfl ?_
  refine SP.nil ?_
  refine QE.then ?_
  refine CP.condT rfl rfl ?_
  refine CP.seq ?_
  refine CP.region ?_
  refine SP.val (Val.buildC (us := []) (ucs := []) (cs := [.int .i64 0, .int .i64 0, .int .u8 0, .int .i64 0, .int .i64 0]) bt39 rfl rfl trivial (by rfl)) rfl rfl rfl ?_
  refine SP.store (v := .agg #[.int .i64 0, .int .i64 0, .int .u8 0, .int .i64 0, .int .i64 0]) (vs := [.int .i64 0, .int .i64 0, .int .u8 0, .int .i64 0, .int .i64 0]) 0 (by rfl) sz39 (by rfl) (by rfl) (by rfl) (by rfl) (by rfl) (by rfl) ?_
  refine SP.nil ?_
  refine QE.then ?_
  refine CP.ret ?_
  refine QE.thru (by intro e; cases e) ?_
  obtain rfl := Option.some.inj ho
  exact QE.rets (rs := [.cell 2 39]) (vs := [.agg #[.int .i64 0, .int .i64 0, .int .u8 0, .int .i64 0, .int .i64 0]]) Tryz.results37 rfl ⟨RVs.cellA 0 rfl rfl Tryz.underlying39 rfl sz39, trivial⟩ (fun w2 h => St.done (fun a b p s => rfl) h)
/-! ### (*capstan/client.Update).Announced: function 38 -/
def client_Update_Announced_s1.f  : Option Unit :=
  some ()
theorem client_Update_Announced_s1.ok   (r : Unit) (H : client_Update_Announced_s1.f  = some r) (w : World) (hV : Hp) (sV : Sub hV (hp w))  :
    Trip Tryz.prog 38 [.pointer none].toArray em hV w (fun v => HO.pure (v = .bool false)) := by
  have see : Sees w em hV := ⟨sV, Dj.em_right _⟩
  refine Trip.of (P := Tryz.prog) (n := ⟨11, []⟩) Tryz.func38 rfl ⟨rfl, rfl⟩ rfl (St.begin (All.nil _)) ?_
  have ho := H
  refine CP.seq ?_
  refine CP.region ?_
  refine SP.val (Val.assign rfl) rfl rfl rfl ?_
  refine SP.nil ?_
  refine QE.then ?_
  refine CP.seq ?_
  refine CP.region ?_
  refine SP.val (Val.move rfl) rfl rfl rfl ?_
  refine SP.val (Val.cast (v := .bool false) (Val.neqPN Tryz.underlying88 rfl rfl) rfl) rfl rfl rfl ?_
  refine SP.val (Val.move rfl) rfl rfl rfl ?_
  refine SP.not rfl rfl rfl ?_
  refine SP.not rfl rfl rfl ?_
  refine SP.not rfl rfl rfl ?_
  refine SP.not rfl rfl rfl ?_
  refine SP.val (Val.pickF rfl rfl) rfl rfl rfl ?_
  refine SP.val (Val.assign rfl) rfl rfl rfl ?_
  refine SP.nil ?_
  refine QE.then ?_
  refine CP.ret ?_
  obtain rfl := Option.some.inj ho
  exact QE.rets (rs := [.tmp 2]) (vs := [.bool false]) Tryz.results38 rfl ⟨RVs.tmp rfl, trivial⟩ (fun w2 h => St.done (fun a b p s => rfl) h)
/-! ### (*capstan/client.Update).Known: function 39 -/
def client_Update_Known_s1.f  : Option Unit :=
  some ()
theorem client_Update_Known_s1.ok   (r : Unit) (H : client_Update_Known_s1.f  = some r) (w : World) (hV : Hp) (sV : Sub hV (hp w))  :
    Trip Tryz.prog 39 [.pointer none].toArray em hV w (fun v => HO.pure (v = .int .i64 0)) := by
  have see : Sees w em hV := ⟨sV, Dj.em_right _⟩
  refine Trip.of (P := Tryz.prog) (n := ⟨22, []⟩) Tryz.func39 rfl ⟨rfl, rfl⟩ rfl (St.begin (All.nil _)) ?_
  have ho := H
  refine CP.seq ?_
  refine CP.region ?_
  refine SP.val (Val.assign rfl) rfl rfl rfl ?_
  refine SP.nil ?_
  refine QE.then ?_
  refine CP.seq ?_
  refine CP.block ?_
  refine CP.seq ?_
  refine CP.region ?_
  refine SP.val (Val.move rfl) rfl rfl rfl ?_
  refine SP.val (Val.cast (v := .bool true) (Val.eqlPN Tryz.underlying88 rfl rfl) rfl) rfl rfl rfl ?_
  refine SP.val (Val.assign rfl) rfl rfl rfl ?_
  refine SP.nil ?_
  refine QE.then ?_
  refine CP.condT rfl rfl ?_
  refine CP.seq ?_
  refine CP.region ?_
  refine SP.val (Val.assign rfl) rfl rfl rfl ?_
  refine SP.nil ?_
  refine QE.then ?_
  refine CP.ret ?_
  refine QE.blockR ?_
  refine QE.thru (by intro e; cases e) ?_
  obtain rfl := Option.some.inj ho
  exact QE.rets (rs := [.tmp 2]) (vs := [.int .i64 0]) Tryz.results39 rfl ⟨RVs.tmp rfl, trivial⟩ (fun w2 h => St.done (fun a b p s => rfl) h)
/-! ### capstan/capstanref21.Arena: function 29 -/
def capstanref21_Arena.f (procs_0 : Int) (every_1 : Int) : Option Int :=
  if ((((decide (procs_0 < 1)) || (decide (procs_0 > 64))) || (decide (every_1 < 1))) || (decide (every_1 > 64))) = true then (some 0) else (some (IntKind.i64.wrap ((IntKind.i64.wrap (2 * every_1)) + (IntKind.i64.wrap (2 * procs_0)))))
theorem capstanref21_Arena.ok (procs_0 : Int) (every_1 : Int)  (r : Int) (H : capstanref21_Arena.f procs_0 every_1 = some r) (w : World) (hV : Hp) (sV : Sub hV (hp w))  :
    Trip Tryz.prog 29 [.int .i64 procs_0, .int .i64 every_1].toArray em hV w (fun v => HO.pure (v = .int .i64 r)) := by
  have see : Sees w em hV := ⟨sV, Dj.em_right _⟩
  refine Trip.of (P := Tryz.prog) (n := ⟨24, []⟩) Tryz.func29 rfl ⟨rfl, rfl⟩ rfl (St.begin (All.nil _)) ?_
  have ho := H
  refine CP.seq ?_
  refine CP.region ?_
  refine SP.val (Val.assign rfl) rfl rfl rfl ?_
  refine SP.nil ?_
  refine QE.then ?_
  refine CP.seq ?_
  refine CP.seq ?_
  refine CP.region ?_
  refine SP.val (Val.move rfl) rfl rfl rfl ?_
  refine SP.val (Val.lss rfl rfl) rfl rfl rfl ?_
  refine SP.val (Val.move rfl) rfl rfl rfl ?_
  refine SP.join 3 (fun a w2 => Env ⟨24, []⟩ [(0, .int .i64 procs_0), (1, .int .i64 every_1), (10, .bool ((decide (procs_0 < 1)) || (decide (procs_0 > 64))))] a ∧ St w em hV [] [] w2) ?_ ?_
  · rintro a w2 ⟨ha, hw⟩
    refine SP.app ha hw ?_
    clear ha hw a w2
    refine SP.val (Val.move rfl) rfl rfl rfl ?_
    refine SP.join 3 (fun a w2 => Env ⟨24, []⟩ [(0, .int .i64 procs_0), (1, .int .i64 every_1), (14, .bool (((decide (procs_0 < 1)) || (decide (procs_0 > 64))) || (decide (every_1 < 1))))] a ∧ St w em hV [] [] w2) ?_ ?_
    · rintro a w2 ⟨ha, hw⟩
      refine SP.app ha hw ?_
      clear ha hw a w2
      refine SP.val (Val.move rfl) rfl rfl rfl ?_
      refine SP.join 3 (fun a w2 => Env ⟨24, []⟩ [(0, .int .i64 procs_0), (1, .int .i64 every_1), (18, .bool ((((decide (procs_0 < 1)) || (decide (procs_0 > 64))) || (decide (every_1 < 1))) || (decide (every_1 > 64))))] a ∧ St w em hV [] [] w2) ?_ ?_
      · rintro a w2 ⟨ha, hw⟩
        refine SP.app ha hw ?_
        clear ha hw a w2
        refine SP.nil ?_
        refine QE.then ?_
        rcases if_some ho with ⟨hc, ho⟩ | ⟨hc, ho⟩
        · refine CP.condT rfl hc ?_
          refine CP.seq ?_
          refine CP.region ?_
          refine SP.val (Val.assign rfl) rfl rfl rfl ?_
          refine SP.nil ?_
          refine QE.then ?_
          refine CP.ret ?_
          refine QE.thru (by intro e; cases e) ?_
          obtain rfl := Option.some.inj ho
          exact QE.rets (rs := [.tmp 4]) (vs := [.int .i64 0]) Tryz.results29 rfl ⟨RVs.tmp rfl, trivial⟩ (fun w2 h => St.done (fun a b p s => rfl) h)
        · refine CP.condF rfl (bf hc) ?_
          refine CP.skip ?_
          refine QE.then ?_
          refine CP.seq ?_
          refine CP.region ?_
          refine SP.val (Val.move rfl) rfl rfl rfl ?_
          refine SP.val (Val.mul rfl rfl) rfl rfl rfl ?_
          refine SP.val (Val.move rfl) rfl rfl rfl ?_
          refine SP.val (Val.mul rfl rfl) rfl rfl rfl ?_
          refine SP.val (Val.add rfl rfl) rfl rfl rfl ?_
          refine SP.val (Val.assign rfl) rfl rfl rfl ?_
          refine SP.nil ?_
          refine QE.then ?_
          refine CP.ret ?_
          obtain rfl := Option.some.inj ho
          exact QE.rets (rs := [.tmp 4]) (vs := [.int .i64 (IntKind.i64.wrap ((IntKind.i64.wrap (2 * every_1)) + (IntKind.i64.wrap (2 * procs_0))))]) Tryz.results29 rfl ⟨RVs.tmp rfl, trivial⟩ (fun w2 h => St.done (fun a b p s => rfl) h)
      · intro J
        by_cases hc : (((decide (procs_0 < 1)) || (decide (procs_0 > 64))) || (decide (every_1 < 1))) = true
        · have hq6 := hc
          refine SP.isT (d := 15) rfl hq6 ?_
          refine SP.not rfl rfl rfl ?_
          refine SP.not rfl rfl rfl ?_
          refine SP.val (Val.pickT rfl rfl) rfl rfl rfl ?_
          exact J fun a w2 ha hw => ⟨ha.sub ⟨rfl, rfl, congrArg (fun z => some (Value.bool z)) (or_t hq6), trivial⟩, hw⟩
        · have hq6 := (bf hc)
          refine SP.isF (d := 15) rfl hq6 ?_
          refine SP.val (Val.move rfl) rfl rfl rfl ?_
          refine SP.val (Val.gtr rfl rfl) rfl rfl rfl ?_
          refine SP.val (Val.pickF rfl rfl) rfl rfl rfl ?_
          exact J fun a w2 ha hw => ⟨ha.sub ⟨rfl, rfl, congrArg (fun z => some (Value.bool z)) (or_f hq6 rfl), trivial⟩, hw⟩
    · intro J
      by_cases hc : ((decide (procs_0 < 1)) || (decide (procs_0 > 64))) = true
      · have hq4 := hc
        refine SP.isT (d := 11) rfl hq4 ?_
        refine SP.not rfl rfl rfl ?_
        refine SP.not rfl rfl rfl ?_
        refine SP.val (Val.pickT rfl rfl) rfl rfl rfl ?_
        exact J fun a w2 ha hw => ⟨ha.sub ⟨rfl, rfl, congrArg (fun z => some (Value.bool z)) (or_t hq4), trivial⟩, hw⟩
      · have hq4 := (bf hc)
        refine SP.isF (d := 11) rfl hq4 ?_
        refine SP.val (Val.move rfl) rfl rfl rfl ?_
        refine SP.val (Val.lss rfl rfl) rfl rfl rfl ?_
        refine SP.val (Val.pickF rfl rfl) rfl rfl rfl ?_
        exact J fun a w2 ha hw => ⟨ha.sub ⟨rfl, rfl, congrArg (fun z => some (Value.bool z)) (or_f hq4 rfl), trivial⟩, hw⟩
  · intro J
    by_cases hc : procs_0 < 1
    · have hq2 := (decide_eq_true hc)
      refine SP.isT (d := 7) rfl hq2 ?_
      refine SP.not rfl rfl rfl ?_
      refine SP.not rfl rfl rfl ?_
      refine SP.val (Val.pickT rfl rfl) rfl rfl rfl ?_
      exact J fun a w2 ha hw => ⟨ha.sub ⟨rfl, rfl, congrArg (fun z => some (Value.bool z)) (or_t hq2), trivial⟩, hw⟩
    · have hq2 := (decide_eq_false hc)
      refine SP.isF (d := 7) rfl hq2 ?_
      refine SP.val (Val.move rfl) rfl rfl rfl ?_
      refine SP.val (Val.gtr rfl rfl) rfl rfl rfl ?_
      refine SP.val (Val.pickF rfl rfl) rfl rfl rfl ?_
      exact J fun a w2 ha hw => ⟨ha.sub ⟨rfl, rfl, congrArg (fun z => some (Value.bool z)) (or_f hq2 rfl), trivial⟩, hw⟩
/-! ### slices.Clone[[]capstan/api.Value,capstan/api.Value]: function 63 -/
def slices_Clone_api_Value_api_Value_s1.f  : Option Unit :=
  some ()
theorem slices_Clone_api_Value_api_Value_s1.ok   (r : Unit) (H : slices_Clone_api_Value_api_Value_s1.f  = some r) (w : World) (hV : Hp) (sV : Sub hV (hp w))  :
    Trip Tryz.prog 63 [(.slice none 0 0)].toArray em hV w (fun v => HO.pure (v = (.slice none 0 0))) := by
  have see : Sees w em hV := ⟨sV, Dj.em_right _⟩
  refine Trip.of (P := Tryz.prog) (n := ⟨8, []⟩) Tryz.func63 rfl ⟨rfl, rfl⟩ rfl (St.begin (All.nil _)) ?_
  have ho := H
  refine CP.seq ?_
  refine CP.region ?_
  refine SP.val (Val.assign rfl) rfl rfl rfl ?_
  refine SP.nil ?_
  refine QE.then ?_
  refine CP.seq ?_
  refine CP.seq ?_
  refine CP.region ?_
  refine SP.val (Val.move rfl) rfl rfl rfl ?_
  refine SP.val (Val.eqlN Tryz.underlying22 rfl rfl) rfl rfl rfl ?_
  refine SP.nil ?_
  refine QE.then ?_
  refine CP.condT rfl rfl ?_
  refine CP.seq ?_
  refine CP.region ?_
  refine SP.val (Val.assign rfl) rfl rfl rfl ?_
  refine SP.nil ?_
  refine QE.then ?_
  refine CP.ret ?_
  refine QE.thru (by intro e; cases e) ?_
  obtain rfl := Option.some.inj ho
  exact QE.rets (rs := [.tmp 2]) (vs := [(.slice none 0 0)]) Tryz.results63 rfl ⟨RVs.tmp rfl, trivial⟩ (fun w2 h => St.done (fun a b p s => rfl) h)
/-! ### bytes.Clone: function 103 -/
def bytes_Clone_s1.f  : Option Unit :=
  some ()
theorem bytes_Clone_s1.ok   (r : Unit) (H : bytes_Clone_s1.f  = some r) (w : World) (hV : Hp) (sV : Sub hV (hp w))  :
    Trip Tryz.prog 103 [(.slice none 0 0)].toArray em hV w (fun v => HO.pure (v = (.slice none 0 0))) := by
  have see : Sees w em hV := ⟨sV, Dj.em_right _⟩
  refine Trip.of (P := Tryz.prog) (n := ⟨8, []⟩) Tryz.func103 rfl ⟨rfl, rfl⟩ rfl (St.begin (All.nil _)) ?_
  have ho := H
  refine CP.seq ?_
  refine CP.region ?_
  refine SP.val (Val.assign rfl) rfl rfl rfl ?_
  refine SP.nil ?_
  refine QE.then ?_
  refine CP.seq ?_
  refine CP.seq ?_
  refine CP.region ?_
  refine SP.val (Val.move rfl) rfl rfl rfl ?_
  refine SP.val (Val.eqlN Tryz.underlying23 rfl rfl) rfl rfl rfl ?_
  refine SP.nil ?_
  refine QE.then ?_
  refine CP.condT rfl rfl ?_
  refine CP.seq ?_
  refine CP.region ?_
  refine SP.val (Val.assign rfl) rfl rfl rfl ?_
  refine SP.nil ?_
  refine QE.then ?_
  refine CP.ret ?_
  refine QE.thru (by intro e; cases e) ?_
  obtain rfl := Option.some.inj ho
  exact QE.rets (rs := [.tmp 2]) (vs := [(.slice none 0 0)]) Tryz.results103 rfl ⟨RVs.tmp rfl, trivial⟩ (fun w2 h => St.done (fun a b p s => rfl) h)
/-! ### capstan/entry.Copy: function 73 -/
def entry_Copy_s1.f  : Option Unit :=
  (slices_Clone_api_Value_api_Value_s1.f ).bind fun t9 => (bytes_Clone_s1.f ).bind fun t13 => some ()
theorem entry_Copy_s1.ok   (r : Unit) (H : entry_Copy_s1.f  = some r) (w : World) (hV : Hp) (sV : Sub hV (hp w))  :
    Trip Tryz.prog 73 [.agg #[.int .u8 2, .int .i64 0, (.slice none 0 0), (.slice none 0 0)]].toArray em hV w (fun v => HO.pure (v = .agg #[.int .u8 2, .int .i64 0, (.slice none 0 0), (.slice none 0 0)])) := by
  have see : Sees w em hV := ⟨sV, Dj.em_right _⟩
  refine Trip.of (P := Tryz.prog) (n := ⟨12, []⟩) Tryz.func73 rfl ⟨rfl, rfl⟩ rfl (St.begin (All.nil _)) ?_
  have ho := H
  refine CP.seq ?_
  refine CP.region ?_
  refine SP.box (cs := [.int .u8 2, .int .i64 0, (.slice none 0 0), (.slice none 0 0)]) rfl rfl rfl rfl (fun b1 => ?_)
  refine SP.alloc (cs := [.int .u8 0, .int .i64 0, (.slice none 0 0), (.slice none 0 0)]) inf25 rfl rfl (fun b3 => ?_)
  refine SP.nil ?_
  refine QE.then ?_
  refine CP.seq ?_
  refine CP.drawA (by kernel_rfl) (fun w2 k h => h.drawn k) ?_
  refine DA.phase (fun i => Nat.ble 0 i && Nat.blt i 5) (fun w2 => St w em hV [] [boxO b3 [.int .u8 0, .int .i64 0, (.slice none 0 0), (.slice none 0 0)] 25, boxO b1 [.int .u8 2, .int .i64 0, (.slice none 0 0), (.slice none 0 0)] 25] w2) ?_
  refine DT.take 0 rfl rfl rfl rfl (by kernel_rfl) (fun _ _ _ h => h) (Val.fieldAddr Tryz.underlying25 rfl sz22 rfl) (fun w2 hw => hw) ?_
  refine DT.take 1 rfl rfl rfl rfl (by kernel_rfl) (fun _ _ _ h => h) (Val.load1 1 rfl Tryz.underlying22 rfl rfl rfl) (fun w2 hw => hw) ?_
  refine DT.take 3 rfl rfl rfl rfl (by kernel_rfl) (fun _ _ _ h => h) (Val.fieldAddr Tryz.underlying25 rfl sz23 rfl) (fun w2 hw => hw) ?_
  refine DT.take 4 rfl rfl rfl rfl (by kernel_rfl) (fun _ _ _ h => h) (Val.load1 1 rfl Tryz.underlying23 rfl rfl rfl) (fun w2 hw => hw) ?_
  refine DT.one 2 rfl (by kernel_rfl) rfl ?_
  obtain ⟨t9, hc, ho⟩ := bind_some (x := slices_Clone_api_Value_api_Value_s1.f ) ho
  refine SP.callV see (caps := []) ((.slice none 0 0)) fn63 rfl rfl rfl rfl (fun w2 hP hs sub ap => slices_Clone_api_Value_api_Value_s1.ok   _ hc w2 hP sub ) ?_
  clear hc
  refine SP.nil ?_
  refine QE.atT (fun w2 hw => hw) ?_
  refine DT.next (by kernel_rfl) ?_
  refine DA.phase (fun i => Nat.ble 5 i && Nat.blt i 7) (fun w2 => St w em hV [] [boxO b3 [.int .u8 0, .int .i64 0, (.slice none 0 0), (.slice none 0 0)] 25, boxO b1 [.int .u8 2, .int .i64 0, (.slice none 0 0), (.slice none 0 0)] 25] w2) ?_
  refine DT.take 6 rfl rfl rfl rfl (by kernel_rfl) (fun _ _ _ h => h) (Val.fieldAddr Tryz.underlying25 rfl sz22 rfl) (fun w2 hw => hw) ?_
  refine DT.one 5 rfl (by kernel_rfl) rfl ?_
  obtain ⟨t13, hc, ho⟩ := bind_some (x := bytes_Clone_s1.f ) ho
  refine SP.callV see (caps := []) ((.slice none 0 0)) fn103 rfl rfl rfl rfl (fun w2 hP hs sub ap => bytes_Clone_s1.ok   _ hc w2 hP sub ) ?_
  clear hc
  refine SP.nil ?_
  refine QE.atT (fun w2 hw => hw) ?_
  refine DT.next (by kernel_rfl) ?_
  refine DA.one 7 rfl (by kernel_rfl) ?_
  refine SP.store (v := (.slice none 0 0)) (vs := [(.slice none 0 0)]) 1 (by rfl) sz22 (by rfl) (by rfl) (by rfl) (by rfl) (by rfl) (by rfl) ?_
  refine SP.nil ?_
  refine QE.atA ?_
  refine DA.one 8 rfl (by kernel_rfl) ?_
  refine SP.val (Val.fieldAddr Tryz.underlying25 rfl sz23 rfl) rfl rfl rfl ?_
  refine SP.nil ?_
  refine QE.atA ?_
  refine DA.one 9 rfl (by kernel_rfl) ?_
  refine SP.store (v := (.slice none 0 0)) (vs := [(.slice none 0 0)]) 1 (by rfl) sz23 (by rfl) (by rfl) (by rfl) (by rfl) (by rfl) (by rfl) ?_
  refine SP.nil ?_
  refine QE.atA ?_
  refine DA.done (by kernel_rfl) ?_
  refine QE.then ?_
  refine CP.seq ?_
  refine CP.region ?_
  refine SP.val (Val.loadA 1 rfl Tryz.underlying25 rfl sz25 rfl rfl rfl) rfl rfl rfl ?_
  refine SP.store (v := .agg #[.int .u8 2, .int .i64 0, (.slice none 0 0), (.slice none 0 0)]) (vs := [.int .u8 2, .int .i64 0, (.slice none 0 0), (.slice none 0 0)]) 0 (by rfl) sz25 (by rfl) (by rfl) (by rfl) (by rfl) (by rfl) (by rfl) ?_
  refine SP.nil ?_
  refine QE.then ?_
  refine CP.ret ?_
  obtain rfl := Option.some.inj ho
  exact QE.rets (rs := [.cell 2 25]) (vs := [.agg #[.int .u8 2, .int .i64 0, (.slice none 0 0), (.slice none 0 0)]]) Tryz.results73 rfl ⟨RVs.cellA 0 rfl rfl Tryz.underlying25 rfl sz25, trivial⟩ (fun w2 h => St.done (fun a b p s => rfl) h)
/-! ### (*capstan/replica.Replica).none: function 66 -/
def replica_Replica_none_s1.f  : Option Unit :=
  some ()
theorem replica_Replica_none_s1.ok   (r : Unit) (H : replica_Replica_none_s1.f  = some r) (w : World) (hV : Hp) (sV : Sub hV (hp w))  :
    Trip Tryz.prog 66 [.pointer none].toArray em hV w (fun v => HO.pure (v = .bool true)) := by
  have see : Sees w em hV := ⟨sV, Dj.em_right _⟩
  refine Trip.of (P := Tryz.prog) (n := ⟨13, []⟩) Tryz.func66 rfl ⟨rfl, rfl⟩ rfl (St.begin (All.nil _)) ?_
  have ho := H
  refine CP.seq ?_
  refine CP.region ?_
  refine SP.val (Val.assign rfl) rfl rfl rfl ?_
  refine SP.nil ?_
  refine QE.then ?_
  refine CP.seq ?_
  refine CP.region ?_
  refine SP.val (Val.move rfl) rfl rfl rfl ?_
  refine SP.val (Val.cast (v := .bool true) (Val.eqlPN Tryz.underlying51 rfl rfl) rfl) rfl rfl rfl ?_
  refine SP.val (Val.move rfl) rfl rfl rfl ?_
  refine SP.not rfl rfl rfl ?_
  refine SP.not rfl rfl rfl ?_
  refine SP.not rfl rfl rfl ?_
  refine SP.not rfl rfl rfl ?_
  refine SP.not rfl rfl rfl ?_
  refine SP.not rfl rfl rfl ?_
  refine SP.val (Val.pickT rfl rfl) rfl rfl rfl ?_
  refine SP.val (Val.assign rfl) rfl rfl rfl ?_
  refine SP.nil ?_
  refine QE.then ?_
  refine CP.ret ?_
  obtain rfl := Option.some.inj ho
  exact QE.rets (rs := [.tmp 2]) (vs := [.bool true]) Tryz.results66 rfl ⟨RVs.tmp rfl, trivial⟩ (fun w2 h => St.done (fun a b p s => rfl) h)
/-! ### (*capstan/replica.Replica).Seqs: function 20 -/
def replica_Replica_Seqs_s1.f  : Option Unit :=
  (replica_Replica_none_s1.f ).bind fun t1 => some ()
theorem replica_Replica_Seqs_s1.ok   (r : Unit) (H : replica_Replica_Seqs_s1.f  = some r) (w : World) (hV : Hp) (sV : Sub hV (hp w))  :
    Trip Tryz.prog 20 [.pointer none].toArray em hV w (fun v => HO.pure (v = (.slice none 0 0))) := by
  have see : Sees w em hV := ⟨sV, Dj.em_right _⟩
  refine Trip.of (P := Tryz.prog) (n := ⟨19, []⟩) Tryz.func20 rfl ⟨rfl, rfl⟩ rfl (St.begin (All.nil _)) ?_
  have ho := H
  refine CP.seq ?_
  refine CP.region ?_
  refine SP.val (Val.assign rfl) rfl rfl rfl ?_
  refine SP.nil ?_
  refine QE.then ?_
  refine CP.seq ?_
  refine CP.seq ?_
  refine CP.region ?_
  refine SP.val (Val.move rfl) rfl rfl rfl ?_
  obtain ⟨t1, hc, ho⟩ := bind_some (x := replica_Replica_none_s1.f ) ho
  refine SP.callV see (caps := []) (.bool true) fn66 rfl rfl rfl rfl (fun w2 hP hs sub ap => replica_Replica_none_s1.ok   _ hc w2 hP sub ) ?_
  clear hc
  refine SP.nil ?_
  refine QE.then ?_
  refine CP.condT rfl rfl ?_
  refine CP.seq ?_
  refine CP.region ?_
  refine SP.val (Val.assign rfl) rfl rfl rfl ?_
  refine SP.nil ?_
  refine QE.then ?_
  refine CP.ret ?_
  refine QE.thru (by intro e; cases e) ?_
  obtain rfl := Option.some.inj ho
  exact QE.rets (rs := [.tmp 2]) (vs := [(.slice none 0 0)]) Tryz.results20 rfl ⟨RVs.tmp rfl, trivial⟩ (fun w2 h => St.done (fun a b p s => rfl) h)
/-! ### capstan/entry.May: function 71 -/
def entry_May_s1.f  : Option Unit :=
  some ()
theorem entry_May_s1.ok   (r : Unit) (H : entry_May_s1.f  = some r) (w : World) (hV : Hp) (sV : Sub hV (hp w))  :
    Trip Tryz.prog 71 [.agg #[.int .u8 2, .int .i64 0, (.slice none 0 0), (.slice none 0 0)]].toArray em hV w (fun v => HO.pure (v = .bool true)) := by
  have see : Sees w em hV := ⟨sV, Dj.em_right _⟩
  refine Trip.of (P := Tryz.prog) (n := ⟨52, []⟩) Tryz.func71 rfl ⟨rfl, rfl⟩ rfl (St.begin (All.nil _)) ?_
  have ho := H
  refine CP.seq ?_
  refine CP.region ?_
  refine SP.box (cs := [.int .u8 2, .int .i64 0, (.slice none 0 0), (.slice none 0 0)]) rfl rfl rfl rfl (fun b1 => ?_)
  refine SP.val (Val.assign rfl) rfl rfl rfl ?_
  refine SP.nil ?_
  refine QE.then ?_
  refine CP.seq ?_
  refine CP.seq ?_
  refine CP.region ?_
  refine SP.val (Val.fieldAddr Tryz.underlying25 rfl sz5 rfl) rfl rfl rfl ?_
  refine SP.val (Val.load1 0 rfl Tryz.underlying5 rfl rfl rfl) rfl rfl rfl ?_
  refine SP.nil ?_
  refine QE.then ?_
  refine CP.block ?_
  refine CP.seq ?_
  refine CP.region ?_
  refine SP.val (Val.cast (v := .bool false) (Val.eql rfl rfl) rfl) rfl rfl rfl ?_
  refine SP.val (Val.assign rfl) rfl rfl rfl ?_
  refine SP.nil ?_
  refine QE.then ?_
  refine CP.condF rfl rfl ?_
  refine CP.seq ?_
  refine CP.region ?_
  refine SP.val (Val.cast (v := .bool true) (Val.eql rfl rfl) rfl) rfl rfl rfl ?_
  refine SP.val (Val.assign rfl) rfl rfl rfl ?_
  refine SP.nil ?_
  refine QE.then ?_
  refine CP.condT rfl rfl ?_
  refine CP.seq ?_
  refine CP.region ?_
  refine SP.val (Val.fieldAddr Tryz.underlying25 rfl sz3 rfl) rfl rfl rfl ?_
  refine SP.val (Val.load1 0 rfl Tryz.underlying3 rfl rfl rfl) rfl rfl rfl ?_
  refine SP.val (Val.cast (v := .bool true) (Val.eql rfl rfl) rfl) rfl rfl rfl ?_
  refine SP.val (Val.move rfl) rfl rfl rfl ?_
  refine SP.val (Val.fieldAddr Tryz.underlying25 rfl sz22 rfl) rfl rfl rfl ?_
  refine SP.val (Val.load1 0 rfl Tryz.underlying22 rfl rfl rfl) rfl rfl rfl ?_
  refine SP.val (Val.lenN Tryz.underlying22 rfl) rfl rfl rfl ?_
  refine SP.val (Val.cast (v := .bool true) (Val.eql rfl rfl) rfl) rfl rfl rfl ?_
  refine SP.val (Val.pickT rfl rfl) rfl rfl rfl ?_
  refine SP.val (Val.move rfl) rfl rfl rfl ?_
  refine SP.val (Val.fieldAddr Tryz.underlying25 rfl sz23 rfl) rfl rfl rfl ?_
  refine SP.val (Val.load1 0 rfl Tryz.underlying23 rfl rfl rfl) rfl rfl rfl ?_
  refine SP.val (Val.lenN Tryz.underlying23 rfl) rfl rfl rfl ?_
  refine SP.val (Val.cast (v := .bool true) (Val.leq rfl rfl) rfl) rfl rfl rfl ?_
  refine SP.val (Val.pickT rfl rfl) rfl rfl rfl ?_
  refine SP.val (Val.assign rfl) rfl rfl rfl ?_
  refine SP.nil ?_
  refine QE.then ?_
  refine CP.ret ?_
  refine QE.blockR ?_
  refine QE.thru (by intro e; cases e) ?_
  obtain rfl := Option.some.inj ho
  exact QE.rets (rs := [.tmp 2]) (vs := [.bool true]) Tryz.results71 rfl ⟨RVs.tmp rfl, trivial⟩ (fun w2 h => St.done (fun a b p s => rfl) h)
/-! ### capstan/entry.Entry: function 79 -/
def entry_Entry_s1.f  : Option Unit :=
  (entry_May_s1.f ).bind fun t3 => some ()
theorem entry_Entry_s1.ok   (r : Unit) (H : entry_Entry_s1.f  = some r) (w : World) (hV : Hp) (sV : Sub hV (hp w))  :
    Trip Tryz.prog 79 [.agg #[.int .i64 0, .int .i64 1, .int .u8 2, .int .i64 0, (.slice none 0 0), (.slice none 0 0)]].toArray em hV w (fun v => HO.pure (v = .bool true)) := by
  have see : Sees w em hV := ⟨sV, Dj.em_right _⟩
  refine Trip.of (P := Tryz.prog) (n := ⟨26, []⟩) Tryz.func79 rfl ⟨rfl, rfl⟩ rfl (St.begin (All.nil _)) ?_
  have ho := H
  refine CP.seq ?_
  refine CP.region ?_
  refine SP.box (cs := [.int .i64 0, .int .i64 1, .int .u8 2, .int .i64 0, (.slice none 0 0), (.slice none 0 0)]) rfl rfl rfl rfl (fun b1 => ?_)
  refine SP.val (Val.assign rfl) rfl rfl rfl ?_
  refine SP.nil ?_
  refine QE.then ?_
  refine CP.seq ?_
  refine CP.region ?_
  refine SP.val (Val.fieldAddr Tryz.underlying48 rfl sz3 rfl) rfl rfl rfl ?_
  refine SP.val (Val.load1 0 rfl Tryz.underlying3 rfl rfl rfl) rfl rfl rfl ?_
  refine SP.val (Val.cast (v := .bool true) (Val.geq rfl rfl) rfl) rfl rfl rfl ?_
  refine SP.val (Val.move rfl) rfl rfl rfl ?_
  refine SP.val (Val.fieldAddr Tryz.underlying48 rfl sz3 rfl) rfl rfl rfl ?_
  refine SP.val (Val.load1 0 rfl Tryz.underlying3 rfl rfl rfl) rfl rfl rfl ?_
  refine SP.val (Val.cast (v := .bool true) (Val.lss rfl rfl) rfl) rfl rfl rfl ?_
  refine SP.val (Val.pickT rfl rfl) rfl rfl rfl ?_
  refine SP.val (Val.move rfl) rfl rfl rfl ?_
  refine SP.val (Val.fieldAddr Tryz.underlying48 rfl sz3 rfl) rfl rfl rfl ?_
  refine SP.val (Val.load1 0 rfl Tryz.underlying3 rfl rfl rfl) rfl rfl rfl ?_
  refine SP.val (Val.cast (v := .bool true) (Val.geq rfl rfl) rfl) rfl rfl rfl ?_
  refine SP.val (Val.pickT rfl rfl) rfl rfl rfl ?_
  refine SP.val (Val.move rfl) rfl rfl rfl ?_
  refine SP.val (Val.fieldAddr Tryz.underlying48 rfl sz3 rfl) rfl rfl rfl ?_
  refine SP.val (Val.load1 0 rfl Tryz.underlying3 rfl rfl rfl) rfl rfl rfl ?_
  refine SP.val (Val.cast (v := .bool true) (Val.leq rfl rfl) rfl) rfl rfl rfl ?_
  refine SP.val (Val.pickT rfl rfl) rfl rfl rfl ?_
  refine SP.val (Val.move rfl) rfl rfl rfl ?_
  refine SP.val (Val.fieldAddr Tryz.underlying48 rfl sz25 rfl) rfl rfl rfl ?_
  refine SP.val (Val.loadA 0 rfl Tryz.underlying25 rfl sz25 rfl rfl rfl) rfl rfl rfl ?_
  obtain ⟨t3, hc, ho⟩ := bind_some (x := entry_May_s1.f ) ho
  refine SP.callV see (caps := []) (.bool true) fn71 rfl rfl rfl rfl (fun w2 hP hs sub ap => entry_May_s1.ok   _ hc w2 hP sub ) ?_
  clear hc
  refine SP.val (Val.pickT rfl rfl) rfl rfl rfl ?_
  refine SP.val (Val.assign rfl) rfl rfl rfl ?_
  refine SP.nil ?_
  refine QE.then ?_
  refine CP.ret ?_
  obtain rfl := Option.some.inj ho
  exact QE.rets (rs := [.tmp 2]) (vs := [.bool true]) Tryz.results79 rfl ⟨RVs.tmp rfl, trivial⟩ (fun w2 h => St.done (fun a b p s => rfl) h)
/-! ### capstan/client.New: function 40 -/
def client_New_s1.f  : Option Unit :=
  (entry_Copy_s1.f ).bind fun t3 => (replica_Replica_Seqs_s1.f ).bind fun t6 => (entry_Entry_s1.f ).bind fun t7 => some ()
theorem client_New_s1.ok   (r : Unit) (H : client_New_s1.f  = some r) (w : World) (hV : Hp) (sV : Sub hV (hp w))  :
    Trip Tryz.prog 40 [.int .i64 0, .int .i64 1, .agg #[.int .u8 2, .int .i64 0, (.slice none 0 0), (.slice none 0 0)], .pointer none, .int .i64 0, .int .i64 1].toArray em hV w (fun v => HO.pure (v = .tuple #[.pointer none, .int .i64 2])) := by
  have see : Sees w em hV := ⟨sV, Dj.em_right _⟩
  refine Trip.of (P := Tryz.prog) (n := ⟨62, []⟩) Tryz.func40 rfl ⟨rfl, rfl⟩ rfl (St.begin (All.nil _)) ?_
  have ho := H
  refine CP.seq ?_
  refine CP.region ?_
  refine SP.box (cs := [.int .u8 2, .int .i64 0, (.slice none 0 0), (.slice none 0 0)]) rfl rfl rfl rfl (fun b1 => ?_)
  refine SP.val (Val.assign rfl) rfl rfl rfl ?_
  refine SP.val (Val.assign rfl) rfl rfl rfl ?_
  refine SP.nil ?_
  refine QE.then ?_
  refine CP.seq ?_
  refine CP.region ?_
  refine SP.val (Val.move rfl) rfl rfl rfl ?_
  refine SP.val (Val.move rfl) rfl rfl rfl ?_
  refine SP.val (Val.loadA 0 rfl Tryz.underlying25 rfl sz25 rfl rfl rfl) rfl rfl rfl ?_
  obtain ⟨t3, hc, ho⟩ := bind_some (x := entry_Copy_s1.f ) ho
  refine SP.callV see (caps := []) (.agg #[.int .u8 2, .int .i64 0, (.slice none 0 0), (.slice none 0 0)]) fn73 rfl rfl rfl rfl (fun w2 hP hs sub ap => entry_Copy_s1.ok   _ hc w2 hP sub ) ?_
  clear hc
  refine SP.val (Val.buildC (us := [(0, .int .i64 0), (1, .int .i64 1), (2, .agg #[.int .u8 2, .int .i64 0, (.slice none 0 0), (.slice none 0 0)])]) (ucs := [(0, [.int .i64 0]), (1, [.int .i64 1]), (2, [.int .u8 2, .int .i64 0, (.slice none 0 0), (.slice none 0 0)])]) (cs := [.int .i64 0, .int .i64 1, .int .u8 2, .int .i64 0, (.slice none 0 0), (.slice none 0 0)]) bt48 rfl rfl ⟨rfl, rfl, ⟨rfl, rfl, ⟨rfl, rfl, trivial⟩⟩⟩ (by rfl)) rfl rfl rfl ?_
  refine SP.alloc (cs := [.int .i64 0, .int .i64 0, .int .u8 0, .int .i64 0, (.slice none 0 0), (.slice none 0 0)]) inf48 rfl rfl (fun b4 => ?_)
  refine SP.store (v := .agg #[.int .i64 0, .int .i64 1, .int .u8 2, .int .i64 0, (.slice none 0 0), (.slice none 0 0)]) (vs := [.int .i64 0, .int .i64 1, .int .u8 2, .int .i64 0, (.slice none 0 0), (.slice none 0 0)]) 0 (by rfl) sz48 (by rfl) (by rfl) (by rfl) (by rfl) (by rfl) (by rfl) ?_
  refine SP.nil ?_
  refine QE.then ?_
  refine CP.seq ?_
  refine CP.region ?_
  refine SP.val (Val.move rfl) rfl rfl rfl ?_
  obtain ⟨t6, hc, ho⟩ := bind_some (x := replica_Replica_Seqs_s1.f ) ho
  refine SP.callV see (caps := []) ((.slice none 0 0)) fn20 rfl rfl rfl rfl (fun w2 hP hs sub ap => replica_Replica_Seqs_s1.ok   _ hc w2 hP sub ) ?_
  clear hc
  refine SP.val (Val.assign rfl) rfl rfl rfl ?_
  refine SP.nil ?_
  refine QE.then ?_
  refine CP.seq ?_
  refine CP.seq ?_
  refine CP.region ?_
  refine SP.val (Val.loadA 0 rfl Tryz.underlying48 rfl sz48 rfl rfl rfl) rfl rfl rfl ?_
  obtain ⟨t7, hc, ho⟩ := bind_some (x := entry_Entry_s1.f ) ho
  refine SP.callV see (caps := []) (.bool true) fn79 rfl rfl rfl rfl (fun w2 hP hs sub ap => entry_Entry_s1.ok   _ hc w2 hP sub ) ?_
  clear hc
  refine SP.val (Val.cast (v := .bool false) (Val.notB rfl) rfl) rfl rfl rfl ?_
  refine SP.val (Val.move rfl) rfl rfl rfl ?_
  refine SP.val (Val.move rfl) rfl rfl rfl ?_
  refine SP.val (Val.cast (v := .bool false) (Val.lss rfl rfl) rfl) rfl rfl rfl ?_
  refine SP.val (Val.pickF rfl rfl) rfl rfl rfl ?_
  refine SP.val (Val.move rfl) rfl rfl rfl ?_
  refine SP.val (Val.move rfl) rfl rfl rfl ?_
  refine SP.val (Val.move rfl) rfl rfl rfl ?_
  refine SP.val (Val.lenN Tryz.underlying52 rfl) rfl rfl rfl ?_
  refine SP.val (Val.cast (v := .bool true) (Val.geq rfl rfl) rfl) rfl rfl rfl ?_
  refine SP.val (Val.pickF rfl rfl) rfl rfl rfl ?_
  refine SP.val (Val.move rfl) rfl rfl rfl ?_
  refine SP.not rfl rfl rfl ?_
  refine SP.not rfl rfl rfl ?_
  refine SP.not rfl rfl rfl ?_
  refine SP.not rfl rfl rfl ?_
  refine SP.not rfl rfl rfl ?_
  refine SP.not rfl rfl rfl ?_
  refine SP.val (Val.pickT rfl rfl) rfl rfl rfl ?_
  refine SP.nil ?_
  refine QE.then ?_
  refine CP.condT rfl rfl ?_
  refine CP.seq ?_
  refine CP.region ?_
  refine SP.val (Val.assign rfl) rfl rfl rfl ?_
  refine SP.val (Val.assign rfl) rfl rfl rfl ?_
  refine SP.nil ?_
  refine QE.then ?_
  refine CP.ret ?_
  refine QE.thru (by intro e; cases e) ?_
  obtain rfl := Option.some.inj ho
  exact QE.rets (rs := [.tmp 12, .tmp 13]) (vs := [.pointer none, .int .i64 2]) Tryz.results40 rfl ⟨RVs.tmp rfl, RVs.tmp rfl, trivial⟩ (fun w2 h => St.done (fun a b p s => rfl) h)
/-! ### capstan/mem.Arena: function 69 -/
def mem_Arena.f (procs_0 : Int) (every_1 : Int) : Option Int :=
  if ((((decide (procs_0 < 1)) || (decide (procs_0 > 64))) || (decide (every_1 < 1))) || (decide (every_1 > 64))) = true then (some 0) else (some (IntKind.i64.wrap ((IntKind.i64.wrap (2 * every_1)) + (IntKind.i64.wrap (2 * procs_0)))))
theorem mem_Arena.ok (procs_0 : Int) (every_1 : Int)  (r : Int) (H : mem_Arena.f procs_0 every_1 = some r) (w : World) (hV : Hp) (sV : Sub hV (hp w))  :
    Trip Tryz.prog 69 [.int .i64 procs_0, .int .i64 every_1].toArray em hV w (fun v => HO.pure (v = .int .i64 r)) := by
  have see : Sees w em hV := ⟨sV, Dj.em_right _⟩
  refine Trip.of (P := Tryz.prog) (n := ⟨24, []⟩) Tryz.func69 rfl ⟨rfl, rfl⟩ rfl (St.begin (All.nil _)) ?_
  have ho := H
  refine CP.seq ?_
  refine CP.region ?_
  refine SP.val (Val.assign rfl) rfl rfl rfl ?_
  refine SP.nil ?_
  refine QE.then ?_
  refine CP.seq ?_
  refine CP.seq ?_
  refine CP.region ?_
  refine SP.val (Val.move rfl) rfl rfl rfl ?_
  refine SP.val (Val.lss rfl rfl) rfl rfl rfl ?_
  refine SP.val (Val.move rfl) rfl rfl rfl ?_
  refine SP.join 3 (fun a w2 => Env ⟨24, []⟩ [(0, .int .i64 procs_0), (1, .int .i64 every_1), (10, .bool ((decide (procs_0 < 1)) || (decide (procs_0 > 64))))] a ∧ St w em hV [] [] w2) ?_ ?_
  · rintro a w2 ⟨ha, hw⟩
    refine SP.app ha hw ?_
    clear ha hw a w2
    refine SP.val (Val.move rfl) rfl rfl rfl ?_
    refine SP.join 3 (fun a w2 => Env ⟨24, []⟩ [(0, .int .i64 procs_0), (1, .int .i64 every_1), (14, .bool (((decide (procs_0 < 1)) || (decide (procs_0 > 64))) || (decide (every_1 < 1))))] a ∧ St w em hV [] [] w2) ?_ ?_
    · rintro a w2 ⟨ha, hw⟩
      refine SP.app ha hw ?_
      clear ha hw a w2
      refine SP.val (Val.move rfl) rfl rfl rfl ?_
      refine SP.join 3 (fun a w2 => Env ⟨24, []⟩ [(0, .int .i64 procs_0), (1, .int .i64 every_1), (18, .bool ((((decide (procs_0 < 1)) || (decide (procs_0 > 64))) || (decide (every_1 < 1))) || (decide (every_1 > 64))))] a ∧ St w em hV [] [] w2) ?_ ?_
      · rintro a w2 ⟨ha, hw⟩
        refine SP.app ha hw ?_
        clear ha hw a w2
        refine SP.nil ?_
        refine QE.then ?_
        rcases if_some ho with ⟨hc, ho⟩ | ⟨hc, ho⟩
        · refine CP.condT rfl hc ?_
          refine CP.seq ?_
          refine CP.region ?_
          refine SP.val (Val.assign rfl) rfl rfl rfl ?_
          refine SP.nil ?_
          refine QE.then ?_
          refine CP.ret ?_
          refine QE.thru (by intro e; cases e) ?_
          obtain rfl := Option.some.inj ho
          exact QE.rets (rs := [.tmp 4]) (vs := [.int .i64 0]) Tryz.results69 rfl ⟨RVs.tmp rfl, trivial⟩ (fun w2 h => St.done (fun a b p s => rfl) h)
        · refine CP.condF rfl (bf hc) ?_
          refine CP.skip ?_
          refine QE.then ?_
          refine CP.seq ?_
          refine CP.region ?_
          refine SP.val (Val.move rfl) rfl rfl rfl ?_
          refine SP.val (Val.mul rfl rfl) rfl rfl rfl ?_
          refine SP.val (Val.move rfl) rfl rfl rfl ?_
          refine SP.val (Val.mul rfl rfl) rfl rfl rfl ?_
          refine SP.val (Val.add rfl rfl) rfl rfl rfl ?_
          refine SP.val (Val.assign rfl) rfl rfl rfl ?_
          refine SP.nil ?_
          refine QE.then ?_
          refine CP.ret ?_
          obtain rfl := Option.some.inj ho
          exact QE.rets (rs := [.tmp 4]) (vs := [.int .i64 (IntKind.i64.wrap ((IntKind.i64.wrap (2 * every_1)) + (IntKind.i64.wrap (2 * procs_0))))]) Tryz.results69 rfl ⟨RVs.tmp rfl, trivial⟩ (fun w2 h => St.done (fun a b p s => rfl) h)
      · intro J
        by_cases hc : (((decide (procs_0 < 1)) || (decide (procs_0 > 64))) || (decide (every_1 < 1))) = true
        · have hq6 := hc
          refine SP.isT (d := 15) rfl hq6 ?_
          refine SP.not rfl rfl rfl ?_
          refine SP.not rfl rfl rfl ?_
          refine SP.val (Val.pickT rfl rfl) rfl rfl rfl ?_
          exact J fun a w2 ha hw => ⟨ha.sub ⟨rfl, rfl, congrArg (fun z => some (Value.bool z)) (or_t hq6), trivial⟩, hw⟩
        · have hq6 := (bf hc)
          refine SP.isF (d := 15) rfl hq6 ?_
          refine SP.val (Val.move rfl) rfl rfl rfl ?_
          refine SP.val (Val.gtr rfl rfl) rfl rfl rfl ?_
          refine SP.val (Val.pickF rfl rfl) rfl rfl rfl ?_
          exact J fun a w2 ha hw => ⟨ha.sub ⟨rfl, rfl, congrArg (fun z => some (Value.bool z)) (or_f hq6 rfl), trivial⟩, hw⟩
    · intro J
      by_cases hc : ((decide (procs_0 < 1)) || (decide (procs_0 > 64))) = true
      · have hq4 := hc
        refine SP.isT (d := 11) rfl hq4 ?_
        refine SP.not rfl rfl rfl ?_
        refine SP.not rfl rfl rfl ?_
        refine SP.val (Val.pickT rfl rfl) rfl rfl rfl ?_
        exact J fun a w2 ha hw => ⟨ha.sub ⟨rfl, rfl, congrArg (fun z => some (Value.bool z)) (or_t hq4), trivial⟩, hw⟩
      · have hq4 := (bf hc)
        refine SP.isF (d := 11) rfl hq4 ?_
        refine SP.val (Val.move rfl) rfl rfl rfl ?_
        refine SP.val (Val.lss rfl rfl) rfl rfl rfl ?_
        refine SP.val (Val.pickF rfl rfl) rfl rfl rfl ?_
        exact J fun a w2 ha hw => ⟨ha.sub ⟨rfl, rfl, congrArg (fun z => some (Value.bool z)) (or_f hq4 rfl), trivial⟩, hw⟩
  · intro J
    by_cases hc : procs_0 < 1
    · have hq2 := (decide_eq_true hc)
      refine SP.isT (d := 7) rfl hq2 ?_
      refine SP.not rfl rfl rfl ?_
      refine SP.not rfl rfl rfl ?_
      refine SP.val (Val.pickT rfl rfl) rfl rfl rfl ?_
      exact J fun a w2 ha hw => ⟨ha.sub ⟨rfl, rfl, congrArg (fun z => some (Value.bool z)) (or_t hq2), trivial⟩, hw⟩
    · have hq2 := (decide_eq_false hc)
      refine SP.isF (d := 7) rfl hq2 ?_
      refine SP.val (Val.move rfl) rfl rfl rfl ?_
      refine SP.val (Val.gtr rfl rfl) rfl rfl rfl ?_
      refine SP.val (Val.pickF rfl rfl) rfl rfl rfl ?_
      exact J fun a w2 ha hw => ⟨ha.sub ⟨rfl, rfl, congrArg (fun z => some (Value.bool z)) (or_f hq2 rfl), trivial⟩, hw⟩
/-! ### capstan/client.Most: function 41 -/
def client_Most.f (n_0 : Int) (every_1 : Int) : Option Int :=
  (mem_Arena.f n_0 every_1).bind fun t1 => if t1 = 0 then (some 0) else (some (IntKind.i64.wrap ((IntKind.i64.wrap ((IntKind.i64.wrap (5 * t1)) + n_0)) + 8)))
theorem client_Most.ok (n_0 : Int) (every_1 : Int)  (r : Int) (H : client_Most.f n_0 every_1 = some r) (w : World) (hV : Hp) (sV : Sub hV (hp w))  :
    Trip Tryz.prog 41 [.int .i64 n_0, .int .i64 every_1].toArray em hV w (fun v => HO.pure (v = .int .i64 r)) := by
  have see : Sees w em hV := ⟨sV, Dj.em_right _⟩
  refine Trip.of (P := Tryz.prog) (n := ⟨16, []⟩) Tryz.func41 rfl ⟨rfl, rfl⟩ rfl (St.begin (All.nil _)) ?_
  have ho := H
  refine CP.seq ?_
  refine CP.region ?_
  refine SP.val (Val.assign rfl) rfl rfl rfl ?_
  refine SP.nil ?_
  refine QE.then ?_
  refine CP.seq ?_
  refine CP.region ?_
  refine SP.val (Val.move rfl) rfl rfl rfl ?_
  refine SP.val (Val.move rfl) rfl rfl rfl ?_
  obtain ⟨t1, hc, ho⟩ := bind_some (x := mem_Arena.f n_0 every_1) ho
  refine SP.callV see (caps := []) (.int .i64 t1) fn69 rfl rfl rfl rfl (fun w2 hP hs sub ap => mem_Arena.ok n_0 every_1  _ hc w2 hP sub ) ?_
  clear hc
  refine SP.val (Val.assign rfl) rfl rfl rfl ?_
  refine SP.nil ?_
  refine QE.then ?_
  refine CP.seq ?_
  refine CP.seq ?_
  refine CP.region ?_
  refine SP.val (Val.move rfl) rfl rfl rfl ?_
  refine SP.val (Val.eql rfl rfl) rfl rfl rfl ?_
  refine SP.nil ?_
  refine QE.then ?_
  rcases if_some ho with ⟨hc, ho⟩ | ⟨hc, ho⟩
  · refine CP.condT rfl (decide_eq_true hc) ?_
    refine CP.seq ?_
    refine CP.region ?_
    refine SP.val (Val.assign rfl) rfl rfl rfl ?_
    refine SP.nil ?_
    refine QE.then ?_
    refine CP.ret ?_
    refine QE.thru (by intro e; cases e) ?_
    obtain rfl := Option.some.inj ho
    exact QE.rets (rs := [.tmp 4]) (vs := [.int .i64 0]) Tryz.results41 rfl ⟨RVs.tmp rfl, trivial⟩ (fun w2 h => St.done (fun a b p s => rfl) h)
  · refine CP.condF rfl (decide_eq_false hc) ?_
    refine CP.skip ?_
    refine QE.then ?_
    refine CP.seq ?_
    refine CP.region ?_
    refine SP.val (Val.move rfl) rfl rfl rfl ?_
    refine SP.val (Val.mul rfl rfl) rfl rfl rfl ?_
    refine SP.val (Val.move rfl) rfl rfl rfl ?_
    refine SP.val (Val.add rfl rfl) rfl rfl rfl ?_
    refine SP.val (Val.add rfl rfl) rfl rfl rfl ?_
    refine SP.val (Val.assign rfl) rfl rfl rfl ?_
    refine SP.nil ?_
    refine QE.then ?_
    refine CP.ret ?_
    obtain rfl := Option.some.inj ho
    exact QE.rets (rs := [.tmp 4]) (vs := [.int .i64 (IntKind.i64.wrap ((IntKind.i64.wrap ((IntKind.i64.wrap (5 * t1)) + n_0)) + 8))]) Tryz.results41 rfl ⟨RVs.tmp rfl, trivial⟩ (fun w2 h => St.done (fun a b p s => rfl) h)
/-! ### capstan/capstanlaw27.ClientNil: function 6 -/
def capstanlaw27_ClientNil.j1 (n_0 : Int) (every_1 : Int) (x15 : Int) : Option Bool :=
  (client_New_s1.f ).bind fun t16 => (client_Most.f n_0 every_1).bind fun t17 => some (decide (t17 = x15))

def capstanlaw27_ClientNil.f (n_0 : Int) (every_1 : Int) : Option Bool :=
  (mem_New_s1.f ).bind fun t1 => (client_Update_Step_s1.f ).bind fun t8 => (client_Update_Over_s1.f ).bind fun t9 => (client_Update_Reply_s1.f ).bind fun t10 => (client_Update_Announced_s1.f ).bind fun t11 => (client_Update_Known_s1.f ).bind fun t12 => (capstanref21_Arena.f n_0 every_1).bind fun t13 => if t13 > 0 then ((capstanref21_Arena.f n_0 every_1).bind fun t14 => capstanlaw27_ClientNil.j1 n_0 every_1 (IntKind.i64.wrap ((IntKind.i64.wrap ((IntKind.i64.wrap (5 * t14)) + n_0)) + 8))) else (capstanlaw27_ClientNil.j1 n_0 every_1 0)
theorem capstanlaw27_ClientNil.ok (n_0 : Int) (every_1 : Int)  (r : Bool) (H : capstanlaw27_ClientNil.f n_0 every_1 = some r) (w : World) (hV : Hp) (sV : Sub hV (hp w))  :
    Trip Tryz.prog 6 [.int .i64 n_0, .int .i64 every_1].toArray em hV w (fun v => HO.pure (v = .bool r)) := by
  have see : Sees w em hV := ⟨sV, Dj.em_right _⟩
  refine Trip.of (P := Tryz.prog) (n := ⟨79, []⟩) Tryz.func6 rfl ⟨rfl, rfl⟩ rfl (St.begin (All.nil _)) ?_
  have ho := H
  refine CP.seq ?_
  refine CP.region ?_
  refine SP.val (Val.assign rfl) rfl rfl rfl ?_
  refine SP.nil ?_
  refine QE.then ?_
  refine CP.seq ?_
  refine CP.region ?_
  refine SP.val (Val.buildC (us := []) (ucs := []) (cs := [(.slice none 0 0), (.slice none 0 0), (.slice none 0 0), .int .i64 0, (.slice none 0 0), (.slice none 0 0)]) bt62 rfl rfl trivial (by rfl)) rfl rfl rfl ?_
  obtain ⟨t1, hc, ho⟩ := bind_some (x := mem_New_s1.f ) ho
  refine SP.callK see (caps := []) _ fn25 rfl rfl rfl rfl (fun w2 hP hs sub ap => mem_New_s1.ok   _ hc w2 hP sub ) (fun vr => ?_)
  refine SP.ex (fun w2 h => St.open h) (fun v2 => ?_)
  refine SP.have (fun w2 h => (St.pand h).1.symm) (fun er => ?_)
  subst er
  refine SP.imp (fun w2 h => St.seps (St.pand h).2) ?_
  clear hc
  refine SP.val (Val.move rfl) rfl rfl rfl ?_
  refine SP.val (Val.extract rfl rfl) rfl rfl rfl ?_
  refine SP.val (Val.extract rfl rfl) rfl rfl rfl ?_
  refine SP.val (Val.assign rfl) rfl rfl rfl ?_
  refine SP.val (Val.assign rfl) rfl rfl rfl ?_
  refine SP.nil ?_
  refine QE.then ?_
  refine CP.seq ?_
  refine CP.region ?_
  refine SP.val (Val.assign rfl) rfl rfl rfl ?_
  refine SP.nil ?_
  refine QE.then ?_
  refine CP.seq ?_
  refine CP.region ?_
  refine SP.val (Val.move rfl) rfl rfl rfl ?_
  refine SP.lit (k := kRaw 1) (xs := [[.pointer none]]) (vs := [.pointer none]) (cells := [.pointer none]) Tryz.underlying89 inf88 rfl rfl rfl rfl rfl rfl rfl rfl (fun _ ap => ⟨[.pointer none], _, rfl, ⟨rfl, rfl, rfl⟩, rfl⟩) rfl rfl rfl (fun v4 => ?_)
  refine SP.freezeS see 0 rfl ?_
  refine SP.val (Val.assign rfl) rfl rfl rfl ?_
  refine SP.nil ?_
  refine QE.then ?_
  refine CP.seq ?_
  refine CP.seq ?_
  refine CP.region ?_
  refine SP.val (Val.assign rfl) rfl rfl rfl ?_
  refine SP.nil ?_
  refine QE.then ?_
  refine CP.block ?_
  refine CP.rounds 3 ?_
  refine LP.step ?_
  refine CP.seq ?_
  refine CP.seq ?_
  refine CP.region ?_
  refine SP.val (Val.move rfl) rfl rfl rfl ?_
  refine SP.val (Val.move rfl) rfl rfl rfl ?_
  refine SP.val (Val.cast (v := .int .i64 1) (Val.lenP see 0 rfl Tryz.underlying89 rfl) rfl) rfl rfl rfl ?_
  refine SP.val (Val.cast (v := .bool true) (Val.lss rfl rfl) rfl) rfl rfl rfl ?_
  refine SP.nil ?_
  refine QE.then ?_
  refine CP.condT rfl rfl ?_
  refine CP.skip ?_
  refine QE.then ?_
  refine CP.seq ?_
  refine CP.block ?_
  refine CP.seq ?_
  refine CP.region ?_
  refine SP.val (Val.move rfl) rfl rfl rfl ?_
  refine SP.val (Val.move rfl) rfl rfl rfl ?_
  refine SP.indexP (k := kRaw 1) (xs := [[.pointer none]]) (j := 0) see 0 rfl Tryz.underlying89 sz88 (by decide) rfl rfl rfl rfl rfl (fun p6 => ?_)
  refine SP.val (Val.loadP1 see 0 rfl (fun _ _ e => e.1) Tryz.underlying88 rfl rfl) rfl rfl rfl ?_
  refine SP.val (Val.assign rfl) rfl rfl rfl ?_
  refine SP.nil ?_
  refine QE.then ?_
  refine CP.seq ?_
  refine CP.region ?_
  refine SP.val (Val.move rfl) rfl rfl rfl ?_
  refine SP.val (Val.move rfl) rfl rfl rfl ?_
  obtain ⟨t8, hc, ho⟩ := bind_some (x := client_Update_Step_s1.f ) ho
  refine SP.callV see (caps := []) (.bool false) fn35 rfl rfl rfl rfl (fun w2 hP hs sub ap => client_Update_Step_s1.ok  v2 _ hc w2 hP sub trivial) ?_
  clear hc
  refine SP.val (Val.move rfl) rfl rfl rfl ?_
  refine SP.val (Val.move rfl) rfl rfl rfl ?_
  obtain ⟨t9, hc, ho⟩ := bind_some (x := client_Update_Over_s1.f ) ho
  refine SP.callV see (caps := []) (.bool true) fn36 rfl rfl rfl rfl (fun w2 hP hs sub ap => client_Update_Over_s1.ok   _ hc w2 hP sub ) ?_
  clear hc
  refine SP.val (Val.cast (v := .bool false) (Val.notB rfl) rfl) rfl rfl rfl ?_
  refine SP.val (Val.pickF rfl rfl) rfl rfl rfl ?_
  refine SP.val (Val.move rfl) rfl rfl rfl ?_
  refine SP.val (Val.move rfl) rfl rfl rfl ?_
  obtain ⟨t10, hc, ho⟩ := bind_some (x := client_Update_Reply_s1.f ) ho
  refine SP.callV see (caps := []) (.agg #[.int .i64 0, .int .i64 0, .int .u8 0, .int .i64 0, .int .i64 0]) fn37 rfl rfl rfl rfl (fun w2 hP hs sub ap => client_Update_Reply_s1.ok   _ hc w2 hP sub ) ?_
  clear hc
  refine SP.val (Val.buildC (us := []) (ucs := []) (cs := [.int .i64 0, .int .i64 0, .int .u8 0, .int .i64 0, .int .i64 0]) bt39 rfl rfl trivial (by rfl)) rfl rfl rfl ?_
  refine SP.val (Val.cast (v := .bool false) (Val.neqA (by kernel_rfl) (fun w2 => eqA39 9996 w2 0 0 0 0 0 0 0 0 0 0) rfl rfl) rfl) rfl rfl rfl ?_
  refine SP.val (Val.pickF rfl rfl) rfl rfl rfl ?_
  refine SP.val (Val.move rfl) rfl rfl rfl ?_
  refine SP.val (Val.move rfl) rfl rfl rfl ?_
  obtain ⟨t11, hc, ho⟩ := bind_some (x := client_Update_Announced_s1.f ) ho
  refine SP.callV see (caps := []) (.bool false) fn38 rfl rfl rfl rfl (fun w2 hP hs sub ap => client_Update_Announced_s1.ok   _ hc w2 hP sub ) ?_
  clear hc
  refine SP.val (Val.pickF rfl rfl) rfl rfl rfl ?_
  refine SP.val (Val.move rfl) rfl rfl rfl ?_
  refine SP.val (Val.move rfl) rfl rfl rfl ?_
  obtain ⟨t12, hc, ho⟩ := bind_some (x := client_Update_Known_s1.f ) ho
  refine SP.callV see (caps := []) (.int .i64 0) fn39 rfl rfl rfl rfl (fun w2 hP hs sub ap => client_Update_Known_s1.ok   _ hc w2 hP sub ) ?_
  clear hc
  refine SP.val (Val.cast (v := .bool false) (Val.neq rfl rfl) rfl) rfl rfl rfl ?_
  refine SP.val (Val.pickF rfl rfl) rfl rfl rfl ?_
  refine SP.nil ?_
  refine QE.then ?_
  refine CP.condF rfl rfl ?_
  refine CP.skip ?_
  refine QE.blockN ?_
  refine QE.then ?_
  refine CP.region ?_
  refine SP.val (Val.move rfl) rfl rfl rfl ?_
  refine SP.val (Val.cast (v := .int .i64 1) (Val.add rfl rfl) rfl) rfl rfl rfl ?_
  refine SP.val (Val.assign rfl) rfl rfl rfl ?_
  refine SP.nil ?_
  refine QE.round ?_
  refine LP.step ?_
  refine CP.seq ?_
  refine CP.seq ?_
  refine CP.region ?_
  refine SP.val (Val.move rfl) rfl rfl rfl ?_
  refine SP.val (Val.move rfl) rfl rfl rfl ?_
  refine SP.val (Val.cast (v := .int .i64 1) (Val.lenP see 1 rfl Tryz.underlying89 rfl) rfl) rfl rfl rfl ?_
  refine SP.val (Val.cast (v := .bool false) (Val.lss rfl rfl) rfl) rfl rfl rfl ?_
  refine SP.nil ?_
  refine QE.then ?_
  refine CP.condF rfl rfl ?_
  refine CP.exit ?_
  refine QE.thru (by intro e; cases e) ?_
  refine QE.thru (by intro e; cases e) ?_
  refine QE.blockE ?_
  refine QE.then ?_
  refine CP.seq ?_
  refine CP.region ?_
  refine SP.val (Val.assign rfl) rfl rfl rfl ?_
  refine SP.nil ?_
  refine QE.then ?_
  refine CP.join (fun a w2 => ∃ x15 : Int, capstanlaw27_ClientNil.j1 n_0 every_1 x15 = some r ∧ Env ⟨79, []⟩ [(0, .int .i64 n_0), (1, .int .i64 every_1), (11, .int .i64 x15)] a ∧ St w em hV [] [] w2) ?_ ?_
  · rintro a w2 ⟨x15, ho, ha, hw⟩
    refine CP.app ha hw ?_
    clear ha hw a w2
    refine CP.seq ?_
    refine CP.region ?_
    refine SP.val (Val.buildC (us := [(0, .int .u8 2)]) (ucs := [(0, [.int .u8 2])]) (cs := [.int .u8 2, .int .i64 0, (.slice none 0 0), (.slice none 0 0)]) bt25 rfl rfl ⟨rfl, rfl, trivial⟩ (by rfl)) rfl rfl rfl ?_
    obtain ⟨t16, hc, ho⟩ := bind_some (x := client_New_s1.f ) ho
    refine SP.callV see (caps := []) (.tuple #[.pointer none, .int .i64 2]) fn40 rfl rfl rfl rfl (fun w2 hP hs sub ap => client_New_s1.ok   _ hc w2 hP sub ) ?_
    clear hc
    refine SP.val (Val.move rfl) rfl rfl rfl ?_
    refine SP.val (Val.extract rfl rfl) rfl rfl rfl ?_
    refine SP.val (Val.extract rfl rfl) rfl rfl rfl ?_
    refine SP.val (Val.assign rfl) rfl rfl rfl ?_
    refine SP.val (Val.assign rfl) rfl rfl rfl ?_
    refine SP.nil ?_
    refine QE.then ?_
    refine CP.seq ?_
    refine CP.region ?_
    refine SP.val (Val.move rfl) rfl rfl rfl ?_
    refine SP.val (Val.cast (v := .bool true) (Val.eql rfl rfl) rfl) rfl rfl rfl ?_
    refine SP.val (Val.move rfl) rfl rfl rfl ?_
    refine SP.val (Val.move rfl) rfl rfl rfl ?_
    refine SP.val (Val.move rfl) rfl rfl rfl ?_
    obtain ⟨t17, hc, ho⟩ := bind_some (x := client_Most.f n_0 every_1) ho
    refine SP.callV see (caps := []) (.int .i64 t17) fn41 rfl rfl rfl rfl (fun w2 hP hs sub ap => client_Most.ok n_0 every_1  _ hc w2 hP sub ) ?_
    clear hc
    refine SP.val (Val.move rfl) rfl rfl rfl ?_
    refine SP.val (Val.eql rfl rfl) rfl rfl rfl ?_
    refine SP.val (Val.pickT rfl rfl) rfl rfl rfl ?_
    refine SP.val (Val.assign rfl) rfl rfl rfl ?_
    refine SP.nil ?_
    refine QE.then ?_
    refine CP.ret ?_
    obtain rfl := Option.some.inj ho
    exact QE.rets (rs := [.tmp 4]) (vs := [.bool (decide (t17 = x15))]) Tryz.results6 rfl ⟨RVs.tmp rfl, trivial⟩ (fun w2 h => St.done (fun a b p s => rfl) h)
  · refine CP.seq ?_
    refine CP.region ?_
    refine SP.val (Val.move rfl) rfl rfl rfl ?_
    refine SP.val (Val.move rfl) rfl rfl rfl ?_
    obtain ⟨t13, hc, ho⟩ := bind_some (x := capstanref21_Arena.f n_0 every_1) ho
    refine SP.callV see (caps := []) (.int .i64 t13) fn29 rfl rfl rfl rfl (fun w2 hP hs sub ap => capstanref21_Arena.ok n_0 every_1  _ hc w2 hP sub ) ?_
    clear hc
    refine SP.val (Val.gtr rfl rfl) rfl rfl rfl ?_
    refine SP.nil ?_
    refine QE.then ?_
    rcases if_some ho with ⟨hc, ho⟩ | ⟨hc, ho⟩
    · refine CP.condT rfl (decide_eq_true hc) ?_
      refine CP.region ?_
      refine SP.val (Val.move rfl) rfl rfl rfl ?_
      refine SP.val (Val.move rfl) rfl rfl rfl ?_
      obtain ⟨t14, hc, ho⟩ := bind_some (x := capstanref21_Arena.f n_0 every_1) ho
      refine SP.callV see (caps := []) (.int .i64 t14) fn29 rfl rfl rfl rfl (fun w2 hP hs sub ap => capstanref21_Arena.ok n_0 every_1  _ hc w2 hP sub ) ?_
      clear hc
      refine SP.val (Val.mul rfl rfl) rfl rfl rfl ?_
      refine SP.val (Val.move rfl) rfl rfl rfl ?_
      refine SP.val (Val.add rfl rfl) rfl rfl rfl ?_
      refine SP.val (Val.add rfl rfl) rfl rfl rfl ?_
      refine SP.val (Val.assign rfl) rfl rfl rfl ?_
      refine SP.nil ?_
      exact QE.meet fun a w2 ha hw => ⟨(IntKind.i64.wrap ((IntKind.i64.wrap ((IntKind.i64.wrap (5 * t14)) + n_0)) + 8)), ho, ha.sub ⟨rfl, rfl, rfl, trivial⟩, (St.selP [] rfl (St.selO [] rfl rfl hw))⟩
    · refine CP.condF rfl (decide_eq_false hc) ?_
      refine CP.skip ?_
      exact QE.meet fun a w2 ha hw => ⟨0, ho, ha.sub ⟨rfl, rfl, rfl, trivial⟩, (St.selP [] rfl (St.selO [] rfl rfl hw))⟩
/-- What is left to be shown of the law: of plain values alone. -/
def capstanlaw27_ClientNil.Pure : Prop := ∀ (x0 : Int) (x1 : Int), (Lit.int .i64 x0).wf = true → (Lit.int .i64 x1).wf = true → capstanlaw27_ClientNil.f x0 x1 = some true
end Go.Proofs.YtgfjjjbpikfgaaaGreatDoor
end
