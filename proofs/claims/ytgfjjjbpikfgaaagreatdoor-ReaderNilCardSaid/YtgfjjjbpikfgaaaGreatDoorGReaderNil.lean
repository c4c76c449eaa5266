/- Functions of the program as plain functions, with the proof that the code computes them: printed by gen.py of this session. -/
import Derived.Test.YtgfjjjbpikfgaaaGreatDoorProg
import Derived.Test.YtgfjjjbpikfgaaaGreatDoorQ22v188945
set_option linter.unusedVariables false
set_option linter.unusedSimpArgs false
set_option maxRecDepth 20000
set_option maxHeartbeats 2000000
noncomputable section
namespace Go.Proofs.YtgfjjjbpikfgaaaGreatDoor
open Go.Q
structure api_Value where
  Kind : Int
  A : Int
  B : Int
def api_Value.zero : api_Value := ⟨0, 0, 0⟩
def k_api_Value : Kd api_Value := ⟨3, fun h cs x => cs = [.int .u8 x.Kind, .int .i64 x.A, .int .i64 x.B], fun _ _ _ _ _ h => h, fun _ _ _ h => by simp [h], fun _ _ _ h => by subst h; rfl⟩
theorem k_api_Value.part_Kind : Part k_api_Value 0 (kInt .u8) (fun x => x.Kind) := fun h cs x e => ⟨[.int .u8 x.Kind], rfl, by subst e; exact seg_get [.int .u8 x.Kind, .int .i64 x.A, .int .i64 x.B] 0 1⟩
theorem k_api_Value.part_A : Part k_api_Value 1 (kInt .i64) (fun x => x.A) := fun h cs x e => ⟨[.int .i64 x.A], rfl, by subst e; exact seg_get [.int .u8 x.Kind, .int .i64 x.A, .int .i64 x.B] 1 1⟩
theorem k_api_Value.part_B : Part k_api_Value 2 (kInt .i64) (fun x => x.B) := fun h cs x e => ⟨[.int .i64 x.B], rfl, by subst e; exact seg_get [.int .u8 x.Kind, .int .i64 x.A, .int .i64 x.B] 2 1⟩
theorem k_api_Value.load {P : Program} {n : Fr} {ρ : Option Nat} {σ : List (Nat × Value)} {w0 : World} {hA hV : Hp} {ps : List HP} {os : List HO} {L l : List Oper} {Q : Cont} {d : Nat} {t tr : TypeId} {x : Operand} {pos : String} {af : Array Edge} {g : Option (Nat × Bool)} {v : Value} (see : Sees w0 hA hV) (i : Nat) {x0 : api_Value} (hi : ps[i]? = some (elP k_api_Value v x0)) {dsc : TypeDesc} (hu : P.underlying t = some dsc) (hd : (match dsc with | .struct _ | .array _ _ => true | _ => false) = true) (hs : (P.info? t).map (·.size) = some 3) (hg : gd L σ g = some true) (hn : Nat.blt d n.n = true) (hx : ev σ x = some v)
    (h : SP P n ρ ((d, .agg [.int .u8 x0.Kind, .int .i64 x0.A, .int .i64 x0.B].toArray) :: σ) (St w0 hA hV (ps) os) L l Q) : SP P n ρ σ (St w0 hA hV ps os) L (⟨some d, .load t x, tr, pos, af, g⟩ :: l) Q :=
  SP.loadP see i hi hu hd hs hg hn hx fun cs a w ha hw => by
    obtain ⟨m, fr, hN, hO, n1, n2, dj, s1, s2, ap, s⟩ := hw
    obtain rfl := ap.get 0 rfl
    exact h a w ha ⟨m, fr, hN, hO, n1, n2, dj, s1, s2, (fun y hy => ap y (List.mem_cons_of_mem _ hy)), s⟩
structure api_Outcome where
  Trap : Int
  Result : api_Value
def api_Outcome.zero : api_Outcome := ⟨0, api_Value.zero⟩
def k_api_Outcome : Kd api_Outcome := ⟨4, fun h cs x => cs = [.int .i64 x.Trap, .int .u8 x.Result.Kind, .int .i64 x.Result.A, .int .i64 x.Result.B], fun _ _ _ _ _ h => h, fun _ _ _ h => by simp [h], fun _ _ _ h => by subst h; rfl⟩
theorem k_api_Outcome.part_Trap : Part k_api_Outcome 0 (kInt .i64) (fun x => x.Trap) := fun h cs x e => ⟨[.int .i64 x.Trap], rfl, by subst e; exact seg_get [.int .i64 x.Trap, .int .u8 x.Result.Kind, .int .i64 x.Result.A, .int .i64 x.Result.B] 0 1⟩
theorem k_api_Outcome.part_Result : Part k_api_Outcome 1 k_api_Value (fun x => x.Result) := fun h cs x e => ⟨[.int .u8 x.Result.Kind, .int .i64 x.Result.A, .int .i64 x.Result.B], rfl, by subst e; exact seg_get [.int .i64 x.Trap, .int .u8 x.Result.Kind, .int .i64 x.Result.A, .int .i64 x.Result.B] 1 3⟩
theorem k_api_Outcome.load {P : Program} {n : Fr} {ρ : Option Nat} {σ : List (Nat × Value)} {w0 : World} {hA hV : Hp} {ps : List HP} {os : List HO} {L l : List Oper} {Q : Cont} {d : Nat} {t tr : TypeId} {x : Operand} {pos : String} {af : Array Edge} {g : Option (Nat × Bool)} {v : Value} (see : Sees w0 hA hV) (i : Nat) {x0 : api_Outcome} (hi : ps[i]? = some (elP k_api_Outcome v x0)) {dsc : TypeDesc} (hu : P.underlying t = some dsc) (hd : (match dsc with | .struct _ | .array _ _ => true | _ => false) = true) (hs : (P.info? t).map (·.size) = some 4) (hg : gd L σ g = some true) (hn : Nat.blt d n.n = true) (hx : ev σ x = some v)
    (h : SP P n ρ ((d, .agg [.int .i64 x0.Trap, .int .u8 x0.Result.Kind, .int .i64 x0.Result.A, .int .i64 x0.Result.B].toArray) :: σ) (St w0 hA hV (ps) os) L l Q) : SP P n ρ σ (St w0 hA hV ps os) L (⟨some d, .load t x, tr, pos, af, g⟩ :: l) Q :=
  SP.loadP see i hi hu hd hs hg hn hx fun cs a w ha hw => by
    obtain ⟨m, fr, hN, hO, n1, n2, dj, s1, s2, ap, s⟩ := hw
    obtain rfl := ap.get 0 rfl
    exact h a w ha ⟨m, fr, hN, hO, n1, n2, dj, s1, s2, (fun y hy => ap y (List.mem_cons_of_mem _ hy)), s⟩
structure api_Reply where
  Err : Int
  Out : api_Outcome
def api_Reply.zero : api_Reply := ⟨0, api_Outcome.zero⟩
def k_api_Reply : Kd api_Reply := ⟨5, fun h cs x => cs = [.int .i64 x.Err, .int .i64 x.Out.Trap, .int .u8 x.Out.Result.Kind, .int .i64 x.Out.Result.A, .int .i64 x.Out.Result.B], fun _ _ _ _ _ h => h, fun _ _ _ h => by simp [h], fun _ _ _ h => by subst h; rfl⟩
theorem k_api_Reply.part_Err : Part k_api_Reply 0 (kInt .i64) (fun x => x.Err) := fun h cs x e => ⟨[.int .i64 x.Err], rfl, by subst e; exact seg_get [.int .i64 x.Err, .int .i64 x.Out.Trap, .int .u8 x.Out.Result.Kind, .int .i64 x.Out.Result.A, .int .i64 x.Out.Result.B] 0 1⟩
theorem k_api_Reply.part_Out : Part k_api_Reply 1 k_api_Outcome (fun x => x.Out) := fun h cs x e => ⟨[.int .i64 x.Out.Trap, .int .u8 x.Out.Result.Kind, .int .i64 x.Out.Result.A, .int .i64 x.Out.Result.B], rfl, by subst e; exact seg_get [.int .i64 x.Err, .int .i64 x.Out.Trap, .int .u8 x.Out.Result.Kind, .int .i64 x.Out.Result.A, .int .i64 x.Out.Result.B] 1 4⟩
theorem k_api_Reply.load {P : Program} {n : Fr} {ρ : Option Nat} {σ : List (Nat × Value)} {w0 : World} {hA hV : Hp} {ps : List HP} {os : List HO} {L l : List Oper} {Q : Cont} {d : Nat} {t tr : TypeId} {x : Operand} {pos : String} {af : Array Edge} {g : Option (Nat × Bool)} {v : Value} (see : Sees w0 hA hV) (i : Nat) {x0 : api_Reply} (hi : ps[i]? = some (elP k_api_Reply v x0)) {dsc : TypeDesc} (hu : P.underlying t = some dsc) (hd : (match dsc with | .struct _ | .array _ _ => true | _ => false) = true) (hs : (P.info? t).map (·.size) = some 5) (hg : gd L σ g = some true) (hn : Nat.blt d n.n = true) (hx : ev σ x = some v)
    (h : SP P n ρ ((d, .agg [.int .i64 x0.Err, .int .i64 x0.Out.Trap, .int .u8 x0.Out.Result.Kind, .int .i64 x0.Out.Result.A, .int .i64 x0.Out.Result.B].toArray) :: σ) (St w0 hA hV (ps) os) L l Q) : SP P n ρ σ (St w0 hA hV ps os) L (⟨some d, .load t x, tr, pos, af, g⟩ :: l) Q :=
  SP.loadP see i hi hu hd hs hg hn hx fun cs a w ha hw => by
    obtain ⟨m, fr, hN, hO, n1, n2, dj, s1, s2, ap, s⟩ := hw
    obtain rfl := ap.get 0 rfl
    exact h a w ha ⟨m, fr, hN, hO, n1, n2, dj, s1, s2, (fun y hy => ap y (List.mem_cons_of_mem _ hy)), s⟩
structure api_Op where
  Kind : Int
  Method : Int
  Args : (List api_Value)
  Bytes : (List Int)
def api_Op.zero : api_Op := ⟨0, 0, [], []⟩
def k_api_Op : Kd api_Op := ⟨4, fun h cs x => ∃ v0 v1 : Value, cs = [.int .u8 x.Kind, .int .i64 x.Method, v0, v1] ∧ slR k_api_Value h v0 x.Args ∧ slR (kInt .u8) h v1 x.Bytes,
  fun _ _ _ _ s ⟨v0, v1, e, p0, p1⟩ => ⟨v0, v1, e, slR.mono s p0, slR.mono s p1⟩, fun _ _ _ ⟨v0, v1, e, p0, p1⟩ => by simp [e],
  fun _ _ _ ⟨v0, v1, e, p0, p1⟩ => by subst e; obtain ⟨_, _, rfl, -⟩ := p0; obtain ⟨_, _, rfl, -⟩ := p1; rfl⟩
def o_api_Op : Ko api_Op := ⟨k_api_Op, fun cs x => HO.ex fun v0 : Value => HO.ex fun v1 : Value => HO.pand (cs = [.int .u8 x.Kind, .int .i64 x.Method, v0, v1]) (HO.seps [slO k_api_Value 35 v0 x.Args, slO (kInt .u8) 5 v1 x.Bytes]), fun ⟨v0, v1, e, q⟩ sa sh => ⟨v0, v1, e, slO.read (Sep.get 0 rfl q) sa sh, slO.read (Sep.get 1 rfl q) sa sh⟩⟩
@[reducible] def api_Op.set_Args (x : api_Op) (l : (List api_Value)) : api_Op := { x with Args := l }
theorem o_api_Op.leaf2 : Leaf o_api_Op 2 k_api_Value 35 (fun x => x.Args) api_Op.set_Args := fun a h c x ⟨v0, v1, e, q⟩ => by
  subst e
  obtain ⟨h1, h2, dj, s1, s2, p, rest⟩ := Sep.take 0 _ rfl q
  exact ⟨v0, h1, h2, rfl, dj, s1, s2, p, fun a' h' l' sa dj' r => ⟨v0, v1, rfl, Sep.back 0 [slO k_api_Value 35 v0 x.Args, slO (kInt .u8) 5 v1 x.Bytes] (x := slO k_api_Value 35 v0 l') (Nat.le_of_ble_eq_true rfl) dj' r (Sep.mono _ sa (Sub.refl _) rest)⟩⟩
@[reducible] def api_Op.set_Bytes (x : api_Op) (l : (List Int)) : api_Op := { x with Bytes := l }
theorem o_api_Op.leaf3 : Leaf o_api_Op 3 (kInt .u8) 5 (fun x => x.Bytes) api_Op.set_Bytes := fun a h c x ⟨v0, v1, e, q⟩ => by
  subst e
  obtain ⟨h1, h2, dj, s1, s2, p, rest⟩ := Sep.take 1 _ rfl q
  exact ⟨v1, h1, h2, rfl, dj, s1, s2, p, fun a' h' l' sa dj' r => ⟨v0, v1, rfl, Sep.back 1 [slO k_api_Value 35 v0 x.Args, slO (kInt .u8) 5 v1 x.Bytes] (x := slO (kInt .u8) 5 v1 l') (Nat.le_of_ble_eq_true rfl) dj' r (Sep.mono _ sa (Sub.refl _) rest)⟩⟩
theorem k_api_Op.part_Kind : Part k_api_Op 0 (kInt .u8) (fun x => x.Kind) := fun h cs x ⟨v0, v1, e, p0, p1⟩ => ⟨[.int .u8 x.Kind], rfl, by subst e; exact seg_get [.int .u8 x.Kind, .int .i64 x.Method, v0, v1] 0 1⟩
theorem k_api_Op.part_Method : Part k_api_Op 1 (kInt .i64) (fun x => x.Method) := fun h cs x ⟨v0, v1, e, p0, p1⟩ => ⟨[.int .i64 x.Method], rfl, by subst e; exact seg_get [.int .u8 x.Kind, .int .i64 x.Method, v0, v1] 1 1⟩
theorem k_api_Op.part_Args : Part k_api_Op 2 (kSl k_api_Value) (fun x => x.Args) := fun h cs x ⟨v0, v1, e, p0, p1⟩ => ⟨[v0], ⟨v0, rfl, p0⟩, by subst e; exact seg_get [.int .u8 x.Kind, .int .i64 x.Method, v0, v1] 2 1⟩
theorem k_api_Op.part_Bytes : Part k_api_Op 3 (kSl (kInt .u8)) (fun x => x.Bytes) := fun h cs x ⟨v0, v1, e, p0, p1⟩ => ⟨[v1], ⟨v1, rfl, p1⟩, by subst e; exact seg_get [.int .u8 x.Kind, .int .i64 x.Method, v0, v1] 3 1⟩
theorem k_api_Op.load {P : Program} {n : Fr} {ρ : Option Nat} {σ : List (Nat × Value)} {w0 : World} {hA hV : Hp} {ps : List HP} {os : List HO} {L l : List Oper} {Q : Cont} {d : Nat} {t tr : TypeId} {x : Operand} {pos : String} {af : Array Edge} {g : Option (Nat × Bool)} {v : Value} (see : Sees w0 hA hV) (i : Nat) {x0 : api_Op} (hi : ps[i]? = some (elP k_api_Op v x0)) {dsc : TypeDesc} (hu : P.underlying t = some dsc) (hd : (match dsc with | .struct _ | .array _ _ => true | _ => false) = true) (hs : (P.info? t).map (·.size) = some 4) (hg : gd L σ g = some true) (hn : Nat.blt d n.n = true) (hx : ev σ x = some v)
    (h : ∀ v0 v1, SP P n ρ ((d, .agg [.int .u8 x0.Kind, .int .i64 x0.Method, v0, v1].toArray) :: σ) (St w0 hA hV (slP k_api_Value v0 x0.Args :: slP (kInt .u8) v1 x0.Bytes :: ps) os) L l Q) : SP P n ρ σ (St w0 hA hV ps os) L (⟨some d, .load t x, tr, pos, af, g⟩ :: l) Q :=
  SP.loadP see i hi hu hd hs hg hn hx fun cs a w ha hw => by
    obtain ⟨m, fr, hN, hO, n1, n2, dj, s1, s2, ap, s⟩ := hw
    obtain ⟨v0, v1, e, p0, p1⟩ := ap.get 0 rfl
    subst e
    exact h v0 v1 a w ha ⟨m, fr, hN, hO, n1, n2, dj, s1, s2, All.cons p0 (All.cons p1 ((fun y hy => ap y (List.mem_cons_of_mem _ hy)))), s⟩
theorem sz3 : (Tryz.prog.info? 3).map (·.size) = some 1 := by kernel_rfl
theorem sz5 : (Tryz.prog.info? 5).map (·.size) = some 1 := by kernel_rfl
theorem sz22 : (Tryz.prog.info? 22).map (·.size) = some 1 := by kernel_rfl
theorem sz23 : (Tryz.prog.info? 23).map (·.size) = some 1 := by kernel_rfl
theorem sz25 : (Tryz.prog.info? 25).map (·.size) = some 4 := by kernel_rfl
theorem sz39 : (Tryz.prog.info? 39).map (·.size) = some 5 := by kernel_rfl
theorem sz62 : (Tryz.prog.info? 62).map (·.size) = some 6 := by kernel_rfl
theorem sz71 : (Tryz.prog.info? 71).map (·.size) = some 1 := by kernel_rfl
theorem sz75 : (Tryz.prog.info? 75).map (·.size) = some 1 := by kernel_rfl
theorem sz79 : (Tryz.prog.info? 79).map (·.size) = some 1 := by kernel_rfl
theorem sz179 : (Tryz.prog.info? 179).map (·.size) = some 4 := by kernel_rfl
theorem inf25 : (Tryz.prog.info? 25).map (fun i => ((i.zero.map fun z => z.cells.toList), i.size, i.bytes)) = some (some [.int .u8 0, .int .i64 0, (.slice none 0 0), (.slice none 0 0)], 4, 64) := by kernel_rfl
theorem inf39 : (Tryz.prog.info? 39).map (fun i => ((i.zero.map fun z => z.cells.toList), i.size, i.bytes)) = some (some [.int .i64 0, .int .i64 0, .int .u8 0, .int .i64 0, .int .i64 0], 5, 40) := by kernel_rfl
theorem inf71 : (Tryz.prog.info? 71).map (fun i => ((i.zero.map fun z => z.cells.toList), i.size, i.bytes)) = some (some [.pointer none], 1, 8) := by kernel_rfl
theorem inf107 : (Tryz.prog.info? 107).map (fun i => ((i.zero.map fun z => z.cells.toList), i.size, i.bytes)) = some (some [.int .i64 0, .int .i64 0, .int .i64 0, .int .u8 0, .int .i64 0, (.slice none 0 0), (.slice none 0 0)], 7, 88) := by kernel_rfl
theorem inf187 : (Tryz.prog.info? 187).map (fun i => ((i.zero.map fun z => z.cells.toList), i.size, i.bytes)) = some (some [.int .i64 0, .int .u8 0, .int .i64 0, (.slice none 0 0), (.slice none 0 0), .int .i64 0, .int .i64 0], 7, 88) := by kernel_rfl
theorem bt25 : shapeOf Tryz.prog 25 = some ([.int .u8 0, .int .i64 0, (.slice none 0 0), (.slice none 0 0)], [(0, 1), (1, 1), (2, 1), (3, 1)]) := by kernel_rfl
theorem bt39 : shapeOf Tryz.prog 39 = some ([.int .i64 0, .int .i64 0, .int .u8 0, .int .i64 0, .int .i64 0], [(0, 1), (1, 4)]) := by kernel_rfl
theorem bt62 : shapeOf Tryz.prog 62 = some ([(.slice none 0 0), (.slice none 0 0), (.slice none 0 0), .int .i64 0, (.slice none 0 0), (.slice none 0 0)], [(0, 4), (4, 1), (5, 1)]) := by kernel_rfl
theorem bt64 : shapeOf Tryz.prog 64 = some ([.int .i64 0, (.slice none 0 0), (.slice none 0 0), (.slice none 0 0), .int .i64 0, (.slice none 0 0), (.slice none 0 0)], [(0, 1), (1, 6)]) := by kernel_rfl
theorem bt74 : shapeOf Tryz.prog 74 = some ([.pointer none], [(0, 1)]) := by kernel_rfl
theorem bt77 : shapeOf Tryz.prog 77 = some ([.pointer none, .int .i64 0, .pointer none, .nilFunc, .nilFunc, .int .i64 0, .int .i64 0, .int .u8 0, .int .i64 0, .int .i64 0], [(0, 1), (1, 1), (2, 1), (3, 1), (4, 1), (5, 5)]) := by kernel_rfl
theorem bt141 : shapeOf Tryz.prog 141 = some ([(.slice none 0 0), (.slice none 0 0), .int .i64 0, (.slice none 0 0), (.slice none 0 0), (.slice none 0 0), .int .i64 0, (.slice none 0 0), (.slice none 0 0)], [(0, 1), (1, 1), (2, 7)]) := by kernel_rfl
theorem bt179 : shapeOf Tryz.prog 179 = some ([.int .i64 0, .pointer none, .int .i64 0, .nilFunc], [(0, 1), (1, 1), (2, 1), (3, 1)]) := by kernel_rfl
theorem bt181 : shapeOf Tryz.prog 181 = some ([.int .i64 0, .pointer none, .int .i64 0, .nilFunc], [(0, 4)]) := by kernel_rfl
theorem eqA35 (d : Nat) (w : World) (x0 y0 : Int) (x1 y1 : Int) (x2 y2 : Int) : (Op.equalIn (d + 2) 35 (.agg #[.int .u8 x0, .int .i64 x1, .int .i64 x2]) (.agg #[.int .u8 y0, .int .i64 y1, .int .i64 y2])).run Tryz.prog w = .ok (x0 == y0 && (x1 == y1 && (x2 == y2))) w := by
  refine eqA_of Tryz.underlying35 (by kernel_rfl) ?_
  refine eqf_cons (by rfl) (run_part1 Tryz.underlying5 rfl rfl) (run_part1 Tryz.underlying5 rfl rfl) (run_equalIn_int w _ 5 _ _ _ _ Tryz.underlying5) ?_
  refine eqf_cons (by rfl) (run_part1 Tryz.underlying2 rfl rfl) (run_part1 Tryz.underlying2 rfl rfl) (run_equalIn_int w _ 2 _ _ _ _ Tryz.underlying2) ?_
  exact eqf_last (by rfl) (run_part1 Tryz.underlying2 rfl rfl) (run_part1 Tryz.underlying2 rfl rfl) (run_equalIn_int w _ 2 _ _ _ _ Tryz.underlying2)
theorem szq35 : (Tryz.prog.info? 35).map (·.size) = some 3 := by kernel_rfl
theorem eqA37 (d : Nat) (w : World) (x0 y0 : Int) (x1 y1 : Int) (x2 y2 : Int) (x3 y3 : Int) : (Op.equalIn (d + 3) 37 (.agg #[.int .i64 x0, .int .u8 x1, .int .i64 x2, .int .i64 x3]) (.agg #[.int .i64 y0, .int .u8 y1, .int .i64 y2, .int .i64 y3])).run Tryz.prog w = .ok (x0 == y0 && ((x1 == y1 && (x2 == y2 && (x3 == y3))))) w := by
  refine eqA_of Tryz.underlying37 (by kernel_rfl) ?_
  refine eqf_cons (by rfl) (run_part1 Tryz.underlying3 rfl rfl) (run_part1 Tryz.underlying3 rfl rfl) (run_equalIn_int w _ 3 _ _ _ _ Tryz.underlying3) ?_
  exact eqf_last (by rfl) (run_partA Tryz.underlying35 rfl szq35 rfl) (run_partA Tryz.underlying35 rfl szq35 rfl) (eqA35 (d + 0) w _ _ _ _ _ _)
theorem szq37 : (Tryz.prog.info? 37).map (·.size) = some 4 := by kernel_rfl
theorem eqA39 (d : Nat) (w : World) (x0 y0 : Int) (x1 y1 : Int) (x2 y2 : Int) (x3 y3 : Int) (x4 y4 : Int) : (Op.equalIn (d + 4) 39 (.agg #[.int .i64 x0, .int .i64 x1, .int .u8 x2, .int .i64 x3, .int .i64 x4]) (.agg #[.int .i64 y0, .int .i64 y1, .int .u8 y2, .int .i64 y3, .int .i64 y4])).run Tryz.prog w = .ok (x0 == y0 && ((x1 == y1 && ((x2 == y2 && (x3 == y3 && (x4 == y4))))))) w := by
  refine eqA_of Tryz.underlying39 (by kernel_rfl) ?_
  refine eqf_cons (by rfl) (run_part1 Tryz.underlying33 rfl rfl) (run_part1 Tryz.underlying33 rfl rfl) (run_equalIn_int w _ 33 _ _ _ _ Tryz.underlying33) ?_
  exact eqf_last (by rfl) (run_partA Tryz.underlying37 rfl szq37 rfl) (run_partA Tryz.underlying37 rfl szq37 rfl) (eqA37 (d + 0) w _ _ _ _ _ _ _ _)
theorem fn69 : ((Tryz.prog.funcs[69]?).map fun fn => fn.body.isSome && !(fn.name == "runtime.NumGoroutine")) = some true := by rw [Tryz.func69]; rfl
theorem fn25 : ((Tryz.prog.funcs[25]?).map fun fn => fn.body.isSome && !(fn.name == "runtime.NumGoroutine")) = some true := by rw [Tryz.func25]; rfl
theorem fn27 : ((Tryz.prog.funcs[27]?).map fun fn => fn.body.isSome && !(fn.name == "runtime.NumGoroutine")) = some true := by rw [Tryz.func27]; rfl
theorem fn26 : ((Tryz.prog.funcs[26]?).map fun fn => fn.body.isSome && !(fn.name == "runtime.NumGoroutine")) = some true := by rw [Tryz.func26]; rfl
theorem fn28 : ((Tryz.prog.funcs[28]?).map fun fn => fn.body.isSome && !(fn.name == "runtime.NumGoroutine")) = some true := by rw [Tryz.func28]; rfl
theorem fn29 : ((Tryz.prog.funcs[29]?).map fun fn => fn.body.isSome && !(fn.name == "runtime.NumGoroutine")) = some true := by rw [Tryz.func29]; rfl
theorem fn31 : ((Tryz.prog.funcs[31]?).map fun fn => fn.body.isSome && !(fn.name == "runtime.NumGoroutine")) = some true := by rw [Tryz.func31]; rfl
theorem fn113 : ((Tryz.prog.funcs[113]?).map fun fn => fn.body.isSome && !(fn.name == "runtime.NumGoroutine")) = some true := by rw [Tryz.func113]; rfl
theorem fn91 : ((Tryz.prog.funcs[91]?).map fun fn => fn.body.isSome && !(fn.name == "runtime.NumGoroutine")) = some true := by rw [Tryz.func91]; rfl
theorem fn71 : ((Tryz.prog.funcs[71]?).map fun fn => fn.body.isSome && !(fn.name == "runtime.NumGoroutine")) = some true := by rw [Tryz.func71]; rfl
theorem fn66 : ((Tryz.prog.funcs[66]?).map fun fn => fn.body.isSome && !(fn.name == "runtime.NumGoroutine")) = some true := by rw [Tryz.func66]; rfl
theorem fn20 : ((Tryz.prog.funcs[20]?).map fun fn => fn.body.isSome && !(fn.name == "runtime.NumGoroutine")) = some true := by rw [Tryz.func20]; rfl
theorem fn80 : ((Tryz.prog.funcs[80]?).map fun fn => fn.body.isSome && !(fn.name == "runtime.NumGoroutine")) = some true := by rw [Tryz.func80]; rfl
theorem fn72 : ((Tryz.prog.funcs[72]?).map fun fn => fn.body.isSome && !(fn.name == "runtime.NumGoroutine")) = some true := by rw [Tryz.func72]; rfl
theorem fn63 : ((Tryz.prog.funcs[63]?).map fun fn => fn.body.isSome && !(fn.name == "runtime.NumGoroutine")) = some true := by rw [Tryz.func63]; rfl
theorem fn103 : ((Tryz.prog.funcs[103]?).map fun fn => fn.body.isSome && !(fn.name == "runtime.NumGoroutine")) = some true := by rw [Tryz.func103]; rfl
theorem fn73 : ((Tryz.prog.funcs[73]?).map fun fn => fn.body.isSome && !(fn.name == "runtime.NumGoroutine")) = some true := by rw [Tryz.func73]; rfl
theorem fn30 : ((Tryz.prog.funcs[30]?).map fun fn => fn.body.isSome && !(fn.name == "runtime.NumGoroutine")) = some true := by rw [Tryz.func30]; rfl
theorem fn32 : ((Tryz.prog.funcs[32]?).map fun fn => fn.body.isSome && !(fn.name == "runtime.NumGoroutine")) = some true := by rw [Tryz.func32]; rfl
theorem fn33 : ((Tryz.prog.funcs[33]?).map fun fn => fn.body.isSome && !(fn.name == "runtime.NumGoroutine")) = some true := by rw [Tryz.func33]; rfl
theorem fn34 : ((Tryz.prog.funcs[34]?).map fun fn => fn.body.isSome && !(fn.name == "runtime.NumGoroutine")) = some true := by rw [Tryz.func34]; rfl
theorem fn5 : ((Tryz.prog.funcs[5]?).map fun fn => fn.body.isSome && !(fn.name == "runtime.NumGoroutine")) = some true := by rw [Tryz.func5]; rfl
/-! ### capstan/mem.Arena: function 69 -/
def mem_Arena_s1.f  : Option Unit :=
  some ()
theorem mem_Arena_s1.ok   (r : Unit) (H : mem_Arena_s1.f  = some r) (w : World) (hV : Hp) (sV : Sub hV (hp w))  :
    Trip Tryz.prog 69 [.int .i64 1, .int .i64 1].toArray em hV w (fun v => HO.pure (v = .int .i64 4)) := by
  have see : Sees w em hV := ⟨sV, Dj.em_right _⟩
  refine Trip.of (P := Tryz.prog) (n := ⟨24, []⟩) Tryz.func69 rfl ⟨rfl, rfl⟩ rfl (St.begin (All.nil _)) ?_
  have ho := H
  refine CP.seq ?_
  refine CP.region ?_
  refine SP.val (Val.assign rfl) rfl rfl rfl ?_
  refine SP.nil ?_
  refine QE.then ?_
  refine CP.seq ?_
  refine CP.seq ?_
  refine CP.region ?_
  refine SP.val (Val.move rfl) rfl rfl rfl ?_
  refine SP.val (Val.cast (v := .bool false) (Val.lss rfl rfl) rfl) rfl rfl rfl ?_
  refine SP.val (Val.move rfl) rfl rfl rfl ?_
  refine SP.val (Val.move rfl) rfl rfl rfl ?_
  refine SP.val (Val.cast (v := .bool false) (Val.gtr rfl rfl) rfl) rfl rfl rfl ?_
  refine SP.val (Val.pickF rfl rfl) rfl rfl rfl ?_
  refine SP.val (Val.move rfl) rfl rfl rfl ?_
  refine SP.val (Val.move rfl) rfl rfl rfl ?_
  refine SP.val (Val.cast (v := .bool false) (Val.lss rfl rfl) rfl) rfl rfl rfl ?_
  refine SP.val (Val.pickF rfl rfl) rfl rfl rfl ?_
  refine SP.val (Val.move rfl) rfl rfl rfl ?_
  refine SP.val (Val.move rfl) rfl rfl rfl ?_
  refine SP.val (Val.cast (v := .bool false) (Val.gtr rfl rfl) rfl) rfl rfl rfl ?_
  refine SP.val (Val.pickF rfl rfl) rfl rfl rfl ?_
  refine SP.nil ?_
  refine QE.then ?_
  refine CP.condF rfl rfl ?_
  refine CP.skip ?_
  refine QE.then ?_
  refine CP.seq ?_
  refine CP.region ?_
  refine SP.val (Val.move rfl) rfl rfl rfl ?_
  refine SP.val (Val.cast (v := .int .i64 2) (Val.mul rfl rfl) rfl) rfl rfl rfl ?_
  refine SP.val (Val.move rfl) rfl rfl rfl ?_
  refine SP.val (Val.cast (v := .int .i64 2) (Val.mul rfl rfl) rfl) rfl rfl rfl ?_
  refine SP.val (Val.cast (v := .int .i64 4) (Val.add rfl rfl) rfl) rfl rfl rfl ?_
  refine SP.val (Val.assign rfl) rfl rfl rfl ?_
  refine SP.nil ?_
  refine QE.then ?_
  refine CP.ret ?_
  obtain rfl := Option.some.inj ho
  exact QE.rets (rs := [.tmp 4]) (vs := [.int .i64 4]) Tryz.results69 rfl ⟨RVs.tmp rfl, trivial⟩ (fun w2 h => St.done (fun a b p s => rfl) h)
/-! ### capstan/mem.New: function 25 -/
def mem_New_s1.f  : Option (Unit × Int) :=
  (mem_Arena_s1.f ).bind fun t3 => if (0 : Int) ≤ 1 ∧ (88 : Int) * 1 ≤ 281474976710656 ∧ (1 : Int) ≤ 9223372036854775807 then (if (0 : Int) ≤ 4 ∧ (88 : Int) * 4 ≤ 281474976710656 ∧ (4 : Int) ≤ 9223372036854775807 then (some ((), 0)) else none) else none
theorem mem_New_s1.ok   (r : Unit × Int) (H : mem_New_s1.f  = some r) (w : World) (hV : Hp) (sV : Sub hV (hp w))  :
    Trip Tryz.prog 25 [.int .i64 1, .int .i64 1, .agg #[(.slice none 0 0), (.slice none 0 0), (.slice none 0 0), .int .i64 0, (.slice none 0 0), (.slice none 0 0)]].toArray em hV w (fun v => HO.ex fun u0 : _ => HO.pand (v = .tuple #[.pointer u0, .int .i64 r.2]) (HO.seps [HO.em])) := by
  have see : Sees w em hV := ⟨sV, Dj.em_right _⟩
  refine Trip.of (P := Tryz.prog) (n := ⟨22, []⟩) Tryz.func25 rfl ⟨rfl, rfl⟩ rfl (St.begin (All.nil _)) ?_
  have ho := H
  refine CP.seq ?_
  refine CP.region ?_
  refine SP.box (cs := [(.slice none 0 0), (.slice none 0 0), (.slice none 0 0), .int .i64 0, (.slice none 0 0), (.slice none 0 0)]) rfl rfl rfl rfl (fun b1 => ?_)
  refine SP.val (Val.assign rfl) rfl rfl rfl ?_
  refine SP.val (Val.assign rfl) rfl rfl rfl ?_
  refine SP.nil ?_
  refine QE.then ?_
  refine CP.seq ?_
  refine CP.region ?_
  refine SP.val (Val.move rfl) rfl rfl rfl ?_
  refine SP.val (Val.move rfl) rfl rfl rfl ?_
  obtain ⟨t3, hc, ho⟩ := bind_some (x := mem_Arena_s1.f ) ho
  refine SP.callV see (caps := []) (.int .i64 4) fn69 rfl rfl rfl rfl (fun w2 hP hs sub ap => mem_Arena_s1.ok   _ hc w2 hP sub ) ?_
  clear hc
  refine SP.val (Val.assign rfl) rfl rfl rfl ?_
  refine SP.nil ?_
  refine QE.then ?_
  refine CP.seq ?_
  refine CP.seq ?_
  refine CP.region ?_
  refine SP.val (Val.move rfl) rfl rfl rfl ?_
  refine SP.val (Val.cast (v := .bool false) (Val.eql rfl rfl) rfl) rfl rfl rfl ?_
  refine SP.nil ?_
  refine QE.then ?_
  refine CP.condF rfl rfl ?_
  refine CP.skip ?_
  refine QE.then ?_
  refine CP.seq ?_
  refine CP.drawA (by kernel_rfl) (fun w2 k h => h.drawn k) ?_
  obtain ⟨hm4, ho⟩ := must_some ho
  obtain ⟨hm5, ho⟩ := must_some ho
  refine DA.phase (fun i => Nat.ble 0 i && Nat.blt i 6) (fun w2 => St w em hV [] [boxO b1 [(.slice none 0 0), (.slice none 0 0), (.slice none 0 0), .int .i64 0, (.slice none 0 0), (.slice none 0 0)] 62] w2) ?_
  refine DT.take 0 rfl rfl rfl rfl (by kernel_rfl) (fun _ _ _ h => h) (Val.move rfl) (fun w2 hw => hw) ?_
  refine DT.take 2 rfl rfl rfl rfl (by kernel_rfl) (fun _ _ _ h => h) (Val.move rfl) (fun w2 hw => hw) ?_
  refine DT.take 4 rfl rfl rfl rfl (by kernel_rfl) (fun _ _ _ h => h) (Val.loadA 0 rfl Tryz.underlying62 rfl sz62 rfl rfl rfl) (fun w2 hw => hw) ?_
  refine DT.take 5 rfl rfl rfl rfl (by kernel_rfl) (fun _ _ _ h => h) (Val.buildC (us := [(1, .agg #[(.slice none 0 0), (.slice none 0 0), (.slice none 0 0), .int .i64 0, (.slice none 0 0), (.slice none 0 0)])]) (ucs := [(1, [(.slice none 0 0), (.slice none 0 0), (.slice none 0 0), .int .i64 0, (.slice none 0 0), (.slice none 0 0)])]) (cs := [.int .i64 0, (.slice none 0 0), (.slice none 0 0), (.slice none 0 0), .int .i64 0, (.slice none 0 0), (.slice none 0 0)]) bt64 rfl rfl ⟨rfl, rfl, trivial⟩ (by rfl)) (fun w2 hw => hw) ?_
  refine DT.list (l2 := #[true, false, true, false, true, true, false, false, false, false]) (by kernel_rfl) ?_
  refine DT.cut (ι := Nat × Nat) (fun z => [(6, .pointer none), (7, .int .i64 0), (15, (.slice (some ⟨z.1, 0, none⟩) (1 : Int).toNat (1 : Int).toNat)), (17, (.slice (some ⟨z.2, 0, none⟩) (4 : Int).toNat (4 : Int).toNat)), (19, .agg #[.int .i64 0, (.slice none 0 0), (.slice none 0 0), (.slice none 0 0), .int .i64 0, (.slice none 0 0), (.slice none 0 0)])]) (fun z w2 => St w em hV [] [HO.em, HO.em, boxO b1 [(.slice none 0 0), (.slice none 0 0), (.slice none 0 0), .int .i64 0, (.slice none 0 0), (.slice none 0 0)] 62] w2) 4 #[true, true, true, true, true, true, false, false, false, false] (fun z => ?_) (fun J24 => ?_)
  · obtain ⟨b20, b22⟩ := z
    refine DT.next (by kernel_rfl) ?_
    refine DA.one 6 rfl (by kernel_rfl) ?_
    refine SP.val (Val.buildC (us := [(0, (.slice (some ⟨b20, 0, none⟩) (1 : Int).toNat (1 : Int).toNat)), (1, (.slice (some ⟨b22, 0, none⟩) (4 : Int).toNat (4 : Int).toNat)), (2, .agg #[.int .i64 0, (.slice none 0 0), (.slice none 0 0), (.slice none 0 0), .int .i64 0, (.slice none 0 0), (.slice none 0 0)])]) (ucs := [(0, [(.slice (some ⟨b20, 0, none⟩) (1 : Int).toNat (1 : Int).toNat)]), (1, [(.slice (some ⟨b22, 0, none⟩) (4 : Int).toNat (4 : Int).toNat)]), (2, [.int .i64 0, (.slice none 0 0), (.slice none 0 0), (.slice none 0 0), .int .i64 0, (.slice none 0 0), (.slice none 0 0)])]) (cs := [(.slice (some ⟨b20, 0, none⟩) (1 : Int).toNat (1 : Int).toNat), (.slice (some ⟨b22, 0, none⟩) (4 : Int).toNat (4 : Int).toNat), .int .i64 0, (.slice none 0 0), (.slice none 0 0), (.slice none 0 0), .int .i64 0, (.slice none 0 0), (.slice none 0 0)]) bt141 rfl rfl ⟨rfl, rfl, ⟨rfl, rfl, ⟨rfl, rfl, trivial⟩⟩⟩ (by rfl)) rfl rfl rfl ?_
    refine SP.nil ?_
    refine QE.atA ?_
    refine DA.one 7 rfl (by kernel_rfl) ?_
    refine SP.box (cs := [(.slice (some ⟨b20, 0, none⟩) (1 : Int).toNat (1 : Int).toNat), (.slice (some ⟨b22, 0, none⟩) (4 : Int).toNat (4 : Int).toNat), .int .i64 0, (.slice none 0 0), (.slice none 0 0), (.slice none 0 0), .int .i64 0, (.slice none 0 0), (.slice none 0 0)]) rfl rfl rfl rfl (fun b25 => ?_)
    refine SP.nil ?_
    refine QE.atA ?_
    refine DA.one 8 rfl (by kernel_rfl) ?_
    refine SP.val (Val.assign rfl) rfl rfl rfl ?_
    refine SP.nil ?_
    refine QE.atA ?_
    refine DA.one 9 rfl (by kernel_rfl) ?_
    refine SP.val (Val.assign rfl) rfl rfl rfl ?_
    refine SP.nil ?_
    refine QE.atA ?_
    refine DA.done (by kernel_rfl) ?_
    refine QE.then ?_
    refine CP.ret ?_
    obtain rfl := Option.some.inj ho
    exact QE.rets (rs := [.tmp 6, .tmp 7]) (vs := [.pointer (some ⟨b25, 0, none⟩), .int .i64 0]) Tryz.results25 rfl ⟨RVs.tmp rfl, RVs.tmp rfl, trivial⟩ (fun w2 h => St.done (fun a b p s => ⟨_, rfl, s⟩) (St.selO [0] rfl rfl (St.addO (x := HO.em) (fun _ => trivial) h)))
  refine DT.cut (ι := Nat) (fun z => [(6, .pointer none), (7, .int .i64 0), (15, (.slice (some ⟨z, 0, none⟩) (1 : Int).toNat (1 : Int).toNat)), (16, .int .i64 4), (19, .agg #[.int .i64 0, (.slice none 0 0), (.slice none 0 0), (.slice none 0 0), .int .i64 0, (.slice none 0 0), (.slice none 0 0)])]) (fun z w2 => St w em hV [] [HO.em, boxO b1 [(.slice none 0 0), (.slice none 0 0), (.slice none 0 0), .int .i64 0, (.slice none 0 0), (.slice none 0 0)] 62] w2) 5 #[true, true, true, false, true, true, false, false, false, false] (fun z => ?_) (fun J30 => ?_)
  · rename Nat => b28
    refine DT.any 3 [] (by kernel_rfl) ⟨⟨_, rfl, rfl, ?_⟩, trivial⟩
    · refine SP.makeAny Tryz.underlying139 inf107 rfl rfl rfl rfl hm5 (fun b31 => ?_)
      refine SP.nil ?_
      refine QE.atT (fun w2 hw => (St.selO [2] rfl rfl hw)) ?_
      refine DT.list (l2 := #[true, true, true, true, true, true, false, false, false, false]) (by kernel_rfl) ?_
      exact DT.weak (by exact ⟨rfl, rfl, rfl, rfl, rfl, trivial⟩) (by exact fun w2 hw => hw) (J24 (b28, b31))
  refine DT.cut (ι := Nat) (fun z => [(6, .pointer none), (7, .int .i64 0), (14, .int .i64 1), (17, (.slice (some ⟨z, 0, none⟩) (4 : Int).toNat (4 : Int).toNat)), (19, .agg #[.int .i64 0, (.slice none 0 0), (.slice none 0 0), (.slice none 0 0), .int .i64 0, (.slice none 0 0), (.slice none 0 0)])]) (fun z w2 => St w em hV [] [HO.em, boxO b1 [(.slice none 0 0), (.slice none 0 0), (.slice none 0 0), .int .i64 0, (.slice none 0 0), (.slice none 0 0)] 62] w2) 5 #[true, false, true, true, true, true, false, false, false, false] (fun z => ?_) (fun J35 => ?_)
  · rename Nat => b33
    refine DT.any 1 [] (by kernel_rfl) ⟨⟨_, rfl, rfl, ?_⟩, trivial⟩
    · refine SP.makeAny Tryz.underlying138 inf187 rfl rfl rfl rfl hm4 (fun b36 => ?_)
      refine SP.nil ?_
      refine QE.atT (fun w2 hw => (St.selO [2] rfl rfl hw)) ?_
      refine DT.list (l2 := #[true, true, true, true, true, true, false, false, false, false]) (by kernel_rfl) ?_
      exact DT.weak (by exact ⟨rfl, rfl, rfl, rfl, rfl, trivial⟩) (by exact fun w2 hw => (St.selO [1, 0, 2] rfl rfl hw)) (J24 (b36, b33))
  refine DT.any 1 [3] (by kernel_rfl) ⟨⟨_, rfl, rfl, ?_⟩, ⟨_, rfl, rfl, ?_⟩, trivial⟩
  · refine SP.makeAny Tryz.underlying138 inf187 rfl rfl rfl rfl hm4 (fun b38 => ?_)
    refine SP.nil ?_
    refine QE.atT (fun w2 hw => (St.selO [1] rfl rfl hw)) ?_
    refine DT.list (l2 := #[true, true, true, false, true, true, false, false, false, false]) (by kernel_rfl) ?_
    exact DT.weak (by exact ⟨rfl, rfl, rfl, rfl, rfl, trivial⟩) (by exact fun w2 hw => hw) (J30 b38)
  · refine SP.makeAny Tryz.underlying139 inf107 rfl rfl rfl rfl hm5 (fun b40 => ?_)
    refine SP.nil ?_
    refine QE.atT (fun w2 hw => (St.selO [1] rfl rfl hw)) ?_
    refine DT.list (l2 := #[true, false, true, true, true, true, false, false, false, false]) (by kernel_rfl) ?_
    exact DT.weak (by exact ⟨rfl, rfl, rfl, rfl, rfl, trivial⟩) (by exact fun w2 hw => hw) (J35 b40)
/-! ### (*capstan/reader.Reading).Over: function 27 -/
def reader_Reading_Over_s1.f  : Option Unit :=
  some ()
theorem reader_Reading_Over_s1.ok   (r : Unit) (H : reader_Reading_Over_s1.f  = some r) (w : World) (hV : Hp) (sV : Sub hV (hp w))  :
    Trip Tryz.prog 27 [.pointer none].toArray em hV w (fun v => HO.pure (v = .bool true)) := by
  have see : Sees w em hV := ⟨sV, Dj.em_right _⟩
  refine Trip.of (P := Tryz.prog) (n := ⟨12, []⟩) Tryz.func27 rfl ⟨rfl, rfl⟩ rfl (St.begin (All.nil _)) ?_
  have ho := H
  refine CP.seq ?_
  refine CP.region ?_
  refine SP.val (Val.assign rfl) rfl rfl rfl ?_
  refine SP.nil ?_
  refine QE.then ?_
  refine CP.seq ?_
  refine CP.region ?_
  refine SP.val (Val.move rfl) rfl rfl rfl ?_
  refine SP.val (Val.cast (v := .bool true) (Val.eqlPN Tryz.underlying71 rfl rfl) rfl) rfl rfl rfl ?_
  refine SP.val (Val.move rfl) rfl rfl rfl ?_
  refine SP.not rfl rfl rfl ?_
  refine SP.not rfl rfl rfl ?_
  refine SP.not rfl rfl rfl ?_
  refine SP.not rfl rfl rfl ?_
  refine SP.not rfl rfl rfl ?_
  refine SP.val (Val.pickT rfl rfl) rfl rfl rfl ?_
  refine SP.val (Val.assign rfl) rfl rfl rfl ?_
  refine SP.nil ?_
  refine QE.then ?_
  refine CP.ret ?_
  obtain rfl := Option.some.inj ho
  exact QE.rets (rs := [.tmp 2]) (vs := [.bool true]) Tryz.results27 rfl ⟨RVs.tmp rfl, trivial⟩ (fun w2 h => St.done (fun a b p s => rfl) h)
/-! ### (*capstan/reader.Reading).Step: function 26 -/
def reader_Reading_Step_s1.j1   : Option Unit :=
  some ()

def reader_Reading_Step_s1.f  : Option Unit :=
  (reader_Reading_Over_s1.f ).bind fun t3 => reader_Reading_Step_s1.j1
theorem reader_Reading_Step_s1.ok  (q_1 : Value) (r : Unit) (H : reader_Reading_Step_s1.f  = some r) (w : World) (hV : Hp) (sV : Sub hV (hp w)) (h0 : anyP.p hV) :
    Trip Tryz.prog 26 [.pointer none, q_1].toArray em hV w (fun v => HO.pure (v = .bool false)) := by
  have see : Sees w em hV := ⟨sV, Dj.em_right _⟩
  refine Trip.of (P := Tryz.prog) (n := ⟨24, []⟩) Tryz.func26 rfl ⟨rfl, rfl⟩ rfl (St.begin (All.cons (x := anyP) h0 (All.nil _))) ?_
  have ho := H
  refine CP.seq ?_
  refine CP.region ?_
  refine SP.val (Val.assign rfl) rfl rfl rfl ?_
  refine SP.nil ?_
  refine QE.then ?_
  refine CP.seq ?_
  refine CP.join (fun a w2 => reader_Reading_Step_s1.j1 = some r ∧ Env ⟨24, []⟩ [(0, .pointer none), (1, q_1), (17, .bool true)] a ∧ St w em hV [] [] w2) ?_ ?_
  · rintro a w2 ⟨ho, ha, hw⟩
    refine CP.app ha hw ?_
    clear ha hw a w2
    refine CP.condT rfl rfl ?_
    refine CP.seq ?_
    refine CP.region ?_
    refine SP.val (Val.assign rfl) rfl rfl rfl ?_
    refine SP.nil ?_
    refine QE.then ?_
    refine CP.ret ?_
    refine QE.thru (by intro e; cases e) ?_
    obtain rfl := Option.some.inj ho
    exact QE.rets (rs := [.tmp 4]) (vs := [.bool false]) Tryz.results26 rfl ⟨RVs.tmp rfl, trivial⟩ (fun w2 h => St.done (fun a b p s => rfl) h)
  · refine CP.drawA (by kernel_rfl) (fun w2 k h => h.drawn k) ?_
    refine DA.one 0 rfl (by kernel_rfl) ?_
    refine SP.val (Val.move rfl) rfl rfl rfl ?_
    refine SP.nil ?_
    refine QE.atA ?_
    refine DA.one 1 rfl (by kernel_rfl) ?_
    obtain ⟨t3, hc, ho⟩ := bind_some (x := reader_Reading_Over_s1.f ) ho
    refine SP.callV see (caps := []) (.bool true) fn27 rfl rfl rfl rfl (fun w2 hP hs sub ap => reader_Reading_Over_s1.ok   _ hc w2 hP sub ) ?_
    clear hc
    refine SP.nil ?_
    refine QE.atA ?_
    refine DA.one 2 rfl (by kernel_rfl) ?_
    refine SP.val (Val.move rfl) rfl rfl rfl ?_
    refine SP.nil ?_
    refine QE.atA ?_
    refine DA.phase (fun i => Nat.ble 3 i && Nat.blt i 9) (fun w2 => St w em hV [anyP] [] w2) ?_
    refine DT.not 3 rfl rfl rfl rfl (by kernel_rfl) (fun _ _ _ h => h) (fun w2 hw => hw) ?_
    refine DT.not 4 rfl rfl rfl rfl (by kernel_rfl) (fun _ _ _ h => h) (fun w2 hw => hw) ?_
    refine DT.not 5 rfl rfl rfl rfl (by kernel_rfl) (fun _ _ _ h => h) (fun w2 hw => hw) ?_
    refine DT.not 6 rfl rfl rfl rfl (by kernel_rfl) (fun _ _ _ h => h) (fun w2 hw => hw) ?_
    refine DT.not 7 rfl rfl rfl rfl (by kernel_rfl) (fun _ _ _ h => h) (fun w2 hw => hw) ?_
    refine DT.not 8 rfl rfl rfl rfl (by kernel_rfl) (fun _ _ _ h => h) (fun w2 hw => hw) ?_
    refine DT.next (by kernel_rfl) ?_
    refine DA.phase (fun i => Nat.ble 9 i && Nat.blt i 10) (fun w2 => St w em hV [anyP] [] w2) ?_
    refine DT.not 9 rfl rfl rfl rfl (by kernel_rfl) (fun _ _ _ h => h) (fun w2 hw => hw) ?_
    refine DT.next (by kernel_rfl) ?_
    refine DA.phase (fun i => Nat.ble 10 i && Nat.blt i 11) (fun w2 => St w em hV [anyP] [] w2) ?_
    refine DT.not 10 rfl rfl rfl rfl (by kernel_rfl) (fun _ _ _ h => h) (fun w2 hw => hw) ?_
    refine DT.next (by kernel_rfl) ?_
    refine DA.phase (fun i => Nat.ble 11 i && Nat.blt i 12) (fun w2 => St w em hV [anyP] [] w2) ?_
    refine DT.not 11 rfl rfl rfl rfl (by kernel_rfl) (fun _ _ _ h => h) (fun w2 hw => hw) ?_
    refine DT.next (by kernel_rfl) ?_
    refine DA.one 12 rfl (by kernel_rfl) ?_
    refine SP.val (Val.pickT rfl rfl) rfl rfl rfl ?_
    refine SP.nil ?_
    refine QE.atA ?_
    refine DA.done (by kernel_rfl) ?_
    exact QE.meet fun a w2 ha hw => ⟨ho, ha.sub ⟨rfl, rfl, rfl, trivial⟩, (St.selP [] rfl hw)⟩
/-! ### (*capstan/reader.Reading).Reply: function 28 -/
def reader_Reading_Reply_s1.f  : Option Unit :=
  some ()
theorem reader_Reading_Reply_s1.ok   (r : Unit) (H : reader_Reading_Reply_s1.f  = some r) (w : World) (hV : Hp) (sV : Sub hV (hp w))  :
    Trip Tryz.prog 28 [.pointer none].toArray em hV w (fun v => HO.pure (v = .agg #[.int .i64 0, .int .i64 0, .int .u8 0, .int .i64 0, .int .i64 0])) := by
  have see : Sees w em hV := ⟨sV, Dj.em_right _⟩
  refine Trip.of (P := Tryz.prog) (n := ⟨17, []⟩) Tryz.func28 rfl ⟨rfl, rfl⟩ rfl (St.begin (All.nil _)) ?_
  have ho := H
  refine CP.seq ?_
  refine CP.region ?_
  refine SP.alloc (cs := [.int .i64 0, .int .i64 0, .int .u8 0, .int .i64 0, .int .i64 0]) inf39 rfl rfl (fun b1 => ?_)
  refine SP.nil ?_
  refine QE.then ?_
  refine CP.seq ?_
  refine CP.seq ?_
  refine CP.region ?_
  refine SP.val (Val.move rfl) rfl rfl rfl ?_
  refine SP.val (Val.cast (v := .bool true) (Val.eqlPN Tryz.underlying71 rfl rfl) rfl) rfl rfl rfl ?_
  refine SP.val (Val.move rfl) rfl rfl rfl ?_
  refine SP.not rfl rfl rfl ?_
  refine SP.not rfl rfl rfl ?_
  refine SP.not rfl rfl rfl ?_
  refine SP.not rfl rfl rfl ?_
  refine SP.not rfl rfl rfl ?_
  refine SP.val (Val.pickT rfl rfl) rfl rfl rfl ?_
  refine SP.nil ?_
  refine QE.then ?_
  refine CP.condT rfl rfl ?_
  refine CP.seq ?_
  refine CP.region ?_
  refine SP.val (Val.buildC (us := []) (ucs := []) (cs := [.int .i64 0, .int .i64 0, .int .u8 0, .int .i64 0, .int .i64 0]) bt39 rfl rfl trivial (by rfl)) rfl rfl rfl ?_
  refine SP.store (v := .agg #[.int .i64 0, .int .i64 0, .int .u8 0, .int .i64 0, .int .i64 0]) (vs := [.int .i64 0, .int .i64 0, .int .u8 0, .int .i64 0, .int .i64 0]) 0 (by rfl) sz39 (by rfl) (by rfl) (by rfl) (by rfl) (by rfl) (by rfl) ?_
  refine SP.nil ?_
  refine QE.then ?_
  refine CP.ret ?_
  refine QE.thru (by intro e; cases e) ?_
  obtain rfl := Option.some.inj ho
  exact QE.rets (rs := [.cell 2 39]) (vs := [.agg #[.int .i64 0, .int .i64 0, .int .u8 0, .int .i64 0, .int .i64 0]]) Tryz.results28 rfl ⟨RVs.cellA 0 rfl rfl Tryz.underlying39 rfl sz39, trivial⟩ (fun w2 h => St.done (fun a b p s => rfl) h)
/-! ### (*capstan/reader.Reading).Over: function 27 -/
def reader_Reading_Over_s2.f  : Option Unit :=
  some ()
theorem reader_Reading_Over_s2.ok  (b1 : Nat) (r : Unit) (H : reader_Reading_Over_s2.f  = some r) (w : World) (hV : Hp) (sV : Sub hV (hp w)) (h0 : (boxP b1 [.pointer none, .int .i64 0, .pointer none, .nilFunc, .nilFunc, .int .i64 0, .int .i64 0, .int .u8 0, .int .i64 0, .int .i64 0] 77).p hV) :
    Trip Tryz.prog 27 [.pointer (some ⟨b1, 0, none⟩)].toArray em hV w (fun v => HO.pure (v = .bool true)) := by
  have see : Sees w em hV := ⟨sV, Dj.em_right _⟩
  refine Trip.of (P := Tryz.prog) (n := ⟨12, []⟩) Tryz.func27 rfl ⟨rfl, rfl⟩ rfl (St.begin (All.cons (x := boxP b1 [.pointer none, .int .i64 0, .pointer none, .nilFunc, .nilFunc, .int .i64 0, .int .i64 0, .int .u8 0, .int .i64 0, .int .i64 0] 77) h0 (All.nil _))) ?_
  have ho := H
  refine CP.seq ?_
  refine CP.region ?_
  refine SP.val (Val.assign rfl) rfl rfl rfl ?_
  refine SP.nil ?_
  refine QE.then ?_
  refine CP.seq ?_
  refine CP.region ?_
  refine SP.val (Val.move rfl) rfl rfl rfl ?_
  refine SP.val (Val.cast (v := .bool false) (Val.eqlPN Tryz.underlying71 rfl rfl) rfl) rfl rfl rfl ?_
  refine SP.val (Val.move rfl) rfl rfl rfl ?_
  refine SP.val (Val.move rfl) rfl rfl rfl ?_
  refine SP.val (Val.nilCheck rfl) rfl rfl rfl ?_
  refine SP.val (Val.fieldAddr Tryz.underlying77 rfl sz75 rfl) rfl rfl rfl ?_
  refine SP.val (Val.loadB1 see 0 rfl Tryz.underlying75 rfl rfl rfl) rfl rfl rfl ?_
  refine SP.val (Val.eqlFN Tryz.underlying75 rfl rfl rfl) rfl rfl rfl ?_
  refine SP.val (Val.pickF rfl rfl) rfl rfl rfl ?_
  refine SP.val (Val.assign rfl) rfl rfl rfl ?_
  refine SP.nil ?_
  refine QE.then ?_
  refine CP.ret ?_
  obtain rfl := Option.some.inj ho
  exact QE.rets (rs := [.tmp 2]) (vs := [.bool true]) Tryz.results27 rfl ⟨RVs.tmp rfl, trivial⟩ (fun w2 h => St.done (fun a b p s => rfl) h)
/-! ### (*capstan/reader.Reading).Step: function 26 -/
def reader_Reading_Step_s2.j1   : Option Unit :=
  some ()

def reader_Reading_Step_s2.f  : Option Unit :=
  (reader_Reading_Over_s2.f ).bind fun t5 => reader_Reading_Step_s2.j1
theorem reader_Reading_Step_s2.ok  (b1 : Nat) (q_3 : Value) (r : Unit) (H : reader_Reading_Step_s2.f  = some r) (w : World) (hV : Hp) (sV : Sub hV (hp w)) (h0 : (boxP b1 [.pointer none, .int .i64 0, .pointer none, .nilFunc, .nilFunc, .int .i64 0, .int .i64 0, .int .u8 0, .int .i64 0, .int .i64 0] 77).p hV) (h1 : anyP.p hV) :
    Trip Tryz.prog 26 [.pointer (some ⟨b1, 0, none⟩), q_3].toArray em hV w (fun v => HO.pure (v = .bool false)) := by
  have see : Sees w em hV := ⟨sV, Dj.em_right _⟩
  refine Trip.of (P := Tryz.prog) (n := ⟨24, []⟩) Tryz.func26 rfl ⟨rfl, rfl⟩ rfl (St.begin (All.cons (x := boxP b1 [.pointer none, .int .i64 0, .pointer none, .nilFunc, .nilFunc, .int .i64 0, .int .i64 0, .int .u8 0, .int .i64 0, .int .i64 0] 77) h0 (All.cons (x := anyP) h1 (All.nil _)))) ?_
  have ho := H
  refine CP.seq ?_
  refine CP.region ?_
  refine SP.val (Val.assign rfl) rfl rfl rfl ?_
  refine SP.nil ?_
  refine QE.then ?_
  refine CP.seq ?_
  refine CP.join (fun a w2 => reader_Reading_Step_s2.j1 = some r ∧ Env ⟨24, []⟩ [(0, .pointer (some ⟨b1, 0, none⟩)), (1, q_3), (17, .bool true)] a ∧ St w em hV [boxP b1 [.pointer none, .int .i64 0, .pointer none, .nilFunc, .nilFunc, .int .i64 0, .int .i64 0, .int .u8 0, .int .i64 0, .int .i64 0] 77] [] w2) ?_ ?_
  · rintro a w2 ⟨ho, ha, hw⟩
    refine CP.app ha hw ?_
    clear ha hw a w2
    refine CP.condT rfl rfl ?_
    refine CP.seq ?_
    refine CP.region ?_
    refine SP.val (Val.assign rfl) rfl rfl rfl ?_
    refine SP.nil ?_
    refine QE.then ?_
    refine CP.ret ?_
    refine QE.thru (by intro e; cases e) ?_
    obtain rfl := Option.some.inj ho
    exact QE.rets (rs := [.tmp 4]) (vs := [.bool false]) Tryz.results26 rfl ⟨RVs.tmp rfl, trivial⟩ (fun w2 h => St.done (fun a b p s => rfl) h)
  · refine CP.drawA (by kernel_rfl) (fun w2 k h => h.drawn k) ?_
    refine DA.one 0 rfl (by kernel_rfl) ?_
    refine SP.val (Val.move rfl) rfl rfl rfl ?_
    refine SP.nil ?_
    refine QE.atA ?_
    refine DA.one 1 rfl (by kernel_rfl) ?_
    obtain ⟨t5, hc, ho⟩ := bind_some (x := reader_Reading_Over_s2.f ) ho
    refine SP.callV see (caps := []) (.bool true) fn27 rfl rfl rfl rfl (fun w2 hP hs sub ap => reader_Reading_Over_s2.ok  _ _ hc w2 hP sub (ap.get 0 rfl)) ?_
    clear hc
    refine SP.nil ?_
    refine QE.atA ?_
    refine DA.one 2 rfl (by kernel_rfl) ?_
    refine SP.val (Val.move rfl) rfl rfl rfl ?_
    refine SP.nil ?_
    refine QE.atA ?_
    refine DA.phase (fun i => Nat.ble 3 i && Nat.blt i 9) (fun w2 => St w em hV [boxP b1 [.pointer none, .int .i64 0, .pointer none, .nilFunc, .nilFunc, .int .i64 0, .int .i64 0, .int .u8 0, .int .i64 0, .int .i64 0] 77, anyP] [] w2) ?_
    refine DT.not 3 rfl rfl rfl rfl (by kernel_rfl) (fun _ _ _ h => h) (fun w2 hw => hw) ?_
    refine DT.not 4 rfl rfl rfl rfl (by kernel_rfl) (fun _ _ _ h => h) (fun w2 hw => hw) ?_
    refine DT.not 5 rfl rfl rfl rfl (by kernel_rfl) (fun _ _ _ h => h) (fun w2 hw => hw) ?_
    refine DT.not 6 rfl rfl rfl rfl (by kernel_rfl) (fun _ _ _ h => h) (fun w2 hw => hw) ?_
    refine DT.not 7 rfl rfl rfl rfl (by kernel_rfl) (fun _ _ _ h => h) (fun w2 hw => hw) ?_
    refine DT.not 8 rfl rfl rfl rfl (by kernel_rfl) (fun _ _ _ h => h) (fun w2 hw => hw) ?_
    refine DT.next (by kernel_rfl) ?_
    refine DA.phase (fun i => Nat.ble 9 i && Nat.blt i 10) (fun w2 => St w em hV [boxP b1 [.pointer none, .int .i64 0, .pointer none, .nilFunc, .nilFunc, .int .i64 0, .int .i64 0, .int .u8 0, .int .i64 0, .int .i64 0] 77, anyP] [] w2) ?_
    refine DT.not 9 rfl rfl rfl rfl (by kernel_rfl) (fun _ _ _ h => h) (fun w2 hw => hw) ?_
    refine DT.next (by kernel_rfl) ?_
    refine DA.phase (fun i => Nat.ble 10 i && Nat.blt i 11) (fun w2 => St w em hV [boxP b1 [.pointer none, .int .i64 0, .pointer none, .nilFunc, .nilFunc, .int .i64 0, .int .i64 0, .int .u8 0, .int .i64 0, .int .i64 0] 77, anyP] [] w2) ?_
    refine DT.not 10 rfl rfl rfl rfl (by kernel_rfl) (fun _ _ _ h => h) (fun w2 hw => hw) ?_
    refine DT.next (by kernel_rfl) ?_
    refine DA.phase (fun i => Nat.ble 11 i && Nat.blt i 12) (fun w2 => St w em hV [boxP b1 [.pointer none, .int .i64 0, .pointer none, .nilFunc, .nilFunc, .int .i64 0, .int .i64 0, .int .u8 0, .int .i64 0, .int .i64 0] 77, anyP] [] w2) ?_
    refine DT.not 11 rfl rfl rfl rfl (by kernel_rfl) (fun _ _ _ h => h) (fun w2 hw => hw) ?_
    refine DT.next (by kernel_rfl) ?_
    refine DA.one 12 rfl (by kernel_rfl) ?_
    refine SP.val (Val.pickT rfl rfl) rfl rfl rfl ?_
    refine SP.nil ?_
    refine QE.atA ?_
    refine DA.done (by kernel_rfl) ?_
    exact QE.meet fun a w2 ha hw => ⟨ho, ha.sub ⟨rfl, rfl, rfl, trivial⟩, (St.selP [0] rfl hw)⟩
/-! ### (*capstan/reader.Reading).Reply: function 28 -/
def reader_Reading_Reply_s2.f  : Option Unit :=
  some ()
theorem reader_Reading_Reply_s2.ok  (b1 : Nat) (r : Unit) (H : reader_Reading_Reply_s2.f  = some r) (w : World) (hV : Hp) (sV : Sub hV (hp w)) (h0 : (boxP b1 [.pointer none, .int .i64 0, .pointer none, .nilFunc, .nilFunc, .int .i64 0, .int .i64 0, .int .u8 0, .int .i64 0, .int .i64 0] 77).p hV) :
    Trip Tryz.prog 28 [.pointer (some ⟨b1, 0, none⟩)].toArray em hV w (fun v => HO.pure (v = .agg #[.int .i64 0, .int .i64 0, .int .u8 0, .int .i64 0, .int .i64 0])) := by
  have see : Sees w em hV := ⟨sV, Dj.em_right _⟩
  refine Trip.of (P := Tryz.prog) (n := ⟨17, []⟩) Tryz.func28 rfl ⟨rfl, rfl⟩ rfl (St.begin (All.cons (x := boxP b1 [.pointer none, .int .i64 0, .pointer none, .nilFunc, .nilFunc, .int .i64 0, .int .i64 0, .int .u8 0, .int .i64 0, .int .i64 0] 77) h0 (All.nil _))) ?_
  have ho := H
  refine CP.seq ?_
  refine CP.region ?_
  refine SP.alloc (cs := [.int .i64 0, .int .i64 0, .int .u8 0, .int .i64 0, .int .i64 0]) inf39 rfl rfl (fun b3 => ?_)
  refine SP.nil ?_
  refine QE.then ?_
  refine CP.seq ?_
  refine CP.seq ?_
  refine CP.region ?_
  refine SP.val (Val.move rfl) rfl rfl rfl ?_
  refine SP.val (Val.cast (v := .bool false) (Val.eqlPN Tryz.underlying71 rfl rfl) rfl) rfl rfl rfl ?_
  refine SP.val (Val.move rfl) rfl rfl rfl ?_
  refine SP.val (Val.move rfl) rfl rfl rfl ?_
  refine SP.val (Val.nilCheck rfl) rfl rfl rfl ?_
  refine SP.val (Val.fieldAddr Tryz.underlying77 rfl sz75 rfl) rfl rfl rfl ?_
  refine SP.val (Val.loadB1 see 0 rfl Tryz.underlying75 rfl rfl rfl) rfl rfl rfl ?_
  refine SP.val (Val.neqFN Tryz.underlying75 rfl rfl rfl) rfl rfl rfl ?_
  refine SP.val (Val.pickF rfl rfl) rfl rfl rfl ?_
  refine SP.nil ?_
  refine QE.then ?_
  refine CP.condF rfl rfl ?_
  refine CP.skip ?_
  refine QE.then ?_
  refine CP.seq ?_
  refine CP.region ?_
  refine SP.val (Val.move rfl) rfl rfl rfl ?_
  refine SP.val (Val.nilCheck rfl) rfl rfl rfl ?_
  refine SP.val (Val.fieldAddr Tryz.underlying77 rfl sz39 rfl) rfl rfl rfl ?_
  refine SP.val (Val.loadBA see 0 rfl Tryz.underlying39 rfl sz39 rfl rfl rfl) rfl rfl rfl ?_
  refine SP.store (v := .agg #[.int .i64 0, .int .i64 0, .int .u8 0, .int .i64 0, .int .i64 0]) (vs := [.int .i64 0, .int .i64 0, .int .u8 0, .int .i64 0, .int .i64 0]) 0 (by rfl) sz39 (by rfl) (by rfl) (by rfl) (by rfl) (by rfl) (by rfl) ?_
  refine SP.nil ?_
  refine QE.then ?_
  refine CP.ret ?_
  obtain rfl := Option.some.inj ho
  exact QE.rets (rs := [.cell 2 39]) (vs := [.agg #[.int .i64 0, .int .i64 0, .int .u8 0, .int .i64 0, .int .i64 0]]) Tryz.results28 rfl ⟨RVs.cellA 0 rfl rfl Tryz.underlying39 rfl sz39, trivial⟩ (fun w2 h => St.done (fun a b p s => rfl) h)
/-! ### capstan/capstanref21.Arena: function 29 -/
def capstanref21_Arena.f (procs_0 : Int) (every_1 : Int) : Option Int :=
  if ((((decide (procs_0 < 1)) || (decide (procs_0 > 64))) || (decide (every_1 < 1))) || (decide (every_1 > 64))) = true then (some 0) else (some (IntKind.i64.wrap ((IntKind.i64.wrap (2 * every_1)) + (IntKind.i64.wrap (2 * procs_0)))))
theorem capstanref21_Arena.ok (procs_0 : Int) (every_1 : Int)  (r : Int) (H : capstanref21_Arena.f procs_0 every_1 = some r) (w : World) (hV : Hp) (sV : Sub hV (hp w))  :
    Trip Tryz.prog 29 [.int .i64 procs_0, .int .i64 every_1].toArray em hV w (fun v => HO.pure (v = .int .i64 r)) := by
  have see : Sees w em hV := ⟨sV, Dj.em_right _⟩
  refine Trip.of (P := Tryz.prog) (n := ⟨24, []⟩) Tryz.func29 rfl ⟨rfl, rfl⟩ rfl (St.begin (All.nil _)) ?_
  have ho := H
  refine CP.seq ?_
  refine CP.region ?_
  refine SP.val (Val.assign rfl) rfl rfl rfl ?_
  refine SP.nil ?_
  refine QE.then ?_
  refine CP.seq ?_
  refine CP.seq ?_
  refine CP.region ?_
  refine SP.val (Val.move rfl) rfl rfl rfl ?_
  refine SP.val (Val.lss rfl rfl) rfl rfl rfl ?_
  refine SP.val (Val.move rfl) rfl rfl rfl ?_
  refine SP.join 3 (fun a w2 => Env ⟨24, []⟩ [(0, .int .i64 procs_0), (1, .int .i64 every_1), (10, .bool ((decide (procs_0 < 1)) || (decide (procs_0 > 64))))] a ∧ St w em hV [] [] w2) ?_ ?_
  · rintro a w2 ⟨ha, hw⟩
    refine SP.app ha hw ?_
    clear ha hw a w2
    refine SP.val (Val.move rfl) rfl rfl rfl ?_
    refine SP.join 3 (fun a w2 => Env ⟨24, []⟩ [(0, .int .i64 procs_0), (1, .int .i64 every_1), (14, .bool (((decide (procs_0 < 1)) || (decide (procs_0 > 64))) || (decide (every_1 < 1))))] a ∧ St w em hV [] [] w2) ?_ ?_
    · rintro a w2 ⟨ha, hw⟩
      refine SP.app ha hw ?_
      clear ha hw a w2
      refine SP.val (Val.move rfl) rfl rfl rfl ?_
      refine SP.join 3 (fun a w2 => Env ⟨24, []⟩ [(0, .int .i64 procs_0), (1, .int .i64 every_1), (18, .bool ((((decide (procs_0 < 1)) || (decide (procs_0 > 64))) || (decide (every_1 < 1))) || (decide (every_1 > 64))))] a ∧ St w em hV [] [] w2) ?_ ?_
      · rintro a w2 ⟨ha, hw⟩
        refine SP.app ha hw ?_
        clear ha hw a w2
        refine SP.nil ?_
        refine QE.then ?_
        rcases if_some ho with ⟨hc, ho⟩ | ⟨hc, ho⟩
        · refine CP.condT rfl hc ?_
          refine CP.seq ?_
          refine CP.region ?_
          refine SP.val (Val.assign rfl) rfl rfl rfl ?_
          refine SP.nil ?_
          refine QE.then ?_
          refine CP.ret ?_
          refine QE.thru (by intro e; cases e) ?_
          obtain rfl := Option.some.inj ho
          exact QE.rets (rs := [.tmp 4]) (vs := [.int .i64 0]) Tryz.results29 rfl ⟨RVs.tmp rfl, trivial⟩ (fun w2 h => St.done (fun a b p s => rfl) h)
        · refine CP.condF rfl (bf hc) ?_
          refine CP.skip ?_
          refine QE.then ?_
          refine CP.seq ?_
          refine CP.region ?_
          refine SP.val (Val.move rfl) rfl rfl rfl ?_
          refine SP.val (Val.mul rfl rfl) rfl rfl rfl ?_
          refine SP.val (Val.move rfl) rfl rfl rfl ?_
          refine SP.val (Val.mul rfl rfl) rfl rfl rfl ?_
          refine SP.val (Val.add rfl rfl) rfl rfl rfl ?_
          refine SP.val (Val.assign rfl) rfl rfl rfl ?_
          refine SP.nil ?_
          refine QE.then ?_
          refine CP.ret ?_
          obtain rfl := Option.some.inj ho
          exact QE.rets (rs := [.tmp 4]) (vs := [.int .i64 (IntKind.i64.wrap ((IntKind.i64.wrap (2 * every_1)) + (IntKind.i64.wrap (2 * procs_0))))]) Tryz.results29 rfl ⟨RVs.tmp rfl, trivial⟩ (fun w2 h => St.done (fun a b p s => rfl) h)
      · intro J
        by_cases hc : (((decide (procs_0 < 1)) || (decide (procs_0 > 64))) || (decide (every_1 < 1))) = true
        · have hq6 := hc
          refine SP.isT (d := 15) rfl hq6 ?_
          refine SP.not rfl rfl rfl ?_
          refine SP.not rfl rfl rfl ?_
          refine SP.val (Val.pickT rfl rfl) rfl rfl rfl ?_
          exact J fun a w2 ha hw => ⟨ha.sub ⟨rfl, rfl, congrArg (fun z => some (Value.bool z)) (or_t hq6), trivial⟩, hw⟩
        · have hq6 := (bf hc)
          refine SP.isF (d := 15) rfl hq6 ?_
          refine SP.val (Val.move rfl) rfl rfl rfl ?_
          refine SP.val (Val.gtr rfl rfl) rfl rfl rfl ?_
          refine SP.val (Val.pickF rfl rfl) rfl rfl rfl ?_
          exact J fun a w2 ha hw => ⟨ha.sub ⟨rfl, rfl, congrArg (fun z => some (Value.bool z)) (or_f hq6 rfl), trivial⟩, hw⟩
    · intro J
      by_cases hc : ((decide (procs_0 < 1)) || (decide (procs_0 > 64))) = true
      · have hq4 := hc
        refine SP.isT (d := 11) rfl hq4 ?_
        refine SP.not rfl rfl rfl ?_
        refine SP.not rfl rfl rfl ?_
        refine SP.val (Val.pickT rfl rfl) rfl rfl rfl ?_
        exact J fun a w2 ha hw => ⟨ha.sub ⟨rfl, rfl, congrArg (fun z => some (Value.bool z)) (or_t hq4), trivial⟩, hw⟩
      · have hq4 := (bf hc)
        refine SP.isF (d := 11) rfl hq4 ?_
        refine SP.val (Val.move rfl) rfl rfl rfl ?_
        refine SP.val (Val.lss rfl rfl) rfl rfl rfl ?_
        refine SP.val (Val.pickF rfl rfl) rfl rfl rfl ?_
        exact J fun a w2 ha hw => ⟨ha.sub ⟨rfl, rfl, congrArg (fun z => some (Value.bool z)) (or_f hq4 rfl), trivial⟩, hw⟩
  · intro J
    by_cases hc : procs_0 < 1
    · have hq2 := (decide_eq_true hc)
      refine SP.isT (d := 7) rfl hq2 ?_
      refine SP.not rfl rfl rfl ?_
      refine SP.not rfl rfl rfl ?_
      refine SP.val (Val.pickT rfl rfl) rfl rfl rfl ?_
      exact J fun a w2 ha hw => ⟨ha.sub ⟨rfl, rfl, congrArg (fun z => some (Value.bool z)) (or_t hq2), trivial⟩, hw⟩
    · have hq2 := (decide_eq_false hc)
      refine SP.isF (d := 7) rfl hq2 ?_
      refine SP.val (Val.move rfl) rfl rfl rfl ?_
      refine SP.val (Val.gtr rfl rfl) rfl rfl rfl ?_
      refine SP.val (Val.pickF rfl rfl) rfl rfl rfl ?_
      exact J fun a w2 ha hw => ⟨ha.sub ⟨rfl, rfl, congrArg (fun z => some (Value.bool z)) (or_f hq2 rfl), trivial⟩, hw⟩
/-! ### capstan/capstanlaw19.Tell: function 31 -/
def capstanlaw19_Tell.f  : Option Unit :=
  some ()
theorem capstanlaw19_Tell.ok   (r : Unit) (H : capstanlaw19_Tell.f  = some r) (w : World) (hV : Hp) (sV : Sub hV (hp w))  :
    Trip Tryz.prog 31 [].toArray em hV w (fun v => HO.pure (v = .agg #[.int .u8 1, .int .i64 1, (.slice none 0 0), (.slice none 0 0)])) := by
  have see : Sees w em hV := ⟨sV, Dj.em_right _⟩
  refine Trip.of (P := Tryz.prog) (n := ⟨2, []⟩) Tryz.func31 rfl ⟨rfl, rfl⟩ rfl (St.begin (All.nil _)) ?_
  have ho := H
  refine CP.seq ?_
  refine CP.region ?_
  refine SP.alloc (cs := [.int .u8 0, .int .i64 0, (.slice none 0 0), (.slice none 0 0)]) inf25 rfl rfl (fun b1 => ?_)
  refine SP.nil ?_
  refine QE.then ?_
  refine CP.seq ?_
  refine CP.region ?_
  refine SP.val (Val.buildC (us := [(0, .int .u8 1), (1, .int .i64 1)]) (ucs := [(0, [.int .u8 1]), (1, [.int .i64 1])]) (cs := [.int .u8 1, .int .i64 1, (.slice none 0 0), (.slice none 0 0)]) bt25 rfl rfl ⟨rfl, rfl, ⟨rfl, rfl, trivial⟩⟩ (by rfl)) rfl rfl rfl ?_
  refine SP.store (v := .agg #[.int .u8 1, .int .i64 1, (.slice none 0 0), (.slice none 0 0)]) (vs := [.int .u8 1, .int .i64 1, (.slice none 0 0), (.slice none 0 0)]) 0 (by rfl) sz25 (by rfl) (by rfl) (by rfl) (by rfl) (by rfl) (by rfl) ?_
  refine SP.nil ?_
  refine QE.then ?_
  refine CP.ret ?_
  obtain rfl := Option.some.inj ho
  exact QE.rets (rs := [.cell 0 25]) (vs := [.agg #[.int .u8 1, .int .i64 1, (.slice none 0 0), (.slice none 0 0)]]) Tryz.results31 rfl ⟨RVs.cellA 0 rfl rfl Tryz.underlying25 rfl sz25, trivial⟩ (fun w2 h => St.done (fun a b p s => rfl) h)
/-! ### slices.IndexFunc[[]capstan/api.Value,capstan/api.Value]: function 113 -/
def slices_IndexFunc_api_Value_api_Value_s1.f  : Option Unit :=
  some ()
theorem slices_IndexFunc_api_Value_api_Value_s1.ok   (r : Unit) (H : slices_IndexFunc_api_Value_api_Value_s1.f  = some r) (w : World) (hV : Hp) (sV : Sub hV (hp w))  :
    Trip Tryz.prog 113 [(.slice none 0 0), .func (.func 101) #[] #[]].toArray em hV w (fun v => HO.pure (v = .int .i64 (-1))) := by
  have see : Sees w em hV := ⟨sV, Dj.em_right _⟩
  refine Trip.of (P := Tryz.prog) (n := ⟨19, []⟩) Tryz.func113 rfl ⟨rfl, rfl⟩ rfl (St.begin (All.nil _)) ?_
  have ho := H
  refine CP.seq ?_
  refine CP.region ?_
  refine SP.val (Val.assign rfl) rfl rfl rfl ?_
  refine SP.nil ?_
  refine QE.then ?_
  refine CP.seq ?_
  refine CP.seq ?_
  refine CP.region ?_
  refine SP.val (Val.move rfl) rfl rfl rfl ?_
  refine SP.val (Val.lenN Tryz.underlying22 rfl) rfl rfl rfl ?_
  refine SP.val (Val.move rfl) rfl rfl rfl ?_
  refine SP.nil ?_
  refine QE.then ?_
  refine CP.block ?_
  refine CP.rounds 2 ?_
  refine LP.step ?_
  refine CP.seq ?_
  refine CP.region ?_
  refine SP.val (Val.cast (v := .bool false) (Val.lss rfl rfl) rfl) rfl rfl rfl ?_
  refine SP.nil ?_
  refine QE.then ?_
  refine CP.seq ?_
  refine CP.condF rfl rfl ?_
  refine CP.exit ?_
  refine QE.thru (by intro e; cases e) ?_
  refine QE.thru (by intro e; cases e) ?_
  refine QE.blockE ?_
  refine QE.then ?_
  refine CP.seq ?_
  refine CP.region ?_
  refine SP.val (Val.assign rfl) rfl rfl rfl ?_
  refine SP.nil ?_
  refine QE.then ?_
  refine CP.ret ?_
  obtain rfl := Option.some.inj ho
  exact QE.rets (rs := [.tmp 4]) (vs := [.int .i64 (-1)]) Tryz.results113 rfl ⟨RVs.tmp rfl, trivial⟩ (fun w2 h => St.done (fun a b p s => rfl) h)
/-! ### slices.ContainsFunc[[]capstan/api.Value,capstan/api.Value]: function 91 -/
def slices_ContainsFunc_api_Value_api_Value_s1.f  : Option Unit :=
  (slices_IndexFunc_api_Value_api_Value_s1.f ).bind fun t1 => some ()
theorem slices_ContainsFunc_api_Value_api_Value_s1.ok   (r : Unit) (H : slices_ContainsFunc_api_Value_api_Value_s1.f  = some r) (w : World) (hV : Hp) (sV : Sub hV (hp w))  :
    Trip Tryz.prog 91 [(.slice none 0 0), .func (.func 101) #[] #[]].toArray em hV w (fun v => HO.pure (v = .bool false)) := by
  have see : Sees w em hV := ⟨sV, Dj.em_right _⟩
  refine Trip.of (P := Tryz.prog) (n := ⟨9, []⟩) Tryz.func91 rfl ⟨rfl, rfl⟩ rfl (St.begin (All.nil _)) ?_
  have ho := H
  refine CP.seq ?_
  refine CP.region ?_
  refine SP.val (Val.assign rfl) rfl rfl rfl ?_
  refine SP.nil ?_
  refine QE.then ?_
  refine CP.seq ?_
  refine CP.region ?_
  refine SP.val (Val.move rfl) rfl rfl rfl ?_
  refine SP.val (Val.move rfl) rfl rfl rfl ?_
  obtain ⟨t1, hc, ho⟩ := bind_some (x := slices_IndexFunc_api_Value_api_Value_s1.f ) ho
  refine SP.callV see (caps := []) (.int .i64 (-1)) fn113 rfl rfl rfl rfl (fun w2 hP hs sub ap => slices_IndexFunc_api_Value_api_Value_s1.ok   _ hc w2 hP sub ) ?_
  clear hc
  refine SP.val (Val.cast (v := .bool false) (Val.geq rfl rfl) rfl) rfl rfl rfl ?_
  refine SP.val (Val.assign rfl) rfl rfl rfl ?_
  refine SP.nil ?_
  refine QE.then ?_
  refine CP.ret ?_
  obtain rfl := Option.some.inj ho
  exact QE.rets (rs := [.tmp 4]) (vs := [.bool false]) Tryz.results91 rfl ⟨RVs.tmp rfl, trivial⟩ (fun w2 h => St.done (fun a b p s => rfl) h)
/-! ### capstan/entry.May: function 71 -/
def entry_May_s1.f  : Option Unit :=
  (slices_ContainsFunc_api_Value_api_Value_s1.f ).bind fun t3 => some ()
theorem entry_May_s1.ok   (r : Unit) (H : entry_May_s1.f  = some r) (w : World) (hV : Hp) (sV : Sub hV (hp w))  :
    Trip Tryz.prog 71 [.agg #[.int .u8 1, .int .i64 1, (.slice none 0 0), (.slice none 0 0)]].toArray em hV w (fun v => HO.pure (v = .bool true)) := by
  have see : Sees w em hV := ⟨sV, Dj.em_right _⟩
  refine Trip.of (P := Tryz.prog) (n := ⟨52, []⟩) Tryz.func71 rfl ⟨rfl, rfl⟩ rfl (St.begin (All.nil _)) ?_
  have ho := H
  refine CP.seq ?_
  refine CP.region ?_
  refine SP.box (cs := [.int .u8 1, .int .i64 1, (.slice none 0 0), (.slice none 0 0)]) rfl rfl rfl rfl (fun b1 => ?_)
  refine SP.val (Val.assign rfl) rfl rfl rfl ?_
  refine SP.nil ?_
  refine QE.then ?_
  refine CP.seq ?_
  refine CP.seq ?_
  refine CP.region ?_
  refine SP.val (Val.fieldAddr Tryz.underlying25 rfl sz5 rfl) rfl rfl rfl ?_
  refine SP.val (Val.load1 0 rfl Tryz.underlying5 rfl rfl rfl) rfl rfl rfl ?_
  refine SP.nil ?_
  refine QE.then ?_
  refine CP.block ?_
  refine CP.seq ?_
  refine CP.region ?_
  refine SP.val (Val.cast (v := .bool true) (Val.eql rfl rfl) rfl) rfl rfl rfl ?_
  refine SP.val (Val.assign rfl) rfl rfl rfl ?_
  refine SP.nil ?_
  refine QE.then ?_
  refine CP.condT rfl rfl ?_
  refine CP.seq ?_
  refine CP.region ?_
  refine SP.val (Val.assign rfl) rfl rfl rfl ?_
  refine SP.nil ?_
  refine QE.then ?_
  refine CP.seq ?_
  refine CP.region ?_
  refine SP.val (Val.fieldAddr Tryz.underlying25 rfl sz3 rfl) rfl rfl rfl ?_
  refine SP.val (Val.load1 0 rfl Tryz.underlying3 rfl rfl rfl) rfl rfl rfl ?_
  refine SP.val (Val.cast (v := .bool true) (Val.geq rfl rfl) rfl) rfl rfl rfl ?_
  refine SP.val (Val.move rfl) rfl rfl rfl ?_
  refine SP.val (Val.fieldAddr Tryz.underlying25 rfl sz3 rfl) rfl rfl rfl ?_
  refine SP.val (Val.load1 0 rfl Tryz.underlying3 rfl rfl rfl) rfl rfl rfl ?_
  refine SP.val (Val.cast (v := .bool true) (Val.lss rfl rfl) rfl) rfl rfl rfl ?_
  refine SP.val (Val.pickT rfl rfl) rfl rfl rfl ?_
  refine SP.val (Val.move rfl) rfl rfl rfl ?_
  refine SP.val (Val.fieldAddr Tryz.underlying25 rfl sz22 rfl) rfl rfl rfl ?_
  refine SP.val (Val.load1 0 rfl Tryz.underlying22 rfl rfl rfl) rfl rfl rfl ?_
  refine SP.val (Val.lenN Tryz.underlying22 rfl) rfl rfl rfl ?_
  refine SP.val (Val.cast (v := .bool true) (Val.leq rfl rfl) rfl) rfl rfl rfl ?_
  refine SP.val (Val.pickT rfl rfl) rfl rfl rfl ?_
  refine SP.val (Val.move rfl) rfl rfl rfl ?_
  refine SP.val (Val.fieldAddr Tryz.underlying25 rfl sz22 rfl) rfl rfl rfl ?_
  refine SP.val (Val.load1 0 rfl Tryz.underlying22 rfl rfl rfl) rfl rfl rfl ?_
  refine SP.val (Val.move rfl) rfl rfl rfl ?_
  obtain ⟨t3, hc, ho⟩ := bind_some (x := slices_ContainsFunc_api_Value_api_Value_s1.f ) ho
  refine SP.callV see (caps := []) (.bool false) fn91 rfl rfl rfl rfl (fun w2 hP hs sub ap => slices_ContainsFunc_api_Value_api_Value_s1.ok   _ hc w2 hP sub ) ?_
  clear hc
  refine SP.val (Val.cast (v := .bool true) (Val.notB rfl) rfl) rfl rfl rfl ?_
  refine SP.val (Val.pickT rfl rfl) rfl rfl rfl ?_
  refine SP.val (Val.move rfl) rfl rfl rfl ?_
  refine SP.val (Val.fieldAddr Tryz.underlying25 rfl sz23 rfl) rfl rfl rfl ?_
  refine SP.val (Val.load1 0 rfl Tryz.underlying23 rfl rfl rfl) rfl rfl rfl ?_
  refine SP.val (Val.lenN Tryz.underlying23 rfl) rfl rfl rfl ?_
  refine SP.val (Val.cast (v := .bool true) (Val.eql rfl rfl) rfl) rfl rfl rfl ?_
  refine SP.val (Val.pickT rfl rfl) rfl rfl rfl ?_
  refine SP.val (Val.assign rfl) rfl rfl rfl ?_
  refine SP.nil ?_
  refine QE.then ?_
  refine CP.ret ?_
  refine QE.blockR ?_
  refine QE.thru (by intro e; cases e) ?_
  obtain rfl := Option.some.inj ho
  exact QE.rets (rs := [.tmp 2]) (vs := [.bool true]) Tryz.results71 rfl ⟨RVs.tmp rfl, trivial⟩ (fun w2 h => St.done (fun a b p s => rfl) h)
/-! ### (*capstan/replica.Replica).none: function 66 -/
def replica_Replica_none_s1.f  : Option Unit :=
  some ()
theorem replica_Replica_none_s1.ok   (r : Unit) (H : replica_Replica_none_s1.f  = some r) (w : World) (hV : Hp) (sV : Sub hV (hp w))  :
    Trip Tryz.prog 66 [.pointer none].toArray em hV w (fun v => HO.pure (v = .bool true)) := by
  have see : Sees w em hV := ⟨sV, Dj.em_right _⟩
  refine Trip.of (P := Tryz.prog) (n := ⟨13, []⟩) Tryz.func66 rfl ⟨rfl, rfl⟩ rfl (St.begin (All.nil _)) ?_
  have ho := H
  refine CP.seq ?_
  refine CP.region ?_
  refine SP.val (Val.assign rfl) rfl rfl rfl ?_
  refine SP.nil ?_
  refine QE.then ?_
  refine CP.seq ?_
  refine CP.region ?_
  refine SP.val (Val.move rfl) rfl rfl rfl ?_
  refine SP.val (Val.cast (v := .bool true) (Val.eqlPN Tryz.underlying51 rfl rfl) rfl) rfl rfl rfl ?_
  refine SP.val (Val.move rfl) rfl rfl rfl ?_
  refine SP.not rfl rfl rfl ?_
  refine SP.not rfl rfl rfl ?_
  refine SP.not rfl rfl rfl ?_
  refine SP.not rfl rfl rfl ?_
  refine SP.not rfl rfl rfl ?_
  refine SP.not rfl rfl rfl ?_
  refine SP.val (Val.pickT rfl rfl) rfl rfl rfl ?_
  refine SP.val (Val.assign rfl) rfl rfl rfl ?_
  refine SP.nil ?_
  refine QE.then ?_
  refine CP.ret ?_
  obtain rfl := Option.some.inj ho
  exact QE.rets (rs := [.tmp 2]) (vs := [.bool true]) Tryz.results66 rfl ⟨RVs.tmp rfl, trivial⟩ (fun w2 h => St.done (fun a b p s => rfl) h)
/-! ### (*capstan/replica.Replica).Seqs: function 20 -/
def replica_Replica_Seqs_s1.f  : Option Unit :=
  (replica_Replica_none_s1.f ).bind fun t1 => some ()
theorem replica_Replica_Seqs_s1.ok   (r : Unit) (H : replica_Replica_Seqs_s1.f  = some r) (w : World) (hV : Hp) (sV : Sub hV (hp w))  :
    Trip Tryz.prog 20 [.pointer none].toArray em hV w (fun v => HO.pure (v = (.slice none 0 0))) := by
  have see : Sees w em hV := ⟨sV, Dj.em_right _⟩
  refine Trip.of (P := Tryz.prog) (n := ⟨19, []⟩) Tryz.func20 rfl ⟨rfl, rfl⟩ rfl (St.begin (All.nil _)) ?_
  have ho := H
  refine CP.seq ?_
  refine CP.region ?_
  refine SP.val (Val.assign rfl) rfl rfl rfl ?_
  refine SP.nil ?_
  refine QE.then ?_
  refine CP.seq ?_
  refine CP.seq ?_
  refine CP.region ?_
  refine SP.val (Val.move rfl) rfl rfl rfl ?_
  obtain ⟨t1, hc, ho⟩ := bind_some (x := replica_Replica_none_s1.f ) ho
  refine SP.callV see (caps := []) (.bool true) fn66 rfl rfl rfl rfl (fun w2 hP hs sub ap => replica_Replica_none_s1.ok   _ hc w2 hP sub ) ?_
  clear hc
  refine SP.nil ?_
  refine QE.then ?_
  refine CP.condT rfl rfl ?_
  refine CP.seq ?_
  refine CP.region ?_
  refine SP.val (Val.assign rfl) rfl rfl rfl ?_
  refine SP.nil ?_
  refine QE.then ?_
  refine CP.ret ?_
  refine QE.thru (by intro e; cases e) ?_
  obtain rfl := Option.some.inj ho
  exact QE.rets (rs := [.tmp 2]) (vs := [(.slice none 0 0)]) Tryz.results20 rfl ⟨RVs.tmp rfl, trivial⟩ (fun w2 h => St.done (fun a b p s => rfl) h)
/-! ### capstan/snap.NewCatch: function 80 -/
def snap_NewCatch_s1.f (p_0 : Int) : Option Unit :=
  some ()
theorem snap_NewCatch_s1.ok (p_0 : Int)  (r : Unit) (H : snap_NewCatch_s1.f p_0 = some r) (w : World) (hV : Hp) (sV : Sub hV (hp w))  :
    Trip Tryz.prog 80 [.int .i64 p_0, .pointer none, .int .i64 0].toArray em hV w (fun v => HO.ex fun u0 : _ => HO.pand (v = .pointer u0) (HO.seps [HO.em])) := by
  have see : Sees w em hV := ⟨sV, Dj.em_right _⟩
  refine Trip.of (P := Tryz.prog) (n := ⟨21, []⟩) Tryz.func80 rfl ⟨rfl, rfl⟩ rfl (St.begin (All.nil _)) ?_
  have ho := H
  refine CP.seq ?_
  refine CP.region ?_
  refine SP.val (Val.assign rfl) rfl rfl rfl ?_
  refine SP.nil ?_
  refine QE.then ?_
  refine CP.seq ?_
  refine CP.region ?_
  refine SP.val (Val.move rfl) rfl rfl rfl ?_
  refine SP.val (Val.move rfl) rfl rfl rfl ?_
  refine SP.val (Val.move rfl) rfl rfl rfl ?_
  refine SP.val (Val.buildC (us := [(0, .int .i64 p_0), (1, .pointer none), (2, .int .i64 0)]) (ucs := [(0, [.int .i64 p_0]), (1, [.pointer none]), (2, [.int .i64 0])]) (cs := [.int .i64 p_0, .pointer none, .int .i64 0, .nilFunc]) bt179 rfl rfl ⟨rfl, rfl, ⟨rfl, rfl, ⟨rfl, rfl, trivial⟩⟩⟩ (by rfl)) rfl rfl rfl ?_
  refine SP.val (Val.buildC (us := [(0, .agg #[.int .i64 p_0, .pointer none, .int .i64 0, .nilFunc])]) (ucs := [(0, [.int .i64 p_0, .pointer none, .int .i64 0, .nilFunc])]) (cs := [.int .i64 p_0, .pointer none, .int .i64 0, .nilFunc]) bt181 rfl rfl ⟨rfl, rfl, trivial⟩ (by rfl)) rfl rfl rfl ?_
  refine SP.box (cs := [.int .i64 p_0, .pointer none, .int .i64 0, .nilFunc]) rfl rfl rfl rfl (fun b1 => ?_)
  refine SP.val (Val.assign rfl) rfl rfl rfl ?_
  refine SP.nil ?_
  refine QE.then ?_
  refine CP.seq ?_
  refine CP.region ?_
  refine SP.val (Val.move rfl) rfl rfl rfl ?_
  refine SP.val (Val.move rfl) rfl rfl rfl ?_
  refine SP.val (Val.makeFunc (us := [.pointer (some ⟨b1, 0, none⟩)]) (vs := []) rfl rfl) rfl rfl rfl ?_
  refine SP.val (Val.nilCheck rfl) rfl rfl rfl ?_
  refine SP.val (Val.fieldAddr Tryz.underlying181 rfl sz179 rfl) rfl rfl rfl ?_
  refine SP.val (Val.fieldAddr Tryz.underlying179 rfl sz79 rfl) rfl rfl rfl ?_
  refine SP.store (v := .func (.func 105) #[.pointer (some ⟨b1, 0, none⟩)] #[]) (vs := [.func (.func 105) #[.pointer (some ⟨b1, 0, none⟩)] #[]]) 0 (by rfl) sz79 (by rfl) (by rfl) (by rfl) (by rfl) (by rfl) (by rfl) ?_
  refine SP.nil ?_
  refine QE.then ?_
  refine CP.seq ?_
  refine CP.region ?_
  refine SP.val (Val.move rfl) rfl rfl rfl ?_
  refine SP.val (Val.assign rfl) rfl rfl rfl ?_
  refine SP.nil ?_
  refine QE.then ?_
  refine CP.ret ?_
  obtain rfl := Option.some.inj ho
  exact QE.rets (rs := [.tmp 6]) (vs := [.pointer (some ⟨b1, 0, none⟩)]) Tryz.results80 rfl ⟨RVs.tmp rfl, trivial⟩ (fun w2 h => St.done (fun a b p s => ⟨_, rfl, s⟩) (St.selO [0] rfl rfl (St.addO (x := HO.em) (fun _ => trivial) h)))
/-! ### capstan/reader.begin: function 72 -/
def reader_begin_s1.f (p_0 : Int) : Option (Unit × Int) :=
  (if p_0 < 0 then (some true) else ((replica_Replica_Seqs_s1.f ).bind fun t3 => some (decide (p_0 ≥ 0)))).bind fun t4 => if t4 = true then (some ((), 2)) else ((snap_NewCatch_s1.f p_0).bind fun t6 => some ((), 0))
theorem reader_begin_s1.ok (p_0 : Int)  (r : Unit × Int) (H : reader_begin_s1.f p_0 = some r) (w : World) (hV : Hp) (sV : Sub hV (hp w))  :
    Trip Tryz.prog 72 [.int .i64 p_0, .pointer none, .int .i64 0].toArray em hV w (fun v => HO.ex fun u0 : _ => HO.pand (v = .tuple #[.pointer u0, .int .i64 r.2]) (HO.seps [HO.em])) := by
  have see : Sees w em hV := ⟨sV, Dj.em_right _⟩
  refine Trip.of (P := Tryz.prog) (n := ⟨33, []⟩) Tryz.func72 rfl ⟨rfl, rfl⟩ rfl (St.begin (All.nil _)) ?_
  have ho := H
  refine CP.seq ?_
  refine CP.region ?_
  refine SP.val (Val.assign rfl) rfl rfl rfl ?_
  refine SP.val (Val.assign rfl) rfl rfl rfl ?_
  refine SP.nil ?_
  refine QE.then ?_
  refine CP.seq ?_
  refine CP.seq ?_
  refine CP.region ?_
  refine SP.val (Val.move rfl) rfl rfl rfl ?_
  refine SP.val (Val.lss rfl rfl) rfl rfl rfl ?_
  refine SP.val (Val.move rfl) rfl rfl rfl ?_
  obtain ⟨t4, hg_t4, ho⟩ := bind_some ho
  refine SP.join 6 (fun a w2 => Env ⟨33, []⟩ [(0, .int .i64 p_0), (1, .pointer none), (2, .int .i64 0), (17, .bool t4)] a ∧ St w em hV [] [] w2) ?_ ?_
  · rintro a w2 ⟨ha, hw⟩
    refine SP.app ha hw ?_
    clear ha hw a w2 hg_t4
    refine SP.nil ?_
    refine QE.then ?_
    rcases if_some ho with ⟨hc, ho⟩ | ⟨hc, ho⟩
    · refine CP.condT rfl hc ?_
      refine CP.seq ?_
      refine CP.region ?_
      refine SP.val (Val.assign rfl) rfl rfl rfl ?_
      refine SP.val (Val.assign rfl) rfl rfl rfl ?_
      refine SP.nil ?_
      refine QE.then ?_
      refine CP.ret ?_
      refine QE.thru (by intro e; cases e) ?_
      obtain rfl := Option.some.inj ho
      exact QE.rets (rs := [.tmp 6, .tmp 7]) (vs := [.pointer none, .int .i64 2]) Tryz.results72 rfl ⟨RVs.tmp rfl, RVs.tmp rfl, trivial⟩ (fun w2 h => St.done (fun a b p s => ⟨_, rfl, s⟩) (St.selO [0] rfl rfl (St.addO (x := HO.em) (fun _ => trivial) h)))
    · refine CP.condF rfl (bf hc) ?_
      refine CP.skip ?_
      refine QE.then ?_
      refine CP.seq ?_
      refine CP.region ?_
      refine SP.val (Val.move rfl) rfl rfl rfl ?_
      refine SP.val (Val.move rfl) rfl rfl rfl ?_
      refine SP.val (Val.move rfl) rfl rfl rfl ?_
      obtain ⟨t6, hc, ho⟩ := bind_some (x := snap_NewCatch_s1.f p_0) ho
      refine SP.callK see (caps := []) _ fn80 rfl rfl rfl rfl (fun w2 hP hs sub ap => snap_NewCatch_s1.ok p_0  _ hc w2 hP sub ) (fun vr => ?_)
      refine SP.ex (fun w2 h => St.open h) (fun v7 => ?_)
      refine SP.have (fun w2 h => (St.pand h).1.symm) (fun er => ?_)
      subst er
      refine SP.imp (fun w2 h => St.seps (St.pand h).2) ?_
      clear hc
      refine SP.val (Val.buildC (us := [(0, (.pointer v7))]) (ucs := [(0, [(.pointer v7)])]) (cs := [(.pointer v7)]) bt74 rfl rfl ⟨rfl, rfl, trivial⟩ (by rfl)) rfl rfl rfl ?_
      refine SP.val (Val.move rfl) rfl rfl rfl ?_
      refine SP.val (Val.move rfl) rfl rfl rfl ?_
      refine SP.val (Val.buildC (us := [(0, .agg #[(.pointer v7)]), (1, .int .i64 p_0), (2, .pointer none)]) (ucs := [(0, [(.pointer v7)]), (1, [.int .i64 p_0]), (2, [.pointer none])]) (cs := [(.pointer v7), .int .i64 p_0, .pointer none, .nilFunc, .nilFunc, .int .i64 0, .int .i64 0, .int .u8 0, .int .i64 0, .int .i64 0]) bt77 rfl rfl ⟨rfl, rfl, ⟨rfl, rfl, ⟨rfl, rfl, trivial⟩⟩⟩ (by rfl)) rfl rfl rfl ?_
      refine SP.box (cs := [(.pointer v7), .int .i64 p_0, .pointer none, .nilFunc, .nilFunc, .int .i64 0, .int .i64 0, .int .u8 0, .int .i64 0, .int .i64 0]) rfl rfl rfl rfl (fun b9 => ?_)
      refine SP.val (Val.assign rfl) rfl rfl rfl ?_
      refine SP.nil ?_
      refine QE.then ?_
      refine CP.seq ?_
      refine CP.region ?_
      refine SP.val (Val.move rfl) rfl rfl rfl ?_
      refine SP.val (Val.move rfl) rfl rfl rfl ?_
      refine SP.val (Val.makeFunc (us := [.pointer (some ⟨b9, 0, none⟩)]) (vs := []) rfl rfl) rfl rfl rfl ?_
      refine SP.val (Val.nilCheck rfl) rfl rfl rfl ?_
      refine SP.val (Val.fieldAddr Tryz.underlying77 rfl sz75 rfl) rfl rfl rfl ?_
      refine SP.store (v := .func (.func 102) #[.pointer (some ⟨b9, 0, none⟩)] #[]) (vs := [.func (.func 102) #[.pointer (some ⟨b9, 0, none⟩)] #[]]) 0 (by rfl) sz75 (by rfl) (by rfl) (by rfl) (by rfl) (by rfl) (by rfl) ?_
      refine SP.nil ?_
      refine QE.then ?_
      refine CP.seq ?_
      refine CP.region ?_
      refine SP.val (Val.move rfl) rfl rfl rfl ?_
      refine SP.val (Val.assign rfl) rfl rfl rfl ?_
      refine SP.val (Val.assign rfl) rfl rfl rfl ?_
      refine SP.nil ?_
      refine QE.then ?_
      refine CP.ret ?_
      obtain rfl := Option.some.inj ho
      exact QE.rets (rs := [.tmp 6, .tmp 7]) (vs := [.pointer (some ⟨b9, 0, none⟩), .int .i64 0]) Tryz.results72 rfl ⟨RVs.tmp rfl, RVs.tmp rfl, trivial⟩ (fun w2 h => St.done (fun a b p s => ⟨_, rfl, s⟩) (St.selO [0] rfl rfl (St.addO (x := HO.em) (fun _ => trivial) h)))
  · intro J
    clear ho
    have ho := hg_t4
    clear hg_t4
    rcases if_some ho with ⟨hc, ho⟩ | ⟨hc, ho⟩
    · have hq2 := (decide_eq_true hc)
      refine SP.isT (d := 11) rfl hq2 ?_
      refine SP.not rfl rfl rfl ?_
      refine SP.not rfl rfl rfl ?_
      refine SP.not rfl rfl rfl ?_
      refine SP.not rfl rfl rfl ?_
      refine SP.not rfl rfl rfl ?_
      refine SP.val (Val.pickT rfl rfl) rfl rfl rfl ?_
      obtain rfl := Option.some.inj ho
      exact J fun a w2 ha hw => ⟨ha.sub ⟨rfl, rfl, rfl, rfl, trivial⟩, hw⟩
    · have hq2 := (decide_eq_false hc)
      refine SP.isF (d := 11) rfl hq2 ?_
      refine SP.val (Val.move rfl) rfl rfl rfl ?_
      refine SP.val (Val.move rfl) rfl rfl rfl ?_
      obtain ⟨t3, hc, ho⟩ := bind_some (x := replica_Replica_Seqs_s1.f ) ho
      refine SP.callV see (caps := []) ((.slice none 0 0)) fn20 rfl rfl rfl rfl (fun w2 hP hs sub ap => replica_Replica_Seqs_s1.ok   _ hc w2 hP sub ) ?_
      clear hc
      refine SP.val (Val.lenN Tryz.underlying52 rfl) rfl rfl rfl ?_
      refine SP.val (Val.geq rfl rfl) rfl rfl rfl ?_
      refine SP.val (Val.pickF rfl rfl) rfl rfl rfl ?_
      obtain rfl := Option.some.inj ho
      exact J fun a w2 ha hw => ⟨ha.sub ⟨rfl, rfl, rfl, rfl, trivial⟩, hw⟩
/-! ### slices.Clone[[]capstan/api.Value,capstan/api.Value]: function 63 -/
def slices_Clone_api_Value_api_Value_s1.f  : Option Unit :=
  some ()
theorem slices_Clone_api_Value_api_Value_s1.ok   (r : Unit) (H : slices_Clone_api_Value_api_Value_s1.f  = some r) (w : World) (hV : Hp) (sV : Sub hV (hp w))  :
    Trip Tryz.prog 63 [(.slice none 0 0)].toArray em hV w (fun v => HO.pure (v = (.slice none 0 0))) := by
  have see : Sees w em hV := ⟨sV, Dj.em_right _⟩
  refine Trip.of (P := Tryz.prog) (n := ⟨8, []⟩) Tryz.func63 rfl ⟨rfl, rfl⟩ rfl (St.begin (All.nil _)) ?_
  have ho := H
  refine CP.seq ?_
  refine CP.region ?_
  refine SP.val (Val.assign rfl) rfl rfl rfl ?_
  refine SP.nil ?_
  refine QE.then ?_
  refine CP.seq ?_
  refine CP.seq ?_
  refine CP.region ?_
  refine SP.val (Val.move rfl) rfl rfl rfl ?_
  refine SP.val (Val.eqlN Tryz.underlying22 rfl rfl) rfl rfl rfl ?_
  refine SP.nil ?_
  refine QE.then ?_
  refine CP.condT rfl rfl ?_
  refine CP.seq ?_
  refine CP.region ?_
  refine SP.val (Val.assign rfl) rfl rfl rfl ?_
  refine SP.nil ?_
  refine QE.then ?_
  refine CP.ret ?_
  refine QE.thru (by intro e; cases e) ?_
  obtain rfl := Option.some.inj ho
  exact QE.rets (rs := [.tmp 2]) (vs := [(.slice none 0 0)]) Tryz.results63 rfl ⟨RVs.tmp rfl, trivial⟩ (fun w2 h => St.done (fun a b p s => rfl) h)
/-! ### bytes.Clone: function 103 -/
def bytes_Clone_s1.f  : Option Unit :=
  some ()
theorem bytes_Clone_s1.ok   (r : Unit) (H : bytes_Clone_s1.f  = some r) (w : World) (hV : Hp) (sV : Sub hV (hp w))  :
    Trip Tryz.prog 103 [(.slice none 0 0)].toArray em hV w (fun v => HO.pure (v = (.slice none 0 0))) := by
  have see : Sees w em hV := ⟨sV, Dj.em_right _⟩
  refine Trip.of (P := Tryz.prog) (n := ⟨8, []⟩) Tryz.func103 rfl ⟨rfl, rfl⟩ rfl (St.begin (All.nil _)) ?_
  have ho := H
  refine CP.seq ?_
  refine CP.region ?_
  refine SP.val (Val.assign rfl) rfl rfl rfl ?_
  refine SP.nil ?_
  refine QE.then ?_
  refine CP.seq ?_
  refine CP.seq ?_
  refine CP.region ?_
  refine SP.val (Val.move rfl) rfl rfl rfl ?_
  refine SP.val (Val.eqlN Tryz.underlying23 rfl rfl) rfl rfl rfl ?_
  refine SP.nil ?_
  refine QE.then ?_
  refine CP.condT rfl rfl ?_
  refine CP.seq ?_
  refine CP.region ?_
  refine SP.val (Val.assign rfl) rfl rfl rfl ?_
  refine SP.nil ?_
  refine QE.then ?_
  refine CP.ret ?_
  refine QE.thru (by intro e; cases e) ?_
  obtain rfl := Option.some.inj ho
  exact QE.rets (rs := [.tmp 2]) (vs := [(.slice none 0 0)]) Tryz.results103 rfl ⟨RVs.tmp rfl, trivial⟩ (fun w2 h => St.done (fun a b p s => rfl) h)
/-! ### capstan/entry.Copy: function 73 -/
def entry_Copy_s1.f  : Option Unit :=
  (slices_Clone_api_Value_api_Value_s1.f ).bind fun t9 => (bytes_Clone_s1.f ).bind fun t13 => some ()
theorem entry_Copy_s1.ok   (r : Unit) (H : entry_Copy_s1.f  = some r) (w : World) (hV : Hp) (sV : Sub hV (hp w))  :
    Trip Tryz.prog 73 [.agg #[.int .u8 1, .int .i64 1, (.slice none 0 0), (.slice none 0 0)]].toArray em hV w (fun v => HO.pure (v = .agg #[.int .u8 1, .int .i64 1, (.slice none 0 0), (.slice none 0 0)])) := by
  have see : Sees w em hV := ⟨sV, Dj.em_right _⟩
  refine Trip.of (P := Tryz.prog) (n := ⟨12, []⟩) Tryz.func73 rfl ⟨rfl, rfl⟩ rfl (St.begin (All.nil _)) ?_
  have ho := H
  refine CP.seq ?_
  refine CP.region ?_
  refine SP.box (cs := [.int .u8 1, .int .i64 1, (.slice none 0 0), (.slice none 0 0)]) rfl rfl rfl rfl (fun b1 => ?_)
  refine SP.alloc (cs := [.int .u8 0, .int .i64 0, (.slice none 0 0), (.slice none 0 0)]) inf25 rfl rfl (fun b3 => ?_)
  refine SP.nil ?_
  refine QE.then ?_
  refine CP.seq ?_
  refine CP.drawA (by kernel_rfl) (fun w2 k h => h.drawn k) ?_
  refine DA.phase (fun i => Nat.ble 0 i && Nat.blt i 5) (fun w2 => St w em hV [] [boxO b3 [.int .u8 0, .int .i64 0, (.slice none 0 0), (.slice none 0 0)] 25, boxO b1 [.int .u8 1, .int .i64 1, (.slice none 0 0), (.slice none 0 0)] 25] w2) ?_
  refine DT.take 0 rfl rfl rfl rfl (by kernel_rfl) (fun _ _ _ h => h) (Val.fieldAddr Tryz.underlying25 rfl sz22 rfl) (fun w2 hw => hw) ?_
  refine DT.take 1 rfl rfl rfl rfl (by kernel_rfl) (fun _ _ _ h => h) (Val.load1 1 rfl Tryz.underlying22 rfl rfl rfl) (fun w2 hw => hw) ?_
  refine DT.take 3 rfl rfl rfl rfl (by kernel_rfl) (fun _ _ _ h => h) (Val.fieldAddr Tryz.underlying25 rfl sz23 rfl) (fun w2 hw => hw) ?_
  refine DT.take 4 rfl rfl rfl rfl (by kernel_rfl) (fun _ _ _ h => h) (Val.load1 1 rfl Tryz.underlying23 rfl rfl rfl) (fun w2 hw => hw) ?_
  refine DT.one 2 rfl (by kernel_rfl) rfl ?_
  obtain ⟨t9, hc, ho⟩ := bind_some (x := slices_Clone_api_Value_api_Value_s1.f ) ho
  refine SP.callV see (caps := []) ((.slice none 0 0)) fn63 rfl rfl rfl rfl (fun w2 hP hs sub ap => slices_Clone_api_Value_api_Value_s1.ok   _ hc w2 hP sub ) ?_
  clear hc
  refine SP.nil ?_
  refine QE.atT (fun w2 hw => hw) ?_
  refine DT.next (by kernel_rfl) ?_
  refine DA.phase (fun i => Nat.ble 5 i && Nat.blt i 7) (fun w2 => St w em hV [] [boxO b3 [.int .u8 0, .int .i64 0, (.slice none 0 0), (.slice none 0 0)] 25, boxO b1 [.int .u8 1, .int .i64 1, (.slice none 0 0), (.slice none 0 0)] 25] w2) ?_
  refine DT.take 6 rfl rfl rfl rfl (by kernel_rfl) (fun _ _ _ h => h) (Val.fieldAddr Tryz.underlying25 rfl sz22 rfl) (fun w2 hw => hw) ?_
  refine DT.one 5 rfl (by kernel_rfl) rfl ?_
  obtain ⟨t13, hc, ho⟩ := bind_some (x := bytes_Clone_s1.f ) ho
  refine SP.callV see (caps := []) ((.slice none 0 0)) fn103 rfl rfl rfl rfl (fun w2 hP hs sub ap => bytes_Clone_s1.ok   _ hc w2 hP sub ) ?_
  clear hc
  refine SP.nil ?_
  refine QE.atT (fun w2 hw => hw) ?_
  refine DT.next (by kernel_rfl) ?_
  refine DA.one 7 rfl (by kernel_rfl) ?_
  refine SP.store (v := (.slice none 0 0)) (vs := [(.slice none 0 0)]) 1 (by rfl) sz22 (by rfl) (by rfl) (by rfl) (by rfl) (by rfl) (by rfl) ?_
  refine SP.nil ?_
  refine QE.atA ?_
  refine DA.one 8 rfl (by kernel_rfl) ?_
  refine SP.val (Val.fieldAddr Tryz.underlying25 rfl sz23 rfl) rfl rfl rfl ?_
  refine SP.nil ?_
  refine QE.atA ?_
  refine DA.one 9 rfl (by kernel_rfl) ?_
  refine SP.store (v := (.slice none 0 0)) (vs := [(.slice none 0 0)]) 1 (by rfl) sz23 (by rfl) (by rfl) (by rfl) (by rfl) (by rfl) (by rfl) ?_
  refine SP.nil ?_
  refine QE.atA ?_
  refine DA.done (by kernel_rfl) ?_
  refine QE.then ?_
  refine CP.seq ?_
  refine CP.region ?_
  refine SP.val (Val.loadA 1 rfl Tryz.underlying25 rfl sz25 rfl rfl rfl) rfl rfl rfl ?_
  refine SP.store (v := .agg #[.int .u8 1, .int .i64 1, (.slice none 0 0), (.slice none 0 0)]) (vs := [.int .u8 1, .int .i64 1, (.slice none 0 0), (.slice none 0 0)]) 0 (by rfl) sz25 (by rfl) (by rfl) (by rfl) (by rfl) (by rfl) (by rfl) ?_
  refine SP.nil ?_
  refine QE.then ?_
  refine CP.ret ?_
  obtain rfl := Option.some.inj ho
  exact QE.rets (rs := [.cell 2 25]) (vs := [.agg #[.int .u8 1, .int .i64 1, (.slice none 0 0), (.slice none 0 0)]]) Tryz.results73 rfl ⟨RVs.cellA 0 rfl rfl Tryz.underlying25 rfl sz25, trivial⟩ (fun w2 h => St.done (fun a b p s => rfl) h)
/-! ### capstan/reader.New: function 30 -/
def reader_New_s1.j1 (p_0 : Int) (t6 : Unit × Int) : Option (Unit × Int) :=
  some ((), t6.2)

def reader_New_s1.f (p_0 : Int) : Option (Unit × Int) :=
  (entry_May_s1.f ).bind fun t5 => (reader_begin_s1.f p_0).bind fun t6 => if t6.2 = 0 then (none) else (reader_New_s1.j1 p_0 t6)
theorem reader_New_s1.ok (p_0 : Int)  (r : Unit × Int) (H : reader_New_s1.f p_0 = some r) (w : World) (hV : Hp) (sV : Sub hV (hp w))  :
    Trip Tryz.prog 30 [.int .i64 p_0, .agg #[.int .u8 1, .int .i64 1, (.slice none 0 0), (.slice none 0 0)], .pointer none, .int .i64 0].toArray em hV w (fun v => HO.ex fun u0 : _ => HO.pand (v = .tuple #[.pointer u0, .int .i64 r.2]) (HO.seps [HO.em])) := by
  have see : Sees w em hV := ⟨sV, Dj.em_right _⟩
  refine Trip.of (P := Tryz.prog) (n := ⟨38, []⟩) Tryz.func30 rfl ⟨rfl, rfl⟩ rfl (St.begin (All.nil _)) ?_
  have ho := H
  refine CP.seq ?_
  refine CP.region ?_
  refine SP.box (cs := [.int .u8 1, .int .i64 1, (.slice none 0 0), (.slice none 0 0)]) rfl rfl rfl rfl (fun b1 => ?_)
  refine SP.box (cs := [.pointer none]) rfl rfl rfl rfl (fun b3 => ?_)
  refine SP.val (Val.assign rfl) rfl rfl rfl ?_
  refine SP.val (Val.assign rfl) rfl rfl rfl ?_
  refine SP.nil ?_
  refine QE.then ?_
  refine CP.seq ?_
  refine CP.seq ?_
  refine CP.region ?_
  refine SP.val (Val.loadA 1 rfl Tryz.underlying25 rfl sz25 rfl rfl rfl) rfl rfl rfl ?_
  obtain ⟨t5, hc, ho⟩ := bind_some (x := entry_May_s1.f ) ho
  refine SP.callV see (caps := []) (.bool true) fn71 rfl rfl rfl rfl (fun w2 hP hs sub ap => entry_May_s1.ok   _ hc w2 hP sub ) ?_
  clear hc
  refine SP.val (Val.cast (v := .bool false) (Val.notB rfl) rfl) rfl rfl rfl ?_
  refine SP.val (Val.move rfl) rfl rfl rfl ?_
  refine SP.val (Val.fieldAddr Tryz.underlying25 rfl sz5 rfl) rfl rfl rfl ?_
  refine SP.val (Val.load1 1 rfl Tryz.underlying5 rfl rfl rfl) rfl rfl rfl ?_
  refine SP.val (Val.cast (v := .bool false) (Val.neq rfl rfl) rfl) rfl rfl rfl ?_
  refine SP.val (Val.pickF rfl rfl) rfl rfl rfl ?_
  refine SP.nil ?_
  refine QE.then ?_
  refine CP.condF rfl rfl ?_
  refine CP.skip ?_
  refine QE.then ?_
  refine CP.seq ?_
  refine CP.region ?_
  refine SP.val (Val.move rfl) rfl rfl rfl ?_
  refine SP.val (Val.load1 0 rfl Tryz.underlying51 rfl rfl rfl) rfl rfl rfl ?_
  refine SP.val (Val.move rfl) rfl rfl rfl ?_
  obtain ⟨t6, hc, ho⟩ := bind_some (x := reader_begin_s1.f p_0) ho
  refine SP.callK see (caps := []) _ fn72 rfl rfl rfl rfl (fun w2 hP hs sub ap => reader_begin_s1.ok p_0  _ hc w2 hP sub ) (fun vr => ?_)
  refine SP.ex (fun w2 h => St.open h) (fun v7 => ?_)
  refine SP.have (fun w2 h => (St.pand h).1.symm) (fun er => ?_)
  subst er
  refine SP.imp (fun w2 h => St.seps (St.pand h).2) ?_
  clear hc
  refine SP.val (Val.move rfl) rfl rfl rfl ?_
  refine SP.val (Val.extract rfl rfl) rfl rfl rfl ?_
  refine SP.val (Val.extract rfl rfl) rfl rfl rfl ?_
  refine SP.alloc (cs := [.pointer none]) inf71 rfl rfl (fun b9 => ?_)
  refine SP.store (v := (.pointer v7)) (vs := [(.pointer v7)]) 0 (by rfl) sz71 (by rfl) (by rfl) (by rfl) (by rfl) (by rfl) (by rfl) ?_
  refine SP.val (Val.assign rfl) rfl rfl rfl ?_
  refine SP.nil ?_
  refine QE.then ?_
  refine CP.join (fun a w2 => reader_New_s1.j1 p_0 t6 = some r ∧ Env ⟨38, []⟩ [(10, .pointer (some ⟨b9, 0, none⟩)), (11, .int .i64 t6.2)] a ∧ St w em hV [] [boxO b9 [(.pointer v7)] 71] w2) ?_ ?_
  · rintro a w2 ⟨ho, ha, hw⟩
    refine CP.app ha hw ?_
    clear ha hw a w2
    refine CP.seq ?_
    refine CP.region ?_
    refine SP.val (Val.load1 0 rfl Tryz.underlying71 rfl rfl rfl) rfl rfl rfl ?_
    refine SP.val (Val.move rfl) rfl rfl rfl ?_
    refine SP.val (Val.assign rfl) rfl rfl rfl ?_
    refine SP.val (Val.assign rfl) rfl rfl rfl ?_
    refine SP.nil ?_
    refine QE.then ?_
    refine CP.ret ?_
    obtain rfl := Option.some.inj ho
    exact QE.rets (rs := [.tmp 8, .tmp 9]) (vs := [(.pointer v7), .int .i64 t6.2]) Tryz.results30 rfl ⟨RVs.tmp rfl, RVs.tmp rfl, trivial⟩ (fun w2 h => St.done (fun a b p s => ⟨_, rfl, s⟩) (St.selO [0] rfl rfl (St.addO (x := HO.em) (fun _ => trivial) h)))
  · refine CP.seq ?_
    refine CP.region ?_
    refine SP.val (Val.move rfl) rfl rfl rfl ?_
    refine SP.val (Val.eql rfl rfl) rfl rfl rfl ?_
    refine SP.nil ?_
    refine QE.then ?_
    rcases if_some ho with ⟨hc, ho⟩ | ⟨hc, ho⟩
    · refine CP.condT rfl (decide_eq_true hc) ?_
      cases ho
    · refine CP.condF rfl (decide_eq_false hc) ?_
      refine CP.skip ?_
      exact QE.meet fun a w2 ha hw => ⟨ho, ha.sub ⟨rfl, rfl, trivial⟩, (St.selO [0] rfl rfl hw)⟩
/-! ### capstan/reader.NewSync: function 32 -/
def reader_NewSync_s1.j1 (p_0 : Int) (t1 : Unit × Int) : Option (Unit × Int) :=
  some ((), t1.2)

def reader_NewSync_s1.f (p_0 : Int) : Option (Unit × Int) :=
  (reader_begin_s1.f p_0).bind fun t1 => if t1.2 = 0 then (none) else (reader_NewSync_s1.j1 p_0 t1)
theorem reader_NewSync_s1.ok (p_0 : Int)  (r : Unit × Int) (H : reader_NewSync_s1.f p_0 = some r) (w : World) (hV : Hp) (sV : Sub hV (hp w))  :
    Trip Tryz.prog 32 [.int .i64 p_0, .pointer none, .int .i64 0].toArray em hV w (fun v => HO.ex fun u0 : _ => HO.pand (v = .tuple #[.pointer u0, .int .i64 r.2]) (HO.seps [HO.em])) := by
  have see : Sees w em hV := ⟨sV, Dj.em_right _⟩
  refine Trip.of (P := Tryz.prog) (n := ⟨25, []⟩) Tryz.func32 rfl ⟨rfl, rfl⟩ rfl (St.begin (All.nil _)) ?_
  have ho := H
  refine CP.seq ?_
  refine CP.region ?_
  refine SP.val (Val.assign rfl) rfl rfl rfl ?_
  refine SP.val (Val.assign rfl) rfl rfl rfl ?_
  refine SP.nil ?_
  refine QE.then ?_
  refine CP.seq ?_
  refine CP.region ?_
  refine SP.val (Val.move rfl) rfl rfl rfl ?_
  refine SP.val (Val.move rfl) rfl rfl rfl ?_
  refine SP.val (Val.move rfl) rfl rfl rfl ?_
  obtain ⟨t1, hc, ho⟩ := bind_some (x := reader_begin_s1.f p_0) ho
  refine SP.callK see (caps := []) _ fn72 rfl rfl rfl rfl (fun w2 hP hs sub ap => reader_begin_s1.ok p_0  _ hc w2 hP sub ) (fun vr => ?_)
  refine SP.ex (fun w2 h => St.open h) (fun v2 => ?_)
  refine SP.have (fun w2 h => (St.pand h).1.symm) (fun er => ?_)
  subst er
  refine SP.imp (fun w2 h => St.seps (St.pand h).2) ?_
  clear hc
  refine SP.val (Val.move rfl) rfl rfl rfl ?_
  refine SP.val (Val.extract rfl rfl) rfl rfl rfl ?_
  refine SP.val (Val.extract rfl rfl) rfl rfl rfl ?_
  refine SP.alloc (cs := [.pointer none]) inf71 rfl rfl (fun b4 => ?_)
  refine SP.store (v := (.pointer v2)) (vs := [(.pointer v2)]) 0 (by rfl) sz71 (by rfl) (by rfl) (by rfl) (by rfl) (by rfl) (by rfl) ?_
  refine SP.val (Val.assign rfl) rfl rfl rfl ?_
  refine SP.nil ?_
  refine QE.then ?_
  refine CP.join (fun a w2 => reader_NewSync_s1.j1 p_0 t1 = some r ∧ Env ⟨25, []⟩ [(8, .pointer (some ⟨b4, 0, none⟩)), (9, .int .i64 t1.2)] a ∧ St w em hV [] [boxO b4 [(.pointer v2)] 71] w2) ?_ ?_
  · rintro a w2 ⟨ho, ha, hw⟩
    refine CP.app ha hw ?_
    clear ha hw a w2
    refine CP.seq ?_
    refine CP.region ?_
    refine SP.val (Val.load1 0 rfl Tryz.underlying71 rfl rfl rfl) rfl rfl rfl ?_
    refine SP.val (Val.move rfl) rfl rfl rfl ?_
    refine SP.val (Val.assign rfl) rfl rfl rfl ?_
    refine SP.val (Val.assign rfl) rfl rfl rfl ?_
    refine SP.nil ?_
    refine QE.then ?_
    refine CP.ret ?_
    obtain rfl := Option.some.inj ho
    exact QE.rets (rs := [.tmp 6, .tmp 7]) (vs := [(.pointer v2), .int .i64 t1.2]) Tryz.results32 rfl ⟨RVs.tmp rfl, RVs.tmp rfl, trivial⟩ (fun w2 h => St.done (fun a b p s => ⟨_, rfl, s⟩) (St.selO [0] rfl rfl (St.addO (x := HO.em) (fun _ => trivial) h)))
  · refine CP.seq ?_
    refine CP.region ?_
    refine SP.val (Val.move rfl) rfl rfl rfl ?_
    refine SP.val (Val.eql rfl rfl) rfl rfl rfl ?_
    refine SP.nil ?_
    refine QE.then ?_
    rcases if_some ho with ⟨hc, ho⟩ | ⟨hc, ho⟩
    · refine CP.condT rfl (decide_eq_true hc) ?_
      cases ho
    · refine CP.condF rfl (decide_eq_false hc) ?_
      refine CP.skip ?_
      exact QE.meet fun a w2 ha hw => ⟨ho, ha.sub ⟨rfl, rfl, trivial⟩, (St.selO [0] rfl rfl hw)⟩
/-! ### (*capstan/reader.Reading).Known: function 33 -/
def reader_Reading_Known_s1.f  : Option Unit :=
  some ()
theorem reader_Reading_Known_s1.ok   (r : Unit) (H : reader_Reading_Known_s1.f  = some r) (w : World) (hV : Hp) (sV : Sub hV (hp w))  :
    Trip Tryz.prog 33 [.pointer none].toArray em hV w (fun v => HO.pure (v = .int .i64 0)) := by
  have see : Sees w em hV := ⟨sV, Dj.em_right _⟩
  refine Trip.of (P := Tryz.prog) (n := ⟨11, []⟩) Tryz.func33 rfl ⟨rfl, rfl⟩ rfl (St.begin (All.nil _)) ?_
  have ho := H
  refine CP.seq ?_
  refine CP.region ?_
  refine SP.val (Val.assign rfl) rfl rfl rfl ?_
  refine SP.nil ?_
  refine QE.then ?_
  refine CP.seq ?_
  refine CP.seq ?_
  refine CP.region ?_
  refine SP.val (Val.move rfl) rfl rfl rfl ?_
  refine SP.val (Val.cast (v := .bool true) (Val.eqlPN Tryz.underlying71 rfl rfl) rfl) rfl rfl rfl ?_
  refine SP.nil ?_
  refine QE.then ?_
  refine CP.condT rfl rfl ?_
  refine CP.seq ?_
  refine CP.region ?_
  refine SP.val (Val.assign rfl) rfl rfl rfl ?_
  refine SP.nil ?_
  refine QE.then ?_
  refine CP.ret ?_
  refine QE.thru (by intro e; cases e) ?_
  obtain rfl := Option.some.inj ho
  exact QE.rets (rs := [.tmp 2]) (vs := [.int .i64 0]) Tryz.results33 rfl ⟨RVs.tmp rfl, trivial⟩ (fun w2 h => St.done (fun a b p s => rfl) h)
/-! ### capstan/mem.Arena: function 69 -/
def mem_Arena.f (procs_0 : Int) (every_1 : Int) : Option Int :=
  if ((((decide (procs_0 < 1)) || (decide (procs_0 > 64))) || (decide (every_1 < 1))) || (decide (every_1 > 64))) = true then (some 0) else (some (IntKind.i64.wrap ((IntKind.i64.wrap (2 * every_1)) + (IntKind.i64.wrap (2 * procs_0)))))
theorem mem_Arena.ok (procs_0 : Int) (every_1 : Int)  (r : Int) (H : mem_Arena.f procs_0 every_1 = some r) (w : World) (hV : Hp) (sV : Sub hV (hp w))  :
    Trip Tryz.prog 69 [.int .i64 procs_0, .int .i64 every_1].toArray em hV w (fun v => HO.pure (v = .int .i64 r)) := by
  have see : Sees w em hV := ⟨sV, Dj.em_right _⟩
  refine Trip.of (P := Tryz.prog) (n := ⟨24, []⟩) Tryz.func69 rfl ⟨rfl, rfl⟩ rfl (St.begin (All.nil _)) ?_
  have ho := H
  refine CP.seq ?_
  refine CP.region ?_
  refine SP.val (Val.assign rfl) rfl rfl rfl ?_
  refine SP.nil ?_
  refine QE.then ?_
  refine CP.seq ?_
  refine CP.seq ?_
  refine CP.region ?_
  refine SP.val (Val.move rfl) rfl rfl rfl ?_
  refine SP.val (Val.lss rfl rfl) rfl rfl rfl ?_
  refine SP.val (Val.move rfl) rfl rfl rfl ?_
  refine SP.join 3 (fun a w2 => Env ⟨24, []⟩ [(0, .int .i64 procs_0), (1, .int .i64 every_1), (10, .bool ((decide (procs_0 < 1)) || (decide (procs_0 > 64))))] a ∧ St w em hV [] [] w2) ?_ ?_
  · rintro a w2 ⟨ha, hw⟩
    refine SP.app ha hw ?_
    clear ha hw a w2
    refine SP.val (Val.move rfl) rfl rfl rfl ?_
    refine SP.join 3 (fun a w2 => Env ⟨24, []⟩ [(0, .int .i64 procs_0), (1, .int .i64 every_1), (14, .bool (((decide (procs_0 < 1)) || (decide (procs_0 > 64))) || (decide (every_1 < 1))))] a ∧ St w em hV [] [] w2) ?_ ?_
    · rintro a w2 ⟨ha, hw⟩
      refine SP.app ha hw ?_
      clear ha hw a w2
      refine SP.val (Val.move rfl) rfl rfl rfl ?_
      refine SP.join 3 (fun a w2 => Env ⟨24, []⟩ [(0, .int .i64 procs_0), (1, .int .i64 every_1), (18, .bool ((((decide (procs_0 < 1)) || (decide (procs_0 > 64))) || (decide (every_1 < 1))) || (decide (every_1 > 64))))] a ∧ St w em hV [] [] w2) ?_ ?_
      · rintro a w2 ⟨ha, hw⟩
        refine SP.app ha hw ?_
        clear ha hw a w2
        refine SP.nil ?_
        refine QE.then ?_
        rcases if_some ho with ⟨hc, ho⟩ | ⟨hc, ho⟩
        · refine CP.condT rfl hc ?_
          refine CP.seq ?_
          refine CP.region ?_
          refine SP.val (Val.assign rfl) rfl rfl rfl ?_
          refine SP.nil ?_
          refine QE.then ?_
          refine CP.ret ?_
          refine QE.thru (by intro e; cases e) ?_
          obtain rfl := Option.some.inj ho
          exact QE.rets (rs := [.tmp 4]) (vs := [.int .i64 0]) Tryz.results69 rfl ⟨RVs.tmp rfl, trivial⟩ (fun w2 h => St.done (fun a b p s => rfl) h)
        · refine CP.condF rfl (bf hc) ?_
          refine CP.skip ?_
          refine QE.then ?_
          refine CP.seq ?_
          refine CP.region ?_
          refine SP.val (Val.move rfl) rfl rfl rfl ?_
          refine SP.val (Val.mul rfl rfl) rfl rfl rfl ?_
          refine SP.val (Val.move rfl) rfl rfl rfl ?_
          refine SP.val (Val.mul rfl rfl) rfl rfl rfl ?_
          refine SP.val (Val.add rfl rfl) rfl rfl rfl ?_
          refine SP.val (Val.assign rfl) rfl rfl rfl ?_
          refine SP.nil ?_
          refine QE.then ?_
          refine CP.ret ?_
          obtain rfl := Option.some.inj ho
          exact QE.rets (rs := [.tmp 4]) (vs := [.int .i64 (IntKind.i64.wrap ((IntKind.i64.wrap (2 * every_1)) + (IntKind.i64.wrap (2 * procs_0))))]) Tryz.results69 rfl ⟨RVs.tmp rfl, trivial⟩ (fun w2 h => St.done (fun a b p s => rfl) h)
      · intro J
        by_cases hc : (((decide (procs_0 < 1)) || (decide (procs_0 > 64))) || (decide (every_1 < 1))) = true
        · have hq6 := hc
          refine SP.isT (d := 15) rfl hq6 ?_
          refine SP.not rfl rfl rfl ?_
          refine SP.not rfl rfl rfl ?_
          refine SP.val (Val.pickT rfl rfl) rfl rfl rfl ?_
          exact J fun a w2 ha hw => ⟨ha.sub ⟨rfl, rfl, congrArg (fun z => some (Value.bool z)) (or_t hq6), trivial⟩, hw⟩
        · have hq6 := (bf hc)
          refine SP.isF (d := 15) rfl hq6 ?_
          refine SP.val (Val.move rfl) rfl rfl rfl ?_
          refine SP.val (Val.gtr rfl rfl) rfl rfl rfl ?_
          refine SP.val (Val.pickF rfl rfl) rfl rfl rfl ?_
          exact J fun a w2 ha hw => ⟨ha.sub ⟨rfl, rfl, congrArg (fun z => some (Value.bool z)) (or_f hq6 rfl), trivial⟩, hw⟩
    · intro J
      by_cases hc : ((decide (procs_0 < 1)) || (decide (procs_0 > 64))) = true
      · have hq4 := hc
        refine SP.isT (d := 11) rfl hq4 ?_
        refine SP.not rfl rfl rfl ?_
        refine SP.not rfl rfl rfl ?_
        refine SP.val (Val.pickT rfl rfl) rfl rfl rfl ?_
        exact J fun a w2 ha hw => ⟨ha.sub ⟨rfl, rfl, congrArg (fun z => some (Value.bool z)) (or_t hq4), trivial⟩, hw⟩
      · have hq4 := (bf hc)
        refine SP.isF (d := 11) rfl hq4 ?_
        refine SP.val (Val.move rfl) rfl rfl rfl ?_
        refine SP.val (Val.lss rfl rfl) rfl rfl rfl ?_
        refine SP.val (Val.pickF rfl rfl) rfl rfl rfl ?_
        exact J fun a w2 ha hw => ⟨ha.sub ⟨rfl, rfl, congrArg (fun z => some (Value.bool z)) (or_f hq4 rfl), trivial⟩, hw⟩
  · intro J
    by_cases hc : procs_0 < 1
    · have hq2 := (decide_eq_true hc)
      refine SP.isT (d := 7) rfl hq2 ?_
      refine SP.not rfl rfl rfl ?_
      refine SP.not rfl rfl rfl ?_
      refine SP.val (Val.pickT rfl rfl) rfl rfl rfl ?_
      exact J fun a w2 ha hw => ⟨ha.sub ⟨rfl, rfl, congrArg (fun z => some (Value.bool z)) (or_t hq2), trivial⟩, hw⟩
    · have hq2 := (decide_eq_false hc)
      refine SP.isF (d := 7) rfl hq2 ?_
      refine SP.val (Val.move rfl) rfl rfl rfl ?_
      refine SP.val (Val.gtr rfl rfl) rfl rfl rfl ?_
      refine SP.val (Val.pickF rfl rfl) rfl rfl rfl ?_
      exact J fun a w2 ha hw => ⟨ha.sub ⟨rfl, rfl, congrArg (fun z => some (Value.bool z)) (or_f hq2 rfl), trivial⟩, hw⟩
/-! ### capstan/reader.Most: function 34 -/
def reader_Most.f (n_0 : Int) (every_1 : Int) : Option Int :=
  (mem_Arena.f n_0 every_1).bind fun t1 => if t1 = 0 then (some 0) else (some (IntKind.i64.wrap (t1 + 4)))
theorem reader_Most.ok (n_0 : Int) (every_1 : Int)  (r : Int) (H : reader_Most.f n_0 every_1 = some r) (w : World) (hV : Hp) (sV : Sub hV (hp w))  :
    Trip Tryz.prog 34 [.int .i64 n_0, .int .i64 every_1].toArray em hV w (fun v => HO.pure (v = .int .i64 r)) := by
  have see : Sees w em hV := ⟨sV, Dj.em_right _⟩
  refine Trip.of (P := Tryz.prog) (n := ⟨13, []⟩) Tryz.func34 rfl ⟨rfl, rfl⟩ rfl (St.begin (All.nil _)) ?_
  have ho := H
  refine CP.seq ?_
  refine CP.region ?_
  refine SP.val (Val.assign rfl) rfl rfl rfl ?_
  refine SP.nil ?_
  refine QE.then ?_
  refine CP.seq ?_
  refine CP.region ?_
  refine SP.val (Val.move rfl) rfl rfl rfl ?_
  refine SP.val (Val.move rfl) rfl rfl rfl ?_
  obtain ⟨t1, hc, ho⟩ := bind_some (x := mem_Arena.f n_0 every_1) ho
  refine SP.callV see (caps := []) (.int .i64 t1) fn69 rfl rfl rfl rfl (fun w2 hP hs sub ap => mem_Arena.ok n_0 every_1  _ hc w2 hP sub ) ?_
  clear hc
  refine SP.val (Val.assign rfl) rfl rfl rfl ?_
  refine SP.nil ?_
  refine QE.then ?_
  refine CP.seq ?_
  refine CP.seq ?_
  refine CP.region ?_
  refine SP.val (Val.move rfl) rfl rfl rfl ?_
  refine SP.val (Val.eql rfl rfl) rfl rfl rfl ?_
  refine SP.nil ?_
  refine QE.then ?_
  rcases if_some ho with ⟨hc, ho⟩ | ⟨hc, ho⟩
  · refine CP.condT rfl (decide_eq_true hc) ?_
    refine CP.seq ?_
    refine CP.region ?_
    refine SP.val (Val.assign rfl) rfl rfl rfl ?_
    refine SP.nil ?_
    refine QE.then ?_
    refine CP.ret ?_
    refine QE.thru (by intro e; cases e) ?_
    obtain rfl := Option.some.inj ho
    exact QE.rets (rs := [.tmp 4]) (vs := [.int .i64 0]) Tryz.results34 rfl ⟨RVs.tmp rfl, trivial⟩ (fun w2 h => St.done (fun a b p s => rfl) h)
  · refine CP.condF rfl (decide_eq_false hc) ?_
    refine CP.skip ?_
    refine QE.then ?_
    refine CP.seq ?_
    refine CP.region ?_
    refine SP.val (Val.move rfl) rfl rfl rfl ?_
    refine SP.val (Val.add rfl rfl) rfl rfl rfl ?_
    refine SP.val (Val.assign rfl) rfl rfl rfl ?_
    refine SP.nil ?_
    refine QE.then ?_
    refine CP.ret ?_
    obtain rfl := Option.some.inj ho
    exact QE.rets (rs := [.tmp 4]) (vs := [.int .i64 (IntKind.i64.wrap (t1 + 4))]) Tryz.results34 rfl ⟨RVs.tmp rfl, trivial⟩ (fun w2 h => St.done (fun a b p s => rfl) h)
/-! ### capstan/capstanlaw28.ReaderNil: function 5 -/
def capstanlaw28_ReaderNil.j1 (n_0 : Int) (every_1 : Int) (p_2 : Int) (x21 : Int) : Option Bool :=
  (capstanlaw19_Tell.f ).bind fun t22 => (reader_New_s1.f p_2).bind fun t23 => (reader_NewSync_s1.f p_2).bind fun t26 => (if ((decide (t23.2 = 2)) && (decide (t26.2 = 2))) = true then ((reader_Reading_Known_s1.f ).bind fun t33 => some true) else (some false)).bind fun t34 => (if t34 = true then ((reader_Most.f n_0 every_1).bind fun t37 => some (decide (t37 = x21))) else (some false)).bind fun t38 => some t38

def capstanlaw28_ReaderNil.f (n_0 : Int) (every_1 : Int) (p_2 : Int) : Option Bool :=
  (mem_New_s1.f ).bind fun t1 => (reader_Reading_Step_s1.f ).bind fun t10 => (reader_Reading_Over_s1.f ).bind fun t11 => (reader_Reading_Reply_s1.f ).bind fun t12 => (reader_Reading_Step_s2.f ).bind fun t15 => (reader_Reading_Over_s2.f ).bind fun t17 => (reader_Reading_Reply_s2.f ).bind fun t18 => (capstanref21_Arena.f n_0 every_1).bind fun t19 => if t19 > 0 then ((capstanref21_Arena.f n_0 every_1).bind fun t20 => capstanlaw28_ReaderNil.j1 n_0 every_1 p_2 (IntKind.i64.wrap (t20 + 4))) else (capstanlaw28_ReaderNil.j1 n_0 every_1 p_2 0)
theorem capstanlaw28_ReaderNil.ok (n_0 : Int) (every_1 : Int) (p_2 : Int)  (r : Bool) (H : capstanlaw28_ReaderNil.f n_0 every_1 p_2 = some r) (w : World) (hV : Hp) (sV : Sub hV (hp w))  :
    Trip Tryz.prog 5 [.int .i64 n_0, .int .i64 every_1, .int .i64 p_2].toArray em hV w (fun v => HO.pure (v = .bool r)) := by
  have see : Sees w em hV := ⟨sV, Dj.em_right _⟩
  refine Trip.of (P := Tryz.prog) (n := ⟨88, []⟩) Tryz.func5 rfl ⟨rfl, rfl⟩ rfl (St.begin (All.nil _)) ?_
  have ho := H
  refine CP.seq ?_
  refine CP.region ?_
  refine SP.val (Val.assign rfl) rfl rfl rfl ?_
  refine SP.nil ?_
  refine QE.then ?_
  refine CP.seq ?_
  refine CP.region ?_
  refine SP.val (Val.buildC (us := []) (ucs := []) (cs := [(.slice none 0 0), (.slice none 0 0), (.slice none 0 0), .int .i64 0, (.slice none 0 0), (.slice none 0 0)]) bt62 rfl rfl trivial (by rfl)) rfl rfl rfl ?_
  obtain ⟨t1, hc, ho⟩ := bind_some (x := mem_New_s1.f ) ho
  refine SP.callK see (caps := []) _ fn25 rfl rfl rfl rfl (fun w2 hP hs sub ap => mem_New_s1.ok   _ hc w2 hP sub ) (fun vr => ?_)
  refine SP.ex (fun w2 h => St.open h) (fun v2 => ?_)
  refine SP.have (fun w2 h => (St.pand h).1.symm) (fun er => ?_)
  subst er
  refine SP.imp (fun w2 h => St.seps (St.pand h).2) ?_
  clear hc
  refine SP.val (Val.move rfl) rfl rfl rfl ?_
  refine SP.val (Val.extract rfl rfl) rfl rfl rfl ?_
  refine SP.val (Val.extract rfl rfl) rfl rfl rfl ?_
  refine SP.val (Val.assign rfl) rfl rfl rfl ?_
  refine SP.val (Val.assign rfl) rfl rfl rfl ?_
  refine SP.nil ?_
  refine QE.then ?_
  refine CP.seq ?_
  refine CP.region ?_
  refine SP.val (Val.assign rfl) rfl rfl rfl ?_
  refine SP.nil ?_
  refine QE.then ?_
  refine CP.seq ?_
  refine CP.region ?_
  refine SP.val (Val.move rfl) rfl rfl rfl ?_
  refine SP.val (Val.buildC (us := []) (ucs := []) (cs := [.pointer none, .int .i64 0, .pointer none, .nilFunc, .nilFunc, .int .i64 0, .int .i64 0, .int .u8 0, .int .i64 0, .int .i64 0]) bt77 rfl rfl trivial (by rfl)) rfl rfl rfl ?_
  refine SP.box (cs := [.pointer none, .int .i64 0, .pointer none, .nilFunc, .nilFunc, .int .i64 0, .int .i64 0, .int .u8 0, .int .i64 0, .int .i64 0]) rfl rfl rfl rfl (fun b4 => ?_)
  refine SP.lit (k := kRaw 1) (xs := [[.pointer none], [.pointer (some ⟨b4, 0, none⟩)]]) (vs := [.pointer none, .pointer (some ⟨b4, 0, none⟩)]) (cells := [.pointer none, .pointer (some ⟨b4, 0, none⟩)]) Tryz.underlying78 inf71 rfl rfl rfl rfl rfl rfl rfl rfl (fun _ ap => ⟨[.pointer none], _, rfl, ⟨rfl, rfl, rfl⟩, ⟨[.pointer (some ⟨b4, 0, none⟩)], _, rfl, ⟨rfl, rfl, rfl⟩, rfl⟩⟩) rfl rfl rfl (fun v6 => ?_)
  refine SP.freezeS see 0 rfl ?_
  refine SP.val (Val.assign rfl) rfl rfl rfl ?_
  refine SP.nil ?_
  refine QE.then ?_
  refine CP.seq ?_
  refine CP.seq ?_
  refine CP.region ?_
  refine SP.val (Val.assign rfl) rfl rfl rfl ?_
  refine SP.nil ?_
  refine QE.then ?_
  refine CP.block ?_
  refine CP.rounds 4 ?_
  refine LP.step ?_
  refine CP.seq ?_
  refine CP.seq ?_
  refine CP.region ?_
  refine SP.val (Val.move rfl) rfl rfl rfl ?_
  refine SP.val (Val.move rfl) rfl rfl rfl ?_
  refine SP.val (Val.cast (v := .int .i64 2) (Val.lenP see 0 rfl Tryz.underlying78 rfl) rfl) rfl rfl rfl ?_
  refine SP.val (Val.cast (v := .bool true) (Val.lss rfl rfl) rfl) rfl rfl rfl ?_
  refine SP.nil ?_
  refine QE.then ?_
  refine CP.condT rfl rfl ?_
  refine CP.skip ?_
  refine QE.then ?_
  refine CP.seq ?_
  refine CP.block ?_
  refine CP.seq ?_
  refine CP.region ?_
  refine SP.val (Val.move rfl) rfl rfl rfl ?_
  refine SP.val (Val.move rfl) rfl rfl rfl ?_
  refine SP.indexP (k := kRaw 1) (xs := [[.pointer none], [.pointer (some ⟨b4, 0, none⟩)]]) (j := 0) see 0 rfl Tryz.underlying78 sz71 (by decide) rfl rfl rfl rfl rfl (fun p8 => ?_)
  refine SP.val (Val.loadP1 see 0 rfl (fun _ _ e => e.1) Tryz.underlying71 rfl rfl) rfl rfl rfl ?_
  refine SP.val (Val.assign rfl) rfl rfl rfl ?_
  refine SP.nil ?_
  refine QE.then ?_
  refine CP.seq ?_
  refine CP.region ?_
  refine SP.val (Val.move rfl) rfl rfl rfl ?_
  refine SP.val (Val.move rfl) rfl rfl rfl ?_
  obtain ⟨t10, hc, ho⟩ := bind_some (x := reader_Reading_Step_s1.f ) ho
  refine SP.callV see (caps := []) (.bool false) fn26 rfl rfl rfl rfl (fun w2 hP hs sub ap => reader_Reading_Step_s1.ok  (.pointer v2) _ hc w2 hP sub trivial) ?_
  clear hc
  refine SP.val (Val.move rfl) rfl rfl rfl ?_
  refine SP.val (Val.move rfl) rfl rfl rfl ?_
  obtain ⟨t11, hc, ho⟩ := bind_some (x := reader_Reading_Over_s1.f ) ho
  refine SP.callV see (caps := []) (.bool true) fn27 rfl rfl rfl rfl (fun w2 hP hs sub ap => reader_Reading_Over_s1.ok   _ hc w2 hP sub ) ?_
  clear hc
  refine SP.val (Val.cast (v := .bool false) (Val.notB rfl) rfl) rfl rfl rfl ?_
  refine SP.val (Val.pickF rfl rfl) rfl rfl rfl ?_
  refine SP.val (Val.move rfl) rfl rfl rfl ?_
  refine SP.val (Val.move rfl) rfl rfl rfl ?_
  obtain ⟨t12, hc, ho⟩ := bind_some (x := reader_Reading_Reply_s1.f ) ho
  refine SP.callV see (caps := []) (.agg #[.int .i64 0, .int .i64 0, .int .u8 0, .int .i64 0, .int .i64 0]) fn28 rfl rfl rfl rfl (fun w2 hP hs sub ap => reader_Reading_Reply_s1.ok   _ hc w2 hP sub ) ?_
  clear hc
  refine SP.val (Val.buildC (us := []) (ucs := []) (cs := [.int .i64 0, .int .i64 0, .int .u8 0, .int .i64 0, .int .i64 0]) bt39 rfl rfl trivial (by rfl)) rfl rfl rfl ?_
  refine SP.val (Val.cast (v := .bool false) (Val.neqA (by kernel_rfl) (fun w2 => eqA39 9996 w2 0 0 0 0 0 0 0 0 0 0) rfl rfl) rfl) rfl rfl rfl ?_
  refine SP.val (Val.pickF rfl rfl) rfl rfl rfl ?_
  refine SP.nil ?_
  refine QE.then ?_
  refine CP.condF rfl rfl ?_
  refine CP.skip ?_
  refine QE.blockN ?_
  refine QE.then ?_
  refine CP.region ?_
  refine SP.val (Val.move rfl) rfl rfl rfl ?_
  refine SP.val (Val.cast (v := .int .i64 1) (Val.add rfl rfl) rfl) rfl rfl rfl ?_
  refine SP.val (Val.assign rfl) rfl rfl rfl ?_
  refine SP.nil ?_
  refine QE.round ?_
  refine LP.step ?_
  refine CP.seq ?_
  refine CP.seq ?_
  refine CP.region ?_
  refine SP.val (Val.move rfl) rfl rfl rfl ?_
  refine SP.val (Val.move rfl) rfl rfl rfl ?_
  refine SP.val (Val.cast (v := .int .i64 2) (Val.lenP see 1 rfl Tryz.underlying78 rfl) rfl) rfl rfl rfl ?_
  refine SP.val (Val.cast (v := .bool true) (Val.lss rfl rfl) rfl) rfl rfl rfl ?_
  refine SP.nil ?_
  refine QE.then ?_
  refine CP.condT rfl rfl ?_
  refine CP.skip ?_
  refine QE.then ?_
  refine CP.seq ?_
  refine CP.block ?_
  refine CP.seq ?_
  refine CP.region ?_
  refine SP.val (Val.move rfl) rfl rfl rfl ?_
  refine SP.val (Val.move rfl) rfl rfl rfl ?_
  refine SP.indexP (k := kRaw 1) (xs := [[.pointer none], [.pointer (some ⟨b4, 0, none⟩)]]) (j := 1) see 1 rfl Tryz.underlying78 sz71 (by decide) rfl rfl rfl rfl rfl (fun p13 => ?_)
  refine SP.val (Val.loadP1 see 0 rfl (fun _ _ e => e.1) Tryz.underlying71 rfl rfl) rfl rfl rfl ?_
  refine SP.val (Val.assign rfl) rfl rfl rfl ?_
  refine SP.nil ?_
  refine QE.then ?_
  refine CP.seq ?_
  refine CP.region ?_
  refine SP.val (Val.move rfl) rfl rfl rfl ?_
  refine SP.val (Val.move rfl) rfl rfl rfl ?_
  refine SP.freezeB see 0 rfl ?_
  obtain ⟨t15, hc, ho⟩ := bind_some (x := reader_Reading_Step_s2.f ) ho
  refine SP.callV see (caps := []) (.bool false) fn26 rfl rfl rfl rfl (fun w2 hP hs sub ap => reader_Reading_Step_s2.ok  _ (.pointer v2) _ hc w2 hP sub (ap.get 0 rfl) trivial) ?_
  clear hc
  refine SP.val (Val.move rfl) rfl rfl rfl ?_
  refine SP.val (Val.move rfl) rfl rfl rfl ?_
  obtain ⟨t17, hc, ho⟩ := bind_some (x := reader_Reading_Over_s2.f ) ho
  refine SP.callV see (caps := []) (.bool true) fn27 rfl rfl rfl rfl (fun w2 hP hs sub ap => reader_Reading_Over_s2.ok  _ _ hc w2 hP sub (ap.get 0 rfl)) ?_
  clear hc
  refine SP.val (Val.cast (v := .bool false) (Val.notB rfl) rfl) rfl rfl rfl ?_
  refine SP.val (Val.pickF rfl rfl) rfl rfl rfl ?_
  refine SP.val (Val.move rfl) rfl rfl rfl ?_
  refine SP.val (Val.move rfl) rfl rfl rfl ?_
  obtain ⟨t18, hc, ho⟩ := bind_some (x := reader_Reading_Reply_s2.f ) ho
  refine SP.callV see (caps := []) (.agg #[.int .i64 0, .int .i64 0, .int .u8 0, .int .i64 0, .int .i64 0]) fn28 rfl rfl rfl rfl (fun w2 hP hs sub ap => reader_Reading_Reply_s2.ok  _ _ hc w2 hP sub (ap.get 0 rfl)) ?_
  clear hc
  refine SP.val (Val.buildC (us := []) (ucs := []) (cs := [.int .i64 0, .int .i64 0, .int .u8 0, .int .i64 0, .int .i64 0]) bt39 rfl rfl trivial (by rfl)) rfl rfl rfl ?_
  refine SP.val (Val.cast (v := .bool false) (Val.neqA (by kernel_rfl) (fun w2 => eqA39 9996 w2 0 0 0 0 0 0 0 0 0 0) rfl rfl) rfl) rfl rfl rfl ?_
  refine SP.val (Val.pickF rfl rfl) rfl rfl rfl ?_
  refine SP.nil ?_
  refine QE.then ?_
  refine CP.condF rfl rfl ?_
  refine CP.skip ?_
  refine QE.blockN ?_
  refine QE.then ?_
  refine CP.region ?_
  refine SP.val (Val.move rfl) rfl rfl rfl ?_
  refine SP.val (Val.cast (v := .int .i64 2) (Val.add rfl rfl) rfl) rfl rfl rfl ?_
  refine SP.val (Val.assign rfl) rfl rfl rfl ?_
  refine SP.nil ?_
  refine QE.round ?_
  refine LP.step ?_
  refine CP.seq ?_
  refine CP.seq ?_
  refine CP.region ?_
  refine SP.val (Val.move rfl) rfl rfl rfl ?_
  refine SP.val (Val.move rfl) rfl rfl rfl ?_
  refine SP.val (Val.cast (v := .int .i64 2) (Val.lenP see 3 rfl Tryz.underlying78 rfl) rfl) rfl rfl rfl ?_
  refine SP.val (Val.cast (v := .bool false) (Val.lss rfl rfl) rfl) rfl rfl rfl ?_
  refine SP.nil ?_
  refine QE.then ?_
  refine CP.condF rfl rfl ?_
  refine CP.exit ?_
  refine QE.thru (by intro e; cases e) ?_
  refine QE.thru (by intro e; cases e) ?_
  refine QE.blockE ?_
  refine QE.then ?_
  refine CP.seq ?_
  refine CP.region ?_
  refine SP.val (Val.assign rfl) rfl rfl rfl ?_
  refine SP.nil ?_
  refine QE.then ?_
  refine CP.join (fun a w2 => ∃ x21 : Int, capstanlaw28_ReaderNil.j1 n_0 every_1 p_2 x21 = some r ∧ Env ⟨88, []⟩ [(0, .int .i64 n_0), (1, .int .i64 every_1), (2, .int .i64 p_2), (9, .pointer none), (13, .int .i64 x21)] a ∧ St w em hV [] [] w2) ?_ ?_
  · rintro a w2 ⟨x21, ho, ha, hw⟩
    refine CP.app ha hw ?_
    clear ha hw a w2
    refine CP.seq ?_
    refine CP.region ?_
    refine SP.val (Val.move rfl) rfl rfl rfl ?_
    obtain ⟨t22, hc, ho⟩ := bind_some (x := capstanlaw19_Tell.f ) ho
    refine SP.callV see (caps := []) (.agg #[.int .u8 1, .int .i64 1, (.slice none 0 0), (.slice none 0 0)]) fn31 rfl rfl rfl rfl (fun w2 hP hs sub ap => capstanlaw19_Tell.ok   _ hc w2 hP sub ) ?_
    clear hc
    obtain ⟨t23, hc, ho⟩ := bind_some (x := reader_New_s1.f p_2) ho
    refine SP.callK see (caps := []) _ fn30 rfl rfl rfl rfl (fun w2 hP hs sub ap => reader_New_s1.ok p_2  _ hc w2 hP sub ) (fun vr => ?_)
    refine SP.ex (fun w2 h => St.open h) (fun v24 => ?_)
    refine SP.have (fun w2 h => (St.pand h).1.symm) (fun er => ?_)
    subst er
    refine SP.imp (fun w2 h => St.seps (St.pand h).2) ?_
    clear hc
    refine SP.val (Val.move rfl) rfl rfl rfl ?_
    refine SP.val (Val.extract rfl rfl) rfl rfl rfl ?_
    refine SP.val (Val.extract rfl rfl) rfl rfl rfl ?_
    refine SP.val (Val.assign rfl) rfl rfl rfl ?_
    refine SP.val (Val.assign rfl) rfl rfl rfl ?_
    refine SP.nil ?_
    refine QE.then ?_
    refine CP.seq ?_
    refine CP.region ?_
    refine SP.val (Val.move rfl) rfl rfl rfl ?_
    obtain ⟨t26, hc, ho⟩ := bind_some (x := reader_NewSync_s1.f p_2) ho
    refine SP.callK see (caps := []) _ fn32 rfl rfl rfl rfl (fun w2 hP hs sub ap => reader_NewSync_s1.ok p_2  _ hc w2 hP sub ) (fun vr => ?_)
    refine SP.ex (fun w2 h => St.open h) (fun v27 => ?_)
    refine SP.have (fun w2 h => (St.pand h).1.symm) (fun er => ?_)
    subst er
    refine SP.imp (fun w2 h => St.seps (St.pand h).2) ?_
    clear hc
    refine SP.val (Val.move rfl) rfl rfl rfl ?_
    refine SP.val (Val.extract rfl rfl) rfl rfl rfl ?_
    refine SP.val (Val.extract rfl rfl) rfl rfl rfl ?_
    refine SP.val (Val.assign rfl) rfl rfl rfl ?_
    refine SP.val (Val.assign rfl) rfl rfl rfl ?_
    refine SP.nil ?_
    refine QE.then ?_
    refine CP.seq ?_
    refine CP.region ?_
    refine SP.val (Val.move rfl) rfl rfl rfl ?_
    refine SP.val (Val.eql rfl rfl) rfl rfl rfl ?_
    refine SP.val (Val.move rfl) rfl rfl rfl ?_
    refine SP.join 3 (fun a w2 => Env ⟨88, []⟩ [(0, .int .i64 n_0), (1, .int .i64 every_1), (9, .pointer none), (13, .int .i64 x21), (75, .bool ((decide (t23.2 = 2)) && (decide (t26.2 = 2))))] a ∧ St w em hV [] [HO.em, HO.em] w2) ?_ ?_
    · rintro a w2 ⟨ha, hw⟩
      refine SP.app ha hw ?_
      clear ha hw a w2
      refine SP.val (Val.move rfl) rfl rfl rfl ?_
      obtain ⟨t34, hg_t34, ho⟩ := bind_some ho
      refine SP.join 4 (fun a w2 => Env ⟨88, []⟩ [(0, .int .i64 n_0), (1, .int .i64 every_1), (13, .int .i64 x21), (80, .bool t34)] a ∧ St w em hV [] [HO.em, HO.em] w2) ?_ ?_
      · rintro a w2 ⟨ha, hw⟩
        refine SP.app ha hw ?_
        clear ha hw a w2 hg_t34
        refine SP.val (Val.move rfl) rfl rfl rfl ?_
        obtain ⟨t38, hg_t38, ho⟩ := bind_some ho
        refine SP.join 6 (fun a w2 => Env ⟨88, []⟩ [(87, .bool t38)] a ∧ St w em hV [] [HO.em, HO.em] w2) ?_ ?_
        · rintro a w2 ⟨ha, hw⟩
          refine SP.app ha hw ?_
          clear ha hw a w2 hg_t38
          refine SP.val (Val.assign rfl) rfl rfl rfl ?_
          refine SP.nil ?_
          refine QE.then ?_
          refine CP.ret ?_
          obtain rfl := Option.some.inj ho
          exact QE.rets (rs := [.tmp 6]) (vs := [.bool t38]) Tryz.results5 rfl ⟨RVs.tmp rfl, trivial⟩ (fun w2 h => St.done (fun a b p s => rfl) h)
        · intro J
          clear ho
          have ho := hg_t38
          clear hg_t38
          rcases if_some ho with ⟨hc, ho⟩ | ⟨hc, ho⟩
          · have hq36 := hc
            refine SP.isT (d := 81) rfl hq36 ?_
            refine SP.val (Val.move rfl) rfl rfl rfl ?_
            refine SP.val (Val.move rfl) rfl rfl rfl ?_
            obtain ⟨t37, hc, ho⟩ := bind_some (x := reader_Most.f n_0 every_1) ho
            refine SP.callV see (caps := []) (.int .i64 t37) fn34 rfl rfl rfl rfl (fun w2 hP hs sub ap => reader_Most.ok n_0 every_1  _ hc w2 hP sub ) ?_
            clear hc
            refine SP.val (Val.move rfl) rfl rfl rfl ?_
            refine SP.val (Val.eql rfl rfl) rfl rfl rfl ?_
            refine SP.val (Val.pickT rfl rfl) rfl rfl rfl ?_
            obtain rfl := Option.some.inj ho
            exact J fun a w2 ha hw => ⟨ha.sub ⟨rfl, trivial⟩, hw⟩
          · have hq36 := (bf hc)
            refine SP.isF (d := 81) rfl hq36 ?_
            refine SP.not rfl rfl rfl ?_
            refine SP.not rfl rfl rfl ?_
            refine SP.not rfl rfl rfl ?_
            refine SP.not rfl rfl rfl ?_
            refine SP.not rfl rfl rfl ?_
            refine SP.val (Val.pickF rfl rfl) rfl rfl rfl ?_
            obtain rfl := Option.some.inj ho
            exact J fun a w2 ha hw => ⟨ha.sub ⟨rfl, trivial⟩, hw⟩
      · intro J
        clear ho
        have ho := hg_t34
        clear hg_t34
        rcases if_some ho with ⟨hc, ho⟩ | ⟨hc, ho⟩
        · have hq32 := hc
          refine SP.isT (d := 76) rfl hq32 ?_
          refine SP.val (Val.move rfl) rfl rfl rfl ?_
          obtain ⟨t33, hc, ho⟩ := bind_some (x := reader_Reading_Known_s1.f ) ho
          refine SP.callV see (caps := []) (.int .i64 0) fn33 rfl rfl rfl rfl (fun w2 hP hs sub ap => reader_Reading_Known_s1.ok   _ hc w2 hP sub ) ?_
          clear hc
          refine SP.val (Val.cast (v := .bool true) (Val.eql rfl rfl) rfl) rfl rfl rfl ?_
          refine SP.val (Val.pickT rfl rfl) rfl rfl rfl ?_
          obtain rfl := Option.some.inj ho
          exact J fun a w2 ha hw => ⟨ha.sub ⟨rfl, rfl, rfl, rfl, trivial⟩, hw⟩
        · have hq32 := (bf hc)
          refine SP.isF (d := 76) rfl hq32 ?_
          refine SP.not rfl rfl rfl ?_
          refine SP.not rfl rfl rfl ?_
          refine SP.not rfl rfl rfl ?_
          refine SP.val (Val.pickF rfl rfl) rfl rfl rfl ?_
          obtain rfl := Option.some.inj ho
          exact J fun a w2 ha hw => ⟨ha.sub ⟨rfl, rfl, rfl, rfl, trivial⟩, hw⟩
    · intro J
      by_cases hc : t23.2 = 2
      · have hq30 := (decide_eq_true hc)
        refine SP.isT (d := 72) rfl hq30 ?_
        refine SP.val (Val.move rfl) rfl rfl rfl ?_
        refine SP.val (Val.eql rfl rfl) rfl rfl rfl ?_
        refine SP.val (Val.pickT rfl rfl) rfl rfl rfl ?_
        exact J fun a w2 ha hw => ⟨ha.sub ⟨rfl, rfl, rfl, rfl, congrArg (fun z => some (Value.bool z)) (and_t hq30 rfl), trivial⟩, hw⟩
      · have hq30 := (decide_eq_false hc)
        refine SP.isF (d := 72) rfl hq30 ?_
        refine SP.not rfl rfl rfl ?_
        refine SP.not rfl rfl rfl ?_
        refine SP.val (Val.pickF rfl rfl) rfl rfl rfl ?_
        exact J fun a w2 ha hw => ⟨ha.sub ⟨rfl, rfl, rfl, rfl, congrArg (fun z => some (Value.bool z)) (and_f hq30), trivial⟩, hw⟩
  · refine CP.seq ?_
    refine CP.region ?_
    refine SP.val (Val.move rfl) rfl rfl rfl ?_
    refine SP.val (Val.move rfl) rfl rfl rfl ?_
    obtain ⟨t19, hc, ho⟩ := bind_some (x := capstanref21_Arena.f n_0 every_1) ho
    refine SP.callV see (caps := []) (.int .i64 t19) fn29 rfl rfl rfl rfl (fun w2 hP hs sub ap => capstanref21_Arena.ok n_0 every_1  _ hc w2 hP sub ) ?_
    clear hc
    refine SP.val (Val.gtr rfl rfl) rfl rfl rfl ?_
    refine SP.nil ?_
    refine QE.then ?_
    rcases if_some ho with ⟨hc, ho⟩ | ⟨hc, ho⟩
    · refine CP.condT rfl (decide_eq_true hc) ?_
      refine CP.region ?_
      refine SP.val (Val.move rfl) rfl rfl rfl ?_
      refine SP.val (Val.move rfl) rfl rfl rfl ?_
      obtain ⟨t20, hc, ho⟩ := bind_some (x := capstanref21_Arena.f n_0 every_1) ho
      refine SP.callV see (caps := []) (.int .i64 t20) fn29 rfl rfl rfl rfl (fun w2 hP hs sub ap => capstanref21_Arena.ok n_0 every_1  _ hc w2 hP sub ) ?_
      clear hc
      refine SP.val (Val.add rfl rfl) rfl rfl rfl ?_
      refine SP.val (Val.assign rfl) rfl rfl rfl ?_
      refine SP.nil ?_
      exact QE.meet fun a w2 ha hw => ⟨(IntKind.i64.wrap (t20 + 4)), ho, ha.sub ⟨rfl, rfl, rfl, rfl, rfl, trivial⟩, (St.selP [] rfl (St.selO [] rfl rfl hw))⟩
    · refine CP.condF rfl (decide_eq_false hc) ?_
      refine CP.skip ?_
      exact QE.meet fun a w2 ha hw => ⟨0, ho, ha.sub ⟨rfl, rfl, rfl, rfl, rfl, trivial⟩, (St.selP [] rfl (St.selO [] rfl rfl hw))⟩
/-- What is left to be shown of the law: of plain values alone. -/
def capstanlaw28_ReaderNil.Pure : Prop := ∀ (x0 : Int) (x1 : Int) (x2 : Int), (Lit.int .i64 x0).wf = true → (Lit.int .i64 x1).wf = true → (Lit.int .i64 x2).wf = true → capstanlaw28_ReaderNil.f x0 x1 x2 = some true
end Go.Proofs.YtgfjjjbpikfgaaaGreatDoor
end
