/- Functions of the program as plain functions, with the proof that the code computes them: printed by gen.py of this session. -/
import Derived.Test.YtbejlahmhloloaaProg
import Derived.Test.YtbejlahmhloloaaQ12
set_option linter.unusedVariables false
set_option linter.unusedSimpArgs false
set_option maxRecDepth 20000
noncomputable section
namespace Go.Proofs.Ytbejlahmhloloaa
open Go.Q
structure api_Cert where
  Fuel : Int
  Stack : Int
  Heap : Int
def api_Cert.zero : api_Cert := ⟨0, 0, 0⟩
def k_api_Cert : Kd api_Cert := ⟨3, fun h cs x => cs = [.int .i64 x.Fuel, .int .i64 x.Stack, .int .i64 x.Heap], fun _ _ _ _ _ h => h, fun _ _ _ h => by simp [h], fun _ _ _ h => by subst h; rfl⟩
theorem k_api_Cert.part_Fuel : Part k_api_Cert 0 (kInt .i64) (fun x => x.Fuel) := fun h cs x e => ⟨[.int .i64 x.Fuel], rfl, by subst e; exact seg_get [.int .i64 x.Fuel, .int .i64 x.Stack, .int .i64 x.Heap] 0 1⟩
theorem k_api_Cert.part_Stack : Part k_api_Cert 1 (kInt .i64) (fun x => x.Stack) := fun h cs x e => ⟨[.int .i64 x.Stack], rfl, by subst e; exact seg_get [.int .i64 x.Fuel, .int .i64 x.Stack, .int .i64 x.Heap] 1 1⟩
theorem k_api_Cert.part_Heap : Part k_api_Cert 2 (kInt .i64) (fun x => x.Heap) := fun h cs x e => ⟨[.int .i64 x.Heap], rfl, by subst e; exact seg_get [.int .i64 x.Fuel, .int .i64 x.Stack, .int .i64 x.Heap] 2 1⟩
theorem k_api_Cert.load {P : Program} {n : Nat} {σ : List (Nat × Value)} {w0 : World} {hA hV : Hp} {ps : List HP} {os : List HO} {L l : List Oper} {Q : Cont} {d : Nat} {t tr : TypeId} {x : Operand} {pos : String} {af : Array Edge} {g : Option (Nat × Bool)} {v : Value} (see : Sees w0 hA hV) (i : Nat) {x0 : api_Cert} (hi : ps[i]? = some (elP k_api_Cert v x0)) {dsc : TypeDesc} (hu : P.underlying t = some dsc) (hd : (match dsc with | .struct _ | .array _ _ => true | _ => false) = true) (hs : (P.info? t).map (·.size) = some 3) (hg : gd L σ g = some true) (hn : Nat.blt d n = true) (hx : ev σ x = some v)
    (h : SP P n ((d, .agg [.int .i64 x0.Fuel, .int .i64 x0.Stack, .int .i64 x0.Heap].toArray) :: σ) (St w0 hA hV (ps) os) L l Q) : SP P n σ (St w0 hA hV ps os) L (⟨some d, .load t x, tr, pos, af, g⟩ :: l) Q :=
  SP.loadP see i hi hu hd hs hg hn hx fun cs a w ha hw => by
    obtain ⟨m, fr, hN, hO, n1, n2, dj, s1, s2, ap, s⟩ := hw
    obtain rfl := ap.get 0 rfl
    exact h a w ha ⟨m, fr, hN, hO, n1, n2, dj, s1, s2, (fun y hy => ap y (List.mem_cons_of_mem _ hy)), s⟩
structure api_Instr where
  Op : Int
  A : Int
  B : Int
def api_Instr.zero : api_Instr := ⟨0, 0, 0⟩
def k_api_Instr : Kd api_Instr := ⟨3, fun h cs x => cs = [.int .u8 x.Op, .int .i64 x.A, .int .i64 x.B], fun _ _ _ _ _ h => h, fun _ _ _ h => by simp [h], fun _ _ _ h => by subst h; rfl⟩
theorem k_api_Instr.part_Op : Part k_api_Instr 0 (kInt .u8) (fun x => x.Op) := fun h cs x e => ⟨[.int .u8 x.Op], rfl, by subst e; exact seg_get [.int .u8 x.Op, .int .i64 x.A, .int .i64 x.B] 0 1⟩
theorem k_api_Instr.part_A : Part k_api_Instr 1 (kInt .i64) (fun x => x.A) := fun h cs x e => ⟨[.int .i64 x.A], rfl, by subst e; exact seg_get [.int .u8 x.Op, .int .i64 x.A, .int .i64 x.B] 1 1⟩
theorem k_api_Instr.part_B : Part k_api_Instr 2 (kInt .i64) (fun x => x.B) := fun h cs x e => ⟨[.int .i64 x.B], rfl, by subst e; exact seg_get [.int .u8 x.Op, .int .i64 x.A, .int .i64 x.B] 2 1⟩
theorem k_api_Instr.load {P : Program} {n : Nat} {σ : List (Nat × Value)} {w0 : World} {hA hV : Hp} {ps : List HP} {os : List HO} {L l : List Oper} {Q : Cont} {d : Nat} {t tr : TypeId} {x : Operand} {pos : String} {af : Array Edge} {g : Option (Nat × Bool)} {v : Value} (see : Sees w0 hA hV) (i : Nat) {x0 : api_Instr} (hi : ps[i]? = some (elP k_api_Instr v x0)) {dsc : TypeDesc} (hu : P.underlying t = some dsc) (hd : (match dsc with | .struct _ | .array _ _ => true | _ => false) = true) (hs : (P.info? t).map (·.size) = some 3) (hg : gd L σ g = some true) (hn : Nat.blt d n = true) (hx : ev σ x = some v)
    (h : SP P n ((d, .agg [.int .u8 x0.Op, .int .i64 x0.A, .int .i64 x0.B].toArray) :: σ) (St w0 hA hV (ps) os) L l Q) : SP P n σ (St w0 hA hV ps os) L (⟨some d, .load t x, tr, pos, af, g⟩ :: l) Q :=
  SP.loadP see i hi hu hd hs hg hn hx fun cs a w ha hw => by
    obtain ⟨m, fr, hN, hO, n1, n2, dj, s1, s2, ap, s⟩ := hw
    obtain rfl := ap.get 0 rfl
    exact h a w ha ⟨m, fr, hN, hO, n1, n2, dj, s1, s2, (fun y hy => ap y (List.mem_cons_of_mem _ hy)), s⟩
structure api_Method where
  Args : (List Int)
  Locals : (List Int)
  Result : Int
  Reads : Bool
  Fuel : Int
  Stack : Int
  Heap : Int
  Code : (List api_Instr)
def api_Method.zero : api_Method := ⟨[], [], 0, false, 0, 0, 0, []⟩
def k_api_Method : Kd api_Method := ⟨8, fun h cs x => ∃ v0 v1 v2 : Value, cs = [v0, v1, .int .u8 x.Result, .bool x.Reads, .int .i64 x.Fuel, .int .i64 x.Stack, .int .i64 x.Heap, v2] ∧ slR (kInt .u8) h v0 x.Args ∧ slR (kInt .u8) h v1 x.Locals ∧ slR k_api_Instr h v2 x.Code,
  fun _ _ _ _ s ⟨v0, v1, v2, e, p0, p1, p2⟩ => ⟨v0, v1, v2, e, slR.mono s p0, slR.mono s p1, slR.mono s p2⟩, fun _ _ _ ⟨v0, v1, v2, e, p0, p1, p2⟩ => by simp [e],
  fun _ _ _ ⟨v0, v1, v2, e, p0, p1, p2⟩ => by subst e; obtain ⟨_, _, rfl, -⟩ := p0; obtain ⟨_, _, rfl, -⟩ := p1; obtain ⟨_, _, rfl, -⟩ := p2; rfl⟩
def o_api_Method : Ko api_Method := ⟨k_api_Method, fun cs x => HO.ex fun v0 : Value => HO.ex fun v1 : Value => HO.ex fun v2 : Value => HO.pand (cs = [v0, v1, .int .u8 x.Result, .bool x.Reads, .int .i64 x.Fuel, .int .i64 x.Stack, .int .i64 x.Heap, v2]) (HO.seps [slO (kInt .u8) 5 v0 x.Args, slO (kInt .u8) 5 v1 x.Locals, slO k_api_Instr 133 v2 x.Code]), fun ⟨v0, v1, v2, e, q⟩ sa sh => ⟨v0, v1, v2, e, slO.read (Sep.get 0 rfl q) sa sh, slO.read (Sep.get 1 rfl q) sa sh, slO.read (Sep.get 2 rfl q) sa sh⟩⟩
@[reducible] def api_Method.set_Args (x : api_Method) (l : (List Int)) : api_Method := { x with Args := l }
theorem o_api_Method.leaf0 : Leaf o_api_Method 0 (kInt .u8) 5 (fun x => x.Args) api_Method.set_Args := fun a h c x ⟨v0, v1, v2, e, q⟩ => by
  subst e
  obtain ⟨h1, h2, dj, s1, s2, p, rest⟩ := Sep.take 0 _ rfl q
  exact ⟨v0, h1, h2, rfl, dj, s1, s2, p, fun a' h' l' sa dj' r => ⟨v0, v1, v2, rfl, Sep.back 0 [slO (kInt .u8) 5 v0 x.Args, slO (kInt .u8) 5 v1 x.Locals, slO k_api_Instr 133 v2 x.Code] (x := slO (kInt .u8) 5 v0 l') (Nat.le_of_ble_eq_true rfl) dj' r (Sep.mono _ sa (Sub.refl _) rest)⟩⟩
@[reducible] def api_Method.set_Locals (x : api_Method) (l : (List Int)) : api_Method := { x with Locals := l }
theorem o_api_Method.leaf1 : Leaf o_api_Method 1 (kInt .u8) 5 (fun x => x.Locals) api_Method.set_Locals := fun a h c x ⟨v0, v1, v2, e, q⟩ => by
  subst e
  obtain ⟨h1, h2, dj, s1, s2, p, rest⟩ := Sep.take 1 _ rfl q
  exact ⟨v1, h1, h2, rfl, dj, s1, s2, p, fun a' h' l' sa dj' r => ⟨v0, v1, v2, rfl, Sep.back 1 [slO (kInt .u8) 5 v0 x.Args, slO (kInt .u8) 5 v1 x.Locals, slO k_api_Instr 133 v2 x.Code] (x := slO (kInt .u8) 5 v1 l') (Nat.le_of_ble_eq_true rfl) dj' r (Sep.mono _ sa (Sub.refl _) rest)⟩⟩
@[reducible] def api_Method.set_Code (x : api_Method) (l : (List api_Instr)) : api_Method := { x with Code := l }
theorem o_api_Method.leaf7 : Leaf o_api_Method 7 k_api_Instr 133 (fun x => x.Code) api_Method.set_Code := fun a h c x ⟨v0, v1, v2, e, q⟩ => by
  subst e
  obtain ⟨h1, h2, dj, s1, s2, p, rest⟩ := Sep.take 2 _ rfl q
  exact ⟨v2, h1, h2, rfl, dj, s1, s2, p, fun a' h' l' sa dj' r => ⟨v0, v1, v2, rfl, Sep.back 2 [slO (kInt .u8) 5 v0 x.Args, slO (kInt .u8) 5 v1 x.Locals, slO k_api_Instr 133 v2 x.Code] (x := slO k_api_Instr 133 v2 l') (Nat.le_of_ble_eq_true rfl) dj' r (Sep.mono _ sa (Sub.refl _) rest)⟩⟩
theorem k_api_Method.part_Args : Part k_api_Method 0 (kSl (kInt .u8)) (fun x => x.Args) := fun h cs x ⟨v0, v1, v2, e, p0, p1, p2⟩ => ⟨[v0], ⟨v0, rfl, p0⟩, by subst e; exact seg_get [v0, v1, .int .u8 x.Result, .bool x.Reads, .int .i64 x.Fuel, .int .i64 x.Stack, .int .i64 x.Heap, v2] 0 1⟩
theorem k_api_Method.part_Locals : Part k_api_Method 1 (kSl (kInt .u8)) (fun x => x.Locals) := fun h cs x ⟨v0, v1, v2, e, p0, p1, p2⟩ => ⟨[v1], ⟨v1, rfl, p1⟩, by subst e; exact seg_get [v0, v1, .int .u8 x.Result, .bool x.Reads, .int .i64 x.Fuel, .int .i64 x.Stack, .int .i64 x.Heap, v2] 1 1⟩
theorem k_api_Method.part_Result : Part k_api_Method 2 (kInt .u8) (fun x => x.Result) := fun h cs x ⟨v0, v1, v2, e, p0, p1, p2⟩ => ⟨[.int .u8 x.Result], rfl, by subst e; exact seg_get [v0, v1, .int .u8 x.Result, .bool x.Reads, .int .i64 x.Fuel, .int .i64 x.Stack, .int .i64 x.Heap, v2] 2 1⟩
theorem k_api_Method.part_Reads : Part k_api_Method 3 kBool (fun x => x.Reads) := fun h cs x ⟨v0, v1, v2, e, p0, p1, p2⟩ => ⟨[.bool x.Reads], rfl, by subst e; exact seg_get [v0, v1, .int .u8 x.Result, .bool x.Reads, .int .i64 x.Fuel, .int .i64 x.Stack, .int .i64 x.Heap, v2] 3 1⟩
theorem k_api_Method.part_Fuel : Part k_api_Method 4 (kInt .i64) (fun x => x.Fuel) := fun h cs x ⟨v0, v1, v2, e, p0, p1, p2⟩ => ⟨[.int .i64 x.Fuel], rfl, by subst e; exact seg_get [v0, v1, .int .u8 x.Result, .bool x.Reads, .int .i64 x.Fuel, .int .i64 x.Stack, .int .i64 x.Heap, v2] 4 1⟩
theorem k_api_Method.part_Stack : Part k_api_Method 5 (kInt .i64) (fun x => x.Stack) := fun h cs x ⟨v0, v1, v2, e, p0, p1, p2⟩ => ⟨[.int .i64 x.Stack], rfl, by subst e; exact seg_get [v0, v1, .int .u8 x.Result, .bool x.Reads, .int .i64 x.Fuel, .int .i64 x.Stack, .int .i64 x.Heap, v2] 5 1⟩
theorem k_api_Method.part_Heap : Part k_api_Method 6 (kInt .i64) (fun x => x.Heap) := fun h cs x ⟨v0, v1, v2, e, p0, p1, p2⟩ => ⟨[.int .i64 x.Heap], rfl, by subst e; exact seg_get [v0, v1, .int .u8 x.Result, .bool x.Reads, .int .i64 x.Fuel, .int .i64 x.Stack, .int .i64 x.Heap, v2] 6 1⟩
theorem k_api_Method.part_Code : Part k_api_Method 7 (kSl k_api_Instr) (fun x => x.Code) := fun h cs x ⟨v0, v1, v2, e, p0, p1, p2⟩ => ⟨[v2], ⟨v2, rfl, p2⟩, by subst e; exact seg_get [v0, v1, .int .u8 x.Result, .bool x.Reads, .int .i64 x.Fuel, .int .i64 x.Stack, .int .i64 x.Heap, v2] 7 1⟩
theorem k_api_Method.load {P : Program} {n : Nat} {σ : List (Nat × Value)} {w0 : World} {hA hV : Hp} {ps : List HP} {os : List HO} {L l : List Oper} {Q : Cont} {d : Nat} {t tr : TypeId} {x : Operand} {pos : String} {af : Array Edge} {g : Option (Nat × Bool)} {v : Value} (see : Sees w0 hA hV) (i : Nat) {x0 : api_Method} (hi : ps[i]? = some (elP k_api_Method v x0)) {dsc : TypeDesc} (hu : P.underlying t = some dsc) (hd : (match dsc with | .struct _ | .array _ _ => true | _ => false) = true) (hs : (P.info? t).map (·.size) = some 8) (hg : gd L σ g = some true) (hn : Nat.blt d n = true) (hx : ev σ x = some v)
    (h : ∀ v0 v1 v2, SP P n ((d, .agg [v0, v1, .int .u8 x0.Result, .bool x0.Reads, .int .i64 x0.Fuel, .int .i64 x0.Stack, .int .i64 x0.Heap, v2].toArray) :: σ) (St w0 hA hV (slP (kInt .u8) v0 x0.Args :: slP (kInt .u8) v1 x0.Locals :: slP k_api_Instr v2 x0.Code :: ps) os) L l Q) : SP P n σ (St w0 hA hV ps os) L (⟨some d, .load t x, tr, pos, af, g⟩ :: l) Q :=
  SP.loadP see i hi hu hd hs hg hn hx fun cs a w ha hw => by
    obtain ⟨m, fr, hN, hO, n1, n2, dj, s1, s2, ap, s⟩ := hw
    obtain ⟨v0, v1, v2, e, p0, p1, p2⟩ := ap.get 0 rfl
    subst e
    exact h v0 v1 v2 a w ha ⟨m, fr, hN, hO, n1, n2, dj, s1, s2, All.cons p0 (All.cons p1 (All.cons p2 ((fun y hy => ap y (List.mem_cons_of_mem _ hy))))), s⟩
theorem sz3 : (Try.prog.info? 3).map (·.size) = some 1 := by kernel_rfl
theorem sz23 : (Try.prog.info? 23).map (·.size) = some 3 := by kernel_rfl
theorem sz24 : (Try.prog.info? 24).map (·.size) = some 1 := by kernel_rfl
theorem sz27 : (Try.prog.info? 27).map (·.size) = some 8 := by kernel_rfl
theorem fn8 : ((Try.prog.funcs[8]?).map fun fn => fn.body.isSome && !(fn.name == "runtime.NumGoroutine")) = some true := by rw [Try.func8]; rfl
theorem fn38 : ((Try.prog.funcs[38]?).map fun fn => fn.body.isSome && !(fn.name == "runtime.NumGoroutine")) = some true := by rw [Try.func38]; rfl
theorem fn9 : ((Try.prog.funcs[9]?).map fun fn => fn.body.isSome && !(fn.name == "runtime.NumGoroutine")) = some true := by rw [Try.func9]; rfl
theorem fn10 : ((Try.prog.funcs[10]?).map fun fn => fn.body.isSome && !(fn.name == "runtime.NumGoroutine")) = some true := by rw [Try.func10]; rfl
theorem fn3 : ((Try.prog.funcs[3]?).map fun fn => fn.body.isSome && !(fn.name == "runtime.NumGoroutine")) = some true := by rw [Try.func3]; rfl
/-! ### capstan/capstanlaw07.Great: function 8 -/
def capstanlaw07_Great.f (m_0 : api_Method) : Option Bool :=
  some ((decide ((m_0.Args.length : Int) > 100)) || (decide ((m_0.Locals.length : Int) > 100)))
theorem capstanlaw07_Great.ok (m_0 : api_Method) (v_m_0_Args : Value) (v_m_0_Locals : Value) (v_m_0_Code : Value) (r : Bool) (H : capstanlaw07_Great.f m_0 = some r) (w : World) (hV : Hp) (sV : Sub hV (hp w)) (h0 : slR (kInt .u8) hV v_m_0_Args m_0.Args) (h1 : slR (kInt .u8) hV v_m_0_Locals m_0.Locals) (h2 : slR k_api_Instr hV v_m_0_Code m_0.Code) :
    Trip Try.prog 8 [.agg #[v_m_0_Args, v_m_0_Locals, .int .u8 m_0.Result, .bool m_0.Reads, .int .i64 m_0.Fuel, .int .i64 m_0.Stack, .int .i64 m_0.Heap, v_m_0_Code]].toArray em hV w (fun v => HO.pure (v = .bool r)) := by
  have see : Sees w em hV := ⟨sV, Dj.em_right _⟩
  refine Trip.of (P := Try.prog) (n := 13) Try.func8 rfl rfl rfl (St.begin (All.cons (x := slP (kInt .u8) v_m_0_Args m_0.Args) h0 (All.cons (x := slP (kInt .u8) v_m_0_Locals m_0.Locals) h1 (All.cons (x := slP k_api_Instr v_m_0_Code m_0.Code) h2 (All.nil _))))) ?_
  have ho := H
  refine CP.seq ?_
  refine CP.region ?_
  refine SP.box (cs := [v_m_0_Args, v_m_0_Locals, .int .u8 m_0.Result, .bool m_0.Reads, .int .i64 m_0.Fuel, .int .i64 m_0.Stack, .int .i64 m_0.Heap, v_m_0_Code]) rfl rfl rfl rfl (fun b4 => ?_)
  refine SP.val (Val.assign rfl) rfl rfl rfl ?_
  refine SP.nil ?_
  refine QE.then ?_
  refine CP.seq ?_
  refine CP.region ?_
  refine SP.val (Val.fieldAddr Try.underlying27 rfl sz24 rfl) rfl rfl rfl ?_
  refine SP.val (Val.load1 0 rfl Try.underlying24 rfl rfl rfl) rfl rfl rfl ?_
  refine SP.val (Val.lenP see 0 rfl Try.underlying24 rfl) rfl rfl rfl ?_
  refine SP.val (Val.gtr rfl rfl) rfl rfl rfl ?_
  refine SP.val (Val.move rfl) rfl rfl rfl ?_
  refine SP.join 5 (fun a w2 => Env 13 [(12, .bool ((decide ((m_0.Args.length : Int) > 100)) || (decide ((m_0.Locals.length : Int) > 100))))] a ∧ St w em hV [slP (kInt .u8) v_m_0_Args m_0.Args, slP (kInt .u8) v_m_0_Locals m_0.Locals, slP k_api_Instr v_m_0_Code m_0.Code] [boxO b4 [v_m_0_Args, v_m_0_Locals, .int .u8 m_0.Result, .bool m_0.Reads, .int .i64 m_0.Fuel, .int .i64 m_0.Stack, .int .i64 m_0.Heap, v_m_0_Code] 27] w2) ?_ ?_
  · rintro a w2 ⟨ha, hw⟩
    refine SP.app ha hw ?_
    clear ha hw a w2
    refine SP.val (Val.assign rfl) rfl rfl rfl ?_
    refine SP.nil ?_
    refine QE.then ?_
    refine CP.ret ?_
    obtain rfl := Option.some.inj ho
    exact QE.rets (rs := [.tmp 2]) (vs := [.bool ((decide ((m_0.Args.length : Int) > 100)) || (decide ((m_0.Locals.length : Int) > 100)))]) Try.results8 ⟨RVs.tmp rfl, trivial⟩ (fun w2 h => St.done (fun a b p s => rfl) h)
  · intro J
    by_cases hc : (m_0.Args.length : Int) > 100
    · have hq7 := (decide_eq_true hc)
      refine SP.isT (d := 7) rfl hq7 ?_
      refine SP.not rfl rfl rfl ?_
      refine SP.not rfl rfl rfl ?_
      refine SP.not rfl rfl rfl ?_
      refine SP.not rfl rfl rfl ?_
      refine SP.val (Val.pickT rfl rfl) rfl rfl rfl ?_
      exact J fun a w2 ha hw => ⟨ha.sub ⟨congrArg (fun z => some (Value.bool z)) (or_t hq7), trivial⟩, hw⟩
    · have hq7 := (decide_eq_false hc)
      refine SP.isF (d := 7) rfl hq7 ?_
      refine SP.val (Val.fieldAddr Try.underlying27 rfl sz24 rfl) rfl rfl rfl ?_
      refine SP.val (Val.load1 0 rfl Try.underlying24 rfl rfl rfl) rfl rfl rfl ?_
      refine SP.val (Val.lenP see 1 rfl Try.underlying24 rfl) rfl rfl rfl ?_
      refine SP.val (Val.gtr rfl rfl) rfl rfl rfl ?_
      refine SP.val (Val.pickF rfl rfl) rfl rfl rfl ?_
      exact J fun a w2 ha hw => ⟨ha.sub ⟨congrArg (fun z => some (Value.bool z)) (or_f hq7 rfl), trivial⟩, hw⟩
/-! ### capstan/cost.within: function 38 -/
def cost_within.f (n_0 : Int) (declared_1 : Int) (most_2 : Int) : Option Bool :=
  some (((decide (n_0 ≥ 0)) && (decide (n_0 ≤ declared_1))) && (decide (n_0 ≤ most_2)))
theorem cost_within.ok (n_0 : Int) (declared_1 : Int) (most_2 : Int)  (r : Bool) (H : cost_within.f n_0 declared_1 most_2 = some r) (w : World) (hV : Hp) (sV : Sub hV (hp w))  :
    Trip Try.prog 38 [.int .i64 n_0, .int .i64 declared_1, .int .i64 most_2].toArray em hV w (fun v => HO.pure (v = .bool r)) := by
  have see : Sees w em hV := ⟨sV, Dj.em_right _⟩
  refine Trip.of (P := Try.prog) (n := 19) Try.func38 rfl rfl rfl (St.begin (All.nil _)) ?_
  have ho := H
  refine CP.seq ?_
  refine CP.region ?_
  refine SP.val (Val.assign rfl) rfl rfl rfl ?_
  refine SP.nil ?_
  refine QE.then ?_
  refine CP.seq ?_
  refine CP.region ?_
  refine SP.val (Val.move rfl) rfl rfl rfl ?_
  refine SP.val (Val.geq rfl rfl) rfl rfl rfl ?_
  refine SP.val (Val.move rfl) rfl rfl rfl ?_
  refine SP.join 4 (fun a w2 => Env 19 [(0, .int .i64 n_0), (2, .int .i64 most_2), (13, .bool ((decide (n_0 ≥ 0)) && (decide (n_0 ≤ declared_1))))] a ∧ St w em hV [] [] w2) ?_ ?_
  · rintro a w2 ⟨ha, hw⟩
    refine SP.app ha hw ?_
    clear ha hw a w2
    refine SP.val (Val.move rfl) rfl rfl rfl ?_
    refine SP.join 4 (fun a w2 => Env 19 [(18, .bool (((decide (n_0 ≥ 0)) && (decide (n_0 ≤ declared_1))) && (decide (n_0 ≤ most_2))))] a ∧ St w em hV [] [] w2) ?_ ?_
    · rintro a w2 ⟨ha, hw⟩
      refine SP.app ha hw ?_
      clear ha hw a w2
      refine SP.val (Val.assign rfl) rfl rfl rfl ?_
      refine SP.nil ?_
      refine QE.then ?_
      refine CP.ret ?_
      obtain rfl := Option.some.inj ho
      exact QE.rets (rs := [.tmp 6]) (vs := [.bool (((decide (n_0 ≥ 0)) && (decide (n_0 ≤ declared_1))) && (decide (n_0 ≤ most_2)))]) Try.results38 ⟨RVs.tmp rfl, trivial⟩ (fun w2 h => St.done (fun a b p s => rfl) h)
    · intro J
      by_cases hc : ((decide (n_0 ≥ 0)) && (decide (n_0 ≤ declared_1))) = true
      · have hq4 := hc
        refine SP.isT (d := 14) rfl hq4 ?_
        refine SP.val (Val.move rfl) rfl rfl rfl ?_
        refine SP.val (Val.move rfl) rfl rfl rfl ?_
        refine SP.val (Val.leq rfl rfl) rfl rfl rfl ?_
        refine SP.val (Val.pickT rfl rfl) rfl rfl rfl ?_
        exact J fun a w2 ha hw => ⟨ha.sub ⟨congrArg (fun z => some (Value.bool z)) (and_t hq4 rfl), trivial⟩, hw⟩
      · have hq4 := (bf hc)
        refine SP.isF (d := 14) rfl hq4 ?_
        refine SP.not rfl rfl rfl ?_
        refine SP.not rfl rfl rfl ?_
        refine SP.not rfl rfl rfl ?_
        refine SP.val (Val.pickF rfl rfl) rfl rfl rfl ?_
        exact J fun a w2 ha hw => ⟨ha.sub ⟨congrArg (fun z => some (Value.bool z)) (and_f hq4), trivial⟩, hw⟩
  · intro J
    by_cases hc : n_0 ≥ 0
    · have hq2 := (decide_eq_true hc)
      refine SP.isT (d := 9) rfl hq2 ?_
      refine SP.val (Val.move rfl) rfl rfl rfl ?_
      refine SP.val (Val.move rfl) rfl rfl rfl ?_
      refine SP.val (Val.leq rfl rfl) rfl rfl rfl ?_
      refine SP.val (Val.pickT rfl rfl) rfl rfl rfl ?_
      exact J fun a w2 ha hw => ⟨ha.sub ⟨rfl, rfl, congrArg (fun z => some (Value.bool z)) (and_t hq2 rfl), trivial⟩, hw⟩
    · have hq2 := (decide_eq_false hc)
      refine SP.isF (d := 9) rfl hq2 ?_
      refine SP.not rfl rfl rfl ?_
      refine SP.not rfl rfl rfl ?_
      refine SP.not rfl rfl rfl ?_
      refine SP.val (Val.pickF rfl rfl) rfl rfl rfl ?_
      exact J fun a w2 ha hw => ⟨ha.sub ⟨rfl, rfl, congrArg (fun z => some (Value.bool z)) (and_f hq2), trivial⟩, hw⟩
/-! ### capstan/cost.Fits: function 9 -/
def cost_Fits.f (c_0 : api_Cert) (x_1 : api_Method) : Option Bool :=
  (cost_within.f c_0.Fuel x_1.Fuel 1048576).bind fun t8 => (if t8 = true then ((cost_within.f c_0.Stack x_1.Stack 256).bind fun t11 => some t11) else (some false)).bind fun t12 => (if t12 = true then ((cost_within.f c_0.Heap x_1.Heap 1024).bind fun t15 => some t15) else (some false)).bind fun t16 => some t16
theorem cost_Fits.ok (c_0 : api_Cert) (x_1 : api_Method) (v_x_1_Args : Value) (v_x_1_Locals : Value) (v_x_1_Code : Value) (r : Bool) (H : cost_Fits.f c_0 x_1 = some r) (w : World) (hV : Hp) (sV : Sub hV (hp w)) (h0 : slR (kInt .u8) hV v_x_1_Args x_1.Args) (h1 : slR (kInt .u8) hV v_x_1_Locals x_1.Locals) (h2 : slR k_api_Instr hV v_x_1_Code x_1.Code) :
    Trip Try.prog 9 [.agg #[.int .i64 c_0.Fuel, .int .i64 c_0.Stack, .int .i64 c_0.Heap], .agg #[v_x_1_Args, v_x_1_Locals, .int .u8 x_1.Result, .bool x_1.Reads, .int .i64 x_1.Fuel, .int .i64 x_1.Stack, .int .i64 x_1.Heap, v_x_1_Code]].toArray em hV w (fun v => HO.pure (v = .bool r)) := by
  have see : Sees w em hV := ⟨sV, Dj.em_right _⟩
  refine Trip.of (P := Try.prog) (n := 24) Try.func9 rfl rfl rfl (St.begin (All.cons (x := slP (kInt .u8) v_x_1_Args x_1.Args) h0 (All.cons (x := slP (kInt .u8) v_x_1_Locals x_1.Locals) h1 (All.cons (x := slP k_api_Instr v_x_1_Code x_1.Code) h2 (All.nil _))))) ?_
  have ho := H
  refine CP.seq ?_
  refine CP.region ?_
  refine SP.box (cs := [.int .i64 c_0.Fuel, .int .i64 c_0.Stack, .int .i64 c_0.Heap]) rfl rfl rfl rfl (fun b4 => ?_)
  refine SP.box (cs := [v_x_1_Args, v_x_1_Locals, .int .u8 x_1.Result, .bool x_1.Reads, .int .i64 x_1.Fuel, .int .i64 x_1.Stack, .int .i64 x_1.Heap, v_x_1_Code]) rfl rfl rfl rfl (fun b6 => ?_)
  refine SP.val (Val.assign rfl) rfl rfl rfl ?_
  refine SP.nil ?_
  refine QE.then ?_
  refine CP.seq ?_
  refine CP.region ?_
  refine SP.val (Val.fieldAddr Try.underlying23 rfl sz3 rfl) rfl rfl rfl ?_
  refine SP.val (Val.load1 1 rfl Try.underlying3 rfl rfl rfl) rfl rfl rfl ?_
  refine SP.val (Val.fieldAddr Try.underlying27 rfl sz3 rfl) rfl rfl rfl ?_
  refine SP.val (Val.load1 0 rfl Try.underlying3 rfl rfl rfl) rfl rfl rfl ?_
  obtain ⟨t8, hc, ho⟩ := bind_some ho
  refine SP.callV see (caps := []) (.bool t8) fn38 rfl rfl rfl rfl (fun w2 hP hs sub ap => cost_within.ok c_0.Fuel x_1.Fuel 1048576  _ hc w2 hP sub ) ?_
  clear hc
  refine SP.val (Val.move rfl) rfl rfl rfl ?_
  obtain ⟨t12, hg_t12, ho⟩ := bind_some ho
  refine SP.join 6 (fun a w2 => Env 24 [(2, .pointer (some ⟨b4, 0, none⟩)), (3, .pointer (some ⟨b6, 0, none⟩)), (16, .bool t12)] a ∧ St w em hV [slP (kInt .u8) v_x_1_Args x_1.Args, slP (kInt .u8) v_x_1_Locals x_1.Locals, slP k_api_Instr v_x_1_Code x_1.Code] [boxO b6 [v_x_1_Args, v_x_1_Locals, .int .u8 x_1.Result, .bool x_1.Reads, .int .i64 x_1.Fuel, .int .i64 x_1.Stack, .int .i64 x_1.Heap, v_x_1_Code] 27, boxO b4 [.int .i64 c_0.Fuel, .int .i64 c_0.Stack, .int .i64 c_0.Heap] 23] w2) ?_ ?_
  · rintro a w2 ⟨ha, hw⟩
    refine SP.app ha hw ?_
    clear ha hw a w2 hg_t12
    refine SP.val (Val.move rfl) rfl rfl rfl ?_
    obtain ⟨t16, hg_t16, ho⟩ := bind_some ho
    refine SP.join 6 (fun a w2 => Env 24 [(23, .bool t16)] a ∧ St w em hV [slP (kInt .u8) v_x_1_Args x_1.Args, slP (kInt .u8) v_x_1_Locals x_1.Locals, slP k_api_Instr v_x_1_Code x_1.Code] [boxO b6 [v_x_1_Args, v_x_1_Locals, .int .u8 x_1.Result, .bool x_1.Reads, .int .i64 x_1.Fuel, .int .i64 x_1.Stack, .int .i64 x_1.Heap, v_x_1_Code] 27, boxO b4 [.int .i64 c_0.Fuel, .int .i64 c_0.Stack, .int .i64 c_0.Heap] 23] w2) ?_ ?_
    · rintro a w2 ⟨ha, hw⟩
      refine SP.app ha hw ?_
      clear ha hw a w2 hg_t16
      refine SP.val (Val.assign rfl) rfl rfl rfl ?_
      refine SP.nil ?_
      refine QE.then ?_
      refine CP.ret ?_
      obtain rfl := Option.some.inj ho
      exact QE.rets (rs := [.tmp 4]) (vs := [.bool t16]) Try.results9 ⟨RVs.tmp rfl, trivial⟩ (fun w2 h => St.done (fun a b p s => rfl) h)
    · intro J
      clear ho
      have ho := hg_t16
      clear hg_t16
      rcases if_some ho with ⟨hc, ho⟩ | ⟨hc, ho⟩
      · have hq14 := hc
        refine SP.isT (d := 17) rfl hq14 ?_
        refine SP.val (Val.fieldAddr Try.underlying23 rfl sz3 rfl) rfl rfl rfl ?_
        refine SP.val (Val.load1 1 rfl Try.underlying3 rfl rfl rfl) rfl rfl rfl ?_
        refine SP.val (Val.fieldAddr Try.underlying27 rfl sz3 rfl) rfl rfl rfl ?_
        refine SP.val (Val.load1 0 rfl Try.underlying3 rfl rfl rfl) rfl rfl rfl ?_
        obtain ⟨t15, hc, ho⟩ := bind_some ho
        refine SP.callV see (caps := []) (.bool t15) fn38 rfl rfl rfl rfl (fun w2 hP hs sub ap => cost_within.ok c_0.Heap x_1.Heap 1024  _ hc w2 hP sub ) ?_
        clear hc
        refine SP.val (Val.pickT rfl rfl) rfl rfl rfl ?_
        obtain rfl := Option.some.inj ho
        exact J fun a w2 ha hw => ⟨ha.sub ⟨rfl, trivial⟩, hw⟩
      · have hq14 := (bf hc)
        refine SP.isF (d := 17) rfl hq14 ?_
        refine SP.not rfl rfl rfl ?_
        refine SP.not rfl rfl rfl ?_
        refine SP.not rfl rfl rfl ?_
        refine SP.not rfl rfl rfl ?_
        refine SP.not rfl rfl rfl ?_
        refine SP.val (Val.pickF rfl rfl) rfl rfl rfl ?_
        obtain rfl := Option.some.inj ho
        exact J fun a w2 ha hw => ⟨ha.sub ⟨rfl, trivial⟩, hw⟩
  · intro J
    clear ho
    have ho := hg_t12
    clear hg_t12
    rcases if_some ho with ⟨hc, ho⟩ | ⟨hc, ho⟩
    · have hq10 := hc
      refine SP.isT (d := 10) rfl hq10 ?_
      refine SP.val (Val.fieldAddr Try.underlying23 rfl sz3 rfl) rfl rfl rfl ?_
      refine SP.val (Val.load1 1 rfl Try.underlying3 rfl rfl rfl) rfl rfl rfl ?_
      refine SP.val (Val.fieldAddr Try.underlying27 rfl sz3 rfl) rfl rfl rfl ?_
      refine SP.val (Val.load1 0 rfl Try.underlying3 rfl rfl rfl) rfl rfl rfl ?_
      obtain ⟨t11, hc, ho⟩ := bind_some ho
      refine SP.callV see (caps := []) (.bool t11) fn38 rfl rfl rfl rfl (fun w2 hP hs sub ap => cost_within.ok c_0.Stack x_1.Stack 256  _ hc w2 hP sub ) ?_
      clear hc
      refine SP.val (Val.pickT rfl rfl) rfl rfl rfl ?_
      obtain rfl := Option.some.inj ho
      exact J fun a w2 ha hw => ⟨ha.sub ⟨rfl, rfl, rfl, trivial⟩, hw⟩
    · have hq10 := (bf hc)
      refine SP.isF (d := 10) rfl hq10 ?_
      refine SP.not rfl rfl rfl ?_
      refine SP.not rfl rfl rfl ?_
      refine SP.not rfl rfl rfl ?_
      refine SP.not rfl rfl rfl ?_
      refine SP.not rfl rfl rfl ?_
      refine SP.val (Val.pickF rfl rfl) rfl rfl rfl ?_
      obtain rfl := Option.some.inj ho
      exact J fun a w2 ha hw => ⟨ha.sub ⟨rfl, rfl, rfl, trivial⟩, hw⟩
/-! ### capstan/capstanref12.Fits: function 10 -/
def capstanref12_Fits.f (c_0 : api_Cert) (x_1 : api_Method) : Option Bool :=
  if (((decide (c_0.Fuel < 0)) || (decide (c_0.Stack < 0))) || (decide (c_0.Heap < 0))) = true then (some false) else (if (((decide (c_0.Fuel > 1048576)) || (decide (c_0.Stack > 256))) || (decide (c_0.Heap > 1024))) = true then (some false) else (some (((decide (c_0.Fuel ≤ x_1.Fuel)) && (decide (c_0.Stack ≤ x_1.Stack))) && (decide (c_0.Heap ≤ x_1.Heap)))))
theorem capstanref12_Fits.ok (c_0 : api_Cert) (x_1 : api_Method) (v_x_1_Args : Value) (v_x_1_Locals : Value) (v_x_1_Code : Value) (r : Bool) (H : capstanref12_Fits.f c_0 x_1 = some r) (w : World) (hV : Hp) (sV : Sub hV (hp w)) (h0 : slR (kInt .u8) hV v_x_1_Args x_1.Args) (h1 : slR (kInt .u8) hV v_x_1_Locals x_1.Locals) (h2 : slR k_api_Instr hV v_x_1_Code x_1.Code) :
    Trip Try.prog 10 [.agg #[.int .i64 c_0.Fuel, .int .i64 c_0.Stack, .int .i64 c_0.Heap], .agg #[v_x_1_Args, v_x_1_Locals, .int .u8 x_1.Result, .bool x_1.Reads, .int .i64 x_1.Fuel, .int .i64 x_1.Stack, .int .i64 x_1.Heap, v_x_1_Code]].toArray em hV w (fun v => HO.pure (v = .bool r)) := by
  have see : Sees w em hV := ⟨sV, Dj.em_right _⟩
  refine Trip.of (P := Try.prog) (n := 50) Try.func10 rfl rfl rfl (St.begin (All.cons (x := slP (kInt .u8) v_x_1_Args x_1.Args) h0 (All.cons (x := slP (kInt .u8) v_x_1_Locals x_1.Locals) h1 (All.cons (x := slP k_api_Instr v_x_1_Code x_1.Code) h2 (All.nil _))))) ?_
  have ho := H
  refine CP.seq ?_
  refine CP.region ?_
  refine SP.box (cs := [.int .i64 c_0.Fuel, .int .i64 c_0.Stack, .int .i64 c_0.Heap]) rfl rfl rfl rfl (fun b4 => ?_)
  refine SP.box (cs := [v_x_1_Args, v_x_1_Locals, .int .u8 x_1.Result, .bool x_1.Reads, .int .i64 x_1.Fuel, .int .i64 x_1.Stack, .int .i64 x_1.Heap, v_x_1_Code]) rfl rfl rfl rfl (fun b6 => ?_)
  refine SP.val (Val.assign rfl) rfl rfl rfl ?_
  refine SP.nil ?_
  refine QE.then ?_
  refine CP.seq ?_
  refine CP.seq ?_
  refine CP.region ?_
  refine SP.val (Val.fieldAddr Try.underlying23 rfl sz3 rfl) rfl rfl rfl ?_
  refine SP.val (Val.load1 1 rfl Try.underlying3 rfl rfl rfl) rfl rfl rfl ?_
  refine SP.val (Val.lss rfl rfl) rfl rfl rfl ?_
  refine SP.val (Val.move rfl) rfl rfl rfl ?_
  refine SP.join 4 (fun a w2 => Env 50 [(2, .pointer (some ⟨b4, 0, none⟩)), (3, .pointer (some ⟨b6, 0, none⟩)), (12, .bool ((decide (c_0.Fuel < 0)) || (decide (c_0.Stack < 0))))] a ∧ St w em hV [slP (kInt .u8) v_x_1_Args x_1.Args, slP (kInt .u8) v_x_1_Locals x_1.Locals, slP k_api_Instr v_x_1_Code x_1.Code] [boxO b6 [v_x_1_Args, v_x_1_Locals, .int .u8 x_1.Result, .bool x_1.Reads, .int .i64 x_1.Fuel, .int .i64 x_1.Stack, .int .i64 x_1.Heap, v_x_1_Code] 27, boxO b4 [.int .i64 c_0.Fuel, .int .i64 c_0.Stack, .int .i64 c_0.Heap] 23] w2) ?_ ?_
  · rintro a w2 ⟨ha, hw⟩
    refine SP.app ha hw ?_
    clear ha hw a w2
    refine SP.val (Val.move rfl) rfl rfl rfl ?_
    refine SP.join 4 (fun a w2 => Env 50 [(2, .pointer (some ⟨b4, 0, none⟩)), (3, .pointer (some ⟨b6, 0, none⟩)), (17, .bool (((decide (c_0.Fuel < 0)) || (decide (c_0.Stack < 0))) || (decide (c_0.Heap < 0))))] a ∧ St w em hV [slP (kInt .u8) v_x_1_Args x_1.Args, slP (kInt .u8) v_x_1_Locals x_1.Locals, slP k_api_Instr v_x_1_Code x_1.Code] [boxO b6 [v_x_1_Args, v_x_1_Locals, .int .u8 x_1.Result, .bool x_1.Reads, .int .i64 x_1.Fuel, .int .i64 x_1.Stack, .int .i64 x_1.Heap, v_x_1_Code] 27, boxO b4 [.int .i64 c_0.Fuel, .int .i64 c_0.Stack, .int .i64 c_0.Heap] 23] w2) ?_ ?_
    · rintro a w2 ⟨ha, hw⟩
      refine SP.app ha hw ?_
      clear ha hw a w2
      refine SP.nil ?_
      refine QE.then ?_
      rcases if_some ho with ⟨hc, ho⟩ | ⟨hc, ho⟩
      · refine CP.condT rfl hc ?_
        refine CP.seq ?_
        refine CP.region ?_
        refine SP.val (Val.assign rfl) rfl rfl rfl ?_
        refine SP.nil ?_
        refine QE.then ?_
        refine CP.ret ?_
        refine QE.thru (by intro e; cases e) ?_
        obtain rfl := Option.some.inj ho
        exact QE.rets (rs := [.tmp 4]) (vs := [.bool false]) Try.results10 ⟨RVs.tmp rfl, trivial⟩ (fun w2 h => St.done (fun a b p s => rfl) h)
      · refine CP.condF rfl (bf hc) ?_
        refine CP.skip ?_
        refine QE.then ?_
        refine CP.seq ?_
        refine CP.seq ?_
        refine CP.region ?_
        refine SP.val (Val.fieldAddr Try.underlying23 rfl sz3 rfl) rfl rfl rfl ?_
        refine SP.val (Val.load1 1 rfl Try.underlying3 rfl rfl rfl) rfl rfl rfl ?_
        refine SP.val (Val.gtr rfl rfl) rfl rfl rfl ?_
        refine SP.val (Val.move rfl) rfl rfl rfl ?_
        refine SP.join 4 (fun a w2 => Env 50 [(2, .pointer (some ⟨b4, 0, none⟩)), (3, .pointer (some ⟨b6, 0, none⟩)), (25, .bool ((decide (c_0.Fuel > 1048576)) || (decide (c_0.Stack > 256))))] a ∧ St w em hV [slP (kInt .u8) v_x_1_Args x_1.Args, slP (kInt .u8) v_x_1_Locals x_1.Locals, slP k_api_Instr v_x_1_Code x_1.Code] [boxO b6 [v_x_1_Args, v_x_1_Locals, .int .u8 x_1.Result, .bool x_1.Reads, .int .i64 x_1.Fuel, .int .i64 x_1.Stack, .int .i64 x_1.Heap, v_x_1_Code] 27, boxO b4 [.int .i64 c_0.Fuel, .int .i64 c_0.Stack, .int .i64 c_0.Heap] 23] w2) ?_ ?_
        · rintro a w2 ⟨ha, hw⟩
          refine SP.app ha hw ?_
          clear ha hw a w2
          refine SP.val (Val.move rfl) rfl rfl rfl ?_
          refine SP.join 4 (fun a w2 => Env 50 [(2, .pointer (some ⟨b4, 0, none⟩)), (3, .pointer (some ⟨b6, 0, none⟩)), (30, .bool (((decide (c_0.Fuel > 1048576)) || (decide (c_0.Stack > 256))) || (decide (c_0.Heap > 1024))))] a ∧ St w em hV [slP (kInt .u8) v_x_1_Args x_1.Args, slP (kInt .u8) v_x_1_Locals x_1.Locals, slP k_api_Instr v_x_1_Code x_1.Code] [boxO b6 [v_x_1_Args, v_x_1_Locals, .int .u8 x_1.Result, .bool x_1.Reads, .int .i64 x_1.Fuel, .int .i64 x_1.Stack, .int .i64 x_1.Heap, v_x_1_Code] 27, boxO b4 [.int .i64 c_0.Fuel, .int .i64 c_0.Stack, .int .i64 c_0.Heap] 23] w2) ?_ ?_
          · rintro a w2 ⟨ha, hw⟩
            refine SP.app ha hw ?_
            clear ha hw a w2
            refine SP.nil ?_
            refine QE.then ?_
            rcases if_some ho with ⟨hc, ho⟩ | ⟨hc, ho⟩
            · refine CP.condT rfl hc ?_
              refine CP.seq ?_
              refine CP.region ?_
              refine SP.val (Val.assign rfl) rfl rfl rfl ?_
              refine SP.nil ?_
              refine QE.then ?_
              refine CP.ret ?_
              refine QE.thru (by intro e; cases e) ?_
              obtain rfl := Option.some.inj ho
              exact QE.rets (rs := [.tmp 4]) (vs := [.bool false]) Try.results10 ⟨RVs.tmp rfl, trivial⟩ (fun w2 h => St.done (fun a b p s => rfl) h)
            · refine CP.condF rfl (bf hc) ?_
              refine CP.skip ?_
              refine QE.then ?_
              refine CP.seq ?_
              refine CP.region ?_
              refine SP.val (Val.fieldAddr Try.underlying23 rfl sz3 rfl) rfl rfl rfl ?_
              refine SP.val (Val.load1 1 rfl Try.underlying3 rfl rfl rfl) rfl rfl rfl ?_
              refine SP.val (Val.fieldAddr Try.underlying27 rfl sz3 rfl) rfl rfl rfl ?_
              refine SP.val (Val.load1 0 rfl Try.underlying3 rfl rfl rfl) rfl rfl rfl ?_
              refine SP.val (Val.leq rfl rfl) rfl rfl rfl ?_
              refine SP.val (Val.move rfl) rfl rfl rfl ?_
              refine SP.join 6 (fun a w2 => Env 50 [(2, .pointer (some ⟨b4, 0, none⟩)), (3, .pointer (some ⟨b6, 0, none⟩)), (42, .bool ((decide (c_0.Fuel ≤ x_1.Fuel)) && (decide (c_0.Stack ≤ x_1.Stack))))] a ∧ St w em hV [slP (kInt .u8) v_x_1_Args x_1.Args, slP (kInt .u8) v_x_1_Locals x_1.Locals, slP k_api_Instr v_x_1_Code x_1.Code] [boxO b6 [v_x_1_Args, v_x_1_Locals, .int .u8 x_1.Result, .bool x_1.Reads, .int .i64 x_1.Fuel, .int .i64 x_1.Stack, .int .i64 x_1.Heap, v_x_1_Code] 27, boxO b4 [.int .i64 c_0.Fuel, .int .i64 c_0.Stack, .int .i64 c_0.Heap] 23] w2) ?_ ?_
              · rintro a w2 ⟨ha, hw⟩
                refine SP.app ha hw ?_
                clear ha hw a w2
                refine SP.val (Val.move rfl) rfl rfl rfl ?_
                refine SP.join 6 (fun a w2 => Env 50 [(49, .bool (((decide (c_0.Fuel ≤ x_1.Fuel)) && (decide (c_0.Stack ≤ x_1.Stack))) && (decide (c_0.Heap ≤ x_1.Heap))))] a ∧ St w em hV [slP (kInt .u8) v_x_1_Args x_1.Args, slP (kInt .u8) v_x_1_Locals x_1.Locals, slP k_api_Instr v_x_1_Code x_1.Code] [boxO b6 [v_x_1_Args, v_x_1_Locals, .int .u8 x_1.Result, .bool x_1.Reads, .int .i64 x_1.Fuel, .int .i64 x_1.Stack, .int .i64 x_1.Heap, v_x_1_Code] 27, boxO b4 [.int .i64 c_0.Fuel, .int .i64 c_0.Stack, .int .i64 c_0.Heap] 23] w2) ?_ ?_
                · rintro a w2 ⟨ha, hw⟩
                  refine SP.app ha hw ?_
                  clear ha hw a w2
                  refine SP.val (Val.assign rfl) rfl rfl rfl ?_
                  refine SP.nil ?_
                  refine QE.then ?_
                  refine CP.ret ?_
                  obtain rfl := Option.some.inj ho
                  exact QE.rets (rs := [.tmp 4]) (vs := [.bool (((decide (c_0.Fuel ≤ x_1.Fuel)) && (decide (c_0.Stack ≤ x_1.Stack))) && (decide (c_0.Heap ≤ x_1.Heap)))]) Try.results10 ⟨RVs.tmp rfl, trivial⟩ (fun w2 h => St.done (fun a b p s => rfl) h)
                · intro J
                  by_cases hc : ((decide (c_0.Fuel ≤ x_1.Fuel)) && (decide (c_0.Stack ≤ x_1.Stack))) = true
                  · have hq19 := hc
                    refine SP.isT (d := 43) rfl hq19 ?_
                    refine SP.val (Val.fieldAddr Try.underlying23 rfl sz3 rfl) rfl rfl rfl ?_
                    refine SP.val (Val.load1 1 rfl Try.underlying3 rfl rfl rfl) rfl rfl rfl ?_
                    refine SP.val (Val.fieldAddr Try.underlying27 rfl sz3 rfl) rfl rfl rfl ?_
                    refine SP.val (Val.load1 0 rfl Try.underlying3 rfl rfl rfl) rfl rfl rfl ?_
                    refine SP.val (Val.leq rfl rfl) rfl rfl rfl ?_
                    refine SP.val (Val.pickT rfl rfl) rfl rfl rfl ?_
                    exact J fun a w2 ha hw => ⟨ha.sub ⟨congrArg (fun z => some (Value.bool z)) (and_t hq19 rfl), trivial⟩, hw⟩
                  · have hq19 := (bf hc)
                    refine SP.isF (d := 43) rfl hq19 ?_
                    refine SP.not rfl rfl rfl ?_
                    refine SP.not rfl rfl rfl ?_
                    refine SP.not rfl rfl rfl ?_
                    refine SP.not rfl rfl rfl ?_
                    refine SP.not rfl rfl rfl ?_
                    refine SP.val (Val.pickF rfl rfl) rfl rfl rfl ?_
                    exact J fun a w2 ha hw => ⟨ha.sub ⟨congrArg (fun z => some (Value.bool z)) (and_f hq19), trivial⟩, hw⟩
              · intro J
                by_cases hc : c_0.Fuel ≤ x_1.Fuel
                · have hq17 := (decide_eq_true hc)
                  refine SP.isT (d := 36) rfl hq17 ?_
                  refine SP.val (Val.fieldAddr Try.underlying23 rfl sz3 rfl) rfl rfl rfl ?_
                  refine SP.val (Val.load1 1 rfl Try.underlying3 rfl rfl rfl) rfl rfl rfl ?_
                  refine SP.val (Val.fieldAddr Try.underlying27 rfl sz3 rfl) rfl rfl rfl ?_
                  refine SP.val (Val.load1 0 rfl Try.underlying3 rfl rfl rfl) rfl rfl rfl ?_
                  refine SP.val (Val.leq rfl rfl) rfl rfl rfl ?_
                  refine SP.val (Val.pickT rfl rfl) rfl rfl rfl ?_
                  exact J fun a w2 ha hw => ⟨ha.sub ⟨rfl, rfl, congrArg (fun z => some (Value.bool z)) (and_t hq17 rfl), trivial⟩, hw⟩
                · have hq17 := (decide_eq_false hc)
                  refine SP.isF (d := 36) rfl hq17 ?_
                  refine SP.not rfl rfl rfl ?_
                  refine SP.not rfl rfl rfl ?_
                  refine SP.not rfl rfl rfl ?_
                  refine SP.not rfl rfl rfl ?_
                  refine SP.not rfl rfl rfl ?_
                  refine SP.val (Val.pickF rfl rfl) rfl rfl rfl ?_
                  exact J fun a w2 ha hw => ⟨ha.sub ⟨rfl, rfl, congrArg (fun z => some (Value.bool z)) (and_f hq17), trivial⟩, hw⟩
          · intro J
            by_cases hc : ((decide (c_0.Fuel > 1048576)) || (decide (c_0.Stack > 256))) = true
            · have hq15 := hc
              refine SP.isT (d := 26) rfl hq15 ?_
              refine SP.not rfl rfl rfl ?_
              refine SP.not rfl rfl rfl ?_
              refine SP.not rfl rfl rfl ?_
              refine SP.val (Val.pickT rfl rfl) rfl rfl rfl ?_
              exact J fun a w2 ha hw => ⟨ha.sub ⟨rfl, rfl, congrArg (fun z => some (Value.bool z)) (or_t hq15), trivial⟩, hw⟩
            · have hq15 := (bf hc)
              refine SP.isF (d := 26) rfl hq15 ?_
              refine SP.val (Val.fieldAddr Try.underlying23 rfl sz3 rfl) rfl rfl rfl ?_
              refine SP.val (Val.load1 1 rfl Try.underlying3 rfl rfl rfl) rfl rfl rfl ?_
              refine SP.val (Val.gtr rfl rfl) rfl rfl rfl ?_
              refine SP.val (Val.pickF rfl rfl) rfl rfl rfl ?_
              exact J fun a w2 ha hw => ⟨ha.sub ⟨rfl, rfl, congrArg (fun z => some (Value.bool z)) (or_f hq15 rfl), trivial⟩, hw⟩
        · intro J
          by_cases hc : c_0.Fuel > 1048576
          · have hq13 := (decide_eq_true hc)
            refine SP.isT (d := 21) rfl hq13 ?_
            refine SP.not rfl rfl rfl ?_
            refine SP.not rfl rfl rfl ?_
            refine SP.not rfl rfl rfl ?_
            refine SP.val (Val.pickT rfl rfl) rfl rfl rfl ?_
            exact J fun a w2 ha hw => ⟨ha.sub ⟨rfl, rfl, congrArg (fun z => some (Value.bool z)) (or_t hq13), trivial⟩, hw⟩
          · have hq13 := (decide_eq_false hc)
            refine SP.isF (d := 21) rfl hq13 ?_
            refine SP.val (Val.fieldAddr Try.underlying23 rfl sz3 rfl) rfl rfl rfl ?_
            refine SP.val (Val.load1 1 rfl Try.underlying3 rfl rfl rfl) rfl rfl rfl ?_
            refine SP.val (Val.gtr rfl rfl) rfl rfl rfl ?_
            refine SP.val (Val.pickF rfl rfl) rfl rfl rfl ?_
            exact J fun a w2 ha hw => ⟨ha.sub ⟨rfl, rfl, congrArg (fun z => some (Value.bool z)) (or_f hq13 rfl), trivial⟩, hw⟩
    · intro J
      by_cases hc : ((decide (c_0.Fuel < 0)) || (decide (c_0.Stack < 0))) = true
      · have hq11 := hc
        refine SP.isT (d := 13) rfl hq11 ?_
        refine SP.not rfl rfl rfl ?_
        refine SP.not rfl rfl rfl ?_
        refine SP.not rfl rfl rfl ?_
        refine SP.val (Val.pickT rfl rfl) rfl rfl rfl ?_
        exact J fun a w2 ha hw => ⟨ha.sub ⟨rfl, rfl, congrArg (fun z => some (Value.bool z)) (or_t hq11), trivial⟩, hw⟩
      · have hq11 := (bf hc)
        refine SP.isF (d := 13) rfl hq11 ?_
        refine SP.val (Val.fieldAddr Try.underlying23 rfl sz3 rfl) rfl rfl rfl ?_
        refine SP.val (Val.load1 1 rfl Try.underlying3 rfl rfl rfl) rfl rfl rfl ?_
        refine SP.val (Val.lss rfl rfl) rfl rfl rfl ?_
        refine SP.val (Val.pickF rfl rfl) rfl rfl rfl ?_
        exact J fun a w2 ha hw => ⟨ha.sub ⟨rfl, rfl, congrArg (fun z => some (Value.bool z)) (or_f hq11 rfl), trivial⟩, hw⟩
  · intro J
    by_cases hc : c_0.Fuel < 0
    · have hq9 := (decide_eq_true hc)
      refine SP.isT (d := 8) rfl hq9 ?_
      refine SP.not rfl rfl rfl ?_
      refine SP.not rfl rfl rfl ?_
      refine SP.not rfl rfl rfl ?_
      refine SP.val (Val.pickT rfl rfl) rfl rfl rfl ?_
      exact J fun a w2 ha hw => ⟨ha.sub ⟨rfl, rfl, congrArg (fun z => some (Value.bool z)) (or_t hq9), trivial⟩, hw⟩
    · have hq9 := (decide_eq_false hc)
      refine SP.isF (d := 8) rfl hq9 ?_
      refine SP.val (Val.fieldAddr Try.underlying23 rfl sz3 rfl) rfl rfl rfl ?_
      refine SP.val (Val.load1 1 rfl Try.underlying3 rfl rfl rfl) rfl rfl rfl ?_
      refine SP.val (Val.lss rfl rfl) rfl rfl rfl ?_
      refine SP.val (Val.pickF rfl rfl) rfl rfl rfl ?_
      exact J fun a w2 ha hw => ⟨ha.sub ⟨rfl, rfl, congrArg (fun z => some (Value.bool z)) (or_f hq9 rfl), trivial⟩, hw⟩
/-! ### capstan/capstanlaw12.CostFits: function 3 -/
def capstanlaw12_CostFits.f (c_0 : api_Cert) (x_1 : api_Method) : Option Bool :=
  (capstanlaw07_Great.f x_1).bind fun t8 => if t8 = true then (some true) else ((cost_Fits.f c_0 x_1).bind fun t9 => (capstanref12_Fits.f c_0 x_1).bind fun t11 => some (t9 == t11))
theorem capstanlaw12_CostFits.ok (c_0 : api_Cert) (x_1 : api_Method) (v_x_1_Args : Value) (v_x_1_Locals : Value) (v_x_1_Code : Value) (r : Bool) (H : capstanlaw12_CostFits.f c_0 x_1 = some r) (w : World) (hV : Hp) (sV : Sub hV (hp w)) (h0 : slR (kInt .u8) hV v_x_1_Args x_1.Args) (h1 : slR (kInt .u8) hV v_x_1_Locals x_1.Locals) (h2 : slR k_api_Instr hV v_x_1_Code x_1.Code) :
    Trip Try.prog 3 [.agg #[.int .i64 c_0.Fuel, .int .i64 c_0.Stack, .int .i64 c_0.Heap], .agg #[v_x_1_Args, v_x_1_Locals, .int .u8 x_1.Result, .bool x_1.Reads, .int .i64 x_1.Fuel, .int .i64 x_1.Stack, .int .i64 x_1.Heap, v_x_1_Code]].toArray em hV w (fun v => HO.pure (v = .bool r)) := by
  have see : Sees w em hV := ⟨sV, Dj.em_right _⟩
  refine Trip.of (P := Try.prog) (n := 14) Try.func3 rfl rfl rfl (St.begin (All.cons (x := slP (kInt .u8) v_x_1_Args x_1.Args) h0 (All.cons (x := slP (kInt .u8) v_x_1_Locals x_1.Locals) h1 (All.cons (x := slP k_api_Instr v_x_1_Code x_1.Code) h2 (All.nil _))))) ?_
  have ho := H
  refine CP.seq ?_
  refine CP.region ?_
  refine SP.box (cs := [.int .i64 c_0.Fuel, .int .i64 c_0.Stack, .int .i64 c_0.Heap]) rfl rfl rfl rfl (fun b4 => ?_)
  refine SP.box (cs := [v_x_1_Args, v_x_1_Locals, .int .u8 x_1.Result, .bool x_1.Reads, .int .i64 x_1.Fuel, .int .i64 x_1.Stack, .int .i64 x_1.Heap, v_x_1_Code]) rfl rfl rfl rfl (fun b6 => ?_)
  refine SP.val (Val.assign rfl) rfl rfl rfl ?_
  refine SP.nil ?_
  refine QE.then ?_
  refine CP.seq ?_
  refine CP.seq ?_
  refine CP.region ?_
  refine SP.val (Val.loadA 0 rfl Try.underlying27 rfl sz27 rfl rfl rfl) rfl rfl rfl ?_
  obtain ⟨t8, hc, ho⟩ := bind_some ho
  refine SP.callV see (caps := []) (.bool t8) fn8 rfl rfl rfl rfl (fun w2 hP hs sub ap => capstanlaw07_Great.ok x_1 _ _ _ _ hc w2 hP sub (ap.get 0 rfl) (ap.get 1 rfl) (ap.get 2 rfl)) ?_
  clear hc
  refine SP.nil ?_
  refine QE.then ?_
  rcases if_some ho with ⟨hc, ho⟩ | ⟨hc, ho⟩
  · refine CP.condT rfl hc ?_
    refine CP.seq ?_
    refine CP.region ?_
    refine SP.val (Val.assign rfl) rfl rfl rfl ?_
    refine SP.nil ?_
    refine QE.then ?_
    refine CP.ret ?_
    refine QE.thru (by intro e; cases e) ?_
    obtain rfl := Option.some.inj ho
    exact QE.rets (rs := [.tmp 4]) (vs := [.bool true]) Try.results3 ⟨RVs.tmp rfl, trivial⟩ (fun w2 h => St.done (fun a b p s => rfl) h)
  · refine CP.condF rfl (bf hc) ?_
    refine CP.skip ?_
    refine QE.then ?_
    refine CP.seq ?_
    refine CP.drawA (by kernel_rfl) (fun w2 k h => h.drawn k) ?_
    obtain ⟨t9, hc10, ho⟩ := bind_some ho
    obtain ⟨t11, hc12, ho⟩ := bind_some ho
    refine DA.phase (fun i => Nat.ble 0 i && Nat.blt i 7) (fun w2 => St w em hV [slP (kInt .u8) v_x_1_Args x_1.Args, slP (kInt .u8) v_x_1_Locals x_1.Locals, slP k_api_Instr v_x_1_Code x_1.Code] [boxO b6 [v_x_1_Args, v_x_1_Locals, .int .u8 x_1.Result, .bool x_1.Reads, .int .i64 x_1.Fuel, .int .i64 x_1.Stack, .int .i64 x_1.Heap, v_x_1_Code] 27, boxO b4 [.int .i64 c_0.Fuel, .int .i64 c_0.Stack, .int .i64 c_0.Heap] 23] w2) ?_
    refine DT.take 0 rfl rfl rfl rfl (by kernel_rfl) (fun _ _ _ h => h) (Val.loadA 1 rfl Try.underlying23 rfl sz23 rfl rfl rfl) (fun w2 hw => hw) ?_
    refine DT.take 1 rfl rfl rfl rfl (by kernel_rfl) (fun _ _ _ h => h) (Val.loadA 0 rfl Try.underlying27 rfl sz27 rfl rfl rfl) (fun w2 hw => hw) ?_
    refine DT.take 3 rfl rfl rfl rfl (by kernel_rfl) (fun _ _ _ h => h) (Val.loadA 1 rfl Try.underlying23 rfl sz23 rfl rfl rfl) (fun w2 hw => hw) ?_
    refine DT.take 4 rfl rfl rfl rfl (by kernel_rfl) (fun _ _ _ h => h) (Val.loadA 0 rfl Try.underlying27 rfl sz27 rfl rfl rfl) (fun w2 hw => hw) ?_
    refine DT.one 2 rfl (by kernel_rfl) rfl ?_
    refine SP.callV see (caps := []) (.bool t9) fn9 rfl rfl rfl rfl (fun w2 hP hs sub ap => cost_Fits.ok c_0 x_1 _ _ _ _ hc10 w2 hP sub (ap.get 0 rfl) (ap.get 1 rfl) (ap.get 2 rfl)) ?_
    refine SP.nil ?_
    refine QE.atT (fun w2 hw => hw) ?_
    refine DT.one 5 rfl (by kernel_rfl) rfl ?_
    refine SP.callV see (caps := []) (.bool t11) fn10 rfl rfl rfl rfl (fun w2 hP hs sub ap => capstanref12_Fits.ok c_0 x_1 _ _ _ _ hc12 w2 hP sub (ap.get 0 rfl) (ap.get 1 rfl) (ap.get 2 rfl)) ?_
    refine SP.nil ?_
    refine QE.atT (fun w2 hw => hw) ?_
    refine DT.take 6 rfl rfl rfl rfl (by kernel_rfl) (fun _ _ _ h => h) (Val.eqlB Try.underlying4 rfl rfl) (fun w2 hw => hw) ?_
    refine DT.next (by kernel_rfl) ?_
    refine DA.one 7 rfl (by kernel_rfl) ?_
    refine SP.val (Val.assign rfl) rfl rfl rfl ?_
    refine SP.nil ?_
    refine QE.atA ?_
    refine DA.done (by kernel_rfl) ?_
    refine QE.then ?_
    refine CP.ret ?_
    obtain rfl := Option.some.inj ho
    exact QE.rets (rs := [.tmp 4]) (vs := [.bool (t9 == t11)]) Try.results3 ⟨RVs.tmp rfl, trivial⟩ (fun w2 h => St.done (fun a b p s => rfl) h)
theorem cl3 : Try.prog.cellsOf 3 = 1 := by kernel_rfl
theorem cl23 : Try.prog.cellsOf 23 = 3 := by kernel_rfl
def wf_api_Cert (x : api_Cert) : Prop := (Lit.int .i64 x.Fuel).wf = true ∧ (Lit.int .i64 x.Stack).wf = true ∧ (Lit.int .i64 x.Heap).wf = true
theorem opens_api_Cert : Opens Try.prog 23 k_api_Cert wf_api_Cert := by
  intro H enc W fuel cs d ps h
  cases fuel with
  | zero => simp [DataW.trod] at h
  | succ n =>
    obtain ⟨hl, hf⟩ := trod_struct Try.underlying23 h
    rw [cl23] at hl
    obtain ⟨c0, c1, c2, rfl⟩ := len3 hl
    obtain ⟨d0, q0, h0⟩ := hf 0 _ rfl
    replace h0 : DataW.trod enc Try.prog W 0 (fun _ => true) true n 3 (List.take (Try.prog.cellsOf 3) [c0, c1, c2]) = some (d0, q0) := h0
    rw [cl3] at h0
    replace h0 : DataW.trod enc Try.prog W 0 (fun _ => true) true n 3 [c0] = some (d0, q0) := h0
    obtain ⟨x0, r0, w0⟩ := (Opens.int Try.underlying3) enc W n _ _ _ h0
    obtain ⟨rfl, -⟩ := List.cons.inj r0
    obtain ⟨d1, q1, h1⟩ := hf 1 _ rfl
    replace h1 : DataW.trod enc Try.prog W 0 (fun _ => true) true n 3 (List.take (Try.prog.cellsOf 3) [c1, c2]) = some (d1, q1) := h1
    rw [cl3] at h1
    replace h1 : DataW.trod enc Try.prog W 0 (fun _ => true) true n 3 [c1] = some (d1, q1) := h1
    obtain ⟨x1, r1, w1⟩ := (Opens.int Try.underlying3) enc W n _ _ _ h1
    obtain ⟨rfl, -⟩ := List.cons.inj r1
    obtain ⟨d2, q2, h2⟩ := hf 2 _ rfl
    replace h2 : DataW.trod enc Try.prog W 0 (fun _ => true) true n 3 (List.take (Try.prog.cellsOf 3) [c2]) = some (d2, q2) := h2
    rw [cl3] at h2
    replace h2 : DataW.trod enc Try.prog W 0 (fun _ => true) true n 3 [c2] = some (d2, q2) := h2
    obtain ⟨x2, r2, w2⟩ := (Opens.int Try.underlying3) enc W n _ _ _ h2
    obtain ⟨rfl, -⟩ := List.cons.inj r2
    exact ⟨⟨x0, x1, x2⟩, rfl, w0, w1, w2⟩
theorem cl5 : Try.prog.cellsOf 5 = 1 := by kernel_rfl
theorem cl133 : Try.prog.cellsOf 133 = 3 := by kernel_rfl
def wf_api_Instr (x : api_Instr) : Prop := (Lit.int .u8 x.Op).wf = true ∧ (Lit.int .i64 x.A).wf = true ∧ (Lit.int .i64 x.B).wf = true
theorem opens_api_Instr : Opens Try.prog 133 k_api_Instr wf_api_Instr := by
  intro H enc W fuel cs d ps h
  cases fuel with
  | zero => simp [DataW.trod] at h
  | succ n =>
    obtain ⟨hl, hf⟩ := trod_struct Try.underlying133 h
    rw [cl133] at hl
    obtain ⟨c0, c1, c2, rfl⟩ := len3 hl
    obtain ⟨d0, q0, h0⟩ := hf 0 _ rfl
    replace h0 : DataW.trod enc Try.prog W 0 (fun _ => true) true n 5 (List.take (Try.prog.cellsOf 5) [c0, c1, c2]) = some (d0, q0) := h0
    rw [cl5] at h0
    replace h0 : DataW.trod enc Try.prog W 0 (fun _ => true) true n 5 [c0] = some (d0, q0) := h0
    obtain ⟨x0, r0, w0⟩ := (Opens.int Try.underlying5) enc W n _ _ _ h0
    obtain ⟨rfl, -⟩ := List.cons.inj r0
    obtain ⟨d1, q1, h1⟩ := hf 1 _ rfl
    replace h1 : DataW.trod enc Try.prog W 0 (fun _ => true) true n 3 (List.take (Try.prog.cellsOf 3) [c1, c2]) = some (d1, q1) := h1
    rw [cl3] at h1
    replace h1 : DataW.trod enc Try.prog W 0 (fun _ => true) true n 3 [c1] = some (d1, q1) := h1
    obtain ⟨x1, r1, w1⟩ := (Opens.int Try.underlying3) enc W n _ _ _ h1
    obtain ⟨rfl, -⟩ := List.cons.inj r1
    obtain ⟨d2, q2, h2⟩ := hf 2 _ rfl
    replace h2 : DataW.trod enc Try.prog W 0 (fun _ => true) true n 3 (List.take (Try.prog.cellsOf 3) [c2]) = some (d2, q2) := h2
    rw [cl3] at h2
    replace h2 : DataW.trod enc Try.prog W 0 (fun _ => true) true n 3 [c2] = some (d2, q2) := h2
    obtain ⟨x2, r2, w2⟩ := (Opens.int Try.underlying3) enc W n _ _ _ h2
    obtain ⟨rfl, -⟩ := List.cons.inj r2
    exact ⟨⟨x0, x1, x2⟩, rfl, w0, w1, w2⟩
theorem cl24 : Try.prog.cellsOf 24 = 1 := by kernel_rfl
theorem cl4 : Try.prog.cellsOf 4 = 1 := by kernel_rfl
theorem cl25 : Try.prog.cellsOf 25 = 1 := by kernel_rfl
theorem cl27 : Try.prog.cellsOf 27 = 8 := by kernel_rfl
def wf_api_Method (x : api_Method) : Prop := (x.Args.length ≤ maxLen ∧ ∀ y ∈ x.Args, (Lit.int .u8 y).wf = true) ∧ (x.Locals.length ≤ maxLen ∧ ∀ y ∈ x.Locals, (Lit.int .u8 y).wf = true) ∧ (Lit.int .u8 x.Result).wf = true ∧ True ∧ (Lit.int .i64 x.Fuel).wf = true ∧ (Lit.int .i64 x.Stack).wf = true ∧ (Lit.int .i64 x.Heap).wf = true ∧ (x.Code.length ≤ maxLen ∧ ∀ y ∈ x.Code, wf_api_Instr y)
theorem opens_api_Method : Opens Try.prog 27 k_api_Method wf_api_Method := by
  intro H enc W fuel cs d ps h
  cases fuel with
  | zero => simp [DataW.trod] at h
  | succ n =>
    obtain ⟨hl, hf⟩ := trod_struct Try.underlying27 h
    rw [cl27] at hl
    obtain ⟨c0, c1, c2, c3, c4, c5, c6, c7, rfl⟩ := len8 hl
    obtain ⟨d0, q0, h0⟩ := hf 0 _ rfl
    replace h0 : DataW.trod enc Try.prog W 0 (fun _ => true) true n 24 (List.take (Try.prog.cellsOf 24) [c0, c1, c2, c3, c4, c5, c6, c7]) = some (d0, q0) := h0
    rw [cl24] at h0
    replace h0 : DataW.trod enc Try.prog W 0 (fun _ => true) true n 24 [c0] = some (d0, q0) := h0
    obtain ⟨x0, r0, w0⟩ := (Opens.slice Try.underlying24 (Opens.int Try.underlying5) cl5 (by decide)) enc W n _ _ _ h0
    obtain ⟨v0, e0, r0⟩ := r0
    obtain ⟨rfl, -⟩ := List.cons.inj e0
    obtain ⟨d1, q1, h1⟩ := hf 1 _ rfl
    replace h1 : DataW.trod enc Try.prog W 0 (fun _ => true) true n 24 (List.take (Try.prog.cellsOf 24) [c1, c2, c3, c4, c5, c6, c7]) = some (d1, q1) := h1
    rw [cl24] at h1
    replace h1 : DataW.trod enc Try.prog W 0 (fun _ => true) true n 24 [c1] = some (d1, q1) := h1
    obtain ⟨x1, r1, w1⟩ := (Opens.slice Try.underlying24 (Opens.int Try.underlying5) cl5 (by decide)) enc W n _ _ _ h1
    obtain ⟨v1, e1, r1⟩ := r1
    obtain ⟨rfl, -⟩ := List.cons.inj e1
    obtain ⟨d2, q2, h2⟩ := hf 2 _ rfl
    replace h2 : DataW.trod enc Try.prog W 0 (fun _ => true) true n 5 (List.take (Try.prog.cellsOf 5) [c2, c3, c4, c5, c6, c7]) = some (d2, q2) := h2
    rw [cl5] at h2
    replace h2 : DataW.trod enc Try.prog W 0 (fun _ => true) true n 5 [c2] = some (d2, q2) := h2
    obtain ⟨x2, r2, w2⟩ := (Opens.int Try.underlying5) enc W n _ _ _ h2
    obtain ⟨rfl, -⟩ := List.cons.inj r2
    obtain ⟨d3, q3, h3⟩ := hf 3 _ rfl
    replace h3 : DataW.trod enc Try.prog W 0 (fun _ => true) true n 4 (List.take (Try.prog.cellsOf 4) [c3, c4, c5, c6, c7]) = some (d3, q3) := h3
    rw [cl4] at h3
    replace h3 : DataW.trod enc Try.prog W 0 (fun _ => true) true n 4 [c3] = some (d3, q3) := h3
    obtain ⟨x3, r3, w3⟩ := (Opens.bool Try.underlying4) enc W n _ _ _ h3
    obtain ⟨rfl, -⟩ := List.cons.inj r3
    obtain ⟨d4, q4, h4⟩ := hf 4 _ rfl
    replace h4 : DataW.trod enc Try.prog W 0 (fun _ => true) true n 3 (List.take (Try.prog.cellsOf 3) [c4, c5, c6, c7]) = some (d4, q4) := h4
    rw [cl3] at h4
    replace h4 : DataW.trod enc Try.prog W 0 (fun _ => true) true n 3 [c4] = some (d4, q4) := h4
    obtain ⟨x4, r4, w4⟩ := (Opens.int Try.underlying3) enc W n _ _ _ h4
    obtain ⟨rfl, -⟩ := List.cons.inj r4
    obtain ⟨d5, q5, h5⟩ := hf 5 _ rfl
    replace h5 : DataW.trod enc Try.prog W 0 (fun _ => true) true n 3 (List.take (Try.prog.cellsOf 3) [c5, c6, c7]) = some (d5, q5) := h5
    rw [cl3] at h5
    replace h5 : DataW.trod enc Try.prog W 0 (fun _ => true) true n 3 [c5] = some (d5, q5) := h5
    obtain ⟨x5, r5, w5⟩ := (Opens.int Try.underlying3) enc W n _ _ _ h5
    obtain ⟨rfl, -⟩ := List.cons.inj r5
    obtain ⟨d6, q6, h6⟩ := hf 6 _ rfl
    replace h6 : DataW.trod enc Try.prog W 0 (fun _ => true) true n 3 (List.take (Try.prog.cellsOf 3) [c6, c7]) = some (d6, q6) := h6
    rw [cl3] at h6
    replace h6 : DataW.trod enc Try.prog W 0 (fun _ => true) true n 3 [c6] = some (d6, q6) := h6
    obtain ⟨x6, r6, w6⟩ := (Opens.int Try.underlying3) enc W n _ _ _ h6
    obtain ⟨rfl, -⟩ := List.cons.inj r6
    obtain ⟨d7, q7, h7⟩ := hf 7 _ rfl
    replace h7 : DataW.trod enc Try.prog W 0 (fun _ => true) true n 25 (List.take (Try.prog.cellsOf 25) [c7]) = some (d7, q7) := h7
    rw [cl25] at h7
    replace h7 : DataW.trod enc Try.prog W 0 (fun _ => true) true n 25 [c7] = some (d7, q7) := h7
    obtain ⟨x7, r7, w7⟩ := (Opens.slice Try.underlying25 opens_api_Instr cl133 (by decide)) enc W n _ _ _ h7
    obtain ⟨v7, e7, r7⟩ := r7
    obtain ⟨rfl, -⟩ := List.cons.inj e7
    exact ⟨⟨x0, x1, x2, x3, x4, x5, x6, x7⟩, ⟨_, _, _, rfl, r0, r1, r7⟩, w0, w1, w2, w3, w4, w5, w6, w7⟩
/-- What is left to be shown of the law: of plain values alone. -/
def capstanlaw12_CostFits.Pure : Prop := ∀ (x0 : api_Cert) (x1 : api_Method), wf_api_Cert x0 → wf_api_Method x1 → capstanlaw12_CostFits.f x0 x1 = some true
end Go.Proofs.Ytbejlahmhloloaa
end
