/- Functions of the program as plain functions, with the proof that the code computes them: printed by gen.py of this session. -/
import Derived.Test.YtbejlahmhloloaaDoorProg
import Derived.Test.YtbejlahmhloloaaDoorQ24v3d7a50
import Derived.Ground.NamesProg
import Derived.Ground.SlgcProg
import Derived.Ground.SlsfProg
import Derived.Shelf.Bits.Mul64
import Derived.Shelf.Lay
import Derived.Shelf.SlSortCmp.WholeK
import Derived.Shelf.SlicesG.Cmp
import Derived.Shelf.Small.Bits
import Derived.Test.YtbejlahmhloloaaDoorGFlowTellsp1
set_option linter.unusedVariables false
set_option linter.unusedSimpArgs false
set_option maxRecDepth 20000
set_option maxHeartbeats 2000000
noncomputable section
namespace Go.Proofs.YtbejlahmhloloaaDoor
open Go.Q
/-! ### capstan/flow.jumps: function 31 -/
inductive flow_jumps.S where
  | start
  | l1 (x27 : Int)

def flow_jumps.j1 (l_0 : (List api_Instr)) (loops_1 : (List flow_Loop)) (x27 : Int) : Option (flow_jumps.S ⊕ Bool) :=
  some (.inl (.l1 (IntKind.i64.wrap (x27 + 1))))

def flow_jumps.F (l_0 : (List api_Instr)) (loops_1 : (List flow_Loop)) : flow_jumps.S → Option (flow_jumps.S ⊕ Bool)
  | .start => some (.inl (.l1 0))
  | .l1 x27 => if x27 < (l_0.length : Int) then ((elt l_0 x27).bind fun x31 => if ((decide (x31.Op ≠ 26)) && (decide (x31.Op ≠ 27))) = true then (flow_jumps.j1 l_0 loops_1 x27) else ((if ((decide (x31.A ≤ x27)) || (decide (x31.A ≥ (l_0.length : Int)))) = true then (some true) else ((slices_ContainsFunc_flow_Loop_flow_Loop_s1.f loops_1 x31.Op x31.A x31.B x27).bind fun t49 => some t49)).bind fun t50 => if t50 = true then (some (.inr false)) else (flow_jumps.j1 l_0 loops_1 x27))) else (some (.inr true))

def flow_jumps.f (l_0 : (List api_Instr)) (loops_1 : (List flow_Loop)) : Option Bool := runF (flow_jumps.F l_0 loops_1) .start
theorem flow_jumps.ok (l_0 : (List api_Instr)) (loops_1 : (List flow_Loop)) (v_l_0 : Value) (v_loops_1 : Value) (r : Bool) (H : flow_jumps.f l_0 loops_1 = some r) (w : World) (hV : Hp) (sV : Sub hV (hp w)) (h0 : slR k_api_Instr hV v_l_0 l_0) (h1 : slR k_flow_Loop hV v_loops_1 loops_1) :
    Trip Tryd.prog 31 [v_l_0, v_loops_1].toArray em hV w (fun v => HO.pure (v = .bool r)) := by
  have see : Sees w em hV := ⟨sV, Dj.em_right _⟩
  refine Trip.of (P := Tryd.prog) (n := ⟨41, []⟩) Tryd.func31 rfl ⟨rfl, rfl⟩ rfl (St.begin (All.cons (x := slP k_api_Instr v_l_0 l_0) h0 (All.cons (x := slP k_flow_Loop v_loops_1 loops_1) h1 (All.nil _)))) ?_
  obtain ⟨n0, hi⟩ := runF_iff.1 H
  obtain ⟨m0, o, hm0, ho, hr⟩ := iter_some hi
  clear hi
  refine CP.seq ?_
  refine CP.region ?_
  refine SP.val (Val.assign rfl) rfl rfl rfl ?_
  refine SP.nil ?_
  refine QE.then ?_
  refine CP.seq ?_
  refine CP.seq ?_
  refine CP.region ?_
  refine SP.val (Val.move rfl) rfl rfl rfl ?_
  refine SP.val (Val.lenP see 0 rfl Tryd.underlying22 rfl) rfl rfl rfl ?_
  refine SP.val (Val.move rfl) rfl rfl rfl ?_
  refine SP.nil ?_
  refine QE.then ?_
  refine CP.block ?_
  obtain rfl := Option.some.inj ho
  refine CP.loop (fun cl1 a w2 => ∃ x27 : Int, cl1 ≤ m0 ∧ iter (flow_jumps.F l_0 loops_1) cl1 (.l1 x27) = some r ∧ Env ⟨41, []⟩ [(0, v_l_0), (1, v_loops_1), (8, v_l_0), (9, .int .i64 (l_0.length : Int)), (10, .int .i64 x27)] a ∧ St w em hV [slP k_api_Instr v_l_0 l_0, slP k_flow_Loop v_loops_1 loops_1] [] w2) m0 (fun a w2 ha hw => ⟨0, Nat.le_refl _, hr, ha.sub ⟨rfl, rfl, rfl, rfl, rfl, trivial⟩, hw⟩) ?_
  clear hr
  rintro cl1 a w2 ⟨x27, hc_l1, hi, ha, hw⟩
  obtain ⟨m28, o, hm_m28, ho, hr⟩ := iter_some hi
  refine CP.app ha hw ?_
  clear ha hw a w2 hi
  refine CP.seq ?_
  refine CP.region ?_
  refine SP.val (Val.lss rfl rfl) rfl rfl rfl ?_
  refine SP.nil ?_
  refine QE.then ?_
  refine CP.seq ?_
  rcases if_some ho with ⟨hc, ho⟩ | ⟨hc, ho⟩
  · refine CP.condT rfl (decide_eq_true hc) ?_
    refine CP.skip ?_
    refine QE.then ?_
    refine CP.join (fun a w2 => ∃ (m51 : Nat) (o : (flow_jumps.S ⊕ Bool)), m51 ≤ m28 ∧ flow_jumps.j1 l_0 loops_1 x27 = some o ∧ next (flow_jumps.F l_0 loops_1) m51 o = some r ∧ Env ⟨41, []⟩ [(0, v_l_0), (1, v_loops_1), (8, v_l_0), (9, .int .i64 (l_0.length : Int)), (10, .int .i64 x27)] a ∧ St w em hV [slP k_api_Instr v_l_0 l_0, slP k_flow_Loop v_loops_1 loops_1] [] w2) ?_ ?_
    · rintro a w2 ⟨m51, o, hm_m51, ho, hr, ha, hw⟩
      refine CP.app ha hw ?_
      clear ha hw a w2
      refine CP.region ?_
      refine SP.val (Val.add rfl rfl) rfl rfl rfl ?_
      refine SP.val (Val.move rfl) rfl rfl rfl ?_
      refine SP.nil ?_
      obtain rfl := Option.some.inj ho
      exact QE.lower m51 (by omega) fun a w2 ha hw => ⟨(IntKind.i64.wrap (x27 + 1)), (by omega), hr, ha.sub ⟨rfl, rfl, rfl, rfl, rfl, trivial⟩, hw⟩
    · refine CP.block ?_
      refine CP.seq ?_
      refine CP.region ?_
      refine SP.val (Val.move rfl) rfl rfl rfl ?_
      obtain ⟨x31, hx, ho⟩ := bind_some ho
      have hx := elt_some hx
      refine SP.indexP see 0 rfl Tryd.underlying22 sz52 hx.1 hx.2 rfl rfl rfl rfl (fun p29 => ?_)
      clear hx
      refine k_api_Instr.load see 0 rfl Tryd.underlying52 rfl sz52 rfl rfl rfl ?_
      refine SP.alloc (cs := [.int .i64 0]) inf3 rfl rfl (fun b32 => ?_)
      refine SP.alloc (cs := [.int .u8 0, .int .i64 0, .int .i64 0]) inf52 rfl rfl (fun b34 => ?_)
      refine SP.store (v := .int .i64 x27) (vs := [.int .i64 x27]) 1 (by rfl) sz3 (by rfl) (by rfl) (by rfl) (by rfl) (by rfl) (by rfl) ?_
      refine SP.store (v := .agg #[.int .u8 x31.Op, .int .i64 x31.A, .int .i64 x31.B]) (vs := [.int .u8 x31.Op, .int .i64 x31.A, .int .i64 x31.B]) 0 (by rfl) sz52 (by rfl) (by rfl) (by rfl) (by rfl) (by rfl) (by rfl) ?_
      refine SP.nil ?_
      refine QE.then ?_
      refine CP.seq ?_
      refine CP.seq ?_
      refine CP.region ?_
      refine SP.val (Val.fieldAddr Tryd.underlying52 rfl sz5 rfl) rfl rfl rfl ?_
      refine SP.val (Val.load1 0 rfl Tryd.underlying5 rfl rfl rfl) rfl rfl rfl ?_
      refine SP.val (Val.neq rfl rfl) rfl rfl rfl ?_
      refine SP.val (Val.move rfl) rfl rfl rfl ?_
      refine SP.join 4 (fun a w2 => Env ⟨41, []⟩ [(0, v_l_0), (1, v_loops_1), (8, v_l_0), (9, .int .i64 (l_0.length : Int)), (10, .int .i64 x27), (5, .pointer (some ⟨b32, 0, none⟩)), (6, .pointer (some ⟨b34, 0, none⟩)), (22, .bool ((decide (x31.Op ≠ 26)) && (decide (x31.Op ≠ 27))))] a ∧ St w em hV [elP k_api_Instr p29 x31, slP k_api_Instr v_l_0 l_0, slP k_flow_Loop v_loops_1 loops_1] [boxO b34 [.int .u8 x31.Op, .int .i64 x31.A, .int .i64 x31.B] 52, boxO b32 [.int .i64 x27] 3] w2) ?_ ?_
      · rintro a w2 ⟨ha, hw⟩
        refine SP.app ha hw ?_
        clear ha hw a w2
        refine SP.nil ?_
        refine QE.then ?_
        rcases if_some ho with ⟨hc, ho⟩ | ⟨hc, ho⟩
        · refine CP.condT rfl hc ?_
          refine CP.exit ?_
          refine QE.thru (by intro e; cases e) ?_
          refine QE.blockE ?_
          exact QE.meet fun a w2 ha hw => ⟨m28, _, (by omega), ho, hr, ha.sub ⟨rfl, rfl, rfl, rfl, rfl, trivial⟩, (St.selP [1, 2] rfl (St.selO [] rfl rfl hw))⟩
        · refine CP.condF rfl (bf hc) ?_
          refine CP.skip ?_
          refine QE.then ?_
          refine CP.seq ?_
          refine CP.region ?_
          refine SP.val (Val.makeFunc (us := []) (vs := [.pointer (some ⟨b34, 0, none⟩), .pointer (some ⟨b32, 0, none⟩)]) rfl rfl) rfl rfl rfl ?_
          refine SP.val (Val.assign rfl) rfl rfl rfl ?_
          refine SP.nil ?_
          refine QE.then ?_
          refine CP.seq ?_
          refine CP.region ?_
          refine SP.val (Val.fieldAddr Tryd.underlying52 rfl sz3 rfl) rfl rfl rfl ?_
          refine SP.val (Val.load1 0 rfl Tryd.underlying3 rfl rfl rfl) rfl rfl rfl ?_
          refine SP.val (Val.load1 1 rfl Tryd.underlying3 rfl rfl rfl) rfl rfl rfl ?_
          refine SP.val (Val.leq rfl rfl) rfl rfl rfl ?_
          refine SP.val (Val.move rfl) rfl rfl rfl ?_
          refine SP.join 6 (fun a w2 => Env ⟨41, []⟩ [(0, v_l_0), (1, v_loops_1), (8, v_l_0), (9, .int .i64 (l_0.length : Int)), (10, .int .i64 x27), (7, .func (.func 46) #[] #[.pointer (some ⟨b34, 0, none⟩), .pointer (some ⟨b32, 0, none⟩)]), (34, .bool ((decide (x31.A ≤ x27)) || (decide (x31.A ≥ (l_0.length : Int)))))] a ∧ St w em hV [elP k_api_Instr p29 x31, slP k_api_Instr v_l_0 l_0, slP k_flow_Loop v_loops_1 loops_1] [boxO b34 [.int .u8 x31.Op, .int .i64 x31.A, .int .i64 x31.B] 52, boxO b32 [.int .i64 x27] 3] w2) ?_ ?_
          · rintro a w2 ⟨ha, hw⟩
            refine SP.app ha hw ?_
            clear ha hw a w2
            refine SP.val (Val.move rfl) rfl rfl rfl ?_
            refine SP.freezeB see 0 rfl ?_
            refine SP.freezeB see 0 rfl ?_
            obtain ⟨t50, hg_t50, ho⟩ := bind_some ho
            refine SP.join 4 (fun a w2 => Env ⟨41, []⟩ [(0, v_l_0), (1, v_loops_1), (8, v_l_0), (9, .int .i64 (l_0.length : Int)), (10, .int .i64 x27), (39, .bool t50)] a ∧ St w em hV [boxP b32 [.int .i64 x27] 3, boxP b34 [.int .u8 x31.Op, .int .i64 x31.A, .int .i64 x31.B] 52, elP k_api_Instr p29 x31, slP k_api_Instr v_l_0 l_0, slP k_flow_Loop v_loops_1 loops_1] [] w2) ?_ ?_
            · rintro a w2 ⟨ha, hw⟩
              refine SP.app ha hw ?_
              clear ha hw a w2 hg_t50
              refine SP.nil ?_
              refine QE.then ?_
              rcases if_some ho with ⟨hc, ho⟩ | ⟨hc, ho⟩
              · refine CP.condT rfl hc ?_
                refine CP.seq ?_
                refine CP.region ?_
                refine SP.val (Val.assign rfl) rfl rfl rfl ?_
                refine SP.nil ?_
                refine QE.then ?_
                refine CP.ret ?_
                refine QE.blockR ?_
                refine QE.thru (by intro e; cases e) ?_
                refine QE.thru (by intro e; cases e) ?_
                refine QE.blockR ?_
                refine QE.thru (by intro e; cases e) ?_
                obtain rfl := Option.some.inj ho
                obtain rfl := Option.some.inj hr
                exact QE.rets (rs := [.tmp 4]) (vs := [.bool false]) Tryd.results31 rfl ⟨RVs.tmp rfl, trivial⟩ (fun w2 h => St.done (fun a b p s => rfl) h)
              · refine CP.condF rfl (bf hc) ?_
                refine CP.skip ?_
                refine QE.blockN ?_
                exact QE.meet fun a w2 ha hw => ⟨m28, _, (by omega), ho, hr, ha.sub ⟨rfl, rfl, rfl, rfl, rfl, trivial⟩, (St.selP [3, 4] rfl hw)⟩
            · intro J
              clear ho
              have ho := hg_t50
              clear hg_t50
              rcases if_some ho with ⟨hc, ho⟩ | ⟨hc, ho⟩
              · have hq48 := hc
                refine SP.isT (d := 35) rfl hq48 ?_
                refine SP.not rfl rfl rfl ?_
                refine SP.not rfl rfl rfl ?_
                refine SP.not rfl rfl rfl ?_
                refine SP.val (Val.pickT rfl rfl) rfl rfl rfl ?_
                obtain rfl := Option.some.inj ho
                exact J fun a w2 ha hw => ⟨ha.sub ⟨rfl, rfl, rfl, rfl, rfl, rfl, trivial⟩, hw⟩
              · have hq48 := (bf hc)
                refine SP.isF (d := 35) rfl hq48 ?_
                refine SP.val (Val.move rfl) rfl rfl rfl ?_
                refine SP.val (Val.move rfl) rfl rfl rfl ?_
                obtain ⟨t49, hc, ho⟩ := bind_some (x := slices_ContainsFunc_flow_Loop_flow_Loop_s1.f loops_1 x31.Op x31.A x31.B x27) ho
                refine SP.callV see (caps := []) (.bool t49) fn48 rfl rfl rfl rfl (fun w2 hP hs sub ap => slices_ContainsFunc_flow_Loop_flow_Loop_s1.ok loops_1 x31.Op x31.A x31.B x27 _ _ _ _ hc w2 hP sub (ap.get 4 rfl) (ap.get 1 rfl) (ap.get 0 rfl)) ?_
                clear hc
                refine SP.val (Val.pickF rfl rfl) rfl rfl rfl ?_
                obtain rfl := Option.some.inj ho
                exact J fun a w2 ha hw => ⟨ha.sub ⟨rfl, rfl, rfl, rfl, rfl, rfl, trivial⟩, hw⟩
          · intro J
            by_cases hc : x31.A ≤ x27
            · have hq39 := (decide_eq_true hc)
              refine SP.isT (d := 28) rfl hq39 ?_
              refine SP.not rfl rfl rfl ?_
              refine SP.not rfl rfl rfl ?_
              refine SP.not rfl rfl rfl ?_
              refine SP.not rfl rfl rfl ?_
              refine SP.not rfl rfl rfl ?_
              refine SP.val (Val.pickT rfl rfl) rfl rfl rfl ?_
              exact J fun a w2 ha hw => ⟨ha.sub ⟨rfl, rfl, rfl, rfl, rfl, rfl, congrArg (fun z => some (Value.bool z)) (or_t hq39), trivial⟩, hw⟩
            · have hq39 := (decide_eq_false hc)
              refine SP.isF (d := 28) rfl hq39 ?_
              refine SP.val (Val.fieldAddr Tryd.underlying52 rfl sz3 rfl) rfl rfl rfl ?_
              refine SP.val (Val.load1 0 rfl Tryd.underlying3 rfl rfl rfl) rfl rfl rfl ?_
              refine SP.val (Val.move rfl) rfl rfl rfl ?_
              refine SP.val (Val.lenP see 1 rfl Tryd.underlying22 rfl) rfl rfl rfl ?_
              refine SP.val (Val.geq rfl rfl) rfl rfl rfl ?_
              refine SP.val (Val.pickF rfl rfl) rfl rfl rfl ?_
              exact J fun a w2 ha hw => ⟨ha.sub ⟨rfl, rfl, rfl, rfl, rfl, rfl, congrArg (fun z => some (Value.bool z)) (or_f hq39 rfl), trivial⟩, hw⟩
      · intro J
        by_cases hc : x31.Op ≠ 26
        · have hq37 := (decide_eq_true hc)
          refine SP.isT (d := 18) rfl hq37 ?_
          refine SP.val (Val.fieldAddr Tryd.underlying52 rfl sz5 rfl) rfl rfl rfl ?_
          refine SP.val (Val.load1 0 rfl Tryd.underlying5 rfl rfl rfl) rfl rfl rfl ?_
          refine SP.val (Val.neq rfl rfl) rfl rfl rfl ?_
          refine SP.val (Val.pickT rfl rfl) rfl rfl rfl ?_
          exact J fun a w2 ha hw => ⟨ha.sub ⟨rfl, rfl, rfl, rfl, rfl, rfl, rfl, congrArg (fun z => some (Value.bool z)) (and_t hq37 rfl), trivial⟩, hw⟩
        · have hq37 := (decide_eq_false hc)
          refine SP.isF (d := 18) rfl hq37 ?_
          refine SP.not rfl rfl rfl ?_
          refine SP.not rfl rfl rfl ?_
          refine SP.not rfl rfl rfl ?_
          refine SP.val (Val.pickF rfl rfl) rfl rfl rfl ?_
          exact J fun a w2 ha hw => ⟨ha.sub ⟨rfl, rfl, rfl, rfl, rfl, rfl, rfl, congrArg (fun z => some (Value.bool z)) (and_f hq37), trivial⟩, hw⟩
  · refine CP.condF rfl (decide_eq_false hc) ?_
    refine CP.exit ?_
    refine QE.thru (by intro e; cases e) ?_
    refine QE.thru (by intro e; cases e) ?_
    refine QE.blockE ?_
    refine QE.then ?_
    refine CP.seq ?_
    refine CP.region ?_
    refine SP.val (Val.assign rfl) rfl rfl rfl ?_
    refine SP.nil ?_
    refine QE.then ?_
    refine CP.ret ?_
    obtain rfl := Option.some.inj ho
    obtain rfl := Option.some.inj hr
    exact QE.rets (rs := [.tmp 4]) (vs := [.bool true]) Tryd.results31 rfl ⟨RVs.tmp rfl, trivial⟩ (fun w2 h => St.done (fun a b p s => rfl) h)
/-! ### slices.SortFunc[[]capstan/flow.Loop,capstan/flow.Loop]: function 32 -/
shelf_lay_g SlLaysF0.n6 Slsf 6 at Tryd 32 as Tryd.sort32
shelf_lay_g SlLaysC2.n5 Slgc 5 at Tryd 34 as Tryd.cmp34
shelf_lay Lays.n125 Nm 125 at Tryd as Tryd.bitsLen50
instance : Inhabited flow_Loop := ⟨flow_Loop.zero⟩
def enc32 (x : flow_Loop) : List Value := [.int .i64 x.From, .int .i64 x.To, .int .i64 x.Turns]
def cf32 (x y : flow_Loop) : Int := Lib.compareInt x.From y.From
theorem lt32 (x y : flow_Loop) : Go.Proofs.ltOf cf32 x y = decide (x.From < y.From) := by
  unfold Go.Proofs.ltOf cf32 Lib.compareInt
  by_cases h1 : x.From < y.From
  · simp [h1]
  · by_cases h2 : y.From < x.From <;> simp [h1, h2]
theorem swo32 : Go.Sort.SWO (Go.Proofs.ltOf cf32) where
  irrefl x := by rw [lt32]; simp
  trans x y z h1 h2 := by rw [lt32] at *; simp at *; omega
  ntrans x y z h1 h2 := by rw [lt32] at *; simp at *; omega
set_option maxHeartbeats 1000000 in
theorem clos32 (x y : flow_Loop) (W : World) : Calls Tryd.prog 33 #[.agg (enc32 x).toArray, .agg (enc32 y).toArray] W fun e w' => e = .returned (.int .i64 (cf32 x y)) ∧ ∃ q os', w' = Go.Sort.grow (W.drewN q) os' := by
  have hcon := fun W' => Go.Proofs.AnyG.cmp_Compare_int Tryd.cmp34 x.From y.From W'
  change ∀ W', Calls Tryd.prog 34 _ _ _ at hcon
  unfold cf32 enc32
  generalize Lib.compareInt x.From y.From = r at hcon ⊢
  go_enter Tryd.func33, Tryd.ntmps33
  go_wp2_with (go_at_call 34; refine (hcon _).mono ?_; rintro e w' ⟨rfl, rfl⟩)
  go_ret
  exact ⟨rfl, 0, _, by rw [Go.Sort.alloc_eq_grow, Go.Sort.alloc_eq_grow, Go.Sort.grow_grow]; rfl⟩
/-- The library's sort, of a plain row. -/
def srt32 (d : Array flow_Loop) : Array flow_Loop := Go.Sort.pdq (Go.Proofs.ltOf cf32) d 0 d.size (Lib.bitLen d.size) true true
theorem srt32_sorts (d : Array flow_Loop) : Go.Sort.PermIn 0 d.size d (srt32 d) ∧ Go.Sort.SortedIn (Go.Proofs.ltOf cf32) 0 d.size (srt32 d) :=
  Go.Sort.pdq_sorts (Go.Proofs.ltOf cf32) swo32 d 0 d.size (Lib.bitLen d.size) true true (Nat.zero_le _) (Nat.le_refl _) (Or.inl rfl)
theorem ins32_nil (F : Value) (w : World) : Calls Tryd.prog 58 #[.slice none 0 0, .int .i64 0, .int .i64 0, F] w fun e w' => e = .returned (.tuple #[]) ∧ w' = w := by
  go_enter Tryd.func58, Tryd.ntmps58
  go_wp2
  refine wp_loop_rounds 1 ?_
  rw [rounds_succ]
  go_wp2
  go_end0
  exact ⟨rfl, rfl⟩
theorem pdq32_nil (F : Value) (w : World) : Calls Tryd.prog 49 #[.slice none 0 0, .int .i64 0, .int .i64 0, .int .i64 0, F] w fun e w' => e = .returned (.tuple #[]) ∧ w' = w := by
  have hi := ins32_nil F w
  go_enter Tryd.func49, Tryd.ntmps49
  go_wp2
  refine wp_loop_rounds 1 ?_
  rw [rounds_succ]
  go_wp2_with (go_at_call 58; refine hi.mono ?_; rintro e w' ⟨rfl, rfl⟩)
  (try simp only [Exit.inBlock, Exit.then]); refine bodyPost_ret (results_none rfl _ _ _) rfl ?_
  exact ⟨rfl, rfl⟩
theorem srt32_nil (F : Value) (w : World) : Calls Tryd.prog 32 #[.slice none 0 0, F] w fun e w' => e = .returned (.tuple #[]) ∧ w' = w := by
  have hi := pdq32_nil F w
  have hl : Calls Tryd.prog 50 #[.int .u64 0] w fun e w' => e = .returned (.int .i64 0) ∧ w' = w := by
    have h := Any.bits_Len Tryd.bitsLen50 0 w (by omega) (by omega)
    exact h
  go_enter Tryd.func32, Tryd.ntmps32
  go_wp2_with (first | (go_at_call 50; refine hl.mono ?_; rintro e w' ⟨rfl, rfl⟩) | (go_at_call 49; refine hi.mono ?_; rintro e w' ⟨rfl, rfl⟩))
  go_end0
  exact ⟨rfl, rfl⟩
theorem srt32_nilT (F : Value) (w : World) (hV : Hp) : Trip Tryd.prog 32 #[.slice none 0 0, F] em hV w (fun v => HO.pure (v = .tuple #[])) :=
  (srt32_nil F w).mono fun e w' ⟨he, hw⟩ => by
    subst hw
    exact ⟨_, he, Met.refl _, fun _ _ e _ => e, em, em, fun _ _ _ => rfl, fun _ _ _ => rfl, Dj.em_left _, Sub.em _, Sub.em _, rfl⟩
/-- A row of one's own, sorted where it lies. -/
theorem srt32_trip {v : Value} {l : List flow_Loop} (hll : l.length < 4611686018427387904) {w : World} {hP h1 : Hp} (sub : Sub hP (hp w)) (s1 : Sub h1 (hp w)) (dj : Dj hP h1) (hI : (slO k_flow_Loop 40 v l).p hP h1) :
    Trip Tryd.prog 32 #[v, .func (.func 33) #[] #[]] h1 hP w (fun r => HO.pand (r = .tuple #[]) (HO.seps [slO k_flow_Loop 40 v (srt32 l.toArray).toList])) := by
  refine slO.sortTrip enc32 (fun h cs x => Iff.rfl) srt32 (fun d => (srt32_sorts d).1.1) (fun blk cap d w hH hb hsz => ?_) (fun w hV sV => ?_) hll sub s1 dj hI
  · exact AnyQ.slices_SortFunc_eq Tryd.sort32 3 Tryd.isAgg40 Tryd.sizeOf40 enc32 (fun _ => rfl) (fun x v hv => by simp [enc32] at hv; rcases hv with rfl | rfl | rfl <;> rfl) cf32 swo32 33 #[] blk 0 cap d w (enters_of Tryd.func33 (by kernel_rfl) rfl) (fun _ _ _ _ x y => clos32 x y _) hH hb hsz
  · exact srt32_nilT _ w hV


/-! ### capstan/flow.Loops: function 11 -/
inductive flow_Loops.S where
  | start
  | l1 (l52 : List Int) (x53 : Int) (l55 : List flow_Loop) (x57 : Int)

def flow_Loops.j1 (l_0 : (List api_Instr))  : Option (flow_Loops.S ⊕ ((List flow_Loop) × Int)) :=
  some (.inr ([], 90))

def flow_Loops.j2 (l_0 : (List api_Instr)) (x57 : Int) (l80 : List Int) (x81 : Int) (l83 : List flow_Loop) : Option (flow_Loops.S ⊕ ((List flow_Loop) × Int)) :=
  some (.inl (.l1 l80 x81 l83 (IntKind.i64.wrap (x57 + 1))))

def flow_Loops.F (l_0 : (List api_Instr)) : flow_Loops.S → Option (flow_Loops.S ⊕ ((List flow_Loop) × Int))
  | .start => (if ((decide ((l_0.length : Int) = 0)) || (decide ((l_0.length : Int) > 200))) = true then (some true) else ((slices_ContainsFunc_api_Instr_api_Instr_s1.f l_0).bind fun t6 => some t6)).bind fun t7 => if t7 = true then (some (.inr ([], 40))) else (some (.inl (.l1 (List.replicate 4 0 : List Int) 0 [] 0)))
  | .l1 l52 x53 l55 x57 => if x57 < (l_0.length : Int) then ((elt l_0 x57).bind fun x61 => if x61.Op = 28 then ((flow_open_push_s2.f l52 x53 x57).bind fun t64 => if (!t64.1) = true then (flow_Loops.j1 l_0) else (flow_Loops.j2 l_0 x57 t64.2.1 t64.2.2 l55)) else (if x61.Op = 29 then ((flow_open_pop_s2.f l52 x53 x61.A).bind fun t65 => if (!t65.1) = true then (flow_Loops.j1 l_0) else ((elt l_0 x61.A).bind fun x68 => if (l55.length + [(⟨x61.A, x57, x68.A⟩ : flow_Loop)].length) * 24 ≤ 140737488355328 then (flow_Loops.j2 l_0 x57 t65.2.1 t65.2.2 (l55 ++ [(⟨x61.A, x57, x68.A⟩ : flow_Loop)])) else none)) else (flow_Loops.j2 l_0 x57 l52 x53 l55))) else ((if x53 > 0 then (some true) else ((elt l_0 (IntKind.i64.wrap ((l_0.length : Int) - 1))).bind fun x90 => (flow_last.f x90).bind fun t91 => some (!t91))).bind fun t92 => (if t92 = true then (some true) else ((flow_jumps.f l_0 l55).bind fun t95 => some (!t95))).bind fun t96 => if t96 = true then (flow_Loops.j1 l_0) else (if l55.length < 4611686018427387904 then (some (.inr ((srt32 l55.toArray).toList, 0))) else none))

def flow_Loops.f (l_0 : (List api_Instr)) : Option ((List flow_Loop) × Int) := runF (flow_Loops.F l_0) .start
theorem flow_Loops.ok (l_0 : (List api_Instr)) (v_l_0 : Value)  (r : (List flow_Loop) × Int) (H : flow_Loops.f l_0 = some r) (w : World) (hV : Hp) (sV : Sub hV (hp w)) (h0 : slR k_api_Instr hV v_l_0 l_0) (h1 : (arrP k_arr88 0 tab0).p hV) :
    Trip Tryd.prog 11 [v_l_0].toArray em hV w (fun v => HO.ex fun u0 : Value => HO.pand (v = .tuple #[u0, .int .i64 r.2]) (HO.seps [slO k_flow_Loop 40 u0 r.1])) := by
  have see : Sees w em hV := ⟨sV, Dj.em_right _⟩
  refine Trip.of (P := Tryd.prog) (n := ⟨76, []⟩) Tryd.func11 rfl ⟨rfl, rfl⟩ rfl (St.begin (All.cons (x := slP k_api_Instr v_l_0 l_0) h0 (All.cons (x := arrP k_arr88 0 tab0) h1 (All.nil _)))) ?_
  obtain ⟨n0, hi⟩ := runF_iff.1 H
  obtain ⟨m0, o, hm0, ho, hr⟩ := iter_some hi
  clear hi
  refine CP.seq ?_
  refine CP.region ?_
  refine SP.val (Val.assign rfl) rfl rfl rfl ?_
  refine SP.val (Val.assign rfl) rfl rfl rfl ?_
  refine SP.nil ?_
  refine QE.then ?_
  refine CP.scope 0 (fun a w2 => ∃ (m107 : Nat) (o : (flow_Loops.S ⊕ ((List flow_Loop) × Int))), m107 ≤ m0 ∧ flow_Loops.j1 l_0 = some o ∧ next (flow_Loops.F l_0) m107 o = some r ∧ Env ⟨76, []⟩ [] a ∧ St w em hV [arrP k_arr88 0 tab0] [] w2) rfl (fun _ _ _ h => h) ?_ ?_
  · rintro a w2 ⟨m107, o, hm_m107, ho, hr, ha, hw⟩
    refine CP.app ha hw ?_
    clear ha hw a w2
    refine CP.seq ?_
    refine CP.skip ?_
    refine QE.then ?_
    refine CP.seq ?_
    refine CP.region ?_
    refine SP.val (Val.assign rfl) rfl rfl rfl ?_
    refine SP.val (Val.assign rfl) rfl rfl rfl ?_
    refine SP.nil ?_
    refine QE.then ?_
    refine CP.ret ?_
    obtain rfl := Option.some.inj ho
    obtain rfl := Option.some.inj hr
    exact QE.rets (rs := [.tmp 2, .tmp 3]) (vs := [(.slice none 0 0), .int .i64 90]) Tryd.results11 rfl ⟨RVs.tmp rfl, RVs.tmp rfl, trivial⟩ (fun w2 h => St.done (fun a b p s => ⟨_, rfl, s⟩) (St.selO [0] rfl rfl (St.addO (slO.nil k_flow_Loop 40) h)))
  · refine CP.seq ?_
    refine CP.seq ?_
    refine CP.region ?_
    refine SP.val (Val.move rfl) rfl rfl rfl ?_
    refine SP.val (Val.lenP see 0 rfl Tryd.underlying22 rfl) rfl rfl rfl ?_
    refine SP.val (Val.eql rfl rfl) rfl rfl rfl ?_
    refine SP.val (Val.move rfl) rfl rfl rfl ?_
    refine SP.join 4 (fun a w2 => Env ⟨76, []⟩ [(0, v_l_0), (15, .bool ((decide ((l_0.length : Int) = 0)) || (decide ((l_0.length : Int) > 200))))] a ∧ St w em hV [slP k_api_Instr v_l_0 l_0, arrP k_arr88 0 tab0] [] w2) ?_ ?_
    · rintro a w2 ⟨ha, hw⟩
      refine SP.app ha hw ?_
      clear ha hw a w2
      refine SP.val (Val.move rfl) rfl rfl rfl ?_
      obtain ⟨t7, hg_t7, ho⟩ := bind_some ho
      refine SP.join 3 (fun a w2 => Env ⟨76, []⟩ [(0, v_l_0), (19, .bool t7)] a ∧ St w em hV [slP k_api_Instr v_l_0 l_0, arrP k_arr88 0 tab0] [] w2) ?_ ?_
      · rintro a w2 ⟨ha, hw⟩
        refine SP.app ha hw ?_
        clear ha hw a w2 hg_t7
        refine SP.nil ?_
        refine QE.then ?_
        rcases if_some ho with ⟨hc, ho⟩ | ⟨hc, ho⟩
        · refine CP.condT rfl hc ?_
          refine CP.seq ?_
          refine CP.region ?_
          refine SP.val (Val.assign rfl) rfl rfl rfl ?_
          refine SP.val (Val.assign rfl) rfl rfl rfl ?_
          refine SP.nil ?_
          refine QE.then ?_
          refine CP.ret ?_
          refine QE.thru (by intro e; cases e) ?_
          refine QE.scopeX rfl ?_
          obtain rfl := Option.some.inj ho
          obtain rfl := Option.some.inj hr
          exact QE.rets (rs := [.tmp 2, .tmp 3]) (vs := [(.slice none 0 0), .int .i64 40]) Tryd.results11 rfl ⟨RVs.tmp rfl, RVs.tmp rfl, trivial⟩ (fun w2 h => St.done (fun a b p s => ⟨_, rfl, s⟩) (St.selO [0] rfl rfl (St.addO (slO.nil k_flow_Loop 40) h)))
        · refine CP.condF rfl (bf hc) ?_
          refine CP.skip ?_
          refine QE.then ?_
          refine CP.seq ?_
          refine CP.region ?_
          refine SP.val (Val.assign rfl) rfl rfl rfl ?_
          refine SP.nil ?_
          refine QE.then ?_
          refine CP.seq ?_
          refine CP.region ?_
          refine SP.alloc (cs := [.int .i64 0, .int .i64 0, .int .i64 0, .int .i64 0, .int .i64 0]) inf63 rfl rfl (fun b9 => ?_)
          refine SP.nil ?_
          refine QE.then ?_
          refine CP.seq ?_
          refine CP.seq ?_
          refine CP.region ?_
          refine SP.val (Val.move rfl) rfl rfl rfl ?_
          refine SP.val (Val.lenP see 0 rfl Tryd.underlying22 rfl) rfl rfl rfl ?_
          refine SP.val (Val.move rfl) rfl rfl rfl ?_
          refine SP.nil ?_
          refine QE.then ?_
          refine CP.block ?_
          obtain rfl := Option.some.inj ho
          refine CP.loop (fun cl1 a w2 => ∃ l52 : List Int, ∃ x53 : Int, ∃ l55 : List flow_Loop, ∃ x57 : Int, ∃ v56 : Value, cl1 ≤ m0 ∧ iter (flow_Loops.F l_0) cl1 (.l1 l52 x53 l55 x57) = some r ∧ Env ⟨76, []⟩ [(0, v_l_0), (4, v56), (5, .pointer (some ⟨b9, 0, none⟩)), (20, v_l_0), (21, .int .i64 (l_0.length : Int)), (22, .int .i64 x57)] a ∧ St w em hV [slP k_api_Instr v_l_0 l_0, arrP k_arr88 0 tab0] [slO k_flow_Loop 40 v56 l55, arrO b9 [] (fun z : Int => Value.int .i64 z) 4 l52 [.int .i64 x53] 63] w2) m0 (fun a w2 ha hw => ⟨(List.replicate 4 0 : List Int), 0, [], 0, (.slice none 0 0), Nat.le_refl _, hr, ha.sub ⟨rfl, rfl, rfl, rfl, rfl, rfl, trivial⟩, (St.addO (slO.nil k_flow_Loop 40) (St.arr (f := (fun z : Int => Value.int .i64 z)) 0 rfl (List.replicate 4 0 : List Int) [] [.int .i64 0] rfl rfl hw))⟩) ?_
          clear hr
          rintro cl1 a w2 ⟨l52, x53, l55, x57, v56, hc_l1, hi, ha, hw⟩
          obtain ⟨m58, o, hm_m58, ho, hr⟩ := iter_some hi
          refine CP.app ha hw ?_
          clear ha hw a w2 hi
          refine CP.seq ?_
          refine CP.region ?_
          refine SP.val (Val.lss rfl rfl) rfl rfl rfl ?_
          refine SP.nil ?_
          refine QE.then ?_
          refine CP.seq ?_
          rcases if_some ho with ⟨hc, ho⟩ | ⟨hc, ho⟩
          · refine CP.condT rfl (decide_eq_true hc) ?_
            refine CP.skip ?_
            refine QE.then ?_
            refine CP.join (fun a w2 => ∃ l80 : List Int, ∃ x81 : Int, ∃ l83 : List flow_Loop, ∃ v84 : Value, ∃ (m85 : Nat) (o : (flow_Loops.S ⊕ ((List flow_Loop) × Int))), m85 ≤ m58 ∧ flow_Loops.j2 l_0 x57 l80 x81 l83 = some o ∧ next (flow_Loops.F l_0) m85 o = some r ∧ Env ⟨76, []⟩ [(0, v_l_0), (4, v84), (5, .pointer (some ⟨b9, 0, none⟩)), (20, v_l_0), (21, .int .i64 (l_0.length : Int)), (22, .int .i64 x57)] a ∧ St w em hV [slP k_api_Instr v_l_0 l_0, arrP k_arr88 0 tab0] [slO k_flow_Loop 40 v84 l83, arrO b9 [] (fun z : Int => Value.int .i64 z) 4 l80 [.int .i64 x81] 63] w2) ?_ ?_
            · rintro a w2 ⟨l80, x81, l83, v84, m85, o, hm_m85, ho, hr, ha, hw⟩
              refine CP.app ha hw ?_
              clear ha hw a w2
              refine CP.region ?_
              refine SP.val (Val.add rfl rfl) rfl rfl rfl ?_
              refine SP.val (Val.move rfl) rfl rfl rfl ?_
              refine SP.nil ?_
              obtain rfl := Option.some.inj ho
              exact QE.lower m85 (by omega) fun a w2 ha hw => ⟨l80, x81, l83, (IntKind.i64.wrap (x57 + 1)), v84, (by omega), hr, ha.sub ⟨rfl, rfl, rfl, rfl, rfl, rfl, trivial⟩, hw⟩
            · refine CP.block ?_
              refine CP.seq ?_
              refine CP.region ?_
              refine SP.val (Val.move rfl) rfl rfl rfl ?_
              obtain ⟨x61, hx, ho⟩ := bind_some ho
              have hx := elt_some hx
              refine SP.indexP see 0 rfl Tryd.underlying22 sz52 hx.1 hx.2 rfl rfl rfl rfl (fun p59 => ?_)
              clear hx
              refine k_api_Instr.load see 0 rfl Tryd.underlying52 rfl sz52 rfl rfl rfl ?_
              refine SP.alloc (cs := [.int .u8 0, .int .i64 0, .int .i64 0]) inf52 rfl rfl (fun b62 => ?_)
              refine SP.val (Val.assign rfl) rfl rfl rfl ?_
              refine SP.store (v := .agg #[.int .u8 x61.Op, .int .i64 x61.A, .int .i64 x61.B]) (vs := [.int .u8 x61.Op, .int .i64 x61.A, .int .i64 x61.B]) 0 (by rfl) sz52 (by rfl) (by rfl) (by rfl) (by rfl) (by rfl) (by rfl) ?_
              refine SP.nil ?_
              refine QE.then ?_
              refine CP.seq ?_
              refine CP.region ?_
              refine SP.val (Val.fieldAddr Tryd.underlying52 rfl sz5 rfl) rfl rfl rfl ?_
              refine SP.val (Val.load1 0 rfl Tryd.underlying5 rfl rfl rfl) rfl rfl rfl ?_
              refine SP.nil ?_
              refine QE.then ?_
              refine CP.block ?_
              refine CP.seq ?_
              refine CP.region ?_
              refine SP.val (Val.eql rfl rfl) rfl rfl rfl ?_
              refine SP.val (Val.assign rfl) rfl rfl rfl ?_
              refine SP.nil ?_
              refine QE.then ?_
              rcases if_some ho with ⟨hc, ho⟩ | ⟨hc, ho⟩
              · refine CP.condT rfl (decide_eq_true hc) ?_
                refine CP.seq ?_
                refine CP.region ?_
                refine SP.val (Val.move rfl) rfl rfl rfl ?_
                refine SP.imp (fun w2 hw => St.selO [2, 0, 1] rfl rfl hw) ?_
                obtain ⟨t64, hc, ho⟩ := bind_some (x := flow_open_push_s2.f l52 x53 x57) ho
                refine SP.callA see (caps := []) (X := arrO b9 [] (fun z : Int => Value.int .i64 z) 4 l52 [.int .i64 x53] 63) _ fn28 rfl rfl rfl rfl (fun w2 hP h1 sub s1 d1 ap hI => flow_open_push_s2.ok l52 x53 x57  _ hc w2 hP sub  _ h1 s1 d1 hI) (fun vr => ?_)
                refine SP.have (fun w2 h => (St.pand h).1.symm) (fun er => ?_)
                subst er
                refine SP.imp (fun w2 h => St.seps (St.pand h).2) ?_
                clear hc
                refine SP.val (Val.notB rfl) rfl rfl rfl ?_
                refine SP.nil ?_
                refine QE.then ?_
                rcases if_some ho with ⟨hc, ho⟩ | ⟨hc, ho⟩
                · refine CP.condT rfl hc ?_
                  refine CP.goto ?_
                  refine QE.blockG ?_
                  refine QE.blockG ?_
                  refine QE.thru (by intro e; cases e) ?_
                  refine QE.thru (by intro e; cases e) ?_
                  refine QE.blockG ?_
                  refine QE.thru (by intro e; cases e) ?_
                  exact QE.jump fun a w2 ha hw => ⟨m58, _, (by omega), ho, hr, ha.sub trivial, (St.selP [2] rfl (St.selO [] rfl rfl hw))⟩
                · refine CP.condF rfl (bf hc) ?_
                  refine CP.skip ?_
                  refine QE.blockN ?_
                  refine QE.blockN ?_
                  exact QE.meet fun a w2 ha hw => ⟨t64.2.1, t64.2.2, l55, v56, m58, _, (by omega), ho, hr, ha.sub ⟨rfl, rfl, rfl, rfl, rfl, rfl, trivial⟩, (St.selP [1, 2] rfl (St.selO [2, 0] rfl rfl hw))⟩
              · refine CP.condF rfl (decide_eq_false hc) ?_
                refine CP.seq ?_
                refine CP.region ?_
                refine SP.val (Val.eql rfl rfl) rfl rfl rfl ?_
                refine SP.val (Val.assign rfl) rfl rfl rfl ?_
                refine SP.nil ?_
                refine QE.then ?_
                rcases if_some ho with ⟨hc, ho⟩ | ⟨hc, ho⟩
                · refine CP.condT rfl (decide_eq_true hc) ?_
                  refine CP.seq ?_
                  refine CP.seq ?_
                  refine CP.region ?_
                  refine SP.val (Val.fieldAddr Tryd.underlying52 rfl sz3 rfl) rfl rfl rfl ?_
                  refine SP.val (Val.load1 0 rfl Tryd.underlying3 rfl rfl rfl) rfl rfl rfl ?_
                  refine SP.imp (fun w2 hw => St.selO [2, 0, 1] rfl rfl hw) ?_
                  obtain ⟨t65, hc, ho⟩ := bind_some (x := flow_open_pop_s2.f l52 x53 x61.A) ho
                  refine SP.callA see (caps := []) (X := arrO b9 [] (fun z : Int => Value.int .i64 z) 4 l52 [.int .i64 x53] 63) _ fn29 rfl rfl rfl rfl (fun w2 hP h1 sub s1 d1 ap hI => flow_open_pop_s2.ok l52 x53 x61.A  _ hc w2 hP sub  _ h1 s1 d1 hI) (fun vr => ?_)
                  refine SP.have (fun w2 h => (St.pand h).1.symm) (fun er => ?_)
                  subst er
                  refine SP.imp (fun w2 h => St.seps (St.pand h).2) ?_
                  clear hc
                  refine SP.val (Val.notB rfl) rfl rfl rfl ?_
                  refine SP.nil ?_
                  refine QE.then ?_
                  rcases if_some ho with ⟨hc, ho⟩ | ⟨hc, ho⟩
                  · refine CP.condT rfl hc ?_
                    refine CP.goto ?_
                    refine QE.thru (by intro e; cases e) ?_
                    refine QE.blockG ?_
                    refine QE.blockG ?_
                    refine QE.thru (by intro e; cases e) ?_
                    refine QE.thru (by intro e; cases e) ?_
                    refine QE.blockG ?_
                    refine QE.thru (by intro e; cases e) ?_
                    exact QE.jump fun a w2 ha hw => ⟨m58, _, (by omega), ho, hr, ha.sub trivial, (St.selP [2] rfl (St.selO [] rfl rfl hw))⟩
                  · refine CP.condF rfl (bf hc) ?_
                    refine CP.skip ?_
                    refine QE.then ?_
                    refine CP.drawA (by kernel_rfl) (fun w2 k h => h.drawn k) ?_
                    obtain ⟨x68, hx, ho⟩ := bind_some ho
                    have hx := elt_some hx
                    refine DA.ghost (fun w2 h => h.elem see 1 rfl hx.1 hx.2) (fun p66 h_p66 => ?_)
                    clear hx
                    refine DA.ghost (fun w2 h => h.fieldE see 0 rfl k_api_Instr.part_A) (fun p69 h_p69 => ?_)
                    refine DA.ghost (fun w2 h => h.openE see 0 rfl (fun _ : Unit => [.int .i64 x68.A]) (fun _ => []) (fun h cs e => ⟨(), e, All.nil _⟩)) (fun _ _ => ?_)
                    refine DA.phase (fun i => Nat.ble 0 i && Nat.blt i 12) (fun w2 => St w em hV [atP p69 [.int .i64 x68.A], elP (kInt .i64) p69 x68.A, elP k_api_Instr p66 x68, elP k_api_Instr p59 x61, slP k_api_Instr v_l_0 l_0, arrP k_arr88 0 tab0] [arrO b9 [] (fun z : Int => Value.int .i64 z) 4 t65.2.1 [.int .i64 t65.2.2] 63, boxO b62 [.int .u8 x61.Op, .int .i64 x61.A, .int .i64 x61.B] 52, slO k_flow_Loop 40 v56 l55] w2) ?_
                    refine DT.take 0 rfl rfl rfl rfl (by kernel_rfl) (fun _ _ _ h => h) (Val.move rfl) (fun w2 hw => hw) ?_
                    refine DT.take 1 rfl rfl rfl rfl (by kernel_rfl) (fun _ _ _ h => h) (Val.fieldAddr Tryd.underlying52 rfl sz3 rfl) (fun w2 hw => hw) ?_
                    refine DT.take 2 rfl rfl rfl rfl (by kernel_rfl) (fun _ _ _ h => h) (Val.load1 1 rfl Tryd.underlying3 rfl rfl rfl) (fun w2 hw => hw) ?_
                    refine DT.take 3 rfl rfl rfl rfl (by kernel_rfl) (fun _ _ _ h => h) (Val.move rfl) (fun w2 hw => hw) ?_
                    refine DT.take 4 rfl rfl rfl rfl (by kernel_rfl) (fun _ _ _ h => h) (Val.move rfl) (fun w2 hw => hw) ?_
                    refine DT.take 5 rfl rfl rfl rfl (by kernel_rfl) (fun _ _ _ h => h) (Val.fieldAddr Tryd.underlying52 rfl sz3 rfl) (fun w2 hw => hw) ?_
                    refine DT.take 6 rfl rfl rfl rfl (by kernel_rfl) (fun _ _ _ h => h) (Val.load1 1 rfl Tryd.underlying3 rfl rfl rfl) (fun w2 hw => hw) ?_
                    refine DT.take 7 rfl rfl rfl rfl (by kernel_rfl) (fun _ _ _ h => h) (Val.indexE h_p66 Tryd.underlying22 sz52 rfl rfl) (fun w2 hw => hw) ?_
                    refine DT.take 8 rfl rfl rfl rfl (by kernel_rfl) (fun _ _ _ h => h) (Val.fieldE h_p69 Tryd.underlying52 rfl rfl sz3 rfl) (fun w2 hw => hw) ?_
                    refine DT.take 9 rfl rfl rfl rfl (by kernel_rfl) (fun _ _ _ h => h) (Val.loadAt1 see 0 rfl Tryd.underlying3 rfl rfl) (fun w2 hw => hw) ?_
                    refine DT.take 10 rfl rfl rfl rfl (by kernel_rfl) (fun _ _ _ h => h) (Val.buildC (us := [(0, .int .i64 x61.A), (1, .int .i64 x57), (2, .int .i64 x68.A)]) (ucs := [(0, [.int .i64 x61.A]), (1, [.int .i64 x57]), (2, [.int .i64 x68.A])]) (cs := [.int .i64 x61.A, .int .i64 x57, .int .i64 x68.A]) bt40 rfl rfl ⟨rfl, rfl, ⟨rfl, rfl, ⟨rfl, rfl, trivial⟩⟩⟩ (by rfl)) (fun w2 hw => hw) ?_
                    refine DT.one 11 rfl (by kernel_rfl) rfl ?_
                    refine SP.lit (k := k_flow_Loop) (xs := [(⟨x61.A, x57, x68.A⟩ : flow_Loop)]) (vs := [.agg #[.int .i64 x61.A, .int .i64 x57, .int .i64 x68.A]]) (cells := [.int .i64 x61.A, .int .i64 x57, .int .i64 x68.A]) Tryd.underlying30 inf40 rfl rfl rfl rfl rfl rfl rfl rfl (fun _ ap => ⟨[.int .i64 x61.A, .int .i64 x57, .int .i64 x68.A], _, rfl, rfl, rfl⟩) rfl rfl rfl (fun v76 => ?_)
                    refine SP.nil ?_
                    refine QE.atT (fun w2 hw => (St.selO [1, 2, 3] rfl rfl hw)) ?_
                    refine DT.next (by kernel_rfl) ?_
                    refine DA.one 12 rfl (by kernel_rfl) ?_
                    refine SP.freezeS see 0 rfl ?_
                    obtain ⟨hb, ho⟩ := must_some ho
                    refine SP.append see 2 rfl 0 rfl Tryd.underlying30 inf40 rfl rfl hb rfl rfl rfl rfl rfl (fun v78 => ?_)
                    clear hb
                    refine SP.nil ?_
                    refine QE.atA ?_
                    refine DA.one 13 rfl (by kernel_rfl) ?_
                    refine SP.val (Val.assign rfl) rfl rfl rfl ?_
                    refine SP.nil ?_
                    refine QE.atA ?_
                    refine DA.done (by kernel_rfl) ?_
                    refine QE.blockN ?_
                    refine QE.blockN ?_
                    exact QE.meet fun a w2 ha hw => ⟨t65.2.1, t65.2.2, (l55 ++ [(⟨x61.A, x57, x68.A⟩ : flow_Loop)]), v78, m58, _, (by omega), ho, hr, ha.sub ⟨rfl, rfl, rfl, rfl, rfl, rfl, trivial⟩, (St.selP [5, 6] rfl (St.selO [2, 0] rfl rfl hw))⟩
                · refine CP.condF rfl (decide_eq_false hc) ?_
                  refine CP.skip ?_
                  refine QE.blockN ?_
                  refine QE.blockN ?_
                  exact QE.meet fun a w2 ha hw => ⟨l52, x53, l55, v56, m58, _, (by omega), ho, hr, ha.sub ⟨rfl, rfl, rfl, rfl, rfl, rfl, trivial⟩, (St.selP [1, 2] rfl (St.selO [1, 2] rfl rfl hw))⟩
          · refine CP.condF rfl (decide_eq_false hc) ?_
            refine CP.exit ?_
            refine QE.thru (by intro e; cases e) ?_
            refine QE.thru (by intro e; cases e) ?_
            refine QE.blockE ?_
            refine QE.then ?_
            refine CP.seq ?_
            refine CP.seq ?_
            refine CP.region ?_
            refine SP.val (Val.fieldAddr Tryd.underlying63 rfl sz3 rfl) rfl rfl rfl ?_
            refine SP.val (Val.loadArrPost (k := 0) 1 rfl Tryd.underlying3 rfl rfl rfl rfl) rfl rfl rfl ?_
            refine SP.val (Val.gtr rfl rfl) rfl rfl rfl ?_
            refine SP.val (Val.move rfl) rfl rfl rfl ?_
            obtain ⟨t92, hg_t92, ho⟩ := bind_some ho
            refine SP.join 9 (fun a w2 => Env ⟨76, []⟩ [(0, v_l_0), (4, v56), (66, .bool t92)] a ∧ St w em hV [slP k_api_Instr v_l_0 l_0, arrP k_arr88 0 tab0] [slO k_flow_Loop 40 v56 l55, arrO b9 [] (fun z : Int => Value.int .i64 z) 4 l52 [.int .i64 x53] 63] w2) ?_ ?_
            · rintro a w2 ⟨ha, hw⟩
              refine SP.app ha hw ?_
              clear ha hw a w2 hg_t92
              refine SP.val (Val.move rfl) rfl rfl rfl ?_
              obtain ⟨t96, hg_t96, ho⟩ := bind_some ho
              refine SP.join 5 (fun a w2 => Env ⟨76, []⟩ [(4, v56), (72, .bool t96)] a ∧ St w em hV [slP k_api_Instr v_l_0 l_0, arrP k_arr88 0 tab0] [slO k_flow_Loop 40 v56 l55, arrO b9 [] (fun z : Int => Value.int .i64 z) 4 l52 [.int .i64 x53] 63] w2) ?_ ?_
              · rintro a w2 ⟨ha, hw⟩
                refine SP.app ha hw ?_
                clear ha hw a w2 hg_t96
                refine SP.nil ?_
                refine QE.then ?_
                rcases if_some ho with ⟨hc, ho⟩ | ⟨hc, ho⟩
                · refine CP.condT rfl hc ?_
                  refine CP.goto ?_
                  refine QE.thru (by intro e; cases e) ?_
                  exact QE.jump fun a w2 ha hw => ⟨m58, _, (by omega), ho, hr, ha.sub trivial, (St.selP [1] rfl (St.selO [] rfl rfl hw))⟩
                · refine CP.condF rfl (bf hc) ?_
                  refine CP.skip ?_
                  refine QE.then ?_
                  refine CP.seq ?_
                  refine CP.region ?_
                  refine SP.val (Val.move rfl) rfl rfl rfl ?_
                  obtain ⟨hb, ho⟩ := must_some ho
                  refine SP.callA see (caps := []) (X := slO k_flow_Loop 40 v56 l55) (fun r => HO.pand (r = .tuple #[]) (HO.seps [slO k_flow_Loop 40 v56 ((srt32 l55.toArray).toList)])) fn32 rfl rfl rfl rfl (fun w2 hP h1 sub s1 d1 ap hI => srt32_trip hb sub s1 d1 hI) (fun vr => ?_)
                  refine SP.have (fun w2 h => (St.pand h).1.symm) (fun er => ?_)
                  subst er
                  refine SP.imp (fun w2 h => St.seps (St.pand h).2) ?_
                  clear hb
                  refine SP.nil ?_
                  refine QE.then ?_
                  refine CP.seq ?_
                  refine CP.seq ?_
                  refine CP.region ?_
                  refine SP.val (Val.move rfl) rfl rfl rfl ?_
                  refine SP.val (Val.assign rfl) rfl rfl rfl ?_
                  refine SP.val (Val.assign rfl) rfl rfl rfl ?_
                  refine SP.nil ?_
                  refine QE.then ?_
                  refine CP.ret ?_
                  refine QE.thru (by intro e; cases e) ?_
                  refine QE.scopeX rfl ?_
                  obtain rfl := Option.some.inj ho
                  obtain rfl := Option.some.inj hr
                  exact QE.rets (rs := [.tmp 2, .tmp 3]) (vs := [v56, .int .i64 0]) Tryd.results11 rfl ⟨RVs.tmp rfl, RVs.tmp rfl, trivial⟩ (fun w2 h => St.done (fun a b p s => ⟨_, rfl, s⟩) (St.selO [0] rfl rfl h))
              · intro J
                clear ho
                have ho := hg_t96
                clear hg_t96
                rcases if_some ho with ⟨hc, ho⟩ | ⟨hc, ho⟩
                · have hq94 := hc
                  refine SP.isT (d := 67) rfl hq94 ?_
                  refine SP.not rfl rfl rfl ?_
                  refine SP.not rfl rfl rfl ?_
                  refine SP.not rfl rfl rfl ?_
                  refine SP.not rfl rfl rfl ?_
                  refine SP.val (Val.pickT rfl rfl) rfl rfl rfl ?_
                  obtain rfl := Option.some.inj ho
                  exact J fun a w2 ha hw => ⟨ha.sub ⟨rfl, rfl, trivial⟩, hw⟩
                · have hq94 := (bf hc)
                  refine SP.isF (d := 67) rfl hq94 ?_
                  refine SP.val (Val.move rfl) rfl rfl rfl ?_
                  refine SP.val (Val.move rfl) rfl rfl rfl ?_
                  obtain ⟨t95, hc, ho⟩ := bind_some (x := flow_jumps.f l_0 l55) ho
                  refine SP.callVO see (caps := []) (.bool t95) fn31 rfl rfl rfl rfl (fun w2 hs => flow_jumps.ok l_0 l55 _ _ _ hc w2 (hp w2) (Sub.refl _) ((St.pers 0 rfl see.sub see.dj hs)) (slO.read (St.own 0 rfl see.sub see.dj hs) (Sub.refl _) (Sub.refl _))) ?_
                  clear hc
                  refine SP.val (Val.notB rfl) rfl rfl rfl ?_
                  refine SP.val (Val.pickF rfl rfl) rfl rfl rfl ?_
                  obtain rfl := Option.some.inj ho
                  exact J fun a w2 ha hw => ⟨ha.sub ⟨rfl, rfl, trivial⟩, hw⟩
            · intro J
              clear ho
              have ho := hg_t92
              clear hg_t92
              rcases if_some ho with ⟨hc, ho⟩ | ⟨hc, ho⟩
              · have hq87 := (decide_eq_true hc)
                refine SP.isT (d := 57) rfl hq87 ?_
                refine SP.not rfl rfl rfl ?_
                refine SP.not rfl rfl rfl ?_
                refine SP.not rfl rfl rfl ?_
                refine SP.not rfl rfl rfl ?_
                refine SP.not rfl rfl rfl ?_
                refine SP.not rfl rfl rfl ?_
                refine SP.not rfl rfl rfl ?_
                refine SP.not rfl rfl rfl ?_
                refine SP.val (Val.pickT rfl rfl) rfl rfl rfl ?_
                obtain rfl := Option.some.inj ho
                exact J fun a w2 ha hw => ⟨ha.sub ⟨rfl, rfl, rfl, trivial⟩, hw⟩
              · have hq87 := (decide_eq_false hc)
                refine SP.isF (d := 57) rfl hq87 ?_
                refine SP.val (Val.move rfl) rfl rfl rfl ?_
                refine SP.val (Val.move rfl) rfl rfl rfl ?_
                refine SP.val (Val.lenP see 0 rfl Tryd.underlying22 rfl) rfl rfl rfl ?_
                refine SP.val (Val.sub rfl rfl) rfl rfl rfl ?_
                obtain ⟨x90, hx, ho⟩ := bind_some ho
                have hx := elt_some hx
                refine SP.indexP see 0 rfl Tryd.underlying22 sz52 hx.1 hx.2 rfl rfl rfl rfl (fun p88 => ?_)
                clear hx
                refine k_api_Instr.load see 0 rfl Tryd.underlying52 rfl sz52 rfl rfl rfl ?_
                obtain ⟨t91, hc, ho⟩ := bind_some (x := flow_last.f x90) ho
                refine SP.callV see (caps := []) (.bool t91) fn30 rfl rfl rfl rfl (fun w2 hP hs sub ap => flow_last.ok x90  _ hc w2 hP sub ) ?_
                clear hc
                refine SP.val (Val.notB rfl) rfl rfl rfl ?_
                refine SP.val (Val.pickF rfl rfl) rfl rfl rfl ?_
                obtain rfl := Option.some.inj ho
                exact J fun a w2 ha hw => ⟨ha.sub ⟨rfl, rfl, rfl, trivial⟩, (St.selP [1, 2] rfl hw)⟩
      · intro J
        clear ho
        have ho := hg_t7
        clear hg_t7
        rcases if_some ho with ⟨hc, ho⟩ | ⟨hc, ho⟩
        · have hq5 := hc
          refine SP.isT (d := 16) rfl hq5 ?_
          refine SP.not rfl rfl rfl ?_
          refine SP.not rfl rfl rfl ?_
          refine SP.val (Val.pickT rfl rfl) rfl rfl rfl ?_
          obtain rfl := Option.some.inj ho
          exact J fun a w2 ha hw => ⟨ha.sub ⟨rfl, rfl, trivial⟩, hw⟩
        · have hq5 := (bf hc)
          refine SP.isF (d := 16) rfl hq5 ?_
          refine SP.val (Val.move rfl) rfl rfl rfl ?_
          obtain ⟨t6, hc, ho⟩ := bind_some (x := slices_ContainsFunc_api_Instr_api_Instr_s1.f l_0) ho
          refine SP.callV see (caps := []) (.bool t6) fn25 rfl rfl rfl rfl (fun w2 hP hs sub ap => slices_ContainsFunc_api_Instr_api_Instr_s1.ok l_0 _ _ hc w2 hP sub (ap.get 0 rfl) (ap.get 1 rfl)) ?_
          clear hc
          refine SP.val (Val.pickF rfl rfl) rfl rfl rfl ?_
          obtain rfl := Option.some.inj ho
          exact J fun a w2 ha hw => ⟨ha.sub ⟨rfl, rfl, trivial⟩, hw⟩
    · intro J
      by_cases hc : (l_0.length : Int) = 0
      · have hq3 := (decide_eq_true hc)
        refine SP.isT (d := 11) rfl hq3 ?_
        refine SP.not rfl rfl rfl ?_
        refine SP.not rfl rfl rfl ?_
        refine SP.not rfl rfl rfl ?_
        refine SP.val (Val.pickT rfl rfl) rfl rfl rfl ?_
        exact J fun a w2 ha hw => ⟨ha.sub ⟨rfl, congrArg (fun z => some (Value.bool z)) (or_t hq3), trivial⟩, hw⟩
      · have hq3 := (decide_eq_false hc)
        refine SP.isF (d := 11) rfl hq3 ?_
        refine SP.val (Val.move rfl) rfl rfl rfl ?_
        refine SP.val (Val.lenP see 0 rfl Tryd.underlying22 rfl) rfl rfl rfl ?_
        refine SP.val (Val.gtr rfl rfl) rfl rfl rfl ?_
        refine SP.val (Val.pickF rfl rfl) rfl rfl rfl ?_
        exact J fun a w2 ha hw => ⟨ha.sub ⟨rfl, congrArg (fun z => some (Value.bool z)) (or_f hq3 rfl), trivial⟩, hw⟩
/-! ### math/bits.Mul: function 52 -/
shelf_lay Lays.n212 Nm 212 at Tryd as Tryd.bitsMul52
def math_bits_Mul.f (x : Int) (y : Int) : Option (Int × Int) := if 0 ≤ x ∧ x < 18446744073709551616 ∧ 0 ≤ y ∧ y < 18446744073709551616 then some (x * y / 18446744073709551616, x * y % 18446744073709551616) else none
theorem math_bits_Mul.ok (x : Int) (y : Int) (r : Int × Int) (H : math_bits_Mul.f x y = some r) (w : World) (hV : Hp) (sV : Sub hV (hp w)) :
    Trip Tryd.prog 52 [.int .u64 x, .int .u64 y].toArray em hV w (fun v => HO.pure (v = .tuple #[.int .u64 r.1, .int .u64 r.2])) := by
  unfold math_bits_Mul.f at H
  obtain ⟨⟨h1, h2, h3, h4⟩, H⟩ := must_some H
  obtain rfl := Option.some.inj H
  obtain ⟨a, rfl⟩ := Int.eq_ofNat_of_zero_le h1
  obtain ⟨b, rfl⟩ := Int.eq_ofNat_of_zero_le h3
  refine (Any.bits_Mul Tryd.bitsMul52 a b (by omega) (by omega) w).mono fun e w' ⟨he, hw⟩ => ?_
  subst hw
  refine ⟨_, he, Met.refl _, fun _ _ e _ => e, em, em, fun _ _ _ => rfl, fun _ _ _ => rfl, Dj.em_left _, Sub.em _, Sub.em _, ?_⟩
  show Value.tuple _ = Value.tuple _
  simp


/-! ### slices.Repeat[[]int,int]: function 35 -/
inductive slices_Repeat_int_int.S where
  | start
  | l1 (l12 : List Int) (x14 : Int)

def slices_Repeat_int_int.j2 (x_0 : (List Int)) (count_1 : Int) (t3 : Int × Int) : Option (slices_Repeat_int_int.S ⊕ (List Int)) :=
  if (0 : Int) ≤ (IntKind.i64.wrap t3.2) ∧ (8 : Int) * (IntKind.i64.wrap t3.2) ≤ 281474976710656 ∧ ((IntKind.i64.wrap t3.2) : Int) ≤ 9223372036854775807 then (some (.inl (.l1 (x_0.take (List.replicate (IntKind.i64.wrap t3.2 : Int).toNat 0 : List Int).length ++ (List.replicate (IntKind.i64.wrap t3.2 : Int).toNat 0 : List Int).drop x_0.length) ((min x_0.length (List.replicate (IntKind.i64.wrap t3.2 : Int).toNat 0 : List Int).length : Nat) : Int)))) else none

def slices_Repeat_int_int.j1 (x_0 : (List Int)) (count_1 : Int)  : Option (slices_Repeat_int_int.S ⊕ (List Int)) :=
  (math_bits_Mul.f (IntKind.u64.wrap (x_0.length : Int)) (IntKind.u64.wrap count_1)).bind fun t3 => if ((decide (t3.1 > 0)) || (decide (t3.2 > 9223372036854775807))) = true then (none) else (slices_Repeat_int_int.j2 x_0 count_1 t3)

def slices_Repeat_int_int.F (x_0 : (List Int)) (count_1 : Int) : slices_Repeat_int_int.S → Option (slices_Repeat_int_int.S ⊕ (List Int))
  | .start => if count_1 < 0 then (none) else (slices_Repeat_int_int.j1 x_0 count_1)
  | .l1 l12 x14 => if x14 < (l12.length : Int) then (if (0 : Int) ≤ x14 ∧ x14 ≤ (l12.length : Int) then (if (0 : Int) ≤ x14 ∧ x14 ≤ (l12.length : Int) then (some (.inl (.l1 (l12.take (x14 : Int).toNat ++ l12.take (min (x14 : Int).toNat (l12.length - (x14 : Int).toNat)) ++ l12.drop ((x14 : Int).toNat + min (x14 : Int).toNat (l12.length - (x14 : Int).toNat))) (IntKind.i64.wrap (x14 + ((min (x14 : Int).toNat (l12.length - (x14 : Int).toNat) : Nat) : Int)))))) else none) else none) else (some (.inr l12))

def slices_Repeat_int_int.f (x_0 : (List Int)) (count_1 : Int) : Option (List Int) := runF (slices_Repeat_int_int.F x_0 count_1) .start
theorem slices_Repeat_int_int.ok (x_0 : (List Int)) (count_1 : Int) (v_x_0 : Value) (r : (List Int)) (H : slices_Repeat_int_int.f x_0 count_1 = some r) (w : World) (hV : Hp) (sV : Sub hV (hp w)) (h0 : slR (kInt .i64) hV v_x_0 x_0) :
    Trip Tryd.prog 35 [v_x_0, .int .i64 count_1].toArray em hV w (fun v => HO.ex fun u0 : Value => HO.pand (v = u0) (HO.seps [slO (kInt .i64) 3 u0 r])) := by
  have see : Sees w em hV := ⟨sV, Dj.em_right _⟩
  refine Trip.of (P := Tryd.prog) (n := ⟨48, []⟩) Tryd.func35 rfl ⟨rfl, rfl⟩ rfl (St.begin (All.cons (x := slP (kInt .i64) v_x_0 x_0) h0 (All.nil _))) ?_
  obtain ⟨n0, hi⟩ := runF_iff.1 H
  obtain ⟨m0, o, hm0, ho, hr⟩ := iter_some hi
  clear hi
  refine CP.seq ?_
  refine CP.region ?_
  refine SP.val (Val.assign rfl) rfl rfl rfl ?_
  refine SP.nil ?_
  refine QE.then ?_
  refine CP.join (fun a w2 => ∃ (m2 : Nat) (o : (slices_Repeat_int_int.S ⊕ (List Int))), m2 ≤ m0 ∧ slices_Repeat_int_int.j1 x_0 count_1 = some o ∧ next (slices_Repeat_int_int.F x_0 count_1) m2 o = some r ∧ Env ⟨48, []⟩ [(0, v_x_0), (1, .int .i64 count_1)] a ∧ St w em hV [slP (kInt .i64) v_x_0 x_0] [] w2) ?_ ?_
  · rintro a w2 ⟨m2, o, hm_m2, ho, hr, ha, hw⟩
    refine CP.app ha hw ?_
    clear ha hw a w2
    refine CP.seq ?_
    refine CP.region ?_
    refine SP.val (Val.move rfl) rfl rfl rfl ?_
    refine SP.val (Val.lenP see 0 rfl Tryd.underlying27 rfl) rfl rfl rfl ?_
    refine SP.val (Val.conv (by rw [Tryd.underlying3]; rfl) Tryd.underlying83 rfl) rfl rfl rfl ?_
    refine SP.val (Val.move rfl) rfl rfl rfl ?_
    refine SP.val (Val.conv (by rw [Tryd.underlying3]; rfl) Tryd.underlying83 rfl) rfl rfl rfl ?_
    obtain ⟨t3, hc, ho⟩ := bind_some (x := math_bits_Mul.f (IntKind.u64.wrap (x_0.length : Int)) (IntKind.u64.wrap count_1)) ho
    refine SP.callV see (caps := []) (.tuple #[.int .u64 t3.1, .int .u64 t3.2]) fn52 rfl rfl rfl rfl (fun w2 hP hs sub ap => math_bits_Mul.ok (IntKind.u64.wrap (x_0.length : Int)) (IntKind.u64.wrap count_1)  _ hc w2 hP sub ) ?_
    clear hc
    refine SP.val (Val.move rfl) rfl rfl rfl ?_
    refine SP.val (Val.extract rfl rfl) rfl rfl rfl ?_
    refine SP.val (Val.extract rfl rfl) rfl rfl rfl ?_
    refine SP.val (Val.assign rfl) rfl rfl rfl ?_
    refine SP.val (Val.assign rfl) rfl rfl rfl ?_
    refine SP.nil ?_
    refine QE.then ?_
    refine CP.join (fun a w2 => ∃ (m6 : Nat) (o : (slices_Repeat_int_int.S ⊕ (List Int))), m6 ≤ m2 ∧ slices_Repeat_int_int.j2 x_0 count_1 t3 = some o ∧ next (slices_Repeat_int_int.F x_0 count_1) m6 o = some r ∧ Env ⟨48, []⟩ [(0, v_x_0), (6, .int .u64 t3.2)] a ∧ St w em hV [slP (kInt .i64) v_x_0 x_0] [] w2) ?_ ?_
    · rintro a w2 ⟨m6, o, hm_m6, ho, hr, ha, hw⟩
      refine CP.app ha hw ?_
      clear ha hw a w2
      refine CP.seq ?_
      refine CP.region ?_
      refine SP.val (Val.move rfl) rfl rfl rfl ?_
      refine SP.val (Val.conv (by rw [Tryd.underlying83]; rfl) Tryd.underlying3 rfl) rfl rfl rfl ?_
      obtain ⟨hb, ho⟩ := must_some ho
      refine SP.makeO (k := (kInt .i64)) (z := 0) Tryd.underlying27 inf3 rfl (fun _ => rfl) rfl rfl rfl rfl hb (fun v7 => ?_)
      clear hb
      refine SP.val (Val.assign rfl) rfl rfl rfl ?_
      refine SP.nil ?_
      refine QE.then ?_
      refine CP.seq ?_
      refine CP.region ?_
      refine SP.val (Val.move rfl) rfl rfl rfl ?_
      refine SP.val (Val.move rfl) rfl rfl rfl ?_
      refine SP.copyIn see 0 rfl 0 rfl Tryd.underlying27 sz3 rfl rfl rfl rfl rfl ?_
      refine SP.val (Val.assign rfl) rfl rfl rfl ?_
      refine SP.nil ?_
      refine QE.then ?_
      refine CP.seq ?_
      refine CP.block ?_
      obtain rfl := Option.some.inj ho
      refine CP.loop (fun cl1 a w2 => ∃ l12 : List Int, ∃ x14 : Int, ∃ v13 : Value, cl1 ≤ m6 ∧ iter (slices_Repeat_int_int.F x_0 count_1) cl1 (.l1 l12 x14) = some r ∧ Env ⟨48, []⟩ [(7, v13), (8, .int .i64 x14)] a ∧ St w em hV [] [slO (kInt .i64) 3 v13 l12] w2) m6 (fun a w2 ha hw => ⟨(x_0.take (List.replicate (IntKind.i64.wrap t3.2 : Int).toNat 0 : List Int).length ++ (List.replicate (IntKind.i64.wrap t3.2 : Int).toNat 0 : List Int).drop x_0.length), ((min x_0.length (List.replicate (IntKind.i64.wrap t3.2 : Int).toNat 0 : List Int).length : Nat) : Int), v7, Nat.le_refl _, hr, ha.sub ⟨rfl, rfl, trivial⟩, (St.selP [] rfl hw)⟩) ?_
      clear hr
      rintro cl1 a w2 ⟨l12, x14, v13, hc_l1, hi, ha, hw⟩
      obtain ⟨m15, o, hm_m15, ho, hr⟩ := iter_some hi
      refine CP.app ha hw ?_
      clear ha hw a w2 hi
      refine CP.seq ?_
      refine CP.seq ?_
      refine CP.region ?_
      refine SP.val (Val.move rfl) rfl rfl rfl ?_
      refine SP.val (Val.move rfl) rfl rfl rfl ?_
      refine SP.val (Val.lenW (fun w2 hw => slO.whole (St.own 0 rfl see.sub see.dj hw)) Tryd.underlying27 rfl) rfl rfl rfl ?_
      refine SP.val (Val.lss rfl rfl) rfl rfl rfl ?_
      refine SP.nil ?_
      refine QE.then ?_
      rcases if_some ho with ⟨hc, ho⟩ | ⟨hc, ho⟩
      · refine CP.condT rfl (decide_eq_true hc) ?_
        refine CP.skip ?_
        refine QE.then ?_
        refine CP.block ?_
        refine CP.drawA (by kernel_rfl) (fun w2 k h => h.drawn k) ?_
        refine DA.phase (fun _ => true) (fun _ => True) ?_
        refine DT.take 0 rfl rfl rfl rfl (by kernel_rfl) (fun _ _ _ h => h) (Val.move rfl) (fun _ _ => trivial) ?_
        refine DT.take 1 rfl rfl rfl rfl (by kernel_rfl) (fun _ _ _ h => h) (Val.move rfl) (fun _ _ => trivial) ?_
        refine DT.take 2 rfl rfl rfl rfl (by kernel_rfl) (fun _ _ _ h => h) (Val.move rfl) (fun _ _ => trivial) ?_
        refine DT.take 4 rfl rfl rfl rfl (by kernel_rfl) (fun _ _ _ h => h) (Val.move rfl) (fun _ _ => trivial) ?_
        refine DT.take 5 rfl rfl rfl rfl (by kernel_rfl) (fun _ _ _ h => h) (Val.move rfl) (fun _ _ => trivial) ?_
        refine DT.list (l2 := #[true, true, true, false, true, true, false, false, false, false]) (by kernel_rfl) ?_
        refine DT.free ?_
        obtain ⟨hz16, ho⟩ := must_some ho
        obtain ⟨hz17, ho⟩ := must_some ho
        refine DA.phase (fun i => Nat.ble 0 i && Nat.blt i 7) (fun w2 => St w em hV [] [slO (kInt .i64) 3 v13 l12] w2) ?_
        refine DT.take 3 rfl rfl rfl rfl (by kernel_rfl) (fun _ _ _ h => h) (Val.sliceFrom see 0 rfl Tryd.underlying27 sz3 rfl rfl hz16) (fun w2 hw => hw) ?_
        refine DT.take 6 rfl rfl rfl rfl (by kernel_rfl) (fun _ _ _ h => h) (Val.sliceTo see 0 rfl Tryd.underlying27 sz3 rfl rfl hz17) (fun w2 hw => hw) ?_
        refine DT.next (by kernel_rfl) ?_
        refine DA.one 7 rfl (by kernel_rfl) ?_
        refine SP.copyOver see 0 rfl Tryd.underlying27 sz3 rfl (by omega) rfl rfl rfl rfl ?_
        refine SP.nil ?_
        refine QE.atA ?_
        refine DA.one 8 rfl (by kernel_rfl) ?_
        refine SP.val (Val.add rfl rfl) rfl rfl rfl ?_
        refine SP.nil ?_
        refine QE.atA ?_
        refine DA.one 9 rfl (by kernel_rfl) ?_
        refine SP.val (Val.assign rfl) rfl rfl rfl ?_
        refine SP.nil ?_
        refine QE.atA ?_
        refine DA.done (by kernel_rfl) ?_
        refine QE.blockN ?_
        obtain rfl := Option.some.inj ho
        exact QE.lower m15 (by omega) fun a w2 ha hw => ⟨(l12.take (x14 : Int).toNat ++ l12.take (min (x14 : Int).toNat (l12.length - (x14 : Int).toNat)) ++ l12.drop ((x14 : Int).toNat + min (x14 : Int).toNat (l12.length - (x14 : Int).toNat))), (IntKind.i64.wrap (x14 + ((min (x14 : Int).toNat (l12.length - (x14 : Int).toNat) : Nat) : Int))), v13, (by omega), hr, ha.sub ⟨rfl, rfl, trivial⟩, hw⟩
      · refine CP.condF rfl (decide_eq_false hc) ?_
        refine CP.exit ?_
        refine QE.thru (by intro e; cases e) ?_
        refine QE.thru (by intro e; cases e) ?_
        refine QE.blockE ?_
        refine QE.then ?_
        refine CP.seq ?_
        refine CP.region ?_
        refine SP.val (Val.move rfl) rfl rfl rfl ?_
        refine SP.val (Val.assign rfl) rfl rfl rfl ?_
        refine SP.nil ?_
        refine QE.then ?_
        refine CP.ret ?_
        obtain rfl := Option.some.inj ho
        obtain rfl := Option.some.inj hr
        exact QE.rets (rs := [.tmp 4]) (vs := [v13]) Tryd.results35 rfl ⟨RVs.tmp rfl, trivial⟩ (fun w2 h => St.done (fun a b p s => ⟨_, rfl, s⟩) (St.selO [0] rfl rfl h))
    · refine CP.seq ?_
      refine CP.region ?_
      refine SP.val (Val.move rfl) rfl rfl rfl ?_
      refine SP.val (Val.gtr rfl rfl) rfl rfl rfl ?_
      refine SP.val (Val.move rfl) rfl rfl rfl ?_
      refine SP.join 3 (fun a w2 => Env ⟨48, []⟩ [(0, v_x_0), (6, .int .u64 t3.2), (26, .bool ((decide (t3.1 > 0)) || (decide (t3.2 > 9223372036854775807))))] a ∧ St w em hV [slP (kInt .i64) v_x_0 x_0] [] w2) ?_ ?_
      · rintro a w2 ⟨ha, hw⟩
        refine SP.app ha hw ?_
        clear ha hw a w2
        refine SP.nil ?_
        refine QE.then ?_
        rcases if_some ho with ⟨hc, ho⟩ | ⟨hc, ho⟩
        · refine CP.condT rfl hc ?_
          cases ho
        · refine CP.condF rfl (bf hc) ?_
          refine CP.skip ?_
          exact QE.meet fun a w2 ha hw => ⟨m2, _, (by omega), ho, hr, ha.sub ⟨rfl, rfl, trivial⟩, hw⟩
      · intro J
        by_cases hc : t3.1 > 0
        · have hq5 := (decide_eq_true hc)
          refine SP.isT (d := 23) rfl hq5 ?_
          refine SP.not rfl rfl rfl ?_
          refine SP.not rfl rfl rfl ?_
          refine SP.val (Val.pickT rfl rfl) rfl rfl rfl ?_
          exact J fun a w2 ha hw => ⟨ha.sub ⟨rfl, rfl, congrArg (fun z => some (Value.bool z)) (or_t hq5), trivial⟩, hw⟩
        · have hq5 := (decide_eq_false hc)
          refine SP.isF (d := 23) rfl hq5 ?_
          refine SP.val (Val.move rfl) rfl rfl rfl ?_
          refine SP.val (Val.gtr rfl rfl) rfl rfl rfl ?_
          refine SP.val (Val.pickF rfl rfl) rfl rfl rfl ?_
          exact J fun a w2 ha hw => ⟨ha.sub ⟨rfl, rfl, congrArg (fun z => some (Value.bool z)) (or_f hq5 rfl), trivial⟩, hw⟩
  · refine CP.seq ?_
    refine CP.region ?_
    refine SP.val (Val.move rfl) rfl rfl rfl ?_
    refine SP.val (Val.lss rfl rfl) rfl rfl rfl ?_
    refine SP.nil ?_
    refine QE.then ?_
    rcases if_some ho with ⟨hc, ho⟩ | ⟨hc, ho⟩
    · refine CP.condT rfl (decide_eq_true hc) ?_
      cases ho
    · refine CP.condF rfl (decide_eq_false hc) ?_
      refine CP.skip ?_
      exact QE.meet fun a w2 ha hw => ⟨m0, _, (by omega), ho, hr, ha.sub ⟨rfl, rfl, trivial⟩, hw⟩
/-! ### capstan/flow.Times: function 12 -/
inductive flow_Times.S where
  | start
  | l1 (t2 : (List flow_Loop) × Int) (l32 : List Int) (x34 : Int)
  | l2 (t2 : (List flow_Loop) × Int) (x34 : Int) (x37 : flow_Loop) (l45 : List Int) (x47 : Int)

def flow_Times.F (l_0 : (List api_Instr)) : flow_Times.S → Option (flow_Times.S ⊕ ((List Int) × Int))
  | .start => (flow_Loops.f l_0).bind fun t2 => if t2.2 ≠ 0 then (some (.inr ([], t2.2))) else ((slices_Repeat_int_int.f [1] (l_0.length : Int)).bind fun t8 => some (.inl (.l1 t2 t8 0)))
  | .l1 t2 l32 x34 => if x34 < (t2.1.length : Int) then ((elt t2.1 x34).bind fun x37 => some (.inl (.l2 t2 x34 x37 l32 (IntKind.i64.wrap (x37.From + 1))))) else (some (.inr (l32, 0)))
  | .l2 t2 x34 x37 l45 x47 => if x47 ≤ x37.To then ((elt l45 x47).bind fun x50 => (elt l45 x47).bind fun x52 => some (.inl (.l2 t2 x34 x37 (l45.set x47.toNat (IntKind.i64.wrap (x50 * x37.Turns))) (IntKind.i64.wrap (x47 + 1))))) else (some (.inl (.l1 t2 l45 (IntKind.i64.wrap (x34 + 1)))))

def flow_Times.f (l_0 : (List api_Instr)) : Option ((List Int) × Int) := runF (flow_Times.F l_0) .start
theorem flow_Times.ok (l_0 : (List api_Instr)) (v_l_0 : Value)  (r : (List Int) × Int) (H : flow_Times.f l_0 = some r) (w : World) (hV : Hp) (sV : Sub hV (hp w)) (h0 : slR k_api_Instr hV v_l_0 l_0) (h1 : (arrP k_arr88 0 tab0).p hV) :
    Trip Tryd.prog 12 [v_l_0].toArray em hV w (fun v => HO.ex fun u0 : Value => HO.pand (v = .tuple #[u0, .int .i64 r.2]) (HO.seps [slO (kInt .i64) 3 u0 r.1])) := by
  have see : Sees w em hV := ⟨sV, Dj.em_right _⟩
  refine Trip.of (P := Tryd.prog) (n := ⟨47, []⟩) Tryd.func12 rfl ⟨rfl, rfl⟩ rfl (St.begin (All.cons (x := slP k_api_Instr v_l_0 l_0) h0 (All.cons (x := arrP k_arr88 0 tab0) h1 (All.nil _)))) ?_
  obtain ⟨n0, hi⟩ := runF_iff.1 H
  obtain ⟨m0, o, hm0, ho, hr⟩ := iter_some hi
  clear hi
  refine CP.seq ?_
  refine CP.region ?_
  refine SP.val (Val.assign rfl) rfl rfl rfl ?_
  refine SP.val (Val.assign rfl) rfl rfl rfl ?_
  refine SP.nil ?_
  refine QE.then ?_
  refine CP.seq ?_
  refine CP.region ?_
  refine SP.val (Val.move rfl) rfl rfl rfl ?_
  obtain ⟨t2, hc, ho⟩ := bind_some (x := flow_Loops.f l_0) ho
  refine SP.callK see (caps := []) _ fn11 rfl rfl rfl rfl (fun w2 hP hs sub ap => flow_Loops.ok l_0 _ _ hc w2 hP sub (ap.get 0 rfl) (ap.get 1 rfl)) (fun vr => ?_)
  refine SP.ex (fun w2 h => St.open h) (fun v3 => ?_)
  refine SP.have (fun w2 h => (St.pand h).1.symm) (fun er => ?_)
  subst er
  refine SP.imp (fun w2 h => St.seps (St.pand h).2) ?_
  clear hc
  refine SP.val (Val.move rfl) rfl rfl rfl ?_
  refine SP.val (Val.extract rfl rfl) rfl rfl rfl ?_
  refine SP.val (Val.extract rfl rfl) rfl rfl rfl ?_
  refine SP.val (Val.assign rfl) rfl rfl rfl ?_
  refine SP.val (Val.assign rfl) rfl rfl rfl ?_
  refine SP.nil ?_
  refine QE.then ?_
  refine CP.seq ?_
  refine CP.seq ?_
  refine CP.region ?_
  refine SP.val (Val.move rfl) rfl rfl rfl ?_
  refine SP.val (Val.neq rfl rfl) rfl rfl rfl ?_
  refine SP.nil ?_
  refine QE.then ?_
  rcases if_some ho with ⟨hc, ho⟩ | ⟨hc, ho⟩
  · refine CP.condT rfl (decide_eq_true hc) ?_
    refine CP.seq ?_
    refine CP.region ?_
    refine SP.val (Val.move rfl) rfl rfl rfl ?_
    refine SP.val (Val.assign rfl) rfl rfl rfl ?_
    refine SP.val (Val.assign rfl) rfl rfl rfl ?_
    refine SP.nil ?_
    refine QE.then ?_
    refine CP.ret ?_
    refine QE.thru (by intro e; cases e) ?_
    obtain rfl := Option.some.inj ho
    obtain rfl := Option.some.inj hr
    exact QE.rets (rs := [.tmp 2, .tmp 3]) (vs := [(.slice none 0 0), .int .i64 t2.2]) Tryd.results12 rfl ⟨RVs.tmp rfl, RVs.tmp rfl, trivial⟩ (fun w2 h => St.done (fun a b p s => ⟨_, rfl, s⟩) (St.selO [0] rfl rfl (St.addO (slO.nil (kInt .i64) 3) h)))
  · refine CP.condF rfl (decide_eq_false hc) ?_
    refine CP.skip ?_
    refine QE.then ?_
    refine CP.seq ?_
    refine CP.region ?_
    refine SP.lit (k := (kInt .i64)) (xs := [1]) (vs := [.int .i64 1]) (cells := [.int .i64 1]) Tryd.underlying27 inf3 rfl rfl rfl rfl rfl rfl rfl rfl (fun _ ap => ⟨[.int .i64 1], _, rfl, rfl, rfl⟩) rfl rfl rfl (fun v6 => ?_)
    refine SP.val (Val.move rfl) rfl rfl rfl ?_
    refine SP.val (Val.lenP see 0 rfl Tryd.underlying22 rfl) rfl rfl rfl ?_
    obtain ⟨t8, hc, ho⟩ := bind_some (x := slices_Repeat_int_int.f [1] (l_0.length : Int)) ho
    refine SP.callKO see (caps := []) _ fn35 rfl rfl rfl rfl (fun w2 hs => slices_Repeat_int_int.ok [1] (l_0.length : Int) _ _ hc w2 (hp w2) (Sub.refl _) (slO.read (St.own 0 rfl see.sub see.dj hs) (Sub.refl _) (Sub.refl _))) (fun v a a2 b ⟨v9, e, h⟩ => ⟨v9, e, (Sep.fcons (fun _ => slO.flip (fun _ _ _ _ h => h)) (fun _ => Sep.fnil)) h⟩) (fun vr => ?_)
    refine SP.ex (fun w2 h => St.open h) (fun v9 => ?_)
    refine SP.have (fun w2 h => (St.pand h).1.symm) (fun er => ?_)
    subst er
    refine SP.imp (fun w2 h => St.seps (St.pand h).2) ?_
    clear hc
    refine SP.val (Val.assign rfl) rfl rfl rfl ?_
    refine SP.nil ?_
    refine QE.then ?_
    refine CP.seq ?_
    refine CP.seq ?_
    refine CP.region ?_
    refine SP.val (Val.move rfl) rfl rfl rfl ?_
    refine SP.val (Val.lenW (fun w2 hw => slO.whole (St.own 2 rfl see.sub see.dj hw)) Tryd.underlying30 rfl) rfl rfl rfl ?_
    refine SP.val (Val.move rfl) rfl rfl rfl ?_
    refine SP.nil ?_
    refine QE.then ?_
    refine CP.block ?_
    obtain rfl := Option.some.inj ho
    refine CP.loop (fun cl1 a w2 => ∃ l32 : List Int, ∃ x34 : Int, ∃ v33 : Value, cl1 ≤ m0 ∧ iter (flow_Times.F l_0) cl1 (.l1 t2 l32 x34) = some r ∧ Env ⟨47, []⟩ [(6, v33), (22, v3), (23, .int .i64 (t2.1.length : Int)), (24, .int .i64 x34)] a ∧ St w em hV [arrP k_arr88 0 tab0] [slO (kInt .i64) 3 v33 l32, slO k_flow_Loop 40 v3 t2.1] w2) m0 (fun a w2 ha hw => ⟨t8, 0, v9, Nat.le_refl _, hr, ha.sub ⟨rfl, rfl, rfl, rfl, trivial⟩, (St.selP [1] rfl (St.selO [0, 2] rfl rfl hw))⟩) ?_
    clear hr
    rintro cl1 a w2 ⟨l32, x34, v33, hc_l1, hi, ha, hw⟩
    obtain ⟨m35, o, hm_m35, ho, hr⟩ := iter_some hi
    refine CP.app ha hw ?_
    clear ha hw a w2 hi
    refine CP.seq ?_
    refine CP.region ?_
    refine SP.val (Val.lss rfl rfl) rfl rfl rfl ?_
    refine SP.nil ?_
    refine QE.then ?_
    refine CP.seq ?_
    rcases if_some ho with ⟨hc, ho⟩ | ⟨hc, ho⟩
    · refine CP.condT rfl (decide_eq_true hc) ?_
      refine CP.skip ?_
      refine QE.then ?_
      refine CP.seq ?_
      refine CP.block ?_
      refine CP.seq ?_
      refine CP.region ?_
      obtain ⟨x37, hx_x37, ho⟩ := bind_some ho
      have hx_x37 := elt_some hx_x37
      refine SP.indexW (fun w2 hw => slO.whole (St.own 1 rfl see.sub see.dj hw)) Tryd.underlying30 sz40 hx_x37.1 hx_x37.2 rfl rfl rfl rfl (fun p36 h_p36 => ?_)
      refine SP.val (Val.loadOA see 1 rfl hx_x37.2 h_p36 (fun _ _ e => e) Tryd.underlying40 rfl sz40 rfl) rfl rfl rfl ?_
      refine SP.alloc (cs := [.int .i64 0, .int .i64 0, .int .i64 0]) inf40 rfl rfl (fun b38 => ?_)
      refine SP.store (v := .agg #[.int .i64 x37.From, .int .i64 x37.To, .int .i64 x37.Turns]) (vs := [.int .i64 x37.From, .int .i64 x37.To, .int .i64 x37.Turns]) 0 (by rfl) sz40 (by rfl) (by rfl) (by rfl) (by rfl) (by rfl) (by rfl) ?_
      refine SP.nil ?_
      refine QE.then ?_
      refine CP.seq ?_
      refine CP.region ?_
      refine SP.val (Val.fieldAddr Tryd.underlying40 rfl sz3 rfl) rfl rfl rfl ?_
      refine SP.val (Val.load1 0 rfl Tryd.underlying3 rfl rfl rfl) rfl rfl rfl ?_
      refine SP.val (Val.add rfl rfl) rfl rfl rfl ?_
      refine SP.val (Val.assign rfl) rfl rfl rfl ?_
      refine SP.nil ?_
      refine QE.then ?_
      refine CP.block ?_
      obtain rfl := Option.some.inj ho
      refine CP.loop (fun cl2 a w2 => ∃ l45 : List Int, ∃ x47 : Int, ∃ v46 : Value, cl2 ≤ m35 ∧ iter (flow_Times.F l_0) cl2 (.l2 t2 x34 x37 l45 x47) = some r ∧ Env ⟨47, []⟩ [(6, v46), (8, .pointer (some ⟨b38, 0, none⟩)), (9, .int .i64 x47), (22, v3), (23, .int .i64 (t2.1.length : Int)), (24, .int .i64 x34)] a ∧ St w em hV [arrP k_arr88 0 tab0] [boxO b38 [.int .i64 x37.From, .int .i64 x37.To, .int .i64 x37.Turns] 40, slO (kInt .i64) 3 v46 l45, slO k_flow_Loop 40 v3 t2.1] w2) m35 (fun a w2 ha hw => ⟨l32, (IntKind.i64.wrap (x37.From + 1)), v33, Nat.le_refl _, hr, ha.sub ⟨rfl, rfl, rfl, rfl, rfl, rfl, trivial⟩, hw⟩) ?_
      clear hr
      rintro cl2 a w2 ⟨l45, x47, v46, hc_l2, hi, ha, hw⟩
      obtain ⟨m48, o, hm_m48, ho, hr⟩ := iter_some hi
      refine CP.app ha hw ?_
      clear ha hw a w2 hi
      refine CP.seq ?_
      refine CP.seq ?_
      refine CP.region ?_
      refine SP.val (Val.move rfl) rfl rfl rfl ?_
      refine SP.val (Val.fieldAddr Tryd.underlying40 rfl sz3 rfl) rfl rfl rfl ?_
      refine SP.val (Val.load1 0 rfl Tryd.underlying3 rfl rfl rfl) rfl rfl rfl ?_
      refine SP.val (Val.leq rfl rfl) rfl rfl rfl ?_
      refine SP.nil ?_
      refine QE.then ?_
      rcases if_some ho with ⟨hc, ho⟩ | ⟨hc, ho⟩
      · refine CP.condT rfl (decide_eq_true hc) ?_
        refine CP.skip ?_
        refine QE.then ?_
        refine CP.seq ?_
        refine CP.block ?_
        refine CP.drawA (by kernel_rfl) (fun w2 k h => h.drawn k) ?_
        obtain ⟨x50, hx_x50, ho⟩ := bind_some ho
        have hx_x50 := elt_some hx_x50
        refine DA.ghost (fun w2 hw => let ⟨z, hz⟩ := ixC ((fun w2 hw => slO.whole (St.own 1 rfl see.sub see.dj hw)) w2 hw) hx_x50.1 hx_x50.2; ⟨z, hz, hw⟩) (fun p49 i_p49 => ?_)
        have h_p49 := i_p49.1
        refine DA.phase (fun i => Nat.ble 0 i && Nat.blt i 6) (fun w2 => St w em hV [arrP k_arr88 0 tab0] [boxO b38 [.int .i64 x37.From, .int .i64 x37.To, .int .i64 x37.Turns] 40, slO (kInt .i64) 3 v46 l45, slO k_flow_Loop 40 v3 t2.1] w2) ?_
        refine DT.take 0 rfl rfl rfl rfl (by kernel_rfl) (fun _ _ _ h => h) (Val.move rfl) (fun w2 hw => hw) ?_
        refine DT.take 1 rfl rfl rfl rfl (by kernel_rfl) (fun _ _ _ h => h) (Val.move rfl) (fun w2 hw => hw) ?_
        refine DT.take 2 rfl rfl rfl rfl (by kernel_rfl) (fun _ _ _ h => h) (Val.indexC' i_p49 Tryd.underlying27 sz3 rfl rfl) (fun w2 hw => hw) ?_
        refine DT.take 3 rfl rfl rfl rfl (by kernel_rfl) (fun _ _ _ h => h) (Val.loadW1 (off := 0) (k := (kInt .i64)) (fun w2 hw => slO.whole (St.own 1 rfl see.sub see.dj hw)) hx_x50.2 h_p49 (fun _ _ e => by subst e; rfl) Tryd.underlying3 rfl rfl) (fun w2 hw => hw) ?_
        refine DT.take 4 rfl rfl rfl rfl (by kernel_rfl) (fun _ _ _ h => h) (Val.fieldAddr Tryd.underlying40 rfl sz3 rfl) (fun w2 hw => hw) ?_
        refine DT.take 5 rfl rfl rfl rfl (by kernel_rfl) (fun _ _ _ h => h) (Val.load1 0 rfl Tryd.underlying3 rfl rfl rfl) (fun w2 hw => hw) ?_
        refine DT.next (by kernel_rfl) ?_
        refine DA.one 6 rfl (by kernel_rfl) ?_
        refine SP.val (Val.mul rfl rfl) rfl rfl rfl ?_
        refine SP.nil ?_
        refine QE.atA ?_
        refine DA.one 7 rfl (by kernel_rfl) ?_
        obtain ⟨x52, hx_x52, ho⟩ := bind_some ho
        have hx_x52 := elt_some hx_x52
        refine SP.indexW (fun w2 hw => slO.whole (St.own 1 rfl see.sub see.dj hw)) Tryd.underlying27 sz3 hx_x52.1 hx_x52.2 rfl rfl rfl rfl (fun p51 h_p51 => ?_)
        refine SP.nil ?_
        refine QE.atA ?_
        refine DA.one 8 rfl (by kernel_rfl) ?_
        refine SP.storeO (z0 := IntKind.i64.wrap (x50 * x37.Turns)) (off := 0) (vs := [.int .i64 (IntKind.i64.wrap (x50 * x37.Turns))]) see 1 rfl hx_x52.2 h_p51 rfl rfl sz3 rfl (fun a cs _ e => by subst e; rfl) rfl rfl rfl ?_
        refine SP.nil ?_
        refine QE.atA ?_
        refine DA.done (by kernel_rfl) ?_
        refine QE.blockN ?_
        refine QE.then ?_
        refine CP.region ?_
        refine SP.val (Val.move rfl) rfl rfl rfl ?_
        refine SP.val (Val.add rfl rfl) rfl rfl rfl ?_
        refine SP.val (Val.assign rfl) rfl rfl rfl ?_
        refine SP.nil ?_
        obtain rfl := Option.some.inj ho
        exact QE.lower m48 (by omega) fun a w2 ha hw => ⟨(l45.set x47.toNat (IntKind.i64.wrap (x50 * x37.Turns))), (IntKind.i64.wrap (x47 + 1)), v46, (by omega), hr, ha.sub ⟨rfl, rfl, rfl, rfl, rfl, rfl, trivial⟩, hw⟩
      · refine CP.condF rfl (decide_eq_false hc) ?_
        refine CP.exit ?_
        refine QE.thru (by intro e; cases e) ?_
        refine QE.thru (by intro e; cases e) ?_
        refine QE.blockE ?_
        refine QE.blockN ?_
        refine QE.then ?_
        refine CP.region ?_
        refine SP.val (Val.add rfl rfl) rfl rfl rfl ?_
        refine SP.val (Val.move rfl) rfl rfl rfl ?_
        refine SP.nil ?_
        obtain rfl := Option.some.inj ho
        exact QE.lower m48 (by omega) fun a w2 ha hw => ⟨l45, (IntKind.i64.wrap (x34 + 1)), v46, (by omega), hr, ha.sub ⟨rfl, rfl, rfl, rfl, trivial⟩, (St.selO [1, 2] rfl rfl hw)⟩
    · refine CP.condF rfl (decide_eq_false hc) ?_
      refine CP.exit ?_
      refine QE.thru (by intro e; cases e) ?_
      refine QE.thru (by intro e; cases e) ?_
      refine QE.blockE ?_
      refine QE.then ?_
      refine CP.seq ?_
      refine CP.region ?_
      refine SP.val (Val.move rfl) rfl rfl rfl ?_
      refine SP.val (Val.assign rfl) rfl rfl rfl ?_
      refine SP.val (Val.assign rfl) rfl rfl rfl ?_
      refine SP.nil ?_
      refine QE.then ?_
      refine CP.ret ?_
      obtain rfl := Option.some.inj ho
      obtain rfl := Option.some.inj hr
      exact QE.rets (rs := [.tmp 2, .tmp 3]) (vs := [v33, .int .i64 0]) Tryd.results12 rfl ⟨RVs.tmp rfl, RVs.tmp rfl, trivial⟩ (fun w2 h => St.done (fun a b p s => ⟨_, rfl, s⟩) (St.selO [0] rfl rfl h))
/-! ### capstan/flow.Check: function 13 -/
def flow_Check.f (l_0 : (List api_Instr)) : Option Int :=
  (flow_Loops.f l_0).bind fun t2 => some t2.2
theorem flow_Check.ok (l_0 : (List api_Instr)) (v_l_0 : Value)  (r : Int) (H : flow_Check.f l_0 = some r) (w : World) (hV : Hp) (sV : Sub hV (hp w)) (h0 : slR k_api_Instr hV v_l_0 l_0) (h1 : (arrP k_arr88 0 tab0).p hV) :
    Trip Tryd.prog 13 [v_l_0].toArray em hV w (fun v => HO.pure (v = .int .i64 r)) := by
  have see : Sees w em hV := ⟨sV, Dj.em_right _⟩
  refine Trip.of (P := Tryd.prog) (n := ⟨11, []⟩) Tryd.func13 rfl ⟨rfl, rfl⟩ rfl (St.begin (All.cons (x := slP k_api_Instr v_l_0 l_0) h0 (All.cons (x := arrP k_arr88 0 tab0) h1 (All.nil _)))) ?_
  have ho := H
  refine CP.seq ?_
  refine CP.region ?_
  refine SP.val (Val.assign rfl) rfl rfl rfl ?_
  refine SP.nil ?_
  refine QE.then ?_
  refine CP.seq ?_
  refine CP.region ?_
  refine SP.val (Val.move rfl) rfl rfl rfl ?_
  obtain ⟨t2, hc, ho⟩ := bind_some (x := flow_Loops.f l_0) ho
  refine SP.callK see (caps := []) _ fn11 rfl rfl rfl rfl (fun w2 hP hs sub ap => flow_Loops.ok l_0 _ _ hc w2 hP sub (ap.get 0 rfl) (ap.get 1 rfl)) (fun vr => ?_)
  refine SP.ex (fun w2 h => St.open h) (fun v3 => ?_)
  refine SP.have (fun w2 h => (St.pand h).1.symm) (fun er => ?_)
  subst er
  refine SP.imp (fun w2 h => St.seps (St.pand h).2) ?_
  clear hc
  refine SP.val (Val.move rfl) rfl rfl rfl ?_
  refine SP.val (Val.extract rfl rfl) rfl rfl rfl ?_
  refine SP.val (Val.extract rfl rfl) rfl rfl rfl ?_
  refine SP.val (Val.assign rfl) rfl rfl rfl ?_
  refine SP.val (Val.assign rfl) rfl rfl rfl ?_
  refine SP.nil ?_
  refine QE.then ?_
  refine CP.seq ?_
  refine CP.region ?_
  refine SP.val (Val.move rfl) rfl rfl rfl ?_
  refine SP.val (Val.assign rfl) rfl rfl rfl ?_
  refine SP.nil ?_
  refine QE.then ?_
  refine CP.ret ?_
  obtain rfl := Option.some.inj ho
  exact QE.rets (rs := [.tmp 2]) (vs := [.int .i64 t2.2]) Tryd.results13 rfl ⟨RVs.tmp rfl, trivial⟩ (fun w2 h => St.done (fun a b p s => rfl) h)
/-! ### capstan/capstanref09.SameInts: function 14 -/
inductive capstanref09_SameInts.S where
  | start
  | l1 (x12 : Int)

def capstanref09_SameInts.F (a_0 : (List Int)) (b_1 : (List Int)) : capstanref09_SameInts.S → Option (capstanref09_SameInts.S ⊕ Bool)
  | .start => if (a_0.length : Int) ≠ (b_1.length : Int) then (some (.inr false)) else (some (.inl (.l1 0)))
  | .l1 x12 => if x12 < (a_0.length : Int) then ((elt a_0 x12).bind fun x16 => (elt b_1 x12).bind fun x20 => if x16 ≠ x20 then (some (.inr false)) else (some (.inl (.l1 (IntKind.i64.wrap (x12 + 1)))))) else (some (.inr true))

def capstanref09_SameInts.f (a_0 : (List Int)) (b_1 : (List Int)) : Option Bool := runF (capstanref09_SameInts.F a_0 b_1) .start
theorem capstanref09_SameInts.ok (a_0 : (List Int)) (b_1 : (List Int)) (v_a_0 : Value) (v_b_1 : Value) (r : Bool) (H : capstanref09_SameInts.f a_0 b_1 = some r) (w : World) (hV : Hp) (sV : Sub hV (hp w)) (h0 : slR (kInt .i64) hV v_a_0 a_0) (h1 : slR (kInt .i64) hV v_b_1 b_1) :
    Trip Tryd.prog 14 [v_a_0, v_b_1].toArray em hV w (fun v => HO.pure (v = .bool r)) := by
  have see : Sees w em hV := ⟨sV, Dj.em_right _⟩
  refine Trip.of (P := Tryd.prog) (n := ⟨26, []⟩) Tryd.func14 rfl ⟨rfl, rfl⟩ rfl (St.begin (All.cons (x := slP (kInt .i64) v_a_0 a_0) h0 (All.cons (x := slP (kInt .i64) v_b_1 b_1) h1 (All.nil _)))) ?_
  obtain ⟨n0, hi⟩ := runF_iff.1 H
  obtain ⟨m0, o, hm0, ho, hr⟩ := iter_some hi
  clear hi
  refine CP.seq ?_
  refine CP.region ?_
  refine SP.val (Val.assign rfl) rfl rfl rfl ?_
  refine SP.nil ?_
  refine QE.then ?_
  refine CP.seq ?_
  refine CP.seq ?_
  refine CP.region ?_
  refine SP.val (Val.move rfl) rfl rfl rfl ?_
  refine SP.val (Val.lenP see 0 rfl Tryd.underlying27 rfl) rfl rfl rfl ?_
  refine SP.val (Val.move rfl) rfl rfl rfl ?_
  refine SP.val (Val.lenP see 1 rfl Tryd.underlying27 rfl) rfl rfl rfl ?_
  refine SP.val (Val.neq rfl rfl) rfl rfl rfl ?_
  refine SP.nil ?_
  refine QE.then ?_
  rcases if_some ho with ⟨hc, ho⟩ | ⟨hc, ho⟩
  · refine CP.condT rfl (decide_eq_true hc) ?_
    refine CP.seq ?_
    refine CP.region ?_
    refine SP.val (Val.assign rfl) rfl rfl rfl ?_
    refine SP.nil ?_
    refine QE.then ?_
    refine CP.ret ?_
    refine QE.thru (by intro e; cases e) ?_
    obtain rfl := Option.some.inj ho
    obtain rfl := Option.some.inj hr
    exact QE.rets (rs := [.tmp 4]) (vs := [.bool false]) Tryd.results14 rfl ⟨RVs.tmp rfl, trivial⟩ (fun w2 h => St.done (fun a b p s => rfl) h)
  · refine CP.condF rfl (decide_eq_false hc) ?_
    refine CP.skip ?_
    refine QE.then ?_
    refine CP.seq ?_
    refine CP.seq ?_
    refine CP.region ?_
    refine SP.val (Val.assign rfl) rfl rfl rfl ?_
    refine SP.nil ?_
    refine QE.then ?_
    refine CP.block ?_
    obtain rfl := Option.some.inj ho
    refine CP.loop (fun cl1 a w2 => ∃ x12 : Int, cl1 ≤ m0 ∧ iter (capstanref09_SameInts.F a_0 b_1) cl1 (.l1 x12) = some r ∧ Env ⟨26, []⟩ [(0, v_a_0), (1, v_b_1), (5, .int .i64 x12)] a ∧ St w em hV [slP (kInt .i64) v_a_0 a_0, slP (kInt .i64) v_b_1 b_1] [] w2) m0 (fun a w2 ha hw => ⟨0, Nat.le_refl _, hr, ha.sub ⟨rfl, rfl, rfl, trivial⟩, hw⟩) ?_
    clear hr
    rintro cl1 a w2 ⟨x12, hc_l1, hi, ha, hw⟩
    obtain ⟨m13, o, hm_m13, ho, hr⟩ := iter_some hi
    refine CP.app ha hw ?_
    clear ha hw a w2 hi
    refine CP.seq ?_
    refine CP.seq ?_
    refine CP.region ?_
    refine SP.val (Val.move rfl) rfl rfl rfl ?_
    refine SP.val (Val.move rfl) rfl rfl rfl ?_
    refine SP.val (Val.lenP see 0 rfl Tryd.underlying27 rfl) rfl rfl rfl ?_
    refine SP.val (Val.lss rfl rfl) rfl rfl rfl ?_
    refine SP.nil ?_
    refine QE.then ?_
    rcases if_some ho with ⟨hc, ho⟩ | ⟨hc, ho⟩
    · refine CP.condT rfl (decide_eq_true hc) ?_
      refine CP.skip ?_
      refine QE.then ?_
      refine CP.seq ?_
      refine CP.block ?_
      refine CP.seq ?_
      refine CP.drawA (by kernel_rfl) (fun w2 k h => h.drawn k) ?_
      obtain ⟨x16, hx, ho⟩ := bind_some ho
      have hx := elt_some hx
      refine DA.ghost (fun w2 h => h.elem see 0 rfl hx.1 hx.2) (fun p14 h_p14 => ?_)
      clear hx
      refine DA.ghost (fun w2 h => h.openE see 0 rfl (fun _ : Unit => [.int .i64 x16]) (fun _ => []) (fun h cs e => ⟨(), e, All.nil _⟩)) (fun _ _ => ?_)
      obtain ⟨x20, hx, ho⟩ := bind_some ho
      have hx := elt_some hx
      refine DA.ghost (fun w2 h => h.elem see 3 rfl hx.1 hx.2) (fun p18 h_p18 => ?_)
      clear hx
      refine DA.ghost (fun w2 h => h.openE see 0 rfl (fun _ : Unit => [.int .i64 x20]) (fun _ => []) (fun h cs e => ⟨(), e, All.nil _⟩)) (fun _ _ => ?_)
      refine DA.phase (fun i => Nat.ble 0 i && Nat.blt i 8) (fun w2 => St w em hV [atP p18 [.int .i64 x20], elP (kInt .i64) p18 x20, atP p14 [.int .i64 x16], elP (kInt .i64) p14 x16, slP (kInt .i64) v_a_0 a_0, slP (kInt .i64) v_b_1 b_1] [] w2) ?_
      refine DT.take 0 rfl rfl rfl rfl (by kernel_rfl) (fun _ _ _ h => h) (Val.move rfl) (fun w2 hw => hw) ?_
      refine DT.take 1 rfl rfl rfl rfl (by kernel_rfl) (fun _ _ _ h => h) (Val.move rfl) (fun w2 hw => hw) ?_
      refine DT.take 2 rfl rfl rfl rfl (by kernel_rfl) (fun _ _ _ h => h) (Val.indexE h_p14 Tryd.underlying27 sz3 rfl rfl) (fun w2 hw => hw) ?_
      refine DT.take 3 rfl rfl rfl rfl (by kernel_rfl) (fun _ _ _ h => h) (Val.loadAt1 see 2 rfl Tryd.underlying3 rfl rfl) (fun w2 hw => hw) ?_
      refine DT.take 4 rfl rfl rfl rfl (by kernel_rfl) (fun _ _ _ h => h) (Val.move rfl) (fun w2 hw => hw) ?_
      refine DT.take 5 rfl rfl rfl rfl (by kernel_rfl) (fun _ _ _ h => h) (Val.move rfl) (fun w2 hw => hw) ?_
      refine DT.take 6 rfl rfl rfl rfl (by kernel_rfl) (fun _ _ _ h => h) (Val.indexE h_p18 Tryd.underlying27 sz3 rfl rfl) (fun w2 hw => hw) ?_
      refine DT.take 7 rfl rfl rfl rfl (by kernel_rfl) (fun _ _ _ h => h) (Val.loadAt1 see 0 rfl Tryd.underlying3 rfl rfl) (fun w2 hw => hw) ?_
      refine DT.next (by kernel_rfl) ?_
      refine DA.one 8 rfl (by kernel_rfl) ?_
      refine SP.val (Val.neq rfl rfl) rfl rfl rfl ?_
      refine SP.nil ?_
      refine QE.atA ?_
      refine DA.done (by kernel_rfl) ?_
      refine QE.then ?_
      rcases if_some ho with ⟨hc, ho⟩ | ⟨hc, ho⟩
      · refine CP.condT rfl (decide_eq_true hc) ?_
        refine CP.seq ?_
        refine CP.region ?_
        refine SP.val (Val.assign rfl) rfl rfl rfl ?_
        refine SP.nil ?_
        refine QE.then ?_
        refine CP.ret ?_
        refine QE.blockR ?_
        refine QE.thru (by intro e; cases e) ?_
        refine QE.thru (by intro e; cases e) ?_
        refine QE.blockR ?_
        refine QE.thru (by intro e; cases e) ?_
        obtain rfl := Option.some.inj ho
        obtain rfl := Option.some.inj hr
        exact QE.rets (rs := [.tmp 4]) (vs := [.bool false]) Tryd.results14 rfl ⟨RVs.tmp rfl, trivial⟩ (fun w2 h => St.done (fun a b p s => rfl) h)
      · refine CP.condF rfl (decide_eq_false hc) ?_
        refine CP.skip ?_
        refine QE.blockN ?_
        refine QE.then ?_
        refine CP.region ?_
        refine SP.val (Val.move rfl) rfl rfl rfl ?_
        refine SP.val (Val.add rfl rfl) rfl rfl rfl ?_
        refine SP.val (Val.assign rfl) rfl rfl rfl ?_
        refine SP.nil ?_
        obtain rfl := Option.some.inj ho
        exact QE.lower m13 (by omega) fun a w2 ha hw => ⟨(IntKind.i64.wrap (x12 + 1)), (by omega), hr, ha.sub ⟨rfl, rfl, rfl, trivial⟩, (St.selP [4, 5] rfl hw)⟩
    · refine CP.condF rfl (decide_eq_false hc) ?_
      refine CP.exit ?_
      refine QE.thru (by intro e; cases e) ?_
      refine QE.thru (by intro e; cases e) ?_
      refine QE.blockE ?_
      refine QE.then ?_
      refine CP.seq ?_
      refine CP.region ?_
      refine SP.val (Val.assign rfl) rfl rfl rfl ?_
      refine SP.nil ?_
      refine QE.then ?_
      refine CP.ret ?_
      obtain rfl := Option.some.inj ho
      obtain rfl := Option.some.inj hr
      exact QE.rets (rs := [.tmp 4]) (vs := [.bool true]) Tryd.results14 rfl ⟨RVs.tmp rfl, trivial⟩ (fun w2 h => St.done (fun a b p s => rfl) h)
/-! ### capstan/capstanref05.Same: function 15 -/
inductive capstanref05_Same.S where
  | start
  | l1 (x12 : Int)

def capstanref05_Same.F (a_0 : (List api_Instr)) (b_1 : (List api_Instr)) : capstanref05_Same.S → Option (capstanref05_Same.S ⊕ Bool)
  | .start => if (a_0.length : Int) ≠ (b_1.length : Int) then (some (.inr false)) else (some (.inl (.l1 0)))
  | .l1 x12 => if x12 < (a_0.length : Int) then ((elt a_0 x12).bind fun x16 => (elt b_1 x12).bind fun x20 => if (!(x16.Op == x20.Op && (x16.A == x20.A && (x16.B == x20.B)))) = true then (some (.inr false)) else (some (.inl (.l1 (IntKind.i64.wrap (x12 + 1)))))) else (some (.inr true))

def capstanref05_Same.f (a_0 : (List api_Instr)) (b_1 : (List api_Instr)) : Option Bool := runF (capstanref05_Same.F a_0 b_1) .start
theorem capstanref05_Same.ok (a_0 : (List api_Instr)) (b_1 : (List api_Instr)) (v_a_0 : Value) (v_b_1 : Value) (r : Bool) (H : capstanref05_Same.f a_0 b_1 = some r) (w : World) (hV : Hp) (sV : Sub hV (hp w)) (h0 : slR k_api_Instr hV v_a_0 a_0) (h1 : slR k_api_Instr hV v_b_1 b_1) :
    Trip Tryd.prog 15 [v_a_0, v_b_1].toArray em hV w (fun v => HO.pure (v = .bool r)) := by
  have see : Sees w em hV := ⟨sV, Dj.em_right _⟩
  refine Trip.of (P := Tryd.prog) (n := ⟨26, []⟩) Tryd.func15 rfl ⟨rfl, rfl⟩ rfl (St.begin (All.cons (x := slP k_api_Instr v_a_0 a_0) h0 (All.cons (x := slP k_api_Instr v_b_1 b_1) h1 (All.nil _)))) ?_
  obtain ⟨n0, hi⟩ := runF_iff.1 H
  obtain ⟨m0, o, hm0, ho, hr⟩ := iter_some hi
  clear hi
  refine CP.seq ?_
  refine CP.region ?_
  refine SP.val (Val.assign rfl) rfl rfl rfl ?_
  refine SP.nil ?_
  refine QE.then ?_
  refine CP.seq ?_
  refine CP.seq ?_
  refine CP.region ?_
  refine SP.val (Val.move rfl) rfl rfl rfl ?_
  refine SP.val (Val.lenP see 0 rfl Tryd.underlying22 rfl) rfl rfl rfl ?_
  refine SP.val (Val.move rfl) rfl rfl rfl ?_
  refine SP.val (Val.lenP see 1 rfl Tryd.underlying22 rfl) rfl rfl rfl ?_
  refine SP.val (Val.neq rfl rfl) rfl rfl rfl ?_
  refine SP.nil ?_
  refine QE.then ?_
  rcases if_some ho with ⟨hc, ho⟩ | ⟨hc, ho⟩
  · refine CP.condT rfl (decide_eq_true hc) ?_
    refine CP.seq ?_
    refine CP.region ?_
    refine SP.val (Val.assign rfl) rfl rfl rfl ?_
    refine SP.nil ?_
    refine QE.then ?_
    refine CP.ret ?_
    refine QE.thru (by intro e; cases e) ?_
    obtain rfl := Option.some.inj ho
    obtain rfl := Option.some.inj hr
    exact QE.rets (rs := [.tmp 4]) (vs := [.bool false]) Tryd.results15 rfl ⟨RVs.tmp rfl, trivial⟩ (fun w2 h => St.done (fun a b p s => rfl) h)
  · refine CP.condF rfl (decide_eq_false hc) ?_
    refine CP.skip ?_
    refine QE.then ?_
    refine CP.seq ?_
    refine CP.seq ?_
    refine CP.region ?_
    refine SP.val (Val.assign rfl) rfl rfl rfl ?_
    refine SP.nil ?_
    refine QE.then ?_
    refine CP.block ?_
    obtain rfl := Option.some.inj ho
    refine CP.loop (fun cl1 a w2 => ∃ x12 : Int, cl1 ≤ m0 ∧ iter (capstanref05_Same.F a_0 b_1) cl1 (.l1 x12) = some r ∧ Env ⟨26, []⟩ [(0, v_a_0), (1, v_b_1), (5, .int .i64 x12)] a ∧ St w em hV [slP k_api_Instr v_a_0 a_0, slP k_api_Instr v_b_1 b_1] [] w2) m0 (fun a w2 ha hw => ⟨0, Nat.le_refl _, hr, ha.sub ⟨rfl, rfl, rfl, trivial⟩, hw⟩) ?_
    clear hr
    rintro cl1 a w2 ⟨x12, hc_l1, hi, ha, hw⟩
    obtain ⟨m13, o, hm_m13, ho, hr⟩ := iter_some hi
    refine CP.app ha hw ?_
    clear ha hw a w2 hi
    refine CP.seq ?_
    refine CP.seq ?_
    refine CP.region ?_
    refine SP.val (Val.move rfl) rfl rfl rfl ?_
    refine SP.val (Val.move rfl) rfl rfl rfl ?_
    refine SP.val (Val.lenP see 0 rfl Tryd.underlying22 rfl) rfl rfl rfl ?_
    refine SP.val (Val.lss rfl rfl) rfl rfl rfl ?_
    refine SP.nil ?_
    refine QE.then ?_
    rcases if_some ho with ⟨hc, ho⟩ | ⟨hc, ho⟩
    · refine CP.condT rfl (decide_eq_true hc) ?_
      refine CP.skip ?_
      refine QE.then ?_
      refine CP.seq ?_
      refine CP.block ?_
      refine CP.seq ?_
      refine CP.drawA (by kernel_rfl) (fun w2 k h => h.drawn k) ?_
      obtain ⟨x16, hx, ho⟩ := bind_some ho
      have hx := elt_some hx
      refine DA.ghost (fun w2 h => h.elem see 0 rfl hx.1 hx.2) (fun p14 h_p14 => ?_)
      clear hx
      refine DA.ghost (fun w2 h => h.openE see 0 rfl (fun _ : Unit => [.int .u8 x16.Op, .int .i64 x16.A, .int .i64 x16.B]) (fun _ => []) (fun h cs e => ⟨(), e, All.nil _⟩)) (fun _ _ => ?_)
      obtain ⟨x20, hx, ho⟩ := bind_some ho
      have hx := elt_some hx
      refine DA.ghost (fun w2 h => h.elem see 3 rfl hx.1 hx.2) (fun p18 h_p18 => ?_)
      clear hx
      refine DA.ghost (fun w2 h => h.openE see 0 rfl (fun _ : Unit => [.int .u8 x20.Op, .int .i64 x20.A, .int .i64 x20.B]) (fun _ => []) (fun h cs e => ⟨(), e, All.nil _⟩)) (fun _ _ => ?_)
      refine DA.phase (fun i => Nat.ble 0 i && Nat.blt i 8) (fun w2 => St w em hV [atP p18 [.int .u8 x20.Op, .int .i64 x20.A, .int .i64 x20.B], elP k_api_Instr p18 x20, atP p14 [.int .u8 x16.Op, .int .i64 x16.A, .int .i64 x16.B], elP k_api_Instr p14 x16, slP k_api_Instr v_a_0 a_0, slP k_api_Instr v_b_1 b_1] [] w2) ?_
      refine DT.take 0 rfl rfl rfl rfl (by kernel_rfl) (fun _ _ _ h => h) (Val.move rfl) (fun w2 hw => hw) ?_
      refine DT.take 1 rfl rfl rfl rfl (by kernel_rfl) (fun _ _ _ h => h) (Val.move rfl) (fun w2 hw => hw) ?_
      refine DT.take 2 rfl rfl rfl rfl (by kernel_rfl) (fun _ _ _ h => h) (Val.indexE h_p14 Tryd.underlying22 sz52 rfl rfl) (fun w2 hw => hw) ?_
      refine DT.take 3 rfl rfl rfl rfl (by kernel_rfl) (fun _ _ _ h => h) (Val.loadAtA see 2 rfl Tryd.underlying52 rfl sz52 rfl) (fun w2 hw => hw) ?_
      refine DT.take 4 rfl rfl rfl rfl (by kernel_rfl) (fun _ _ _ h => h) (Val.move rfl) (fun w2 hw => hw) ?_
      refine DT.take 5 rfl rfl rfl rfl (by kernel_rfl) (fun _ _ _ h => h) (Val.move rfl) (fun w2 hw => hw) ?_
      refine DT.take 6 rfl rfl rfl rfl (by kernel_rfl) (fun _ _ _ h => h) (Val.indexE h_p18 Tryd.underlying22 sz52 rfl rfl) (fun w2 hw => hw) ?_
      refine DT.take 7 rfl rfl rfl rfl (by kernel_rfl) (fun _ _ _ h => h) (Val.loadAtA see 0 rfl Tryd.underlying52 rfl sz52 rfl) (fun w2 hw => hw) ?_
      refine DT.next (by kernel_rfl) ?_
      refine DA.one 8 rfl (by kernel_rfl) ?_
      refine SP.val (Val.neqA (by kernel_rfl) (fun w2 => eqA52 9998 w2 x16.Op x20.Op x16.A x20.A x16.B x20.B) rfl rfl) rfl rfl rfl ?_
      refine SP.nil ?_
      refine QE.atA ?_
      refine DA.done (by kernel_rfl) ?_
      refine QE.then ?_
      rcases if_some ho with ⟨hc, ho⟩ | ⟨hc, ho⟩
      · refine CP.condT rfl hc ?_
        refine CP.seq ?_
        refine CP.region ?_
        refine SP.val (Val.assign rfl) rfl rfl rfl ?_
        refine SP.nil ?_
        refine QE.then ?_
        refine CP.ret ?_
        refine QE.blockR ?_
        refine QE.thru (by intro e; cases e) ?_
        refine QE.thru (by intro e; cases e) ?_
        refine QE.blockR ?_
        refine QE.thru (by intro e; cases e) ?_
        obtain rfl := Option.some.inj ho
        obtain rfl := Option.some.inj hr
        exact QE.rets (rs := [.tmp 4]) (vs := [.bool false]) Tryd.results15 rfl ⟨RVs.tmp rfl, trivial⟩ (fun w2 h => St.done (fun a b p s => rfl) h)
      · refine CP.condF rfl (bf hc) ?_
        refine CP.skip ?_
        refine QE.blockN ?_
        refine QE.then ?_
        refine CP.region ?_
        refine SP.val (Val.move rfl) rfl rfl rfl ?_
        refine SP.val (Val.add rfl rfl) rfl rfl rfl ?_
        refine SP.val (Val.assign rfl) rfl rfl rfl ?_
        refine SP.nil ?_
        obtain rfl := Option.some.inj ho
        exact QE.lower m13 (by omega) fun a w2 ha hw => ⟨(IntKind.i64.wrap (x12 + 1)), (by omega), hr, ha.sub ⟨rfl, rfl, rfl, trivial⟩, (St.selP [4, 5] rfl hw)⟩
    · refine CP.condF rfl (decide_eq_false hc) ?_
      refine CP.exit ?_
      refine QE.thru (by intro e; cases e) ?_
      refine QE.thru (by intro e; cases e) ?_
      refine QE.blockE ?_
      refine QE.then ?_
      refine CP.seq ?_
      refine CP.region ?_
      refine SP.val (Val.assign rfl) rfl rfl rfl ?_
      refine SP.nil ?_
      refine QE.then ?_
      refine CP.ret ?_
      obtain rfl := Option.some.inj ho
      obtain rfl := Option.some.inj hr
      exact QE.rets (rs := [.tmp 4]) (vs := [.bool true]) Tryd.results15 rfl ⟨RVs.tmp rfl, trivial⟩ (fun w2 h => St.done (fun a b p s => rfl) h)
/-! ### capstan/capstanlaw09.FlowTells: function 3 -/
inductive capstanlaw09_FlowTells.S where
  | start
  | l1 (t2 : (List api_Instr)) (t5 : (List capstanref09_Loop) × Int) (t8 : (List Int) × Int) (t14 : (List Int) × Int) (l334 : List flow_Loop) (x336 : Int)
  | l2 (t2 : (List api_Instr)) (t5 : (List capstanref09_Loop) × Int) (t8 : (List Int) × Int) (l503 : List Int) (x505 : Int)
  | l3 (t2 : (List api_Instr)) (t5 : (List capstanref09_Loop) × Int) (t8 : (List Int) × Int) (t512 : (List Int) × Int) (l580 : List flow_Loop) (x582 : Int)
  | l4 (t2 : (List api_Instr)) (t5 : (List capstanref09_Loop) × Int) (t8 : (List Int) × Int) (l623 : List Int) (x625 : Int)

def capstanlaw09_FlowTells.j1 (l_0 : (List api_Instr)) (t2 : (List api_Instr)) (t5 : (List capstanref09_Loop) × Int) (t8 : (List Int) × Int) (t14 : (List Int) × Int) (l334 : List flow_Loop) (x336 : Int) (b369 : Bool) : Option (capstanlaw09_FlowTells.S ⊕ Bool) :=
  if b369 = true then (some (.inr false)) else ((elt l334 x336).bind fun x372 => some (.inl (.l1 t2 t5 t8 t14 (l334.set x336.toNat (⟨(-5), x372.To, x372.Turns⟩ : flow_Loop)) (IntKind.i64.wrap (x336 + 1)))))

def capstanlaw09_FlowTells.j2 (l_0 : (List api_Instr)) (t2 : (List api_Instr)) (t5 : (List capstanref09_Loop) × Int) (t8 : (List Int) × Int) (t512 : (List Int) × Int) (l580 : List flow_Loop) (x582 : Int) (b615 : Bool) : Option (capstanlaw09_FlowTells.S ⊕ Bool) :=
  if b615 = true then (some (.inr false)) else ((elt l580 x582).bind fun x618 => some (.inl (.l3 t2 t5 t8 t512 (l580.set x582.toNat (⟨(-5), x618.To, x618.Turns⟩ : flow_Loop)) (IntKind.i64.wrap (x582 + 1)))))

def capstanlaw09_FlowTells.F (l_0 : (List api_Instr)) : capstanlaw09_FlowTells.S → Option (capstanlaw09_FlowTells.S ⊕ Bool)
  | .start => if (l_0.length : Int) > 300 then (some (.inr true)) else ((capstanref05_Copy.f l_0).bind fun t2 => (capstanref09_Loops.f l_0).bind fun t5 => (capstanref09_Times.f l_0).bind fun t8 => (flow_Loops.f t2).bind fun t11 => (flow_Times.f t2).bind fun t14 => (if ((decide (t11.2 ≠ t5.2)) || (decide (t14.2 ≠ t5.2))) = true then (some true) else ((flow_Check.f t2).bind fun t21 => some (decide (t21 ≠ t5.2)))).bind fun t22 => (if (t22 || (decide ((t11.1.length : Int) ≠ (t5.1.length : Int)))) = true then (some true) else ((capstanref09_SameInts.f t14.1 t8.1).bind fun t27 => some (!t27))).bind fun t28 => (if t28 = true then (some true) else ((capstanref05_Same.f t2 l_0).bind fun t31 => some (!t31))).bind fun t32 => if t32 = true then (some (.inr false)) else (some (.inl (.l1 t2 t5 t8 t14 t11.1 0))))
  | .l1 t2 t5 t8 t14 l334 x336 => if x336 < (l334.length : Int) then ((elt l334 x336).bind fun x339 => (elt t5.1 x336).bind fun x343 => if x339.From ≠ x343.From then (capstanlaw09_FlowTells.j1 l_0 t2 t5 t8 t14 l334 x336 true) else ((elt l334 x336).bind fun x350 => (elt t5.1 x336).bind fun x354 => if x350.To ≠ x354.To then (capstanlaw09_FlowTells.j1 l_0 t2 t5 t8 t14 l334 x336 true) else ((elt l334 x336).bind fun x361 => (elt t5.1 x336).bind fun x365 => capstanlaw09_FlowTells.j1 l_0 t2 t5 t8 t14 l334 x336 (decide (x361.Turns ≠ x365.Turns))))) else (some (.inl (.l2 t2 t5 t8 t14.1 0)))
  | .l2 t2 t5 t8 l503 x505 => if x505 < (l503.length : Int) then ((elt l503 x505).bind fun x508 => some (.inl (.l2 t2 t5 t8 (l503.set x505.toNat (-5)) (IntKind.i64.wrap (x505 + 1))))) else ((flow_Loops.f t2).bind fun t509 => (flow_Times.f t2).bind fun t512 => (if ((decide (t509.2 ≠ t5.2)) || (decide (t512.2 ≠ t5.2))) = true then (some true) else ((flow_Check.f t2).bind fun t519 => some (decide (t519 ≠ t5.2)))).bind fun t520 => (if (t520 || (decide ((t509.1.length : Int) ≠ (t5.1.length : Int)))) = true then (some true) else ((capstanref09_SameInts.f t512.1 t8.1).bind fun t525 => some (!t525))).bind fun t526 => (if t526 = true then (some true) else ((capstanref05_Same.f t2 l_0).bind fun t529 => some (!t529))).bind fun t530 => if t530 = true then (some (.inr false)) else (some (.inl (.l3 t2 t5 t8 t512 t509.1 0))))
  | .l3 t2 t5 t8 t512 l580 x582 => if x582 < (l580.length : Int) then ((elt l580 x582).bind fun x585 => (elt t5.1 x582).bind fun x589 => if x585.From ≠ x589.From then (capstanlaw09_FlowTells.j2 l_0 t2 t5 t8 t512 l580 x582 true) else ((elt l580 x582).bind fun x596 => (elt t5.1 x582).bind fun x600 => if x596.To ≠ x600.To then (capstanlaw09_FlowTells.j2 l_0 t2 t5 t8 t512 l580 x582 true) else ((elt l580 x582).bind fun x607 => (elt t5.1 x582).bind fun x611 => capstanlaw09_FlowTells.j2 l_0 t2 t5 t8 t512 l580 x582 (decide (x607.Turns ≠ x611.Turns))))) else (some (.inl (.l4 t2 t5 t8 t512.1 0)))
  | .l4 t2 t5 t8 l623 x625 => if x625 < (l623.length : Int) then ((elt l623 x625).bind fun x628 => some (.inl (.l4 t2 t5 t8 (l623.set x625.toNat (-5)) (IntKind.i64.wrap (x625 + 1))))) else (some (.inr true))

def capstanlaw09_FlowTells.f (l_0 : (List api_Instr)) : Option Bool := runF (capstanlaw09_FlowTells.F l_0) .start
theorem capstanlaw09_FlowTells.ok (l_0 : (List api_Instr)) (v_l_0 : Value)  (r : Bool) (H : capstanlaw09_FlowTells.f l_0 = some r) (w : World) (hV : Hp) (sV : Sub hV (hp w)) (h0 : slR k_api_Instr hV v_l_0 l_0) (h1 : (arrP k_arr88 0 tab0).p hV) :
    Trip Tryd.prog 3 [v_l_0].toArray em hV w (fun v => HO.pure (v = .bool r)) := by
  have see : Sees w em hV := ⟨sV, Dj.em_right _⟩
  refine Trip.of (P := Tryd.prog) (n := ⟨133, []⟩) Tryd.func3 rfl ⟨rfl, rfl⟩ rfl (St.begin (All.cons (x := slP k_api_Instr v_l_0 l_0) h0 (All.cons (x := arrP k_arr88 0 tab0) h1 (All.nil _)))) ?_
  obtain ⟨n0, hi⟩ := runF_iff.1 H
  obtain ⟨m0, o, hm0, ho, hr⟩ := iter_some hi
  clear hi
  refine CP.seq ?_
  refine CP.region ?_
  refine SP.val (Val.assign rfl) rfl rfl rfl ?_
  refine SP.nil ?_
  refine QE.then ?_
  refine CP.seq ?_
  refine CP.seq ?_
  refine CP.region ?_
  refine SP.val (Val.move rfl) rfl rfl rfl ?_
  refine SP.val (Val.lenP see 0 rfl Tryd.underlying22 rfl) rfl rfl rfl ?_
  refine SP.val (Val.gtr rfl rfl) rfl rfl rfl ?_
  refine SP.nil ?_
  refine QE.then ?_
  rcases if_some ho with ⟨hc, ho⟩ | ⟨hc, ho⟩
  · refine CP.condT rfl (decide_eq_true hc) ?_
    refine CP.seq ?_
    refine CP.region ?_
    refine SP.val (Val.assign rfl) rfl rfl rfl ?_
    refine SP.nil ?_
    refine QE.then ?_
    refine CP.ret ?_
    refine QE.thru (by intro e; cases e) ?_
    obtain rfl := Option.some.inj ho
    obtain rfl := Option.some.inj hr
    exact QE.rets (rs := [.tmp 2]) (vs := [.bool true]) Tryd.results3 rfl ⟨RVs.tmp rfl, trivial⟩ (fun w2 h => St.done (fun a b p s => rfl) h)
  · refine CP.condF rfl (decide_eq_false hc) ?_
    refine CP.skip ?_
    refine QE.then ?_
    refine CP.seq ?_
    refine CP.region ?_
    refine SP.val (Val.move rfl) rfl rfl rfl ?_
    obtain ⟨t2, hc, ho⟩ := bind_some (x := capstanref05_Copy.f l_0) ho
    refine SP.callK see (caps := []) _ fn8 rfl rfl rfl rfl (fun w2 hP hs sub ap => capstanref05_Copy.ok l_0 _ _ hc w2 hP sub (ap.get 0 rfl)) (fun vr => ?_)
    refine SP.ex (fun w2 h => St.open h) (fun v3 => ?_)
    refine SP.have (fun w2 h => (St.pand h).1.symm) (fun er => ?_)
    subst er
    refine SP.imp (fun w2 h => St.seps (St.pand h).2) ?_
    clear hc
    refine SP.val (Val.assign rfl) rfl rfl rfl ?_
    refine SP.nil ?_
    refine QE.then ?_
    refine CP.seq ?_
    refine CP.region ?_
    refine SP.val (Val.move rfl) rfl rfl rfl ?_
    obtain ⟨t5, hc, ho⟩ := bind_some (x := capstanref09_Loops.f l_0) ho
    refine SP.callK see (caps := []) _ fn9 rfl rfl rfl rfl (fun w2 hP hs sub ap => capstanref09_Loops.ok l_0 _ _ hc w2 hP sub (ap.get 0 rfl)) (fun vr => ?_)
    refine SP.ex (fun w2 h => St.open h) (fun v6 => ?_)
    refine SP.have (fun w2 h => (St.pand h).1.symm) (fun er => ?_)
    subst er
    refine SP.imp (fun w2 h => St.seps (St.pand h).2) ?_
    refine SP.imp (fun w2 h => St.toP 0 rfl h) ?_
    clear hc
    refine SP.val (Val.move rfl) rfl rfl rfl ?_
    refine SP.val (Val.extract rfl rfl) rfl rfl rfl ?_
    refine SP.val (Val.extract rfl rfl) rfl rfl rfl ?_
    refine SP.val (Val.assign rfl) rfl rfl rfl ?_
    refine SP.val (Val.assign rfl) rfl rfl rfl ?_
    refine SP.nil ?_
    refine QE.then ?_
    refine CP.seq ?_
    refine CP.region ?_
    refine SP.val (Val.move rfl) rfl rfl rfl ?_
    obtain ⟨t8, hc, ho⟩ := bind_some (x := capstanref09_Times.f l_0) ho
    refine SP.callK see (caps := []) _ fn10 rfl rfl rfl rfl (fun w2 hP hs sub ap => capstanref09_Times.ok l_0 _ _ hc w2 hP sub (ap.get 1 rfl)) (fun vr => ?_)
    refine SP.ex (fun w2 h => St.open h) (fun v9 => ?_)
    refine SP.have (fun w2 h => (St.pand h).1.symm) (fun er => ?_)
    subst er
    refine SP.imp (fun w2 h => St.seps (St.pand h).2) ?_
    clear hc
    refine SP.val (Val.move rfl) rfl rfl rfl ?_
    refine SP.val (Val.extract rfl rfl) rfl rfl rfl ?_
    refine SP.val (Val.extract rfl rfl) rfl rfl rfl ?_
    refine SP.val (Val.assign rfl) rfl rfl rfl ?_
    refine SP.val (Val.assign rfl) rfl rfl rfl ?_
    refine SP.nil ?_
    refine QE.then ?_
    refine CP.seq ?_
    refine CP.seq ?_
    refine CP.region ?_
    refine SP.val (Val.assign rfl) rfl rfl rfl ?_
    refine SP.nil ?_
    refine QE.then ?_
    refine CP.block ?_
    refine CP.rounds 22 ?_
    refine LP.step ?_
    refine CP.seq ?_
    refine CP.seq ?_
    refine CP.region ?_
    refine SP.val (Val.move rfl) rfl rfl rfl ?_
    refine SP.val (Val.cast (v := .bool true) (Val.lss rfl rfl) rfl) rfl rfl rfl ?_
    refine SP.nil ?_
    refine QE.then ?_
    refine CP.condT rfl rfl ?_
    refine CP.skip ?_
    refine QE.then ?_
    refine CP.seq ?_
    refine CP.block ?_
    refine CP.seq ?_
    refine CP.region ?_
    refine SP.val (Val.move rfl) rfl rfl rfl ?_
    obtain ⟨t11, hc, ho⟩ := bind_some (x := flow_Loops.f t2) ho
    refine SP.callKO see (caps := []) _ fn11 rfl rfl rfl rfl (fun w2 hs => flow_Loops.ok t2 _ _ hc w2 (hp w2) (Sub.refl _) (slO.read (St.own 1 rfl see.sub see.dj hs) (Sub.refl _) (Sub.refl _)) ((St.pers 2 rfl see.sub see.dj hs))) (fun v a a2 b ⟨v12, e, h⟩ => ⟨v12, e, (Sep.fcons (fun _ => slO.flip (fun _ _ _ _ h => h)) (fun _ => Sep.fnil)) h⟩) (fun vr => ?_)
    refine SP.ex (fun w2 h => St.open h) (fun v12 => ?_)
    refine SP.have (fun w2 h => (St.pand h).1.symm) (fun er => ?_)
    subst er
    refine SP.imp (fun w2 h => St.seps (St.pand h).2) ?_
    clear hc
    refine SP.val (Val.move rfl) rfl rfl rfl ?_
    refine SP.val (Val.extract rfl rfl) rfl rfl rfl ?_
    refine SP.val (Val.extract rfl rfl) rfl rfl rfl ?_
    refine SP.val (Val.assign rfl) rfl rfl rfl ?_
    refine SP.val (Val.assign rfl) rfl rfl rfl ?_
    refine SP.nil ?_
    refine QE.then ?_
    refine CP.seq ?_
    refine CP.region ?_
    refine SP.val (Val.move rfl) rfl rfl rfl ?_
    obtain ⟨t14, hc, ho⟩ := bind_some (x := flow_Times.f t2) ho
    refine SP.callKO see (caps := []) _ fn12 rfl rfl rfl rfl (fun w2 hs => flow_Times.ok t2 _ _ hc w2 (hp w2) (Sub.refl _) (slO.read (St.own 2 rfl see.sub see.dj hs) (Sub.refl _) (Sub.refl _)) ((St.pers 2 rfl see.sub see.dj hs))) (fun v a a2 b ⟨v15, e, h⟩ => ⟨v15, e, (Sep.fcons (fun _ => slO.flip (fun _ _ _ _ h => h)) (fun _ => Sep.fnil)) h⟩) (fun vr => ?_)
    refine SP.ex (fun w2 h => St.open h) (fun v15 => ?_)
    refine SP.have (fun w2 h => (St.pand h).1.symm) (fun er => ?_)
    subst er
    refine SP.imp (fun w2 h => St.seps (St.pand h).2) ?_
    clear hc
    refine SP.val (Val.move rfl) rfl rfl rfl ?_
    refine SP.val (Val.extract rfl rfl) rfl rfl rfl ?_
    refine SP.val (Val.extract rfl rfl) rfl rfl rfl ?_
    refine SP.val (Val.assign rfl) rfl rfl rfl ?_
    refine SP.val (Val.assign rfl) rfl rfl rfl ?_
    refine SP.nil ?_
    refine QE.then ?_
    refine CP.seq ?_
    refine CP.seq ?_
    refine CP.region ?_
    refine SP.val (Val.move rfl) rfl rfl rfl ?_
    refine SP.val (Val.move rfl) rfl rfl rfl ?_
    refine SP.val (Val.neq rfl rfl) rfl rfl rfl ?_
    refine SP.val (Val.move rfl) rfl rfl rfl ?_
    refine SP.join 4 (fun a w2 => Env ⟨133, []⟩ [(0, v_l_0), (3, v3), (4, v6), (5, .int .i64 t5.2), (6, v9), (8, .int .i64 0), (9, v12), (11, v15), (51, .bool ((decide (t11.2 ≠ t5.2)) || (decide (t14.2 ≠ t5.2))))] a ∧ St w em hV [slP k_capstanref09_Loop v6 t5.1, slP k_api_Instr v_l_0 l_0, arrP k_arr88 0 tab0] [slO (kInt .i64) 3 v15 t14.1, slO k_flow_Loop 40 v12 t11.1, slO (kInt .i64) 3 v9 t8.1, slO k_api_Instr 52 v3 t2] w2) ?_ ?_
    · rintro a w2 ⟨ha, hw⟩
      refine SP.app ha hw ?_
      clear ha hw a w2
      refine SP.val (Val.move rfl) rfl rfl rfl ?_
      obtain ⟨t22, hg_t22, ho⟩ := bind_some ho
      refine SP.join 5 (fun a w2 => Env ⟨133, []⟩ [(0, v_l_0), (3, v3), (4, v6), (5, .int .i64 t5.2), (6, v9), (8, .int .i64 0), (9, v12), (11, v15), (57, .bool t22)] a ∧ St w em hV [slP k_capstanref09_Loop v6 t5.1, slP k_api_Instr v_l_0 l_0, arrP k_arr88 0 tab0] [slO (kInt .i64) 3 v15 t14.1, slO k_flow_Loop 40 v12 t11.1, slO (kInt .i64) 3 v9 t8.1, slO k_api_Instr 52 v3 t2] w2) ?_ ?_
      · rintro a w2 ⟨ha, hw⟩
        refine SP.app ha hw ?_
        clear ha hw a w2 hg_t22
        refine SP.val (Val.move rfl) rfl rfl rfl ?_
        refine SP.join 6 (fun a w2 => Env ⟨133, []⟩ [(0, v_l_0), (3, v3), (4, v6), (5, .int .i64 t5.2), (6, v9), (8, .int .i64 0), (9, v12), (11, v15), (64, .bool (t22 || (decide ((t11.1.length : Int) ≠ (t5.1.length : Int)))))] a ∧ St w em hV [slP k_capstanref09_Loop v6 t5.1, slP k_api_Instr v_l_0 l_0, arrP k_arr88 0 tab0] [slO (kInt .i64) 3 v15 t14.1, slO k_flow_Loop 40 v12 t11.1, slO (kInt .i64) 3 v9 t8.1, slO k_api_Instr 52 v3 t2] w2) ?_ ?_
        · rintro a w2 ⟨ha, hw⟩
          refine SP.app ha hw ?_
          clear ha hw a w2
          refine SP.val (Val.move rfl) rfl rfl rfl ?_
          obtain ⟨t28, hg_t28, ho⟩ := bind_some ho
          refine SP.join 5 (fun a w2 => Env ⟨133, []⟩ [(0, v_l_0), (3, v3), (4, v6), (5, .int .i64 t5.2), (6, v9), (8, .int .i64 0), (9, v12), (11, v15), (70, .bool t28)] a ∧ St w em hV [slP k_capstanref09_Loop v6 t5.1, slP k_api_Instr v_l_0 l_0, arrP k_arr88 0 tab0] [slO (kInt .i64) 3 v15 t14.1, slO k_flow_Loop 40 v12 t11.1, slO (kInt .i64) 3 v9 t8.1, slO k_api_Instr 52 v3 t2] w2) ?_ ?_
          · rintro a w2 ⟨ha, hw⟩
            refine SP.app ha hw ?_
            clear ha hw a w2 hg_t28
            refine SP.val (Val.move rfl) rfl rfl rfl ?_
            obtain ⟨t32, hg_t32, ho⟩ := bind_some ho
            refine SP.join 5 (fun a w2 => Env ⟨133, []⟩ [(0, v_l_0), (3, v3), (4, v6), (5, .int .i64 t5.2), (6, v9), (8, .int .i64 0), (9, v12), (11, v15), (76, .bool t32)] a ∧ St w em hV [slP k_capstanref09_Loop v6 t5.1, slP k_api_Instr v_l_0 l_0, arrP k_arr88 0 tab0] [slO (kInt .i64) 3 v15 t14.1, slO k_flow_Loop 40 v12 t11.1, slO (kInt .i64) 3 v9 t8.1, slO k_api_Instr 52 v3 t2] w2) ?_ ?_
            · rintro a w2 ⟨ha, hw⟩
              refine SP.app ha hw ?_
              clear ha hw a w2 hg_t32
              refine SP.nil ?_
              refine QE.then ?_
              rcases if_some ho with ⟨hc, ho⟩ | ⟨hc, ho⟩
              · refine CP.condT rfl hc ?_
                refine CP.seq ?_
                refine CP.region ?_
                refine SP.val (Val.assign rfl) rfl rfl rfl ?_
                refine SP.nil ?_
                refine QE.then ?_
                refine CP.ret ?_
                refine QE.thru (by intro e; cases e) ?_
                refine QE.blockR ?_
                refine QE.thru (by intro e; cases e) ?_
                refine QE.thru (by intro e; cases e) ?_
                refine QE.blockR ?_
                refine QE.thru (by intro e; cases e) ?_
                obtain rfl := Option.some.inj ho
                obtain rfl := Option.some.inj hr
                exact QE.rets (rs := [.tmp 2]) (vs := [.bool false]) Tryd.results3 rfl ⟨RVs.tmp rfl, trivial⟩ (fun w2 h => St.done (fun a b p s => rfl) h)
              · refine CP.condF rfl (bf hc) ?_
                refine CP.skip ?_
                refine QE.then ?_
                refine CP.seq ?_
                refine CP.seq ?_
                refine CP.region ?_
                refine SP.val (Val.assign rfl) rfl rfl rfl ?_
                refine SP.nil ?_
                refine QE.then ?_
                refine CP.block ?_
                obtain rfl := Option.some.inj ho
                refine CP.loop (fun cl1 a w2 => ∃ l334 : List flow_Loop, ∃ x336 : Int, ∃ v335 : Value, cl1 ≤ m0 ∧ iter (capstanlaw09_FlowTells.F l_0) cl1 (.l1 t2 t5 t8 t14 l334 x336) = some r ∧ Env ⟨133, []⟩ [(0, v_l_0), (3, v3), (4, v6), (5, .int .i64 t5.2), (6, v9), (8, .int .i64 0), (9, v335), (11, v15), (13, .int .i64 x336)] a ∧ St w em hV [slP k_capstanref09_Loop v6 t5.1, slP k_api_Instr v_l_0 l_0, arrP k_arr88 0 tab0] [slO (kInt .i64) 3 v15 t14.1, slO k_flow_Loop 40 v335 l334, slO (kInt .i64) 3 v9 t8.1, slO k_api_Instr 52 v3 t2] w2) m0 (fun a w2 ha hw => ⟨t11.1, 0, v12, Nat.le_refl _, hr, ha.sub ⟨rfl, rfl, rfl, rfl, rfl, rfl, rfl, rfl, rfl, trivial⟩, hw⟩) ?_
                clear hr
                rintro cl1 a w2 ⟨l334, x336, v335, hc_l1, hi, ha, hw⟩
                obtain ⟨m337, o, hm_m337, ho, hr⟩ := iter_some hi
                refine CP.app ha hw ?_
                clear ha hw a w2 hi
                refine CP.seq ?_
                refine CP.seq ?_
                refine CP.region ?_
                refine SP.val (Val.move rfl) rfl rfl rfl ?_
                refine SP.val (Val.move rfl) rfl rfl rfl ?_
                refine SP.val (Val.lenW (fun w2 hw => slO.whole (St.own 1 rfl see.sub see.dj hw)) Tryd.underlying30 rfl) rfl rfl rfl ?_
                refine SP.val (Val.lss rfl rfl) rfl rfl rfl ?_
                refine SP.nil ?_
                refine QE.then ?_
                rcases if_some ho with ⟨hc, ho⟩ | ⟨hc, ho⟩
                · refine CP.condT rfl (decide_eq_true hc) ?_
                  refine CP.skip ?_
                  refine QE.then ?_
                  refine CP.seq ?_
                  refine CP.block ?_
                  refine CP.seq ?_
                  refine CP.join (fun a w2 => ∃ b369 : Bool, ∃ (m370 : Nat) (o : (capstanlaw09_FlowTells.S ⊕ Bool)), m370 ≤ m337 ∧ capstanlaw09_FlowTells.j1 l_0 t2 t5 t8 t14 l334 x336 b369 = some o ∧ next (capstanlaw09_FlowTells.F l_0) m370 o = some r ∧ Env ⟨133, []⟩ [(0, v_l_0), (3, v3), (4, v6), (5, .int .i64 t5.2), (6, v9), (8, .int .i64 0), (9, v335), (11, v15), (13, .int .i64 x336), (119, .bool b369)] a ∧ St w em hV [slP k_capstanref09_Loop v6 t5.1, slP k_api_Instr v_l_0 l_0, arrP k_arr88 0 tab0] [slO (kInt .i64) 3 v15 t14.1, slO k_flow_Loop 40 v335 l334, slO (kInt .i64) 3 v9 t8.1, slO k_api_Instr 52 v3 t2] w2) ?_ ?_
                  · rintro a w2 ⟨b369, m370, o, hm_m370, ho, hr, ha, hw⟩
                    refine CP.app ha hw ?_
                    clear ha hw a w2
                    rcases if_some ho with ⟨hc, ho⟩ | ⟨hc, ho⟩
                    · refine CP.condT rfl hc ?_
                      refine CP.seq ?_
                      refine CP.region ?_
                      refine SP.val (Val.assign rfl) rfl rfl rfl ?_
                      refine SP.nil ?_
                      refine QE.then ?_
                      refine CP.ret ?_
                      refine QE.thru (by intro e; cases e) ?_
                      refine QE.blockR ?_
                      refine QE.thru (by intro e; cases e) ?_
                      refine QE.thru (by intro e; cases e) ?_
                      refine QE.blockR ?_
                      refine QE.thru (by intro e; cases e) ?_
                      refine QE.blockR ?_
                      refine QE.thru (by intro e; cases e) ?_
                      refine QE.thru (by intro e; cases e) ?_
                      refine QE.blockR ?_
                      refine QE.thru (by intro e; cases e) ?_
                      obtain rfl := Option.some.inj ho
                      obtain rfl := Option.some.inj hr
                      exact QE.rets (rs := [.tmp 2]) (vs := [.bool false]) Tryd.results3 rfl ⟨RVs.tmp rfl, trivial⟩ (fun w2 h => St.done (fun a b p s => rfl) h)
                    · refine CP.condF rfl (bf hc) ?_
                      refine CP.skip ?_
                      refine QE.then ?_
                      refine CP.region ?_
                      refine SP.val (Val.move rfl) rfl rfl rfl ?_
                      refine SP.val (Val.move rfl) rfl rfl rfl ?_
                      obtain ⟨x372, hx_x372, ho⟩ := bind_some ho
                      have hx_x372 := elt_some hx_x372
                      refine SP.indexW (fun w2 hw => slO.whole (St.own 1 rfl see.sub see.dj hw)) Tryd.underlying30 sz40 hx_x372.1 hx_x372.2 rfl rfl rfl rfl (fun p371 h_p371 => ?_)
                      refine SP.fieldO h_p371 Tryd.underlying40 rfl sz3 rfl rfl rfl (fun p373 h_p373 => ?_)
                      refine SP.storeO (z0 := (⟨(-5), x372.To, x372.Turns⟩ : flow_Loop)) (off := 0) (vs := [.int .i64 (-5)]) see 1 rfl hx_x372.2 h_p373 rfl rfl sz3 rfl (fun a cs _ e => by subst e; rfl) rfl rfl rfl ?_
                      refine SP.nil ?_
                      refine QE.blockN ?_
                      refine QE.then ?_
                      refine CP.region ?_
                      refine SP.val (Val.move rfl) rfl rfl rfl ?_
                      refine SP.val (Val.add rfl rfl) rfl rfl rfl ?_
                      refine SP.val (Val.assign rfl) rfl rfl rfl ?_
                      refine SP.nil ?_
                      obtain rfl := Option.some.inj ho
                      exact QE.lower m370 (by omega) fun a w2 ha hw => ⟨(l334.set x336.toNat (⟨(-5), x372.To, x372.Turns⟩ : flow_Loop)), (IntKind.i64.wrap (x336 + 1)), v335, (by omega), hr, ha.sub ⟨rfl, rfl, rfl, rfl, rfl, rfl, rfl, rfl, rfl, trivial⟩, hw⟩
                  · refine CP.drawA (by kernel_rfl) (fun w2 k h => h.drawn k) ?_
                    obtain ⟨x339, hx_x339, ho⟩ := bind_some ho
                    have hx_x339 := elt_some hx_x339
                    refine DA.ghost (fun w2 hw => let ⟨z, hz⟩ := ixC ((fun w2 hw => slO.whole (St.own 1 rfl see.sub see.dj hw)) w2 hw) hx_x339.1 hx_x339.2; ⟨z, hz, hw⟩) (fun p338 i_p338 => ?_)
                    have h_p338 := i_p338.1
                    obtain ⟨p340, h_p340⟩ := PtC.more h_p338 0
                    obtain ⟨x343, hx, ho⟩ := bind_some ho
                    have hx := elt_some hx
                    refine DA.ghost (fun w2 h => h.elem see 0 rfl hx.1 hx.2) (fun p341 h_p341 => ?_)
                    clear hx
                    refine DA.ghost (fun w2 h => h.fieldE see 0 rfl k_capstanref09_Loop.part_From) (fun p344 h_p344 => ?_)
                    refine DA.ghost (fun w2 h => h.openE see 0 rfl (fun _ : Unit => [.int .i64 x343.From]) (fun _ => []) (fun h cs e => ⟨(), e, All.nil _⟩)) (fun _ _ => ?_)
                    refine DA.phase (fun i => Nat.ble 0 i && Nat.blt i 10) (fun w2 => St w em hV [atP p344 [.int .i64 x343.From], elP (kInt .i64) p344 x343.From, elP k_capstanref09_Loop p341 x343, slP k_capstanref09_Loop v6 t5.1, slP k_api_Instr v_l_0 l_0, arrP k_arr88 0 tab0] [slO (kInt .i64) 3 v15 t14.1, slO k_flow_Loop 40 v335 l334, slO (kInt .i64) 3 v9 t8.1, slO k_api_Instr 52 v3 t2] w2) ?_
                    refine DT.take 0 rfl rfl rfl rfl (by kernel_rfl) (fun _ _ _ h => h) (Val.move rfl) (fun w2 hw => hw) ?_
                    refine DT.take 1 rfl rfl rfl rfl (by kernel_rfl) (fun _ _ _ h => h) (Val.move rfl) (fun w2 hw => hw) ?_
                    refine DT.take 2 rfl rfl rfl rfl (by kernel_rfl) (fun _ _ _ h => h) (Val.indexC' i_p338 Tryd.underlying30 sz40 rfl rfl) (fun w2 hw => hw) ?_
                    refine DT.take 3 rfl rfl rfl rfl (by kernel_rfl) (fun _ _ _ h => h) (Val.fieldC h_p338 h_p340 Tryd.underlying40 rfl rfl sz3 rfl) (fun w2 hw => hw) ?_
                    refine DT.take 4 rfl rfl rfl rfl (by kernel_rfl) (fun _ _ _ h => h) (Val.loadW1 (off := 0) (k := k_flow_Loop) (fun w2 hw => slO.whole (St.own 1 rfl see.sub see.dj hw)) hx_x339.2 h_p340 (fun _ _ e => by subst e; rfl) Tryd.underlying3 rfl rfl) (fun w2 hw => hw) ?_
                    refine DT.take 5 rfl rfl rfl rfl (by kernel_rfl) (fun _ _ _ h => h) (Val.move rfl) (fun w2 hw => hw) ?_
                    refine DT.take 6 rfl rfl rfl rfl (by kernel_rfl) (fun _ _ _ h => h) (Val.move rfl) (fun w2 hw => hw) ?_
                    refine DT.take 7 rfl rfl rfl rfl (by kernel_rfl) (fun _ _ _ h => h) (Val.indexE h_p341 Tryd.underlying24 sz41 rfl rfl) (fun w2 hw => hw) ?_
                    refine DT.take 8 rfl rfl rfl rfl (by kernel_rfl) (fun _ _ _ h => h) (Val.fieldE h_p344 Tryd.underlying41 rfl rfl sz3 rfl) (fun w2 hw => hw) ?_
                    refine DT.take 9 rfl rfl rfl rfl (by kernel_rfl) (fun _ _ _ h => h) (Val.loadAt1 see 0 rfl Tryd.underlying3 rfl rfl) (fun w2 hw => hw) ?_
                    refine DT.next (by kernel_rfl) ?_
                    refine DA.one 10 rfl (by kernel_rfl) ?_
                    refine SP.val (Val.neq rfl rfl) rfl rfl rfl ?_
                    refine SP.nil ?_
                    refine QE.atA ?_
                    refine DA.one 11 rfl (by kernel_rfl) ?_
                    refine SP.val (Val.move rfl) rfl rfl rfl ?_
                    refine SP.nil ?_
                    refine QE.atA ?_
                    rcases if_some ho with ⟨hc, ho⟩ | ⟨hc, ho⟩
                    · have hg347 := (decide_eq_true hc)
                      clear hc
                      refine DA.phase (fun i => Nat.ble 12 i && Nat.blt i 22) (fun w2 => St w em hV [atP p344 [.int .i64 x343.From], elP (kInt .i64) p344 x343.From, elP k_capstanref09_Loop p341 x343, slP k_capstanref09_Loop v6 t5.1, slP k_api_Instr v_l_0 l_0, arrP k_arr88 0 tab0] [slO (kInt .i64) 3 v15 t14.1, slO k_flow_Loop 40 v335 l334, slO (kInt .i64) 3 v9 t8.1, slO k_api_Instr 52 v3 t2] w2) ?_
                      refine DT.is (d := 94) (b := true) rfl hg347 ?_
                      refine DT.not 12 rfl rfl rfl rfl (by kernel_rfl) (fun _ _ _ h => h) (fun w2 hw => hw) ?_
                      refine DT.not 13 rfl rfl rfl rfl (by kernel_rfl) (fun _ _ _ h => h) (fun w2 hw => hw) ?_
                      refine DT.not 14 rfl rfl rfl rfl (by kernel_rfl) (fun _ _ _ h => h) (fun w2 hw => hw) ?_
                      refine DT.not 15 rfl rfl rfl rfl (by kernel_rfl) (fun _ _ _ h => h) (fun w2 hw => hw) ?_
                      refine DT.not 16 rfl rfl rfl rfl (by kernel_rfl) (fun _ _ _ h => h) (fun w2 hw => hw) ?_
                      refine DT.not 17 rfl rfl rfl rfl (by kernel_rfl) (fun _ _ _ h => h) (fun w2 hw => hw) ?_
                      refine DT.not 18 rfl rfl rfl rfl (by kernel_rfl) (fun _ _ _ h => h) (fun w2 hw => hw) ?_
                      refine DT.not 19 rfl rfl rfl rfl (by kernel_rfl) (fun _ _ _ h => h) (fun w2 hw => hw) ?_
                      refine DT.not 20 rfl rfl rfl rfl (by kernel_rfl) (fun _ _ _ h => h) (fun w2 hw => hw) ?_
                      refine DT.not 21 rfl rfl rfl rfl (by kernel_rfl) (fun _ _ _ h => h) (fun w2 hw => hw) ?_
                      refine DT.next (by kernel_rfl) ?_
                      refine DA.phase (fun i => Nat.ble 22 i && Nat.blt i 23) (fun w2 => St w em hV [atP p344 [.int .i64 x343.From], elP (kInt .i64) p344 x343.From, elP k_capstanref09_Loop p341 x343, slP k_capstanref09_Loop v6 t5.1, slP k_api_Instr v_l_0 l_0, arrP k_arr88 0 tab0] [slO (kInt .i64) 3 v15 t14.1, slO k_flow_Loop 40 v335 l334, slO (kInt .i64) 3 v9 t8.1, slO k_api_Instr 52 v3 t2] w2) ?_
                      refine DT.not 22 rfl rfl rfl rfl (by kernel_rfl) (fun _ _ _ h => h) (fun w2 hw => hw) ?_
                      refine DT.next (by kernel_rfl) ?_
                      refine DA.one 23 rfl (by kernel_rfl) ?_
                      refine SP.val (Val.pickT rfl rfl) rfl rfl rfl ?_
                      refine SP.nil ?_
                      refine QE.atA ?_
                      refine DA.one 24 rfl (by kernel_rfl) ?_
                      refine SP.val (Val.move rfl) rfl rfl rfl ?_
                      refine SP.nil ?_
                      refine QE.atA ?_
                      refine DA.phase (fun i => Nat.ble 25 i && Nat.blt i 35) (fun w2 => St w em hV [atP p344 [.int .i64 x343.From], elP (kInt .i64) p344 x343.From, elP k_capstanref09_Loop p341 x343, slP k_capstanref09_Loop v6 t5.1, slP k_api_Instr v_l_0 l_0, arrP k_arr88 0 tab0] [slO (kInt .i64) 3 v15 t14.1, slO k_flow_Loop 40 v335 l334, slO (kInt .i64) 3 v9 t8.1, slO k_api_Instr 52 v3 t2] w2) ?_
                      refine DT.not 25 rfl rfl rfl rfl (by kernel_rfl) (fun _ _ _ h => h) (fun w2 hw => hw) ?_
                      refine DT.not 26 rfl rfl rfl rfl (by kernel_rfl) (fun _ _ _ h => h) (fun w2 hw => hw) ?_
                      refine DT.not 27 rfl rfl rfl rfl (by kernel_rfl) (fun _ _ _ h => h) (fun w2 hw => hw) ?_
                      refine DT.not 28 rfl rfl rfl rfl (by kernel_rfl) (fun _ _ _ h => h) (fun w2 hw => hw) ?_
                      refine DT.not 29 rfl rfl rfl rfl (by kernel_rfl) (fun _ _ _ h => h) (fun w2 hw => hw) ?_
                      refine DT.not 30 rfl rfl rfl rfl (by kernel_rfl) (fun _ _ _ h => h) (fun w2 hw => hw) ?_
                      refine DT.not 31 rfl rfl rfl rfl (by kernel_rfl) (fun _ _ _ h => h) (fun w2 hw => hw) ?_
                      refine DT.not 32 rfl rfl rfl rfl (by kernel_rfl) (fun _ _ _ h => h) (fun w2 hw => hw) ?_
                      refine DT.not 33 rfl rfl rfl rfl (by kernel_rfl) (fun _ _ _ h => h) (fun w2 hw => hw) ?_
                      refine DT.not 34 rfl rfl rfl rfl (by kernel_rfl) (fun _ _ _ h => h) (fun w2 hw => hw) ?_
                      refine DT.next (by kernel_rfl) ?_
                      refine DA.phase (fun i => Nat.ble 35 i && Nat.blt i 36) (fun w2 => St w em hV [atP p344 [.int .i64 x343.From], elP (kInt .i64) p344 x343.From, elP k_capstanref09_Loop p341 x343, slP k_capstanref09_Loop v6 t5.1, slP k_api_Instr v_l_0 l_0, arrP k_arr88 0 tab0] [slO (kInt .i64) 3 v15 t14.1, slO k_flow_Loop 40 v335 l334, slO (kInt .i64) 3 v9 t8.1, slO k_api_Instr 52 v3 t2] w2) ?_
                      refine DT.not 35 rfl rfl rfl rfl (by kernel_rfl) (fun _ _ _ h => h) (fun w2 hw => hw) ?_
                      refine DT.next (by kernel_rfl) ?_
                      refine DA.one 36 rfl (by kernel_rfl) ?_
                      refine SP.val (Val.pickT rfl rfl) rfl rfl rfl ?_
                      refine SP.nil ?_
                      refine QE.atA ?_
                      refine DA.done (by kernel_rfl) ?_
                      exact QE.meet fun a w2 ha hw => ⟨true, m337, _, (by omega), ho, hr, ha.sub ⟨rfl, rfl, rfl, rfl, rfl, rfl, rfl, rfl, rfl, rfl, trivial⟩, (St.selP [3, 4, 5] rfl hw)⟩
                    · have hg348 := (decide_eq_false hc)
                      clear hc
                      obtain ⟨x350, hx_x350, ho⟩ := bind_some ho
                      have hx_x350 := elt_some hx_x350
                      refine DA.ghost (fun w2 hw => let ⟨z, hz⟩ := ixC ((fun w2 hw => slO.whole (St.own 1 rfl see.sub see.dj hw)) w2 hw) hx_x350.1 hx_x350.2; ⟨z, hz, hw⟩) (fun p349 i_p349 => ?_)
                      have h_p349 := i_p349.1
                      obtain ⟨p351, h_p351⟩ := PtC.more h_p349 1
                      obtain ⟨x354, hx, ho⟩ := bind_some ho
                      have hx := elt_some hx
                      refine DA.ghost (fun w2 h => h.elem see 3 rfl hx.1 hx.2) (fun p352 h_p352 => ?_)
                      clear hx
                      refine DA.ghost (fun w2 h => h.fieldE see 0 rfl k_capstanref09_Loop.part_To) (fun p355 h_p355 => ?_)
                      refine DA.ghost (fun w2 h => h.openE see 0 rfl (fun _ : Unit => [.int .i64 x354.To]) (fun _ => []) (fun h cs e => ⟨(), e, All.nil _⟩)) (fun _ _ => ?_)
                      refine DA.phase (fun i => Nat.ble 12 i && Nat.blt i 22) (fun w2 => St w em hV [atP p355 [.int .i64 x354.To], elP (kInt .i64) p355 x354.To, elP k_capstanref09_Loop p352 x354, atP p344 [.int .i64 x343.From], elP (kInt .i64) p344 x343.From, elP k_capstanref09_Loop p341 x343, slP k_capstanref09_Loop v6 t5.1, slP k_api_Instr v_l_0 l_0, arrP k_arr88 0 tab0] [slO (kInt .i64) 3 v15 t14.1, slO k_flow_Loop 40 v335 l334, slO (kInt .i64) 3 v9 t8.1, slO k_api_Instr 52 v3 t2] w2) ?_
                      refine DT.is (d := 94) (b := false) rfl hg348 ?_
                      refine DT.take 12 rfl rfl rfl rfl (by kernel_rfl) (fun _ _ _ h => h) (Val.move rfl) (fun w2 hw => hw) ?_
                      refine DT.take 13 rfl rfl rfl rfl (by kernel_rfl) (fun _ _ _ h => h) (Val.move rfl) (fun w2 hw => hw) ?_
                      refine DT.take 14 rfl rfl rfl rfl (by kernel_rfl) (fun _ _ _ h => h) (Val.indexC' i_p349 Tryd.underlying30 sz40 rfl rfl) (fun w2 hw => hw) ?_
                      refine DT.take 15 rfl rfl rfl rfl (by kernel_rfl) (fun _ _ _ h => h) (Val.fieldC h_p349 h_p351 Tryd.underlying40 rfl rfl sz3 rfl) (fun w2 hw => hw) ?_
                      refine DT.take 16 rfl rfl rfl rfl (by kernel_rfl) (fun _ _ _ h => h) (Val.loadW1 (off := 1) (k := k_flow_Loop) (fun w2 hw => slO.whole (St.own 1 rfl see.sub see.dj hw)) hx_x350.2 h_p351 (fun _ _ e => by subst e; rfl) Tryd.underlying3 rfl rfl) (fun w2 hw => hw) ?_
                      refine DT.take 17 rfl rfl rfl rfl (by kernel_rfl) (fun _ _ _ h => h) (Val.move rfl) (fun w2 hw => hw) ?_
                      refine DT.take 18 rfl rfl rfl rfl (by kernel_rfl) (fun _ _ _ h => h) (Val.move rfl) (fun w2 hw => hw) ?_
                      refine DT.take 19 rfl rfl rfl rfl (by kernel_rfl) (fun _ _ _ h => h) (Val.indexE h_p352 Tryd.underlying24 sz41 rfl rfl) (fun w2 hw => hw) ?_
                      refine DT.take 20 rfl rfl rfl rfl (by kernel_rfl) (fun _ _ _ h => h) (Val.fieldE h_p355 Tryd.underlying41 rfl rfl sz3 rfl) (fun w2 hw => hw) ?_
                      refine DT.take 21 rfl rfl rfl rfl (by kernel_rfl) (fun _ _ _ h => h) (Val.loadAt1 see 0 rfl Tryd.underlying3 rfl rfl) (fun w2 hw => hw) ?_
                      refine DT.next (by kernel_rfl) ?_
                      refine DA.one 22 rfl (by kernel_rfl) ?_
                      refine SP.val (Val.neq rfl rfl) rfl rfl rfl ?_
                      refine SP.nil ?_
                      refine QE.atA ?_
                      refine DA.one 23 rfl (by kernel_rfl) ?_
                      refine SP.val (Val.pickF rfl rfl) rfl rfl rfl ?_
                      refine SP.nil ?_
                      refine QE.atA ?_
                      refine DA.one 24 rfl (by kernel_rfl) ?_
                      refine SP.val (Val.move rfl) rfl rfl rfl ?_
                      refine SP.nil ?_
                      refine QE.atA ?_
                      rcases if_some ho with ⟨hc, ho⟩ | ⟨hc, ho⟩
                      · have hg358 := (decide_eq_true hc)
                        clear hc
                        refine DA.phase (fun i => Nat.ble 25 i && Nat.blt i 35) (fun w2 => St w em hV [atP p355 [.int .i64 x354.To], elP (kInt .i64) p355 x354.To, elP k_capstanref09_Loop p352 x354, atP p344 [.int .i64 x343.From], elP (kInt .i64) p344 x343.From, elP k_capstanref09_Loop p341 x343, slP k_capstanref09_Loop v6 t5.1, slP k_api_Instr v_l_0 l_0, arrP k_arr88 0 tab0] [slO (kInt .i64) 3 v15 t14.1, slO k_flow_Loop 40 v335 l334, slO (kInt .i64) 3 v9 t8.1, slO k_api_Instr 52 v3 t2] w2) ?_
                        refine DT.is (d := 107) (b := true) rfl hg358 ?_
                        refine DT.not 25 rfl rfl rfl rfl (by kernel_rfl) (fun _ _ _ h => h) (fun w2 hw => hw) ?_
                        refine DT.not 26 rfl rfl rfl rfl (by kernel_rfl) (fun _ _ _ h => h) (fun w2 hw => hw) ?_
                        refine DT.not 27 rfl rfl rfl rfl (by kernel_rfl) (fun _ _ _ h => h) (fun w2 hw => hw) ?_
                        refine DT.not 28 rfl rfl rfl rfl (by kernel_rfl) (fun _ _ _ h => h) (fun w2 hw => hw) ?_
                        refine DT.not 29 rfl rfl rfl rfl (by kernel_rfl) (fun _ _ _ h => h) (fun w2 hw => hw) ?_
                        refine DT.not 30 rfl rfl rfl rfl (by kernel_rfl) (fun _ _ _ h => h) (fun w2 hw => hw) ?_
                        refine DT.not 31 rfl rfl rfl rfl (by kernel_rfl) (fun _ _ _ h => h) (fun w2 hw => hw) ?_
                        refine DT.not 32 rfl rfl rfl rfl (by kernel_rfl) (fun _ _ _ h => h) (fun w2 hw => hw) ?_
                        refine DT.not 33 rfl rfl rfl rfl (by kernel_rfl) (fun _ _ _ h => h) (fun w2 hw => hw) ?_
                        refine DT.not 34 rfl rfl rfl rfl (by kernel_rfl) (fun _ _ _ h => h) (fun w2 hw => hw) ?_
                        refine DT.next (by kernel_rfl) ?_
                        refine DA.phase (fun i => Nat.ble 35 i && Nat.blt i 36) (fun w2 => St w em hV [atP p355 [.int .i64 x354.To], elP (kInt .i64) p355 x354.To, elP k_capstanref09_Loop p352 x354, atP p344 [.int .i64 x343.From], elP (kInt .i64) p344 x343.From, elP k_capstanref09_Loop p341 x343, slP k_capstanref09_Loop v6 t5.1, slP k_api_Instr v_l_0 l_0, arrP k_arr88 0 tab0] [slO (kInt .i64) 3 v15 t14.1, slO k_flow_Loop 40 v335 l334, slO (kInt .i64) 3 v9 t8.1, slO k_api_Instr 52 v3 t2] w2) ?_
                        refine DT.not 35 rfl rfl rfl rfl (by kernel_rfl) (fun _ _ _ h => h) (fun w2 hw => hw) ?_
                        refine DT.next (by kernel_rfl) ?_
                        refine DA.one 36 rfl (by kernel_rfl) ?_
                        refine SP.val (Val.pickT rfl rfl) rfl rfl rfl ?_
                        refine SP.nil ?_
                        refine QE.atA ?_
                        refine DA.done (by kernel_rfl) ?_
                        exact QE.meet fun a w2 ha hw => ⟨true, m337, _, (by omega), ho, hr, ha.sub ⟨rfl, rfl, rfl, rfl, rfl, rfl, rfl, rfl, rfl, rfl, trivial⟩, (St.selP [6, 7, 8] rfl hw)⟩
                      · have hg359 := (decide_eq_false hc)
                        clear hc
                        obtain ⟨x361, hx_x361, ho⟩ := bind_some ho
                        have hx_x361 := elt_some hx_x361
                        refine DA.ghost (fun w2 hw => let ⟨z, hz⟩ := ixC ((fun w2 hw => slO.whole (St.own 1 rfl see.sub see.dj hw)) w2 hw) hx_x361.1 hx_x361.2; ⟨z, hz, hw⟩) (fun p360 i_p360 => ?_)
                        have h_p360 := i_p360.1
                        obtain ⟨p362, h_p362⟩ := PtC.more h_p360 2
                        obtain ⟨x365, hx, ho⟩ := bind_some ho
                        have hx := elt_some hx
                        refine DA.ghost (fun w2 h => h.elem see 6 rfl hx.1 hx.2) (fun p363 h_p363 => ?_)
                        clear hx
                        refine DA.ghost (fun w2 h => h.fieldE see 0 rfl k_capstanref09_Loop.part_Turns) (fun p366 h_p366 => ?_)
                        refine DA.ghost (fun w2 h => h.openE see 0 rfl (fun _ : Unit => [.int .i64 x365.Turns]) (fun _ => []) (fun h cs e => ⟨(), e, All.nil _⟩)) (fun _ _ => ?_)
                        refine DA.phase (fun i => Nat.ble 25 i && Nat.blt i 35) (fun w2 => St w em hV [atP p366 [.int .i64 x365.Turns], elP (kInt .i64) p366 x365.Turns, elP k_capstanref09_Loop p363 x365, atP p355 [.int .i64 x354.To], elP (kInt .i64) p355 x354.To, elP k_capstanref09_Loop p352 x354, atP p344 [.int .i64 x343.From], elP (kInt .i64) p344 x343.From, elP k_capstanref09_Loop p341 x343, slP k_capstanref09_Loop v6 t5.1, slP k_api_Instr v_l_0 l_0, arrP k_arr88 0 tab0] [slO (kInt .i64) 3 v15 t14.1, slO k_flow_Loop 40 v335 l334, slO (kInt .i64) 3 v9 t8.1, slO k_api_Instr 52 v3 t2] w2) ?_
                        refine DT.is (d := 107) (b := false) rfl hg359 ?_
                        refine DT.take 25 rfl rfl rfl rfl (by kernel_rfl) (fun _ _ _ h => h) (Val.move rfl) (fun w2 hw => hw) ?_
                        refine DT.take 26 rfl rfl rfl rfl (by kernel_rfl) (fun _ _ _ h => h) (Val.move rfl) (fun w2 hw => hw) ?_
                        refine DT.take 27 rfl rfl rfl rfl (by kernel_rfl) (fun _ _ _ h => h) (Val.indexC' i_p360 Tryd.underlying30 sz40 rfl rfl) (fun w2 hw => hw) ?_
                        refine DT.take 28 rfl rfl rfl rfl (by kernel_rfl) (fun _ _ _ h => h) (Val.fieldC h_p360 h_p362 Tryd.underlying40 rfl rfl sz3 rfl) (fun w2 hw => hw) ?_
                        refine DT.take 29 rfl rfl rfl rfl (by kernel_rfl) (fun _ _ _ h => h) (Val.loadW1 (off := 2) (k := k_flow_Loop) (fun w2 hw => slO.whole (St.own 1 rfl see.sub see.dj hw)) hx_x361.2 h_p362 (fun _ _ e => by subst e; rfl) Tryd.underlying3 rfl rfl) (fun w2 hw => hw) ?_
                        refine DT.take 30 rfl rfl rfl rfl (by kernel_rfl) (fun _ _ _ h => h) (Val.move rfl) (fun w2 hw => hw) ?_
                        refine DT.take 31 rfl rfl rfl rfl (by kernel_rfl) (fun _ _ _ h => h) (Val.move rfl) (fun w2 hw => hw) ?_
                        refine DT.take 32 rfl rfl rfl rfl (by kernel_rfl) (fun _ _ _ h => h) (Val.indexE h_p363 Tryd.underlying24 sz41 rfl rfl) (fun w2 hw => hw) ?_
                        refine DT.take 33 rfl rfl rfl rfl (by kernel_rfl) (fun _ _ _ h => h) (Val.fieldE h_p366 Tryd.underlying41 rfl rfl sz3 rfl) (fun w2 hw => hw) ?_
                        refine DT.take 34 rfl rfl rfl rfl (by kernel_rfl) (fun _ _ _ h => h) (Val.loadAt1 see 0 rfl Tryd.underlying3 rfl rfl) (fun w2 hw => hw) ?_
                        refine DT.next (by kernel_rfl) ?_
                        refine DA.one 35 rfl (by kernel_rfl) ?_
                        refine SP.val (Val.neq rfl rfl) rfl rfl rfl ?_
                        refine SP.nil ?_
                        refine QE.atA ?_
                        refine DA.one 36 rfl (by kernel_rfl) ?_
                        refine SP.val (Val.pickF rfl rfl) rfl rfl rfl ?_
                        refine SP.nil ?_
                        refine QE.atA ?_
                        refine DA.done (by kernel_rfl) ?_
                        exact QE.meet fun a w2 ha hw => ⟨(decide (x361.Turns ≠ x365.Turns)), m337, _, (by omega), ho, hr, ha.sub ⟨rfl, rfl, rfl, rfl, rfl, rfl, rfl, rfl, rfl, rfl, trivial⟩, (St.selP [9, 10, 11] rfl hw)⟩
                · refine CP.condF rfl (decide_eq_false hc) ?_
                  refine CP.exit ?_
                  refine QE.thru (by intro e; cases e) ?_
                  refine QE.thru (by intro e; cases e) ?_
                  refine QE.blockE ?_
                  refine QE.then ?_
                  refine CP.seq ?_
                  refine CP.region ?_
                  refine SP.val (Val.assign rfl) rfl rfl rfl ?_
                  refine SP.nil ?_
                  refine QE.then ?_
                  refine CP.block ?_
                  obtain rfl := Option.some.inj ho
                  refine CP.loop (fun cl2 a w2 => ∃ l503 : List Int, ∃ x505 : Int, ∃ v504 : Value, cl2 ≤ m337 ∧ iter (capstanlaw09_FlowTells.F l_0) cl2 (.l2 t2 t5 t8 l503 x505) = some r ∧ Env ⟨133, []⟩ [(0, v_l_0), (3, v3), (4, v6), (5, .int .i64 t5.2), (6, v9), (8, .int .i64 0), (11, v504), (14, .int .i64 x505)] a ∧ St w em hV [slP k_capstanref09_Loop v6 t5.1, slP k_api_Instr v_l_0 l_0, arrP k_arr88 0 tab0] [slO (kInt .i64) 3 v504 l503, slO (kInt .i64) 3 v9 t8.1, slO k_api_Instr 52 v3 t2] w2) m337 (fun a w2 ha hw => ⟨t14.1, 0, v15, Nat.le_refl _, hr, ha.sub ⟨rfl, rfl, rfl, rfl, rfl, rfl, rfl, rfl, trivial⟩, (St.selO [0, 2, 3] rfl rfl hw)⟩) ?_
                  clear hr
                  rintro cl2 a w2 ⟨l503, x505, v504, hc_l2, hi, ha, hw⟩
                  obtain ⟨m506, o, hm_m506, ho, hr⟩ := iter_some hi
                  refine CP.app ha hw ?_
                  clear ha hw a w2 hi
                  refine CP.seq ?_
                  refine CP.seq ?_
                  refine CP.region ?_
                  refine SP.val (Val.move rfl) rfl rfl rfl ?_
                  refine SP.val (Val.move rfl) rfl rfl rfl ?_
                  refine SP.val (Val.lenW (fun w2 hw => slO.whole (St.own 0 rfl see.sub see.dj hw)) Tryd.underlying27 rfl) rfl rfl rfl ?_
                  refine SP.val (Val.lss rfl rfl) rfl rfl rfl ?_
                  refine SP.nil ?_
                  refine QE.then ?_
                  rcases if_some ho with ⟨hc, ho⟩ | ⟨hc, ho⟩
                  · refine CP.condT rfl (decide_eq_true hc) ?_
                    refine CP.skip ?_
                    refine QE.then ?_
                    refine CP.seq ?_
                    refine CP.block ?_
                    refine CP.region ?_
                    refine SP.val (Val.move rfl) rfl rfl rfl ?_
                    refine SP.val (Val.move rfl) rfl rfl rfl ?_
                    obtain ⟨x508, hx_x508, ho⟩ := bind_some ho
                    have hx_x508 := elt_some hx_x508
                    refine SP.indexW (fun w2 hw => slO.whole (St.own 0 rfl see.sub see.dj hw)) Tryd.underlying27 sz3 hx_x508.1 hx_x508.2 rfl rfl rfl rfl (fun p507 h_p507 => ?_)
                    refine SP.storeO (z0 := (-5)) (off := 0) (vs := [.int .i64 (-5)]) see 0 rfl hx_x508.2 h_p507 rfl rfl sz3 rfl (fun a cs _ e => by subst e; rfl) rfl rfl rfl ?_
                    refine SP.nil ?_
                    refine QE.blockN ?_
                    refine QE.then ?_
                    refine CP.region ?_
                    refine SP.val (Val.move rfl) rfl rfl rfl ?_
                    refine SP.val (Val.add rfl rfl) rfl rfl rfl ?_
                    refine SP.val (Val.assign rfl) rfl rfl rfl ?_
                    refine SP.nil ?_
                    obtain rfl := Option.some.inj ho
                    exact QE.lower m506 (by omega) fun a w2 ha hw => ⟨(l503.set x505.toNat (-5)), (IntKind.i64.wrap (x505 + 1)), v504, (by omega), hr, ha.sub ⟨rfl, rfl, rfl, rfl, rfl, rfl, rfl, rfl, trivial⟩, hw⟩
                  · refine CP.condF rfl (decide_eq_false hc) ?_
                    refine CP.exit ?_
                    refine QE.thru (by intro e; cases e) ?_
                    refine QE.thru (by intro e; cases e) ?_
                    refine QE.blockE ?_
                    refine QE.blockN ?_
                    refine QE.then ?_
                    refine CP.region ?_
                    refine SP.val (Val.move rfl) rfl rfl rfl ?_
                    refine SP.val (Val.cast (v := .int .i64 1) (Val.add rfl rfl) rfl) rfl rfl rfl ?_
                    refine SP.val (Val.assign rfl) rfl rfl rfl ?_
                    refine SP.nil ?_
                    refine QE.round ?_
                    refine LP.step ?_
                    refine CP.seq ?_
                    refine CP.seq ?_
                    refine CP.region ?_
                    refine SP.val (Val.move rfl) rfl rfl rfl ?_
                    refine SP.val (Val.cast (v := .bool true) (Val.lss rfl rfl) rfl) rfl rfl rfl ?_
                    refine SP.nil ?_
                    refine QE.then ?_
                    refine CP.condT rfl rfl ?_
                    refine CP.skip ?_
                    refine QE.then ?_
                    refine CP.seq ?_
                    refine CP.block ?_
                    refine CP.seq ?_
                    refine CP.region ?_
                    refine SP.val (Val.move rfl) rfl rfl rfl ?_
                    obtain ⟨t509, hc, ho⟩ := bind_some (x := flow_Loops.f t2) ho
                    refine SP.callKO see (caps := []) _ fn11 rfl rfl rfl rfl (fun w2 hs => flow_Loops.ok t2 _ _ hc w2 (hp w2) (Sub.refl _) (slO.read (St.own 2 rfl see.sub see.dj hs) (Sub.refl _) (Sub.refl _)) ((St.pers 2 rfl see.sub see.dj hs))) (fun v a a2 b ⟨v510, e, h⟩ => ⟨v510, e, (Sep.fcons (fun _ => slO.flip (fun _ _ _ _ h => h)) (fun _ => Sep.fnil)) h⟩) (fun vr => ?_)
                    refine SP.ex (fun w2 h => St.open h) (fun v510 => ?_)
                    refine SP.have (fun w2 h => (St.pand h).1.symm) (fun er => ?_)
                    subst er
                    refine SP.imp (fun w2 h => St.seps (St.pand h).2) ?_
                    clear hc
                    refine SP.val (Val.move rfl) rfl rfl rfl ?_
                    refine SP.val (Val.extract rfl rfl) rfl rfl rfl ?_
                    refine SP.val (Val.extract rfl rfl) rfl rfl rfl ?_
                    refine SP.val (Val.assign rfl) rfl rfl rfl ?_
                    refine SP.val (Val.assign rfl) rfl rfl rfl ?_
                    refine SP.nil ?_
                    refine QE.then ?_
                    refine CP.seq ?_
                    refine CP.region ?_
                    refine SP.val (Val.move rfl) rfl rfl rfl ?_
                    obtain ⟨t512, hc, ho⟩ := bind_some (x := flow_Times.f t2) ho
                    refine SP.callKO see (caps := []) _ fn12 rfl rfl rfl rfl (fun w2 hs => flow_Times.ok t2 _ _ hc w2 (hp w2) (Sub.refl _) (slO.read (St.own 3 rfl see.sub see.dj hs) (Sub.refl _) (Sub.refl _)) ((St.pers 2 rfl see.sub see.dj hs))) (fun v a a2 b ⟨v513, e, h⟩ => ⟨v513, e, (Sep.fcons (fun _ => slO.flip (fun _ _ _ _ h => h)) (fun _ => Sep.fnil)) h⟩) (fun vr => ?_)
                    refine SP.ex (fun w2 h => St.open h) (fun v513 => ?_)
                    refine SP.have (fun w2 h => (St.pand h).1.symm) (fun er => ?_)
                    subst er
                    refine SP.imp (fun w2 h => St.seps (St.pand h).2) ?_
                    clear hc
                    refine SP.val (Val.move rfl) rfl rfl rfl ?_
                    refine SP.val (Val.extract rfl rfl) rfl rfl rfl ?_
                    refine SP.val (Val.extract rfl rfl) rfl rfl rfl ?_
                    refine SP.val (Val.assign rfl) rfl rfl rfl ?_
                    refine SP.val (Val.assign rfl) rfl rfl rfl ?_
                    refine SP.nil ?_
                    refine QE.then ?_
                    refine CP.seq ?_
                    refine CP.seq ?_
                    refine CP.region ?_
                    refine SP.val (Val.move rfl) rfl rfl rfl ?_
                    refine SP.val (Val.move rfl) rfl rfl rfl ?_
                    refine SP.val (Val.neq rfl rfl) rfl rfl rfl ?_
                    refine SP.val (Val.move rfl) rfl rfl rfl ?_
                    refine SP.join 4 (fun a w2 => Env ⟨133, []⟩ [(0, v_l_0), (3, v3), (4, v6), (5, .int .i64 t5.2), (6, v9), (8, .int .i64 1), (11, v513), (9, v510), (51, .bool ((decide (t509.2 ≠ t5.2)) || (decide (t512.2 ≠ t5.2))))] a ∧ St w em hV [slP k_capstanref09_Loop v6 t5.1, slP k_api_Instr v_l_0 l_0, arrP k_arr88 0 tab0] [slO (kInt .i64) 3 v513 t512.1, slO k_flow_Loop 40 v510 t509.1, slO (kInt .i64) 3 v504 l503, slO (kInt .i64) 3 v9 t8.1, slO k_api_Instr 52 v3 t2] w2) ?_ ?_
                    · rintro a w2 ⟨ha, hw⟩
                      refine SP.app ha hw ?_
                      clear ha hw a w2
                      refine SP.val (Val.move rfl) rfl rfl rfl ?_
                      obtain ⟨t520, hg_t520, ho⟩ := bind_some ho
                      refine SP.join 5 (fun a w2 => Env ⟨133, []⟩ [(0, v_l_0), (3, v3), (4, v6), (5, .int .i64 t5.2), (6, v9), (8, .int .i64 1), (11, v513), (9, v510), (57, .bool t520)] a ∧ St w em hV [slP k_capstanref09_Loop v6 t5.1, slP k_api_Instr v_l_0 l_0, arrP k_arr88 0 tab0] [slO (kInt .i64) 3 v513 t512.1, slO k_flow_Loop 40 v510 t509.1, slO (kInt .i64) 3 v504 l503, slO (kInt .i64) 3 v9 t8.1, slO k_api_Instr 52 v3 t2] w2) ?_ ?_
                      · rintro a w2 ⟨ha, hw⟩
                        refine SP.app ha hw ?_
                        clear ha hw a w2 hg_t520
                        refine SP.val (Val.move rfl) rfl rfl rfl ?_
                        refine SP.join 6 (fun a w2 => Env ⟨133, []⟩ [(0, v_l_0), (3, v3), (4, v6), (5, .int .i64 t5.2), (6, v9), (8, .int .i64 1), (11, v513), (9, v510), (64, .bool (t520 || (decide ((t509.1.length : Int) ≠ (t5.1.length : Int)))))] a ∧ St w em hV [slP k_capstanref09_Loop v6 t5.1, slP k_api_Instr v_l_0 l_0, arrP k_arr88 0 tab0] [slO (kInt .i64) 3 v513 t512.1, slO k_flow_Loop 40 v510 t509.1, slO (kInt .i64) 3 v504 l503, slO (kInt .i64) 3 v9 t8.1, slO k_api_Instr 52 v3 t2] w2) ?_ ?_
                        · rintro a w2 ⟨ha, hw⟩
                          refine SP.app ha hw ?_
                          clear ha hw a w2
                          refine SP.val (Val.move rfl) rfl rfl rfl ?_
                          obtain ⟨t526, hg_t526, ho⟩ := bind_some ho
                          refine SP.join 5 (fun a w2 => Env ⟨133, []⟩ [(0, v_l_0), (3, v3), (4, v6), (5, .int .i64 t5.2), (6, v9), (8, .int .i64 1), (11, v513), (9, v510), (70, .bool t526)] a ∧ St w em hV [slP k_capstanref09_Loop v6 t5.1, slP k_api_Instr v_l_0 l_0, arrP k_arr88 0 tab0] [slO (kInt .i64) 3 v513 t512.1, slO k_flow_Loop 40 v510 t509.1, slO (kInt .i64) 3 v504 l503, slO (kInt .i64) 3 v9 t8.1, slO k_api_Instr 52 v3 t2] w2) ?_ ?_
                          · rintro a w2 ⟨ha, hw⟩
                            refine SP.app ha hw ?_
                            clear ha hw a w2 hg_t526
                            refine SP.val (Val.move rfl) rfl rfl rfl ?_
                            obtain ⟨t530, hg_t530, ho⟩ := bind_some ho
                            refine SP.join 5 (fun a w2 => Env ⟨133, []⟩ [(0, v_l_0), (3, v3), (4, v6), (5, .int .i64 t5.2), (6, v9), (8, .int .i64 1), (11, v513), (9, v510), (76, .bool t530)] a ∧ St w em hV [slP k_capstanref09_Loop v6 t5.1, slP k_api_Instr v_l_0 l_0, arrP k_arr88 0 tab0] [slO (kInt .i64) 3 v513 t512.1, slO k_flow_Loop 40 v510 t509.1, slO (kInt .i64) 3 v504 l503, slO (kInt .i64) 3 v9 t8.1, slO k_api_Instr 52 v3 t2] w2) ?_ ?_
                            · rintro a w2 ⟨ha, hw⟩
                              refine SP.app ha hw ?_
                              clear ha hw a w2 hg_t530
                              refine SP.nil ?_
                              refine QE.then ?_
                              rcases if_some ho with ⟨hc, ho⟩ | ⟨hc, ho⟩
                              · refine CP.condT rfl hc ?_
                                refine CP.seq ?_
                                refine CP.region ?_
                                refine SP.val (Val.assign rfl) rfl rfl rfl ?_
                                refine SP.nil ?_
                                refine QE.then ?_
                                refine CP.ret ?_
                                refine QE.thru (by intro e; cases e) ?_
                                refine QE.blockR ?_
                                refine QE.thru (by intro e; cases e) ?_
                                refine QE.thru (by intro e; cases e) ?_
                                refine QE.blockR ?_
                                refine QE.thru (by intro e; cases e) ?_
                                obtain rfl := Option.some.inj ho
                                obtain rfl := Option.some.inj hr
                                exact QE.rets (rs := [.tmp 2]) (vs := [.bool false]) Tryd.results3 rfl ⟨RVs.tmp rfl, trivial⟩ (fun w2 h => St.done (fun a b p s => rfl) h)
                              · refine CP.condF rfl (bf hc) ?_
                                refine CP.skip ?_
                                refine QE.then ?_
                                refine CP.seq ?_
                                refine CP.seq ?_
                                refine CP.region ?_
                                refine SP.val (Val.assign rfl) rfl rfl rfl ?_
                                refine SP.nil ?_
                                refine QE.then ?_
                                refine CP.block ?_
                                obtain rfl := Option.some.inj ho
                                refine CP.loop (fun cl3 a w2 => ∃ l580 : List flow_Loop, ∃ x582 : Int, ∃ v581 : Value, cl3 ≤ m506 ∧ iter (capstanlaw09_FlowTells.F l_0) cl3 (.l3 t2 t5 t8 t512 l580 x582) = some r ∧ Env ⟨133, []⟩ [(0, v_l_0), (3, v3), (4, v6), (5, .int .i64 t5.2), (6, v9), (8, .int .i64 1), (9, v581), (11, v513), (13, .int .i64 x582)] a ∧ St w em hV [slP k_capstanref09_Loop v6 t5.1, slP k_api_Instr v_l_0 l_0, arrP k_arr88 0 tab0] [slO (kInt .i64) 3 v513 t512.1, slO k_flow_Loop 40 v581 l580, slO (kInt .i64) 3 v9 t8.1, slO k_api_Instr 52 v3 t2] w2) m506 (fun a w2 ha hw => ⟨t509.1, 0, v510, Nat.le_refl _, hr, ha.sub ⟨rfl, rfl, rfl, rfl, rfl, rfl, rfl, rfl, rfl, trivial⟩, (St.selO [0, 1, 3, 4] rfl rfl hw)⟩) ?_
                                clear hr
                                rintro cl3 a w2 ⟨l580, x582, v581, hc_l3, hi, ha, hw⟩
                                obtain ⟨m583, o, hm_m583, ho, hr⟩ := iter_some hi
                                refine CP.app ha hw ?_
                                clear ha hw a w2 hi
                                refine CP.seq ?_
                                refine CP.seq ?_
                                refine CP.region ?_
                                refine SP.val (Val.move rfl) rfl rfl rfl ?_
                                refine SP.val (Val.move rfl) rfl rfl rfl ?_
                                refine SP.val (Val.lenW (fun w2 hw => slO.whole (St.own 1 rfl see.sub see.dj hw)) Tryd.underlying30 rfl) rfl rfl rfl ?_
                                refine SP.val (Val.lss rfl rfl) rfl rfl rfl ?_
                                refine SP.nil ?_
                                refine QE.then ?_
                                rcases if_some ho with ⟨hc, ho⟩ | ⟨hc, ho⟩
                                · refine CP.condT rfl (decide_eq_true hc) ?_
                                  refine CP.skip ?_
                                  refine QE.then ?_
                                  refine CP.seq ?_
                                  refine CP.block ?_
                                  refine CP.seq ?_
                                  refine CP.join (fun a w2 => ∃ b615 : Bool, ∃ (m616 : Nat) (o : (capstanlaw09_FlowTells.S ⊕ Bool)), m616 ≤ m583 ∧ capstanlaw09_FlowTells.j2 l_0 t2 t5 t8 t512 l580 x582 b615 = some o ∧ next (capstanlaw09_FlowTells.F l_0) m616 o = some r ∧ Env ⟨133, []⟩ [(0, v_l_0), (3, v3), (4, v6), (5, .int .i64 t5.2), (6, v9), (8, .int .i64 1), (9, v581), (11, v513), (13, .int .i64 x582), (119, .bool b615)] a ∧ St w em hV [slP k_capstanref09_Loop v6 t5.1, slP k_api_Instr v_l_0 l_0, arrP k_arr88 0 tab0] [slO (kInt .i64) 3 v513 t512.1, slO k_flow_Loop 40 v581 l580, slO (kInt .i64) 3 v9 t8.1, slO k_api_Instr 52 v3 t2] w2) ?_ ?_
                                  · rintro a w2 ⟨b615, m616, o, hm_m616, ho, hr, ha, hw⟩
                                    refine CP.app ha hw ?_
                                    clear ha hw a w2
                                    rcases if_some ho with ⟨hc, ho⟩ | ⟨hc, ho⟩
                                    · refine CP.condT rfl hc ?_
                                      refine CP.seq ?_
                                      refine CP.region ?_
                                      refine SP.val (Val.assign rfl) rfl rfl rfl ?_
                                      refine SP.nil ?_
                                      refine QE.then ?_
                                      refine CP.ret ?_
                                      refine QE.thru (by intro e; cases e) ?_
                                      refine QE.blockR ?_
                                      refine QE.thru (by intro e; cases e) ?_
                                      refine QE.thru (by intro e; cases e) ?_
                                      refine QE.blockR ?_
                                      refine QE.thru (by intro e; cases e) ?_
                                      refine QE.blockR ?_
                                      refine QE.thru (by intro e; cases e) ?_
                                      refine QE.thru (by intro e; cases e) ?_
                                      refine QE.blockR ?_
                                      refine QE.thru (by intro e; cases e) ?_
                                      obtain rfl := Option.some.inj ho
                                      obtain rfl := Option.some.inj hr
                                      exact QE.rets (rs := [.tmp 2]) (vs := [.bool false]) Tryd.results3 rfl ⟨RVs.tmp rfl, trivial⟩ (fun w2 h => St.done (fun a b p s => rfl) h)
                                    · refine CP.condF rfl (bf hc) ?_
                                      refine CP.skip ?_
                                      refine QE.then ?_
                                      refine CP.region ?_
                                      refine SP.val (Val.move rfl) rfl rfl rfl ?_
                                      refine SP.val (Val.move rfl) rfl rfl rfl ?_
                                      obtain ⟨x618, hx_x618, ho⟩ := bind_some ho
                                      have hx_x618 := elt_some hx_x618
                                      refine SP.indexW (fun w2 hw => slO.whole (St.own 1 rfl see.sub see.dj hw)) Tryd.underlying30 sz40 hx_x618.1 hx_x618.2 rfl rfl rfl rfl (fun p617 h_p617 => ?_)
                                      refine SP.fieldO h_p617 Tryd.underlying40 rfl sz3 rfl rfl rfl (fun p619 h_p619 => ?_)
                                      refine SP.storeO (z0 := (⟨(-5), x618.To, x618.Turns⟩ : flow_Loop)) (off := 0) (vs := [.int .i64 (-5)]) see 1 rfl hx_x618.2 h_p619 rfl rfl sz3 rfl (fun a cs _ e => by subst e; rfl) rfl rfl rfl ?_
                                      refine SP.nil ?_
                                      refine QE.blockN ?_
                                      refine QE.then ?_
                                      refine CP.region ?_
                                      refine SP.val (Val.move rfl) rfl rfl rfl ?_
                                      refine SP.val (Val.add rfl rfl) rfl rfl rfl ?_
                                      refine SP.val (Val.assign rfl) rfl rfl rfl ?_
                                      refine SP.nil ?_
                                      obtain rfl := Option.some.inj ho
                                      exact QE.lower m616 (by omega) fun a w2 ha hw => ⟨(l580.set x582.toNat (⟨(-5), x618.To, x618.Turns⟩ : flow_Loop)), (IntKind.i64.wrap (x582 + 1)), v581, (by omega), hr, ha.sub ⟨rfl, rfl, rfl, rfl, rfl, rfl, rfl, rfl, rfl, trivial⟩, hw⟩
                                  · refine CP.drawA (by kernel_rfl) (fun w2 k h => h.drawn k) ?_
                                    obtain ⟨x585, hx_x585, ho⟩ := bind_some ho
                                    have hx_x585 := elt_some hx_x585
                                    refine DA.ghost (fun w2 hw => let ⟨z, hz⟩ := ixC ((fun w2 hw => slO.whole (St.own 1 rfl see.sub see.dj hw)) w2 hw) hx_x585.1 hx_x585.2; ⟨z, hz, hw⟩) (fun p584 i_p584 => ?_)
                                    have h_p584 := i_p584.1
                                    obtain ⟨p586, h_p586⟩ := PtC.more h_p584 0
                                    obtain ⟨x589, hx, ho⟩ := bind_some ho
                                    have hx := elt_some hx
                                    refine DA.ghost (fun w2 h => h.elem see 0 rfl hx.1 hx.2) (fun p587 h_p587 => ?_)
                                    clear hx
                                    refine DA.ghost (fun w2 h => h.fieldE see 0 rfl k_capstanref09_Loop.part_From) (fun p590 h_p590 => ?_)
                                    refine DA.ghost (fun w2 h => h.openE see 0 rfl (fun _ : Unit => [.int .i64 x589.From]) (fun _ => []) (fun h cs e => ⟨(), e, All.nil _⟩)) (fun _ _ => ?_)
                                    refine DA.phase (fun i => Nat.ble 0 i && Nat.blt i 10) (fun w2 => St w em hV [atP p590 [.int .i64 x589.From], elP (kInt .i64) p590 x589.From, elP k_capstanref09_Loop p587 x589, slP k_capstanref09_Loop v6 t5.1, slP k_api_Instr v_l_0 l_0, arrP k_arr88 0 tab0] [slO (kInt .i64) 3 v513 t512.1, slO k_flow_Loop 40 v581 l580, slO (kInt .i64) 3 v9 t8.1, slO k_api_Instr 52 v3 t2] w2) ?_
                                    refine DT.take 0 rfl rfl rfl rfl (by kernel_rfl) (fun _ _ _ h => h) (Val.move rfl) (fun w2 hw => hw) ?_
                                    refine DT.take 1 rfl rfl rfl rfl (by kernel_rfl) (fun _ _ _ h => h) (Val.move rfl) (fun w2 hw => hw) ?_
                                    refine DT.take 2 rfl rfl rfl rfl (by kernel_rfl) (fun _ _ _ h => h) (Val.indexC' i_p584 Tryd.underlying30 sz40 rfl rfl) (fun w2 hw => hw) ?_
                                    refine DT.take 3 rfl rfl rfl rfl (by kernel_rfl) (fun _ _ _ h => h) (Val.fieldC h_p584 h_p586 Tryd.underlying40 rfl rfl sz3 rfl) (fun w2 hw => hw) ?_
                                    refine DT.take 4 rfl rfl rfl rfl (by kernel_rfl) (fun _ _ _ h => h) (Val.loadW1 (off := 0) (k := k_flow_Loop) (fun w2 hw => slO.whole (St.own 1 rfl see.sub see.dj hw)) hx_x585.2 h_p586 (fun _ _ e => by subst e; rfl) Tryd.underlying3 rfl rfl) (fun w2 hw => hw) ?_
                                    refine DT.take 5 rfl rfl rfl rfl (by kernel_rfl) (fun _ _ _ h => h) (Val.move rfl) (fun w2 hw => hw) ?_
                                    refine DT.take 6 rfl rfl rfl rfl (by kernel_rfl) (fun _ _ _ h => h) (Val.move rfl) (fun w2 hw => hw) ?_
                                    refine DT.take 7 rfl rfl rfl rfl (by kernel_rfl) (fun _ _ _ h => h) (Val.indexE h_p587 Tryd.underlying24 sz41 rfl rfl) (fun w2 hw => hw) ?_
                                    refine DT.take 8 rfl rfl rfl rfl (by kernel_rfl) (fun _ _ _ h => h) (Val.fieldE h_p590 Tryd.underlying41 rfl rfl sz3 rfl) (fun w2 hw => hw) ?_
                                    refine DT.take 9 rfl rfl rfl rfl (by kernel_rfl) (fun _ _ _ h => h) (Val.loadAt1 see 0 rfl Tryd.underlying3 rfl rfl) (fun w2 hw => hw) ?_
                                    refine DT.next (by kernel_rfl) ?_
                                    refine DA.one 10 rfl (by kernel_rfl) ?_
                                    refine SP.val (Val.neq rfl rfl) rfl rfl rfl ?_
                                    refine SP.nil ?_
                                    refine QE.atA ?_
                                    refine DA.one 11 rfl (by kernel_rfl) ?_
                                    refine SP.val (Val.move rfl) rfl rfl rfl ?_
                                    refine SP.nil ?_
                                    refine QE.atA ?_
                                    rcases if_some ho with ⟨hc, ho⟩ | ⟨hc, ho⟩
                                    · have hg593 := (decide_eq_true hc)
                                      clear hc
                                      refine DA.phase (fun i => Nat.ble 12 i && Nat.blt i 22) (fun w2 => St w em hV [atP p590 [.int .i64 x589.From], elP (kInt .i64) p590 x589.From, elP k_capstanref09_Loop p587 x589, slP k_capstanref09_Loop v6 t5.1, slP k_api_Instr v_l_0 l_0, arrP k_arr88 0 tab0] [slO (kInt .i64) 3 v513 t512.1, slO k_flow_Loop 40 v581 l580, slO (kInt .i64) 3 v9 t8.1, slO k_api_Instr 52 v3 t2] w2) ?_
                                      refine DT.is (d := 94) (b := true) rfl hg593 ?_
                                      refine DT.not 12 rfl rfl rfl rfl (by kernel_rfl) (fun _ _ _ h => h) (fun w2 hw => hw) ?_
                                      refine DT.not 13 rfl rfl rfl rfl (by kernel_rfl) (fun _ _ _ h => h) (fun w2 hw => hw) ?_
                                      refine DT.not 14 rfl rfl rfl rfl (by kernel_rfl) (fun _ _ _ h => h) (fun w2 hw => hw) ?_
                                      refine DT.not 15 rfl rfl rfl rfl (by kernel_rfl) (fun _ _ _ h => h) (fun w2 hw => hw) ?_
                                      refine DT.not 16 rfl rfl rfl rfl (by kernel_rfl) (fun _ _ _ h => h) (fun w2 hw => hw) ?_
                                      refine DT.not 17 rfl rfl rfl rfl (by kernel_rfl) (fun _ _ _ h => h) (fun w2 hw => hw) ?_
                                      refine DT.not 18 rfl rfl rfl rfl (by kernel_rfl) (fun _ _ _ h => h) (fun w2 hw => hw) ?_
                                      refine DT.not 19 rfl rfl rfl rfl (by kernel_rfl) (fun _ _ _ h => h) (fun w2 hw => hw) ?_
                                      refine DT.not 20 rfl rfl rfl rfl (by kernel_rfl) (fun _ _ _ h => h) (fun w2 hw => hw) ?_
                                      refine DT.not 21 rfl rfl rfl rfl (by kernel_rfl) (fun _ _ _ h => h) (fun w2 hw => hw) ?_
                                      refine DT.next (by kernel_rfl) ?_
                                      refine DA.phase (fun i => Nat.ble 22 i && Nat.blt i 23) (fun w2 => St w em hV [atP p590 [.int .i64 x589.From], elP (kInt .i64) p590 x589.From, elP k_capstanref09_Loop p587 x589, slP k_capstanref09_Loop v6 t5.1, slP k_api_Instr v_l_0 l_0, arrP k_arr88 0 tab0] [slO (kInt .i64) 3 v513 t512.1, slO k_flow_Loop 40 v581 l580, slO (kInt .i64) 3 v9 t8.1, slO k_api_Instr 52 v3 t2] w2) ?_
                                      refine DT.not 22 rfl rfl rfl rfl (by kernel_rfl) (fun _ _ _ h => h) (fun w2 hw => hw) ?_
                                      refine DT.next (by kernel_rfl) ?_
                                      refine DA.one 23 rfl (by kernel_rfl) ?_
                                      refine SP.val (Val.pickT rfl rfl) rfl rfl rfl ?_
                                      refine SP.nil ?_
                                      refine QE.atA ?_
                                      refine DA.one 24 rfl (by kernel_rfl) ?_
                                      refine SP.val (Val.move rfl) rfl rfl rfl ?_
                                      refine SP.nil ?_
                                      refine QE.atA ?_
                                      refine DA.phase (fun i => Nat.ble 25 i && Nat.blt i 35) (fun w2 => St w em hV [atP p590 [.int .i64 x589.From], elP (kInt .i64) p590 x589.From, elP k_capstanref09_Loop p587 x589, slP k_capstanref09_Loop v6 t5.1, slP k_api_Instr v_l_0 l_0, arrP k_arr88 0 tab0] [slO (kInt .i64) 3 v513 t512.1, slO k_flow_Loop 40 v581 l580, slO (kInt .i64) 3 v9 t8.1, slO k_api_Instr 52 v3 t2] w2) ?_
                                      refine DT.not 25 rfl rfl rfl rfl (by kernel_rfl) (fun _ _ _ h => h) (fun w2 hw => hw) ?_
                                      refine DT.not 26 rfl rfl rfl rfl (by kernel_rfl) (fun _ _ _ h => h) (fun w2 hw => hw) ?_
                                      refine DT.not 27 rfl rfl rfl rfl (by kernel_rfl) (fun _ _ _ h => h) (fun w2 hw => hw) ?_
                                      refine DT.not 28 rfl rfl rfl rfl (by kernel_rfl) (fun _ _ _ h => h) (fun w2 hw => hw) ?_
                                      refine DT.not 29 rfl rfl rfl rfl (by kernel_rfl) (fun _ _ _ h => h) (fun w2 hw => hw) ?_
                                      refine DT.not 30 rfl rfl rfl rfl (by kernel_rfl) (fun _ _ _ h => h) (fun w2 hw => hw) ?_
                                      refine DT.not 31 rfl rfl rfl rfl (by kernel_rfl) (fun _ _ _ h => h) (fun w2 hw => hw) ?_
                                      refine DT.not 32 rfl rfl rfl rfl (by kernel_rfl) (fun _ _ _ h => h) (fun w2 hw => hw) ?_
                                      refine DT.not 33 rfl rfl rfl rfl (by kernel_rfl) (fun _ _ _ h => h) (fun w2 hw => hw) ?_
                                      refine DT.not 34 rfl rfl rfl rfl (by kernel_rfl) (fun _ _ _ h => h) (fun w2 hw => hw) ?_
                                      refine DT.next (by kernel_rfl) ?_
                                      refine DA.phase (fun i => Nat.ble 35 i && Nat.blt i 36) (fun w2 => St w em hV [atP p590 [.int .i64 x589.From], elP (kInt .i64) p590 x589.From, elP k_capstanref09_Loop p587 x589, slP k_capstanref09_Loop v6 t5.1, slP k_api_Instr v_l_0 l_0, arrP k_arr88 0 tab0] [slO (kInt .i64) 3 v513 t512.1, slO k_flow_Loop 40 v581 l580, slO (kInt .i64) 3 v9 t8.1, slO k_api_Instr 52 v3 t2] w2) ?_
                                      refine DT.not 35 rfl rfl rfl rfl (by kernel_rfl) (fun _ _ _ h => h) (fun w2 hw => hw) ?_
                                      refine DT.next (by kernel_rfl) ?_
                                      refine DA.one 36 rfl (by kernel_rfl) ?_
                                      refine SP.val (Val.pickT rfl rfl) rfl rfl rfl ?_
                                      refine SP.nil ?_
                                      refine QE.atA ?_
                                      refine DA.done (by kernel_rfl) ?_
                                      exact QE.meet fun a w2 ha hw => ⟨true, m583, _, (by omega), ho, hr, ha.sub ⟨rfl, rfl, rfl, rfl, rfl, rfl, rfl, rfl, rfl, rfl, trivial⟩, (St.selP [3, 4, 5] rfl hw)⟩
                                    · have hg594 := (decide_eq_false hc)
                                      clear hc
                                      obtain ⟨x596, hx_x596, ho⟩ := bind_some ho
                                      have hx_x596 := elt_some hx_x596
                                      refine DA.ghost (fun w2 hw => let ⟨z, hz⟩ := ixC ((fun w2 hw => slO.whole (St.own 1 rfl see.sub see.dj hw)) w2 hw) hx_x596.1 hx_x596.2; ⟨z, hz, hw⟩) (fun p595 i_p595 => ?_)
                                      have h_p595 := i_p595.1
                                      obtain ⟨p597, h_p597⟩ := PtC.more h_p595 1
                                      obtain ⟨x600, hx, ho⟩ := bind_some ho
                                      have hx := elt_some hx
                                      refine DA.ghost (fun w2 h => h.elem see 3 rfl hx.1 hx.2) (fun p598 h_p598 => ?_)
                                      clear hx
                                      refine DA.ghost (fun w2 h => h.fieldE see 0 rfl k_capstanref09_Loop.part_To) (fun p601 h_p601 => ?_)
                                      refine DA.ghost (fun w2 h => h.openE see 0 rfl (fun _ : Unit => [.int .i64 x600.To]) (fun _ => []) (fun h cs e => ⟨(), e, All.nil _⟩)) (fun _ _ => ?_)
                                      refine DA.phase (fun i => Nat.ble 12 i && Nat.blt i 22) (fun w2 => St w em hV [atP p601 [.int .i64 x600.To], elP (kInt .i64) p601 x600.To, elP k_capstanref09_Loop p598 x600, atP p590 [.int .i64 x589.From], elP (kInt .i64) p590 x589.From, elP k_capstanref09_Loop p587 x589, slP k_capstanref09_Loop v6 t5.1, slP k_api_Instr v_l_0 l_0, arrP k_arr88 0 tab0] [slO (kInt .i64) 3 v513 t512.1, slO k_flow_Loop 40 v581 l580, slO (kInt .i64) 3 v9 t8.1, slO k_api_Instr 52 v3 t2] w2) ?_
                                      refine DT.is (d := 94) (b := false) rfl hg594 ?_
                                      refine DT.take 12 rfl rfl rfl rfl (by kernel_rfl) (fun _ _ _ h => h) (Val.move rfl) (fun w2 hw => hw) ?_
                                      refine DT.take 13 rfl rfl rfl rfl (by kernel_rfl) (fun _ _ _ h => h) (Val.move rfl) (fun w2 hw => hw) ?_
                                      refine DT.take 14 rfl rfl rfl rfl (by kernel_rfl) (fun _ _ _ h => h) (Val.indexC' i_p595 Tryd.underlying30 sz40 rfl rfl) (fun w2 hw => hw) ?_
                                      refine DT.take 15 rfl rfl rfl rfl (by kernel_rfl) (fun _ _ _ h => h) (Val.fieldC h_p595 h_p597 Tryd.underlying40 rfl rfl sz3 rfl) (fun w2 hw => hw) ?_
                                      refine DT.take 16 rfl rfl rfl rfl (by kernel_rfl) (fun _ _ _ h => h) (Val.loadW1 (off := 1) (k := k_flow_Loop) (fun w2 hw => slO.whole (St.own 1 rfl see.sub see.dj hw)) hx_x596.2 h_p597 (fun _ _ e => by subst e; rfl) Tryd.underlying3 rfl rfl) (fun w2 hw => hw) ?_
                                      refine DT.take 17 rfl rfl rfl rfl (by kernel_rfl) (fun _ _ _ h => h) (Val.move rfl) (fun w2 hw => hw) ?_
                                      refine DT.take 18 rfl rfl rfl rfl (by kernel_rfl) (fun _ _ _ h => h) (Val.move rfl) (fun w2 hw => hw) ?_
                                      refine DT.take 19 rfl rfl rfl rfl (by kernel_rfl) (fun _ _ _ h => h) (Val.indexE h_p598 Tryd.underlying24 sz41 rfl rfl) (fun w2 hw => hw) ?_
                                      refine DT.take 20 rfl rfl rfl rfl (by kernel_rfl) (fun _ _ _ h => h) (Val.fieldE h_p601 Tryd.underlying41 rfl rfl sz3 rfl) (fun w2 hw => hw) ?_
                                      refine DT.take 21 rfl rfl rfl rfl (by kernel_rfl) (fun _ _ _ h => h) (Val.loadAt1 see 0 rfl Tryd.underlying3 rfl rfl) (fun w2 hw => hw) ?_
                                      refine DT.next (by kernel_rfl) ?_
                                      refine DA.one 22 rfl (by kernel_rfl) ?_
                                      refine SP.val (Val.neq rfl rfl) rfl rfl rfl ?_
                                      refine SP.nil ?_
                                      refine QE.atA ?_
                                      refine DA.one 23 rfl (by kernel_rfl) ?_
                                      refine SP.val (Val.pickF rfl rfl) rfl rfl rfl ?_
                                      refine SP.nil ?_
                                      refine QE.atA ?_
                                      refine DA.one 24 rfl (by kernel_rfl) ?_
                                      refine SP.val (Val.move rfl) rfl rfl rfl ?_
                                      refine SP.nil ?_
                                      refine QE.atA ?_
                                      rcases if_some ho with ⟨hc, ho⟩ | ⟨hc, ho⟩
                                      · have hg604 := (decide_eq_true hc)
                                        clear hc
                                        refine DA.phase (fun i => Nat.ble 25 i && Nat.blt i 35) (fun w2 => St w em hV [atP p601 [.int .i64 x600.To], elP (kInt .i64) p601 x600.To, elP k_capstanref09_Loop p598 x600, atP p590 [.int .i64 x589.From], elP (kInt .i64) p590 x589.From, elP k_capstanref09_Loop p587 x589, slP k_capstanref09_Loop v6 t5.1, slP k_api_Instr v_l_0 l_0, arrP k_arr88 0 tab0] [slO (kInt .i64) 3 v513 t512.1, slO k_flow_Loop 40 v581 l580, slO (kInt .i64) 3 v9 t8.1, slO k_api_Instr 52 v3 t2] w2) ?_
                                        refine DT.is (d := 107) (b := true) rfl hg604 ?_
                                        refine DT.not 25 rfl rfl rfl rfl (by kernel_rfl) (fun _ _ _ h => h) (fun w2 hw => hw) ?_
                                        refine DT.not 26 rfl rfl rfl rfl (by kernel_rfl) (fun _ _ _ h => h) (fun w2 hw => hw) ?_
                                        refine DT.not 27 rfl rfl rfl rfl (by kernel_rfl) (fun _ _ _ h => h) (fun w2 hw => hw) ?_
                                        refine DT.not 28 rfl rfl rfl rfl (by kernel_rfl) (fun _ _ _ h => h) (fun w2 hw => hw) ?_
                                        refine DT.not 29 rfl rfl rfl rfl (by kernel_rfl) (fun _ _ _ h => h) (fun w2 hw => hw) ?_
                                        refine DT.not 30 rfl rfl rfl rfl (by kernel_rfl) (fun _ _ _ h => h) (fun w2 hw => hw) ?_
                                        refine DT.not 31 rfl rfl rfl rfl (by kernel_rfl) (fun _ _ _ h => h) (fun w2 hw => hw) ?_
                                        refine DT.not 32 rfl rfl rfl rfl (by kernel_rfl) (fun _ _ _ h => h) (fun w2 hw => hw) ?_
                                        refine DT.not 33 rfl rfl rfl rfl (by kernel_rfl) (fun _ _ _ h => h) (fun w2 hw => hw) ?_
                                        refine DT.not 34 rfl rfl rfl rfl (by kernel_rfl) (fun _ _ _ h => h) (fun w2 hw => hw) ?_
                                        refine DT.next (by kernel_rfl) ?_
                                        refine DA.phase (fun i => Nat.ble 35 i && Nat.blt i 36) (fun w2 => St w em hV [atP p601 [.int .i64 x600.To], elP (kInt .i64) p601 x600.To, elP k_capstanref09_Loop p598 x600, atP p590 [.int .i64 x589.From], elP (kInt .i64) p590 x589.From, elP k_capstanref09_Loop p587 x589, slP k_capstanref09_Loop v6 t5.1, slP k_api_Instr v_l_0 l_0, arrP k_arr88 0 tab0] [slO (kInt .i64) 3 v513 t512.1, slO k_flow_Loop 40 v581 l580, slO (kInt .i64) 3 v9 t8.1, slO k_api_Instr 52 v3 t2] w2) ?_
                                        refine DT.not 35 rfl rfl rfl rfl (by kernel_rfl) (fun _ _ _ h => h) (fun w2 hw => hw) ?_
                                        refine DT.next (by kernel_rfl) ?_
                                        refine DA.one 36 rfl (by kernel_rfl) ?_
                                        refine SP.val (Val.pickT rfl rfl) rfl rfl rfl ?_
                                        refine SP.nil ?_
                                        refine QE.atA ?_
                                        refine DA.done (by kernel_rfl) ?_
                                        exact QE.meet fun a w2 ha hw => ⟨true, m583, _, (by omega), ho, hr, ha.sub ⟨rfl, rfl, rfl, rfl, rfl, rfl, rfl, rfl, rfl, rfl, trivial⟩, (St.selP [6, 7, 8] rfl hw)⟩
                                      · have hg605 := (decide_eq_false hc)
                                        clear hc
                                        obtain ⟨x607, hx_x607, ho⟩ := bind_some ho
                                        have hx_x607 := elt_some hx_x607
                                        refine DA.ghost (fun w2 hw => let ⟨z, hz⟩ := ixC ((fun w2 hw => slO.whole (St.own 1 rfl see.sub see.dj hw)) w2 hw) hx_x607.1 hx_x607.2; ⟨z, hz, hw⟩) (fun p606 i_p606 => ?_)
                                        have h_p606 := i_p606.1
                                        obtain ⟨p608, h_p608⟩ := PtC.more h_p606 2
                                        obtain ⟨x611, hx, ho⟩ := bind_some ho
                                        have hx := elt_some hx
                                        refine DA.ghost (fun w2 h => h.elem see 6 rfl hx.1 hx.2) (fun p609 h_p609 => ?_)
                                        clear hx
                                        refine DA.ghost (fun w2 h => h.fieldE see 0 rfl k_capstanref09_Loop.part_Turns) (fun p612 h_p612 => ?_)
                                        refine DA.ghost (fun w2 h => h.openE see 0 rfl (fun _ : Unit => [.int .i64 x611.Turns]) (fun _ => []) (fun h cs e => ⟨(), e, All.nil _⟩)) (fun _ _ => ?_)
                                        refine DA.phase (fun i => Nat.ble 25 i && Nat.blt i 35) (fun w2 => St w em hV [atP p612 [.int .i64 x611.Turns], elP (kInt .i64) p612 x611.Turns, elP k_capstanref09_Loop p609 x611, atP p601 [.int .i64 x600.To], elP (kInt .i64) p601 x600.To, elP k_capstanref09_Loop p598 x600, atP p590 [.int .i64 x589.From], elP (kInt .i64) p590 x589.From, elP k_capstanref09_Loop p587 x589, slP k_capstanref09_Loop v6 t5.1, slP k_api_Instr v_l_0 l_0, arrP k_arr88 0 tab0] [slO (kInt .i64) 3 v513 t512.1, slO k_flow_Loop 40 v581 l580, slO (kInt .i64) 3 v9 t8.1, slO k_api_Instr 52 v3 t2] w2) ?_
                                        refine DT.is (d := 107) (b := false) rfl hg605 ?_
                                        refine DT.take 25 rfl rfl rfl rfl (by kernel_rfl) (fun _ _ _ h => h) (Val.move rfl) (fun w2 hw => hw) ?_
                                        refine DT.take 26 rfl rfl rfl rfl (by kernel_rfl) (fun _ _ _ h => h) (Val.move rfl) (fun w2 hw => hw) ?_
                                        refine DT.take 27 rfl rfl rfl rfl (by kernel_rfl) (fun _ _ _ h => h) (Val.indexC' i_p606 Tryd.underlying30 sz40 rfl rfl) (fun w2 hw => hw) ?_
                                        refine DT.take 28 rfl rfl rfl rfl (by kernel_rfl) (fun _ _ _ h => h) (Val.fieldC h_p606 h_p608 Tryd.underlying40 rfl rfl sz3 rfl) (fun w2 hw => hw) ?_
                                        refine DT.take 29 rfl rfl rfl rfl (by kernel_rfl) (fun _ _ _ h => h) (Val.loadW1 (off := 2) (k := k_flow_Loop) (fun w2 hw => slO.whole (St.own 1 rfl see.sub see.dj hw)) hx_x607.2 h_p608 (fun _ _ e => by subst e; rfl) Tryd.underlying3 rfl rfl) (fun w2 hw => hw) ?_
                                        refine DT.take 30 rfl rfl rfl rfl (by kernel_rfl) (fun _ _ _ h => h) (Val.move rfl) (fun w2 hw => hw) ?_
                                        refine DT.take 31 rfl rfl rfl rfl (by kernel_rfl) (fun _ _ _ h => h) (Val.move rfl) (fun w2 hw => hw) ?_
                                        refine DT.take 32 rfl rfl rfl rfl (by kernel_rfl) (fun _ _ _ h => h) (Val.indexE h_p609 Tryd.underlying24 sz41 rfl rfl) (fun w2 hw => hw) ?_
                                        refine DT.take 33 rfl rfl rfl rfl (by kernel_rfl) (fun _ _ _ h => h) (Val.fieldE h_p612 Tryd.underlying41 rfl rfl sz3 rfl) (fun w2 hw => hw) ?_
                                        refine DT.take 34 rfl rfl rfl rfl (by kernel_rfl) (fun _ _ _ h => h) (Val.loadAt1 see 0 rfl Tryd.underlying3 rfl rfl) (fun w2 hw => hw) ?_
                                        refine DT.next (by kernel_rfl) ?_
                                        refine DA.one 35 rfl (by kernel_rfl) ?_
                                        refine SP.val (Val.neq rfl rfl) rfl rfl rfl ?_
                                        refine SP.nil ?_
                                        refine QE.atA ?_
                                        refine DA.one 36 rfl (by kernel_rfl) ?_
                                        refine SP.val (Val.pickF rfl rfl) rfl rfl rfl ?_
                                        refine SP.nil ?_
                                        refine QE.atA ?_
                                        refine DA.done (by kernel_rfl) ?_
                                        exact QE.meet fun a w2 ha hw => ⟨(decide (x607.Turns ≠ x611.Turns)), m583, _, (by omega), ho, hr, ha.sub ⟨rfl, rfl, rfl, rfl, rfl, rfl, rfl, rfl, rfl, rfl, trivial⟩, (St.selP [9, 10, 11] rfl hw)⟩
                                · refine CP.condF rfl (decide_eq_false hc) ?_
                                  refine CP.exit ?_
                                  refine QE.thru (by intro e; cases e) ?_
                                  refine QE.thru (by intro e; cases e) ?_
                                  refine QE.blockE ?_
                                  refine QE.then ?_
                                  refine CP.seq ?_
                                  refine CP.region ?_
                                  refine SP.val (Val.assign rfl) rfl rfl rfl ?_
                                  refine SP.nil ?_
                                  refine QE.then ?_
                                  refine CP.block ?_
                                  obtain rfl := Option.some.inj ho
                                  refine CP.loop (fun cl4 a w2 => ∃ l623 : List Int, ∃ x625 : Int, ∃ v624 : Value, cl4 ≤ m583 ∧ iter (capstanlaw09_FlowTells.F l_0) cl4 (.l4 t2 t5 t8 l623 x625) = some r ∧ Env ⟨133, []⟩ [(0, v_l_0), (3, v3), (4, v6), (5, .int .i64 t5.2), (6, v9), (8, .int .i64 1), (11, v624), (14, .int .i64 x625)] a ∧ St w em hV [slP k_capstanref09_Loop v6 t5.1, slP k_api_Instr v_l_0 l_0, arrP k_arr88 0 tab0] [slO (kInt .i64) 3 v624 l623, slO (kInt .i64) 3 v9 t8.1, slO k_api_Instr 52 v3 t2] w2) m583 (fun a w2 ha hw => ⟨t512.1, 0, v513, Nat.le_refl _, hr, ha.sub ⟨rfl, rfl, rfl, rfl, rfl, rfl, rfl, rfl, trivial⟩, (St.selO [0, 2, 3] rfl rfl hw)⟩) ?_
                                  clear hr
                                  rintro cl4 a w2 ⟨l623, x625, v624, hc_l4, hi, ha, hw⟩
                                  obtain ⟨m626, o, hm_m626, ho, hr⟩ := iter_some hi
                                  refine CP.app ha hw ?_
                                  clear ha hw a w2 hi
                                  refine CP.seq ?_
                                  refine CP.seq ?_
                                  refine CP.region ?_
                                  refine SP.val (Val.move rfl) rfl rfl rfl ?_
                                  refine SP.val (Val.move rfl) rfl rfl rfl ?_
                                  refine SP.val (Val.lenW (fun w2 hw => slO.whole (St.own 0 rfl see.sub see.dj hw)) Tryd.underlying27 rfl) rfl rfl rfl ?_
                                  refine SP.val (Val.lss rfl rfl) rfl rfl rfl ?_
                                  refine SP.nil ?_
                                  refine QE.then ?_
                                  rcases if_some ho with ⟨hc, ho⟩ | ⟨hc, ho⟩
                                  · refine CP.condT rfl (decide_eq_true hc) ?_
                                    refine CP.skip ?_
                                    refine QE.then ?_
                                    refine CP.seq ?_
                                    refine CP.block ?_
                                    refine CP.region ?_
                                    refine SP.val (Val.move rfl) rfl rfl rfl ?_
                                    refine SP.val (Val.move rfl) rfl rfl rfl ?_
                                    obtain ⟨x628, hx_x628, ho⟩ := bind_some ho
                                    have hx_x628 := elt_some hx_x628
                                    refine SP.indexW (fun w2 hw => slO.whole (St.own 0 rfl see.sub see.dj hw)) Tryd.underlying27 sz3 hx_x628.1 hx_x628.2 rfl rfl rfl rfl (fun p627 h_p627 => ?_)
                                    refine SP.storeO (z0 := (-5)) (off := 0) (vs := [.int .i64 (-5)]) see 0 rfl hx_x628.2 h_p627 rfl rfl sz3 rfl (fun a cs _ e => by subst e; rfl) rfl rfl rfl ?_
                                    refine SP.nil ?_
                                    refine QE.blockN ?_
                                    refine QE.then ?_
                                    refine CP.region ?_
                                    refine SP.val (Val.move rfl) rfl rfl rfl ?_
                                    refine SP.val (Val.add rfl rfl) rfl rfl rfl ?_
                                    refine SP.val (Val.assign rfl) rfl rfl rfl ?_
                                    refine SP.nil ?_
                                    obtain rfl := Option.some.inj ho
                                    exact QE.lower m626 (by omega) fun a w2 ha hw => ⟨(l623.set x625.toNat (-5)), (IntKind.i64.wrap (x625 + 1)), v624, (by omega), hr, ha.sub ⟨rfl, rfl, rfl, rfl, rfl, rfl, rfl, rfl, trivial⟩, hw⟩
                                  · refine CP.condF rfl (decide_eq_false hc) ?_
                                    refine CP.exit ?_
                                    refine QE.thru (by intro e; cases e) ?_
                                    refine QE.thru (by intro e; cases e) ?_
                                    refine QE.blockE ?_
                                    refine QE.blockN ?_
                                    refine QE.then ?_
                                    refine CP.region ?_
                                    refine SP.val (Val.move rfl) rfl rfl rfl ?_
                                    refine SP.val (Val.cast (v := .int .i64 2) (Val.add rfl rfl) rfl) rfl rfl rfl ?_
                                    refine SP.val (Val.assign rfl) rfl rfl rfl ?_
                                    refine SP.nil ?_
                                    refine QE.round ?_
                                    refine LP.step ?_
                                    refine CP.seq ?_
                                    refine CP.seq ?_
                                    refine CP.region ?_
                                    refine SP.val (Val.move rfl) rfl rfl rfl ?_
                                    refine SP.val (Val.cast (v := .bool false) (Val.lss rfl rfl) rfl) rfl rfl rfl ?_
                                    refine SP.nil ?_
                                    refine QE.then ?_
                                    refine CP.condF rfl rfl ?_
                                    refine CP.exit ?_
                                    refine QE.thru (by intro e; cases e) ?_
                                    refine QE.thru (by intro e; cases e) ?_
                                    refine QE.blockE ?_
                                    refine QE.then ?_
                                    refine CP.seq ?_
                                    refine CP.region ?_
                                    refine SP.val (Val.assign rfl) rfl rfl rfl ?_
                                    refine SP.nil ?_
                                    refine QE.then ?_
                                    refine CP.ret ?_
                                    obtain rfl := Option.some.inj ho
                                    obtain rfl := Option.some.inj hr
                                    exact QE.rets (rs := [.tmp 2]) (vs := [.bool true]) Tryd.results3 rfl ⟨RVs.tmp rfl, trivial⟩ (fun w2 h => St.done (fun a b p s => rfl) h)
                            · intro J
                              clear ho
                              have ho := hg_t530
                              clear hg_t530
                              rcases if_some ho with ⟨hc, ho⟩ | ⟨hc, ho⟩
                              · have hq528 := hc
                                refine SP.isT (d := 71) rfl hq528 ?_
                                refine SP.not rfl rfl rfl ?_
                                refine SP.not rfl rfl rfl ?_
                                refine SP.not rfl rfl rfl ?_
                                refine SP.not rfl rfl rfl ?_
                                refine SP.val (Val.pickT rfl rfl) rfl rfl rfl ?_
                                obtain rfl := Option.some.inj ho
                                exact J fun a w2 ha hw => ⟨ha.sub ⟨rfl, rfl, rfl, rfl, rfl, rfl, rfl, rfl, rfl, trivial⟩, hw⟩
                              · have hq528 := (bf hc)
                                refine SP.isF (d := 71) rfl hq528 ?_
                                refine SP.val (Val.move rfl) rfl rfl rfl ?_
                                refine SP.val (Val.move rfl) rfl rfl rfl ?_
                                obtain ⟨t529, hc, ho⟩ := bind_some (x := capstanref05_Same.f t2 l_0) ho
                                refine SP.callVO see (caps := []) (.bool t529) fn15 rfl rfl rfl rfl (fun w2 hs => capstanref05_Same.ok t2 l_0 _ _ _ hc w2 (hp w2) (Sub.refl _) (slO.read (St.own 4 rfl see.sub see.dj hs) (Sub.refl _) (Sub.refl _)) ((St.pers 1 rfl see.sub see.dj hs))) ?_
                                clear hc
                                refine SP.val (Val.notB rfl) rfl rfl rfl ?_
                                refine SP.val (Val.pickF rfl rfl) rfl rfl rfl ?_
                                obtain rfl := Option.some.inj ho
                                exact J fun a w2 ha hw => ⟨ha.sub ⟨rfl, rfl, rfl, rfl, rfl, rfl, rfl, rfl, rfl, trivial⟩, hw⟩
                          · intro J
                            clear ho
                            have ho := hg_t526
                            clear hg_t526
                            rcases if_some ho with ⟨hc, ho⟩ | ⟨hc, ho⟩
                            · have hq524 := hc
                              refine SP.isT (d := 65) rfl hq524 ?_
                              refine SP.not rfl rfl rfl ?_
                              refine SP.not rfl rfl rfl ?_
                              refine SP.not rfl rfl rfl ?_
                              refine SP.not rfl rfl rfl ?_
                              refine SP.val (Val.pickT rfl rfl) rfl rfl rfl ?_
                              obtain rfl := Option.some.inj ho
                              exact J fun a w2 ha hw => ⟨ha.sub ⟨rfl, rfl, rfl, rfl, rfl, rfl, rfl, rfl, rfl, trivial⟩, hw⟩
                            · have hq524 := (bf hc)
                              refine SP.isF (d := 65) rfl hq524 ?_
                              refine SP.val (Val.move rfl) rfl rfl rfl ?_
                              refine SP.val (Val.move rfl) rfl rfl rfl ?_
                              obtain ⟨t525, hc, ho⟩ := bind_some (x := capstanref09_SameInts.f t512.1 t8.1) ho
                              refine SP.callVO see (caps := []) (.bool t525) fn14 rfl rfl rfl rfl (fun w2 hs => capstanref09_SameInts.ok t512.1 t8.1 _ _ _ hc w2 (hp w2) (Sub.refl _) (slO.read (St.own 0 rfl see.sub see.dj hs) (Sub.refl _) (Sub.refl _)) (slO.read (St.own 3 rfl see.sub see.dj hs) (Sub.refl _) (Sub.refl _))) ?_
                              clear hc
                              refine SP.val (Val.notB rfl) rfl rfl rfl ?_
                              refine SP.val (Val.pickF rfl rfl) rfl rfl rfl ?_
                              obtain rfl := Option.some.inj ho
                              exact J fun a w2 ha hw => ⟨ha.sub ⟨rfl, rfl, rfl, rfl, rfl, rfl, rfl, rfl, rfl, trivial⟩, hw⟩
                        · intro J
                          by_cases hc : t520 = true
                          · have hq522 := hc
                            refine SP.isT (d := 58) rfl hq522 ?_
                            refine SP.not rfl rfl rfl ?_
                            refine SP.not rfl rfl rfl ?_
                            refine SP.not rfl rfl rfl ?_
                            refine SP.not rfl rfl rfl ?_
                            refine SP.not rfl rfl rfl ?_
                            refine SP.val (Val.pickT rfl rfl) rfl rfl rfl ?_
                            exact J fun a w2 ha hw => ⟨ha.sub ⟨rfl, rfl, rfl, rfl, rfl, rfl, rfl, rfl, congrArg (fun z => some (Value.bool z)) (or_t hq522), trivial⟩, hw⟩
                          · have hq522 := (bf hc)
                            refine SP.isF (d := 58) rfl hq522 ?_
                            refine SP.val (Val.move rfl) rfl rfl rfl ?_
                            refine SP.val (Val.lenW (fun w2 hw => slO.whole (St.own 1 rfl see.sub see.dj hw)) Tryd.underlying30 rfl) rfl rfl rfl ?_
                            refine SP.val (Val.move rfl) rfl rfl rfl ?_
                            refine SP.val (Val.lenP see 0 rfl Tryd.underlying24 rfl) rfl rfl rfl ?_
                            refine SP.val (Val.neq rfl rfl) rfl rfl rfl ?_
                            refine SP.val (Val.pickF rfl rfl) rfl rfl rfl ?_
                            exact J fun a w2 ha hw => ⟨ha.sub ⟨rfl, rfl, rfl, rfl, rfl, rfl, rfl, rfl, congrArg (fun z => some (Value.bool z)) (or_f hq522 rfl), trivial⟩, hw⟩
                      · intro J
                        clear ho
                        have ho := hg_t520
                        clear hg_t520
                        rcases if_some ho with ⟨hc, ho⟩ | ⟨hc, ho⟩
                        · have hq518 := hc
                          refine SP.isT (d := 52) rfl hq518 ?_
                          refine SP.not rfl rfl rfl ?_
                          refine SP.not rfl rfl rfl ?_
                          refine SP.not rfl rfl rfl ?_
                          refine SP.not rfl rfl rfl ?_
                          refine SP.val (Val.pickT rfl rfl) rfl rfl rfl ?_
                          obtain rfl := Option.some.inj ho
                          exact J fun a w2 ha hw => ⟨ha.sub ⟨rfl, rfl, rfl, rfl, rfl, rfl, rfl, rfl, rfl, trivial⟩, hw⟩
                        · have hq518 := (bf hc)
                          refine SP.isF (d := 52) rfl hq518 ?_
                          refine SP.val (Val.move rfl) rfl rfl rfl ?_
                          obtain ⟨t519, hc, ho⟩ := bind_some (x := flow_Check.f t2) ho
                          refine SP.callVO see (caps := []) (.int .i64 t519) fn13 rfl rfl rfl rfl (fun w2 hs => flow_Check.ok t2 _ _ hc w2 (hp w2) (Sub.refl _) (slO.read (St.own 4 rfl see.sub see.dj hs) (Sub.refl _) (Sub.refl _)) ((St.pers 2 rfl see.sub see.dj hs))) ?_
                          clear hc
                          refine SP.val (Val.move rfl) rfl rfl rfl ?_
                          refine SP.val (Val.neq rfl rfl) rfl rfl rfl ?_
                          refine SP.val (Val.pickF rfl rfl) rfl rfl rfl ?_
                          obtain rfl := Option.some.inj ho
                          exact J fun a w2 ha hw => ⟨ha.sub ⟨rfl, rfl, rfl, rfl, rfl, rfl, rfl, rfl, rfl, trivial⟩, hw⟩
                    · intro J
                      by_cases hc : t509.2 ≠ t5.2
                      · have hq516 := (decide_eq_true hc)
                        refine SP.isT (d := 47) rfl hq516 ?_
                        refine SP.not rfl rfl rfl ?_
                        refine SP.not rfl rfl rfl ?_
                        refine SP.not rfl rfl rfl ?_
                        refine SP.val (Val.pickT rfl rfl) rfl rfl rfl ?_
                        exact J fun a w2 ha hw => ⟨ha.sub ⟨rfl, rfl, rfl, rfl, rfl, rfl, rfl, rfl, congrArg (fun z => some (Value.bool z)) (or_t hq516), trivial⟩, hw⟩
                      · have hq516 := (decide_eq_false hc)
                        refine SP.isF (d := 47) rfl hq516 ?_
                        refine SP.val (Val.move rfl) rfl rfl rfl ?_
                        refine SP.val (Val.move rfl) rfl rfl rfl ?_
                        refine SP.val (Val.neq rfl rfl) rfl rfl rfl ?_
                        refine SP.val (Val.pickF rfl rfl) rfl rfl rfl ?_
                        exact J fun a w2 ha hw => ⟨ha.sub ⟨rfl, rfl, rfl, rfl, rfl, rfl, rfl, rfl, congrArg (fun z => some (Value.bool z)) (or_f hq516 rfl), trivial⟩, hw⟩
            · intro J
              clear ho
              have ho := hg_t32
              clear hg_t32
              rcases if_some ho with ⟨hc, ho⟩ | ⟨hc, ho⟩
              · have hq30 := hc
                refine SP.isT (d := 71) rfl hq30 ?_
                refine SP.not rfl rfl rfl ?_
                refine SP.not rfl rfl rfl ?_
                refine SP.not rfl rfl rfl ?_
                refine SP.not rfl rfl rfl ?_
                refine SP.val (Val.pickT rfl rfl) rfl rfl rfl ?_
                obtain rfl := Option.some.inj ho
                exact J fun a w2 ha hw => ⟨ha.sub ⟨rfl, rfl, rfl, rfl, rfl, rfl, rfl, rfl, rfl, trivial⟩, hw⟩
              · have hq30 := (bf hc)
                refine SP.isF (d := 71) rfl hq30 ?_
                refine SP.val (Val.move rfl) rfl rfl rfl ?_
                refine SP.val (Val.move rfl) rfl rfl rfl ?_
                obtain ⟨t31, hc, ho⟩ := bind_some (x := capstanref05_Same.f t2 l_0) ho
                refine SP.callVO see (caps := []) (.bool t31) fn15 rfl rfl rfl rfl (fun w2 hs => capstanref05_Same.ok t2 l_0 _ _ _ hc w2 (hp w2) (Sub.refl _) (slO.read (St.own 3 rfl see.sub see.dj hs) (Sub.refl _) (Sub.refl _)) ((St.pers 1 rfl see.sub see.dj hs))) ?_
                clear hc
                refine SP.val (Val.notB rfl) rfl rfl rfl ?_
                refine SP.val (Val.pickF rfl rfl) rfl rfl rfl ?_
                obtain rfl := Option.some.inj ho
                exact J fun a w2 ha hw => ⟨ha.sub ⟨rfl, rfl, rfl, rfl, rfl, rfl, rfl, rfl, rfl, trivial⟩, hw⟩
          · intro J
            clear ho
            have ho := hg_t28
            clear hg_t28
            rcases if_some ho with ⟨hc, ho⟩ | ⟨hc, ho⟩
            · have hq26 := hc
              refine SP.isT (d := 65) rfl hq26 ?_
              refine SP.not rfl rfl rfl ?_
              refine SP.not rfl rfl rfl ?_
              refine SP.not rfl rfl rfl ?_
              refine SP.not rfl rfl rfl ?_
              refine SP.val (Val.pickT rfl rfl) rfl rfl rfl ?_
              obtain rfl := Option.some.inj ho
              exact J fun a w2 ha hw => ⟨ha.sub ⟨rfl, rfl, rfl, rfl, rfl, rfl, rfl, rfl, rfl, trivial⟩, hw⟩
            · have hq26 := (bf hc)
              refine SP.isF (d := 65) rfl hq26 ?_
              refine SP.val (Val.move rfl) rfl rfl rfl ?_
              refine SP.val (Val.move rfl) rfl rfl rfl ?_
              obtain ⟨t27, hc, ho⟩ := bind_some (x := capstanref09_SameInts.f t14.1 t8.1) ho
              refine SP.callVO see (caps := []) (.bool t27) fn14 rfl rfl rfl rfl (fun w2 hs => capstanref09_SameInts.ok t14.1 t8.1 _ _ _ hc w2 (hp w2) (Sub.refl _) (slO.read (St.own 0 rfl see.sub see.dj hs) (Sub.refl _) (Sub.refl _)) (slO.read (St.own 2 rfl see.sub see.dj hs) (Sub.refl _) (Sub.refl _))) ?_
              clear hc
              refine SP.val (Val.notB rfl) rfl rfl rfl ?_
              refine SP.val (Val.pickF rfl rfl) rfl rfl rfl ?_
              obtain rfl := Option.some.inj ho
              exact J fun a w2 ha hw => ⟨ha.sub ⟨rfl, rfl, rfl, rfl, rfl, rfl, rfl, rfl, rfl, trivial⟩, hw⟩
        · intro J
          by_cases hc : t22 = true
          · have hq24 := hc
            refine SP.isT (d := 58) rfl hq24 ?_
            refine SP.not rfl rfl rfl ?_
            refine SP.not rfl rfl rfl ?_
            refine SP.not rfl rfl rfl ?_
            refine SP.not rfl rfl rfl ?_
            refine SP.not rfl rfl rfl ?_
            refine SP.val (Val.pickT rfl rfl) rfl rfl rfl ?_
            exact J fun a w2 ha hw => ⟨ha.sub ⟨rfl, rfl, rfl, rfl, rfl, rfl, rfl, rfl, congrArg (fun z => some (Value.bool z)) (or_t hq24), trivial⟩, hw⟩
          · have hq24 := (bf hc)
            refine SP.isF (d := 58) rfl hq24 ?_
            refine SP.val (Val.move rfl) rfl rfl rfl ?_
            refine SP.val (Val.lenW (fun w2 hw => slO.whole (St.own 1 rfl see.sub see.dj hw)) Tryd.underlying30 rfl) rfl rfl rfl ?_
            refine SP.val (Val.move rfl) rfl rfl rfl ?_
            refine SP.val (Val.lenP see 0 rfl Tryd.underlying24 rfl) rfl rfl rfl ?_
            refine SP.val (Val.neq rfl rfl) rfl rfl rfl ?_
            refine SP.val (Val.pickF rfl rfl) rfl rfl rfl ?_
            exact J fun a w2 ha hw => ⟨ha.sub ⟨rfl, rfl, rfl, rfl, rfl, rfl, rfl, rfl, congrArg (fun z => some (Value.bool z)) (or_f hq24 rfl), trivial⟩, hw⟩
      · intro J
        clear ho
        have ho := hg_t22
        clear hg_t22
        rcases if_some ho with ⟨hc, ho⟩ | ⟨hc, ho⟩
        · have hq20 := hc
          refine SP.isT (d := 52) rfl hq20 ?_
          refine SP.not rfl rfl rfl ?_
          refine SP.not rfl rfl rfl ?_
          refine SP.not rfl rfl rfl ?_
          refine SP.not rfl rfl rfl ?_
          refine SP.val (Val.pickT rfl rfl) rfl rfl rfl ?_
          obtain rfl := Option.some.inj ho
          exact J fun a w2 ha hw => ⟨ha.sub ⟨rfl, rfl, rfl, rfl, rfl, rfl, rfl, rfl, rfl, trivial⟩, hw⟩
        · have hq20 := (bf hc)
          refine SP.isF (d := 52) rfl hq20 ?_
          refine SP.val (Val.move rfl) rfl rfl rfl ?_
          obtain ⟨t21, hc, ho⟩ := bind_some (x := flow_Check.f t2) ho
          refine SP.callVO see (caps := []) (.int .i64 t21) fn13 rfl rfl rfl rfl (fun w2 hs => flow_Check.ok t2 _ _ hc w2 (hp w2) (Sub.refl _) (slO.read (St.own 3 rfl see.sub see.dj hs) (Sub.refl _) (Sub.refl _)) ((St.pers 2 rfl see.sub see.dj hs))) ?_
          clear hc
          refine SP.val (Val.move rfl) rfl rfl rfl ?_
          refine SP.val (Val.neq rfl rfl) rfl rfl rfl ?_
          refine SP.val (Val.pickF rfl rfl) rfl rfl rfl ?_
          obtain rfl := Option.some.inj ho
          exact J fun a w2 ha hw => ⟨ha.sub ⟨rfl, rfl, rfl, rfl, rfl, rfl, rfl, rfl, rfl, trivial⟩, hw⟩
    · intro J
      by_cases hc : t11.2 ≠ t5.2
      · have hq18 := (decide_eq_true hc)
        refine SP.isT (d := 47) rfl hq18 ?_
        refine SP.not rfl rfl rfl ?_
        refine SP.not rfl rfl rfl ?_
        refine SP.not rfl rfl rfl ?_
        refine SP.val (Val.pickT rfl rfl) rfl rfl rfl ?_
        exact J fun a w2 ha hw => ⟨ha.sub ⟨rfl, rfl, rfl, rfl, rfl, rfl, rfl, rfl, congrArg (fun z => some (Value.bool z)) (or_t hq18), trivial⟩, hw⟩
      · have hq18 := (decide_eq_false hc)
        refine SP.isF (d := 47) rfl hq18 ?_
        refine SP.val (Val.move rfl) rfl rfl rfl ?_
        refine SP.val (Val.move rfl) rfl rfl rfl ?_
        refine SP.val (Val.neq rfl rfl) rfl rfl rfl ?_
        refine SP.val (Val.pickF rfl rfl) rfl rfl rfl ?_
        exact J fun a w2 ha hw => ⟨ha.sub ⟨rfl, rfl, rfl, rfl, rfl, rfl, rfl, rfl, congrArg (fun z => some (Value.bool z)) (or_f hq18 rfl), trivial⟩, hw⟩
theorem cl5 : Tryd.prog.cellsOf 5 = 1 := by kernel_rfl
theorem cl3 : Tryd.prog.cellsOf 3 = 1 := by kernel_rfl
theorem cl52 : Tryd.prog.cellsOf 52 = 3 := by kernel_rfl
def wf_api_Instr (x : api_Instr) : Prop := (Lit.int .u8 x.Op).wf = true ∧ (Lit.int .i64 x.A).wf = true ∧ (Lit.int .i64 x.B).wf = true
theorem opens_api_Instr : Opens Tryd.prog 52 k_api_Instr wf_api_Instr := by
  intro H enc W fuel cs d ps h
  cases fuel with
  | zero => simp [DataW.trod] at h
  | succ n =>
    obtain ⟨hl, hf⟩ := trod_struct Tryd.underlying52 h
    rw [cl52] at hl
    obtain ⟨c0, c1, c2, rfl⟩ := len3 hl
    obtain ⟨d0, q0, h0⟩ := hf 0 _ rfl
    replace h0 : DataW.trod enc Tryd.prog W 0 (fun _ => true) true n 5 (List.take (Tryd.prog.cellsOf 5) [c0, c1, c2]) = some (d0, q0) := h0
    rw [cl5] at h0
    replace h0 : DataW.trod enc Tryd.prog W 0 (fun _ => true) true n 5 [c0] = some (d0, q0) := h0
    obtain ⟨x0, r0, w0⟩ := (Opens.int Tryd.underlying5) enc W n _ _ _ h0
    obtain ⟨rfl, -⟩ := List.cons.inj r0
    obtain ⟨d1, q1, h1⟩ := hf 1 _ rfl
    replace h1 : DataW.trod enc Tryd.prog W 0 (fun _ => true) true n 3 (List.take (Tryd.prog.cellsOf 3) [c1, c2]) = some (d1, q1) := h1
    rw [cl3] at h1
    replace h1 : DataW.trod enc Tryd.prog W 0 (fun _ => true) true n 3 [c1] = some (d1, q1) := h1
    obtain ⟨x1, r1, w1⟩ := (Opens.int Tryd.underlying3) enc W n _ _ _ h1
    obtain ⟨rfl, -⟩ := List.cons.inj r1
    obtain ⟨d2, q2, h2⟩ := hf 2 _ rfl
    replace h2 : DataW.trod enc Tryd.prog W 0 (fun _ => true) true n 3 (List.take (Tryd.prog.cellsOf 3) [c2]) = some (d2, q2) := h2
    rw [cl3] at h2
    replace h2 : DataW.trod enc Tryd.prog W 0 (fun _ => true) true n 3 [c2] = some (d2, q2) := h2
    obtain ⟨x2, r2, w2⟩ := (Opens.int Tryd.underlying3) enc W n _ _ _ h2
    obtain ⟨rfl, -⟩ := List.cons.inj r2
    exact ⟨⟨x0, x1, x2⟩, rfl, w0, w1, w2⟩
/-- What is left to be shown of the law: of plain values alone. -/
def capstanlaw09_FlowTells.Pure : Prop := ∀ (x0 : (List api_Instr)), (x0.length ≤ maxLen ∧ ∀ y ∈ x0, wf_api_Instr y) → capstanlaw09_FlowTells.f x0 = some true
end Go.Proofs.YtbejlahmhloloaaDoor
end
