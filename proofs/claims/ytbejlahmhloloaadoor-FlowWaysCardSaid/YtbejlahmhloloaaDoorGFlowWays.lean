/- Functions of the program as plain functions, with the proof that the code computes them: printed by gen.py of this session. -/
import Derived.Test.YtbejlahmhloloaaDoorProg
import Derived.Test.YtbejlahmhloloaaDoorQ26v13fef8
import Derived.Ground.NamesProg
import Derived.Ground.SlgcProg
import Derived.Ground.SlgmProg
import Derived.Ground.SlgnProg
import Derived.Ground.SlsfProg
import Derived.Shelf.Lay
import Derived.Shelf.SlGeneric
import Derived.Shelf.SlSortCmp.WholeK
import Derived.Shelf.SlicesG.Cmp
import Derived.Shelf.SlicesG.CompactI
import Derived.Shelf.Small.Bits
import Derived.Shelf.SortM.Plain
import Derived.Shelf.SortM.SortNone
import Derived.Test.YtbejlahmhloloaaDoorGFlowWaysp1
set_option linter.unusedVariables false
set_option linter.unusedSimpArgs false
set_option maxRecDepth 20000
set_option maxHeartbeats 2000000
noncomputable section
namespace Go.Proofs.YtbejlahmhloloaaDoor
open Go.Q
/-! ### slices.ContainsFunc[[]capstan/flow.Loop,capstan/flow.Loop]: function 48 -/
def slices_ContainsFunc_flow_Loop_flow_Loop_s1.f (s_0 : (List flow_Loop)) (f_1_2 : Int) (f_1_3 : Int) (f_1_4 : Int) (f_1_7 : Int) : Option Bool :=
  (slices_IndexFunc_flow_Loop_flow_Loop_s1.f s_0 f_1_2 f_1_3 f_1_4 f_1_7).bind fun t10 => some (decide (t10 ≥ 0))
theorem slices_ContainsFunc_flow_Loop_flow_Loop_s1.ok (s_0 : (List flow_Loop)) (f_1_2 : Int) (f_1_3 : Int) (f_1_4 : Int) (f_1_7 : Int) (v_s_0 : Value) (b5 : Nat) (b8 : Nat) (r : Bool) (H : slices_ContainsFunc_flow_Loop_flow_Loop_s1.f s_0 f_1_2 f_1_3 f_1_4 f_1_7 = some r) (w : World) (hV : Hp) (sV : Sub hV (hp w)) (h0 : slR k_flow_Loop hV v_s_0 s_0) (h1 : (boxP b5 [.int .u8 f_1_2, .int .i64 f_1_3, .int .i64 f_1_4] 52).p hV) (h2 : (boxP b8 [.int .i64 f_1_7] 3).p hV) :
    Trip Tryd.prog 48 [v_s_0, .func (.func 46) #[] #[.pointer (some ⟨b5, 0, none⟩), .pointer (some ⟨b8, 0, none⟩)]].toArray em hV w (fun v => HO.pure (v = .bool r)) := by
  have see : Sees w em hV := ⟨sV, Dj.em_right _⟩
  refine Trip.of (P := Tryd.prog) (n := ⟨9, []⟩) Tryd.func48 rfl ⟨rfl, rfl⟩ rfl (St.begin (All.cons (x := slP k_flow_Loop v_s_0 s_0) h0 (All.cons (x := boxP b5 [.int .u8 f_1_2, .int .i64 f_1_3, .int .i64 f_1_4] 52) h1 (All.cons (x := boxP b8 [.int .i64 f_1_7] 3) h2 (All.nil _))))) ?_
  have ho := H
  refine CP.seq ?_
  refine CP.region ?_
  refine SP.val (Val.assign rfl) rfl rfl rfl ?_
  refine SP.nil ?_
  refine QE.then ?_
  refine CP.seq ?_
  refine CP.region ?_
  refine SP.val (Val.move rfl) rfl rfl rfl ?_
  refine SP.val (Val.move rfl) rfl rfl rfl ?_
  obtain ⟨t10, hc, ho⟩ := bind_some (x := slices_IndexFunc_flow_Loop_flow_Loop_s1.f s_0 f_1_2 f_1_3 f_1_4 f_1_7) ho
  refine SP.callV see (caps := []) (.int .i64 t10) fn57 rfl rfl rfl rfl (fun w2 hP hs sub ap => slices_IndexFunc_flow_Loop_flow_Loop_s1.ok s_0 f_1_2 f_1_3 f_1_4 f_1_7 _ _ _ _ hc w2 hP sub (ap.get 0 rfl) (ap.get 1 rfl) (ap.get 2 rfl)) ?_
  clear hc
  refine SP.val (Val.geq rfl rfl) rfl rfl rfl ?_
  refine SP.val (Val.assign rfl) rfl rfl rfl ?_
  refine SP.nil ?_
  refine QE.then ?_
  refine CP.ret ?_
  obtain rfl := Option.some.inj ho
  exact QE.rets (rs := [.tmp 4]) (vs := [.bool (decide (t10 ≥ 0))]) Tryd.results48 rfl ⟨RVs.tmp rfl, trivial⟩ (fun w2 h => St.done (fun a b p s => rfl) h)
/-! ### capstan/flow.jumps: function 31 -/
inductive flow_jumps.S where
  | start
  | l1 (x27 : Int)

def flow_jumps.j1 (l_0 : (List api_Instr)) (loops_1 : (List flow_Loop)) (x27 : Int) : Option (flow_jumps.S ⊕ Bool) :=
  some (.inl (.l1 (IntKind.i64.wrap (x27 + 1))))

def flow_jumps.F (l_0 : (List api_Instr)) (loops_1 : (List flow_Loop)) : flow_jumps.S → Option (flow_jumps.S ⊕ Bool)
  | .start => some (.inl (.l1 0))
  | .l1 x27 => if x27 < (l_0.length : Int) then ((elt l_0 x27).bind fun x31 => if ((decide (x31.Op ≠ 26)) && (decide (x31.Op ≠ 27))) = true then (flow_jumps.j1 l_0 loops_1 x27) else ((if ((decide (x31.A ≤ x27)) || (decide (x31.A ≥ (l_0.length : Int)))) = true then (some true) else ((slices_ContainsFunc_flow_Loop_flow_Loop_s1.f loops_1 x31.Op x31.A x31.B x27).bind fun t49 => some t49)).bind fun t50 => if t50 = true then (some (.inr false)) else (flow_jumps.j1 l_0 loops_1 x27))) else (some (.inr true))

def flow_jumps.f (l_0 : (List api_Instr)) (loops_1 : (List flow_Loop)) : Option Bool := runF (flow_jumps.F l_0 loops_1) .start
theorem flow_jumps.ok (l_0 : (List api_Instr)) (loops_1 : (List flow_Loop)) (v_l_0 : Value) (v_loops_1 : Value) (r : Bool) (H : flow_jumps.f l_0 loops_1 = some r) (w : World) (hV : Hp) (sV : Sub hV (hp w)) (h0 : slR k_api_Instr hV v_l_0 l_0) (h1 : slR k_flow_Loop hV v_loops_1 loops_1) :
    Trip Tryd.prog 31 [v_l_0, v_loops_1].toArray em hV w (fun v => HO.pure (v = .bool r)) := by
  have see : Sees w em hV := ⟨sV, Dj.em_right _⟩
  refine Trip.of (P := Tryd.prog) (n := ⟨41, []⟩) Tryd.func31 rfl ⟨rfl, rfl⟩ rfl (St.begin (All.cons (x := slP k_api_Instr v_l_0 l_0) h0 (All.cons (x := slP k_flow_Loop v_loops_1 loops_1) h1 (All.nil _)))) ?_
  obtain ⟨n0, hi⟩ := runF_iff.1 H
  obtain ⟨m0, o, hm0, ho, hr⟩ := iter_some hi
  clear hi
  refine CP.seq ?_
  refine CP.region ?_
  refine SP.val (Val.assign rfl) rfl rfl rfl ?_
  refine SP.nil ?_
  refine QE.then ?_
  refine CP.seq ?_
  refine CP.seq ?_
  refine CP.region ?_
  refine SP.val (Val.move rfl) rfl rfl rfl ?_
  refine SP.val (Val.lenP see 0 rfl Tryd.underlying22 rfl) rfl rfl rfl ?_
  refine SP.val (Val.move rfl) rfl rfl rfl ?_
  refine SP.nil ?_
  refine QE.then ?_
  refine CP.block ?_
  obtain rfl := Option.some.inj ho
  refine CP.loop (fun cl1 a w2 => ∃ x27 : Int, cl1 ≤ m0 ∧ iter (flow_jumps.F l_0 loops_1) cl1 (.l1 x27) = some r ∧ Env ⟨41, []⟩ [(0, v_l_0), (1, v_loops_1), (8, v_l_0), (9, .int .i64 (l_0.length : Int)), (10, .int .i64 x27)] a ∧ St w em hV [slP k_api_Instr v_l_0 l_0, slP k_flow_Loop v_loops_1 loops_1] [] w2) m0 (fun a w2 ha hw => ⟨0, Nat.le_refl _, hr, ha.sub ⟨rfl, rfl, rfl, rfl, rfl, trivial⟩, hw⟩) ?_
  clear hr
  rintro cl1 a w2 ⟨x27, hc_l1, hi, ha, hw⟩
  obtain ⟨m28, o, hm_m28, ho, hr⟩ := iter_some hi
  refine CP.app ha hw ?_
  clear ha hw a w2 hi
  refine CP.seq ?_
  refine CP.region ?_
  refine SP.val (Val.lss rfl rfl) rfl rfl rfl ?_
  refine SP.nil ?_
  refine QE.then ?_
  refine CP.seq ?_
  rcases if_some ho with ⟨hc, ho⟩ | ⟨hc, ho⟩
  · refine CP.condT rfl (decide_eq_true hc) ?_
    refine CP.skip ?_
    refine QE.then ?_
    refine CP.join (fun a w2 => ∃ (m51 : Nat) (o : (flow_jumps.S ⊕ Bool)), m51 ≤ m28 ∧ flow_jumps.j1 l_0 loops_1 x27 = some o ∧ next (flow_jumps.F l_0 loops_1) m51 o = some r ∧ Env ⟨41, []⟩ [(0, v_l_0), (1, v_loops_1), (8, v_l_0), (9, .int .i64 (l_0.length : Int)), (10, .int .i64 x27)] a ∧ St w em hV [slP k_api_Instr v_l_0 l_0, slP k_flow_Loop v_loops_1 loops_1] [] w2) ?_ ?_
    · rintro a w2 ⟨m51, o, hm_m51, ho, hr, ha, hw⟩
      refine CP.app ha hw ?_
      clear ha hw a w2
      refine CP.region ?_
      refine SP.val (Val.add rfl rfl) rfl rfl rfl ?_
      refine SP.val (Val.move rfl) rfl rfl rfl ?_
      refine SP.nil ?_
      obtain rfl := Option.some.inj ho
      exact QE.lower m51 (by omega) fun a w2 ha hw => ⟨(IntKind.i64.wrap (x27 + 1)), (by omega), hr, ha.sub ⟨rfl, rfl, rfl, rfl, rfl, trivial⟩, hw⟩
    · refine CP.block ?_
      refine CP.seq ?_
      refine CP.region ?_
      refine SP.val (Val.move rfl) rfl rfl rfl ?_
      obtain ⟨x31, hx, ho⟩ := bind_some ho
      have hx := elt_some hx
      refine SP.indexP see 0 rfl Tryd.underlying22 sz52 hx.1 hx.2 rfl rfl rfl rfl (fun p29 => ?_)
      clear hx
      refine k_api_Instr.load see 0 rfl Tryd.underlying52 rfl sz52 rfl rfl rfl ?_
      refine SP.alloc (cs := [.int .i64 0]) inf3 rfl rfl (fun b32 => ?_)
      refine SP.alloc (cs := [.int .u8 0, .int .i64 0, .int .i64 0]) inf52 rfl rfl (fun b34 => ?_)
      refine SP.store (v := .int .i64 x27) (vs := [.int .i64 x27]) 1 (by rfl) sz3 (by rfl) (by rfl) (by rfl) (by rfl) (by rfl) (by rfl) ?_
      refine SP.store (v := .agg #[.int .u8 x31.Op, .int .i64 x31.A, .int .i64 x31.B]) (vs := [.int .u8 x31.Op, .int .i64 x31.A, .int .i64 x31.B]) 0 (by rfl) sz52 (by rfl) (by rfl) (by rfl) (by rfl) (by rfl) (by rfl) ?_
      refine SP.nil ?_
      refine QE.then ?_
      refine CP.seq ?_
      refine CP.seq ?_
      refine CP.region ?_
      refine SP.val (Val.fieldAddr Tryd.underlying52 rfl sz5 rfl) rfl rfl rfl ?_
      refine SP.val (Val.load1 0 rfl Tryd.underlying5 rfl rfl rfl) rfl rfl rfl ?_
      refine SP.val (Val.neq rfl rfl) rfl rfl rfl ?_
      refine SP.val (Val.move rfl) rfl rfl rfl ?_
      refine SP.join 4 (fun a w2 => Env ⟨41, []⟩ [(0, v_l_0), (1, v_loops_1), (8, v_l_0), (9, .int .i64 (l_0.length : Int)), (10, .int .i64 x27), (5, .pointer (some ⟨b32, 0, none⟩)), (6, .pointer (some ⟨b34, 0, none⟩)), (22, .bool ((decide (x31.Op ≠ 26)) && (decide (x31.Op ≠ 27))))] a ∧ St w em hV [elP k_api_Instr p29 x31, slP k_api_Instr v_l_0 l_0, slP k_flow_Loop v_loops_1 loops_1] [boxO b34 [.int .u8 x31.Op, .int .i64 x31.A, .int .i64 x31.B] 52, boxO b32 [.int .i64 x27] 3] w2) ?_ ?_
      · rintro a w2 ⟨ha, hw⟩
        refine SP.app ha hw ?_
        clear ha hw a w2
        refine SP.nil ?_
        refine QE.then ?_
        rcases if_some ho with ⟨hc, ho⟩ | ⟨hc, ho⟩
        · refine CP.condT rfl hc ?_
          refine CP.exit ?_
          refine QE.thru (by intro e; cases e) ?_
          refine QE.blockE ?_
          exact QE.meet fun a w2 ha hw => ⟨m28, _, (by omega), ho, hr, ha.sub ⟨rfl, rfl, rfl, rfl, rfl, trivial⟩, (St.selP [1, 2] rfl (St.selO [] rfl rfl hw))⟩
        · refine CP.condF rfl (bf hc) ?_
          refine CP.skip ?_
          refine QE.then ?_
          refine CP.seq ?_
          refine CP.region ?_
          refine SP.val (Val.makeFunc (us := []) (vs := [.pointer (some ⟨b34, 0, none⟩), .pointer (some ⟨b32, 0, none⟩)]) rfl rfl) rfl rfl rfl ?_
          refine SP.val (Val.assign rfl) rfl rfl rfl ?_
          refine SP.nil ?_
          refine QE.then ?_
          refine CP.seq ?_
          refine CP.region ?_
          refine SP.val (Val.fieldAddr Tryd.underlying52 rfl sz3 rfl) rfl rfl rfl ?_
          refine SP.val (Val.load1 0 rfl Tryd.underlying3 rfl rfl rfl) rfl rfl rfl ?_
          refine SP.val (Val.load1 1 rfl Tryd.underlying3 rfl rfl rfl) rfl rfl rfl ?_
          refine SP.val (Val.leq rfl rfl) rfl rfl rfl ?_
          refine SP.val (Val.move rfl) rfl rfl rfl ?_
          refine SP.join 6 (fun a w2 => Env ⟨41, []⟩ [(0, v_l_0), (1, v_loops_1), (8, v_l_0), (9, .int .i64 (l_0.length : Int)), (10, .int .i64 x27), (7, .func (.func 46) #[] #[.pointer (some ⟨b34, 0, none⟩), .pointer (some ⟨b32, 0, none⟩)]), (34, .bool ((decide (x31.A ≤ x27)) || (decide (x31.A ≥ (l_0.length : Int)))))] a ∧ St w em hV [elP k_api_Instr p29 x31, slP k_api_Instr v_l_0 l_0, slP k_flow_Loop v_loops_1 loops_1] [boxO b34 [.int .u8 x31.Op, .int .i64 x31.A, .int .i64 x31.B] 52, boxO b32 [.int .i64 x27] 3] w2) ?_ ?_
          · rintro a w2 ⟨ha, hw⟩
            refine SP.app ha hw ?_
            clear ha hw a w2
            refine SP.val (Val.move rfl) rfl rfl rfl ?_
            refine SP.freezeB see 0 rfl ?_
            refine SP.freezeB see 0 rfl ?_
            obtain ⟨t50, hg_t50, ho⟩ := bind_some ho
            refine SP.join 4 (fun a w2 => Env ⟨41, []⟩ [(0, v_l_0), (1, v_loops_1), (8, v_l_0), (9, .int .i64 (l_0.length : Int)), (10, .int .i64 x27), (39, .bool t50)] a ∧ St w em hV [boxP b32 [.int .i64 x27] 3, boxP b34 [.int .u8 x31.Op, .int .i64 x31.A, .int .i64 x31.B] 52, elP k_api_Instr p29 x31, slP k_api_Instr v_l_0 l_0, slP k_flow_Loop v_loops_1 loops_1] [] w2) ?_ ?_
            · rintro a w2 ⟨ha, hw⟩
              refine SP.app ha hw ?_
              clear ha hw a w2 hg_t50
              refine SP.nil ?_
              refine QE.then ?_
              rcases if_some ho with ⟨hc, ho⟩ | ⟨hc, ho⟩
              · refine CP.condT rfl hc ?_
                refine CP.seq ?_
                refine CP.region ?_
                refine SP.val (Val.assign rfl) rfl rfl rfl ?_
                refine SP.nil ?_
                refine QE.then ?_
                refine CP.ret ?_
                refine QE.blockR ?_
                refine QE.thru (by intro e; cases e) ?_
                refine QE.thru (by intro e; cases e) ?_
                refine QE.blockR ?_
                refine QE.thru (by intro e; cases e) ?_
                obtain rfl := Option.some.inj ho
                obtain rfl := Option.some.inj hr
                exact QE.rets (rs := [.tmp 4]) (vs := [.bool false]) Tryd.results31 rfl ⟨RVs.tmp rfl, trivial⟩ (fun w2 h => St.done (fun a b p s => rfl) h)
              · refine CP.condF rfl (bf hc) ?_
                refine CP.skip ?_
                refine QE.blockN ?_
                exact QE.meet fun a w2 ha hw => ⟨m28, _, (by omega), ho, hr, ha.sub ⟨rfl, rfl, rfl, rfl, rfl, trivial⟩, (St.selP [3, 4] rfl hw)⟩
            · intro J
              clear ho
              have ho := hg_t50
              clear hg_t50
              rcases if_some ho with ⟨hc, ho⟩ | ⟨hc, ho⟩
              · have hq48 := hc
                refine SP.isT (d := 35) rfl hq48 ?_
                refine SP.not rfl rfl rfl ?_
                refine SP.not rfl rfl rfl ?_
                refine SP.not rfl rfl rfl ?_
                refine SP.val (Val.pickT rfl rfl) rfl rfl rfl ?_
                obtain rfl := Option.some.inj ho
                exact J fun a w2 ha hw => ⟨ha.sub ⟨rfl, rfl, rfl, rfl, rfl, rfl, trivial⟩, hw⟩
              · have hq48 := (bf hc)
                refine SP.isF (d := 35) rfl hq48 ?_
                refine SP.val (Val.move rfl) rfl rfl rfl ?_
                refine SP.val (Val.move rfl) rfl rfl rfl ?_
                obtain ⟨t49, hc, ho⟩ := bind_some (x := slices_ContainsFunc_flow_Loop_flow_Loop_s1.f loops_1 x31.Op x31.A x31.B x27) ho
                refine SP.callV see (caps := []) (.bool t49) fn48 rfl rfl rfl rfl (fun w2 hP hs sub ap => slices_ContainsFunc_flow_Loop_flow_Loop_s1.ok loops_1 x31.Op x31.A x31.B x27 _ _ _ _ hc w2 hP sub (ap.get 4 rfl) (ap.get 1 rfl) (ap.get 0 rfl)) ?_
                clear hc
                refine SP.val (Val.pickF rfl rfl) rfl rfl rfl ?_
                obtain rfl := Option.some.inj ho
                exact J fun a w2 ha hw => ⟨ha.sub ⟨rfl, rfl, rfl, rfl, rfl, rfl, trivial⟩, hw⟩
          · intro J
            by_cases hc : x31.A ≤ x27
            · have hq39 := (decide_eq_true hc)
              refine SP.isT (d := 28) rfl hq39 ?_
              refine SP.not rfl rfl rfl ?_
              refine SP.not rfl rfl rfl ?_
              refine SP.not rfl rfl rfl ?_
              refine SP.not rfl rfl rfl ?_
              refine SP.not rfl rfl rfl ?_
              refine SP.val (Val.pickT rfl rfl) rfl rfl rfl ?_
              exact J fun a w2 ha hw => ⟨ha.sub ⟨rfl, rfl, rfl, rfl, rfl, rfl, congrArg (fun z => some (Value.bool z)) (or_t hq39), trivial⟩, hw⟩
            · have hq39 := (decide_eq_false hc)
              refine SP.isF (d := 28) rfl hq39 ?_
              refine SP.val (Val.fieldAddr Tryd.underlying52 rfl sz3 rfl) rfl rfl rfl ?_
              refine SP.val (Val.load1 0 rfl Tryd.underlying3 rfl rfl rfl) rfl rfl rfl ?_
              refine SP.val (Val.move rfl) rfl rfl rfl ?_
              refine SP.val (Val.lenP see 1 rfl Tryd.underlying22 rfl) rfl rfl rfl ?_
              refine SP.val (Val.geq rfl rfl) rfl rfl rfl ?_
              refine SP.val (Val.pickF rfl rfl) rfl rfl rfl ?_
              exact J fun a w2 ha hw => ⟨ha.sub ⟨rfl, rfl, rfl, rfl, rfl, rfl, congrArg (fun z => some (Value.bool z)) (or_f hq39 rfl), trivial⟩, hw⟩
      · intro J
        by_cases hc : x31.Op ≠ 26
        · have hq37 := (decide_eq_true hc)
          refine SP.isT (d := 18) rfl hq37 ?_
          refine SP.val (Val.fieldAddr Tryd.underlying52 rfl sz5 rfl) rfl rfl rfl ?_
          refine SP.val (Val.load1 0 rfl Tryd.underlying5 rfl rfl rfl) rfl rfl rfl ?_
          refine SP.val (Val.neq rfl rfl) rfl rfl rfl ?_
          refine SP.val (Val.pickT rfl rfl) rfl rfl rfl ?_
          exact J fun a w2 ha hw => ⟨ha.sub ⟨rfl, rfl, rfl, rfl, rfl, rfl, rfl, congrArg (fun z => some (Value.bool z)) (and_t hq37 rfl), trivial⟩, hw⟩
        · have hq37 := (decide_eq_false hc)
          refine SP.isF (d := 18) rfl hq37 ?_
          refine SP.not rfl rfl rfl ?_
          refine SP.not rfl rfl rfl ?_
          refine SP.not rfl rfl rfl ?_
          refine SP.val (Val.pickF rfl rfl) rfl rfl rfl ?_
          exact J fun a w2 ha hw => ⟨ha.sub ⟨rfl, rfl, rfl, rfl, rfl, rfl, rfl, congrArg (fun z => some (Value.bool z)) (and_f hq37), trivial⟩, hw⟩
  · refine CP.condF rfl (decide_eq_false hc) ?_
    refine CP.exit ?_
    refine QE.thru (by intro e; cases e) ?_
    refine QE.thru (by intro e; cases e) ?_
    refine QE.blockE ?_
    refine QE.then ?_
    refine CP.seq ?_
    refine CP.region ?_
    refine SP.val (Val.assign rfl) rfl rfl rfl ?_
    refine SP.nil ?_
    refine QE.then ?_
    refine CP.ret ?_
    obtain rfl := Option.some.inj ho
    obtain rfl := Option.some.inj hr
    exact QE.rets (rs := [.tmp 4]) (vs := [.bool true]) Tryd.results31 rfl ⟨RVs.tmp rfl, trivial⟩ (fun w2 h => St.done (fun a b p s => rfl) h)
/-! ### slices.SortFunc[[]capstan/flow.Loop,capstan/flow.Loop]: function 32 -/
shelf_lay_g SlLaysF0.n6 Slsf 6 at Tryd 32 as Tryd.sort32
shelf_lay_g SlLaysC2.n5 Slgc 5 at Tryd 34 as Tryd.cmp34
shelf_lay Lays.n125 Nm 125 at Tryd as Tryd.bitsLen50
instance : Inhabited flow_Loop := ⟨flow_Loop.zero⟩
def enc32 (x : flow_Loop) : List Value := [.int .i64 x.From, .int .i64 x.To, .int .i64 x.Turns]
def cf32 (x y : flow_Loop) : Int := Lib.compareInt x.From y.From
theorem lt32 (x y : flow_Loop) : Go.Proofs.ltOf cf32 x y = decide (x.From < y.From) := by
  unfold Go.Proofs.ltOf cf32 Lib.compareInt
  by_cases h1 : x.From < y.From
  · simp [h1]
  · by_cases h2 : y.From < x.From <;> simp [h1, h2]
theorem swo32 : Go.Sort.SWO (Go.Proofs.ltOf cf32) where
  irrefl x := by rw [lt32]; simp
  trans x y z h1 h2 := by rw [lt32] at *; simp at *; omega
  ntrans x y z h1 h2 := by rw [lt32] at *; simp at *; omega
set_option maxHeartbeats 1000000 in
theorem clos32 (x y : flow_Loop) (W : World) : Calls Tryd.prog 33 #[.agg (enc32 x).toArray, .agg (enc32 y).toArray] W fun e w' => e = .returned (.int .i64 (cf32 x y)) ∧ ∃ q os', w' = Go.Sort.grow (W.drewN q) os' := by
  have hcon := fun W' => Go.Proofs.AnyG.cmp_Compare_int Tryd.cmp34 x.From y.From W'
  change ∀ W', Calls Tryd.prog 34 _ _ _ at hcon
  unfold cf32 enc32
  generalize Lib.compareInt x.From y.From = r at hcon ⊢
  go_enter Tryd.func33, Tryd.ntmps33
  go_wp2_with (go_at_call 34; refine (hcon _).mono ?_; rintro e w' ⟨rfl, rfl⟩)
  go_ret
  exact ⟨rfl, 0, _, by rw [Go.Sort.alloc_eq_grow, Go.Sort.alloc_eq_grow, Go.Sort.grow_grow]; rfl⟩
/-- The library's sort, of a plain row. -/
def srt32 (d : Array flow_Loop) : Array flow_Loop := Go.Sort.pdq (Go.Proofs.ltOf cf32) d 0 d.size (Lib.bitLen d.size) true true
theorem srt32_sorts (d : Array flow_Loop) : Go.Sort.PermIn 0 d.size d (srt32 d) ∧ Go.Sort.SortedIn (Go.Proofs.ltOf cf32) 0 d.size (srt32 d) :=
  Go.Sort.pdq_sorts (Go.Proofs.ltOf cf32) swo32 d 0 d.size (Lib.bitLen d.size) true true (Nat.zero_le _) (Nat.le_refl _) (Or.inl rfl)
theorem ins32_nil (F : Value) (w : World) : Calls Tryd.prog 58 #[.slice none 0 0, .int .i64 0, .int .i64 0, F] w fun e w' => e = .returned (.tuple #[]) ∧ w' = w := by
  go_enter Tryd.func58, Tryd.ntmps58
  go_wp2
  refine wp_loop_rounds 1 ?_
  rw [rounds_succ]
  go_wp2
  go_end0
  exact ⟨rfl, rfl⟩
theorem pdq32_nil (F : Value) (w : World) : Calls Tryd.prog 49 #[.slice none 0 0, .int .i64 0, .int .i64 0, .int .i64 0, F] w fun e w' => e = .returned (.tuple #[]) ∧ w' = w := by
  have hi := ins32_nil F w
  go_enter Tryd.func49, Tryd.ntmps49
  go_wp2
  refine wp_loop_rounds 1 ?_
  rw [rounds_succ]
  go_wp2_with (go_at_call 58; refine hi.mono ?_; rintro e w' ⟨rfl, rfl⟩)
  (try simp only [Exit.inBlock, Exit.then]); refine bodyPost_ret (results_none rfl _ _ _) rfl ?_
  exact ⟨rfl, rfl⟩
theorem srt32_nil (F : Value) (w : World) : Calls Tryd.prog 32 #[.slice none 0 0, F] w fun e w' => e = .returned (.tuple #[]) ∧ w' = w := by
  have hi := pdq32_nil F w
  have hl : Calls Tryd.prog 50 #[.int .u64 0] w fun e w' => e = .returned (.int .i64 0) ∧ w' = w := by
    have h := Any.bits_Len Tryd.bitsLen50 0 w (by omega) (by omega)
    exact h
  go_enter Tryd.func32, Tryd.ntmps32
  go_wp2_with (first | (go_at_call 50; refine hl.mono ?_; rintro e w' ⟨rfl, rfl⟩) | (go_at_call 49; refine hi.mono ?_; rintro e w' ⟨rfl, rfl⟩))
  go_end0
  exact ⟨rfl, rfl⟩
theorem srt32_nilT (F : Value) (w : World) (hV : Hp) : Trip Tryd.prog 32 #[.slice none 0 0, F] em hV w (fun v => HO.pure (v = .tuple #[])) :=
  (srt32_nil F w).mono fun e w' ⟨he, hw⟩ => by
    subst hw
    exact ⟨_, he, Met.refl _, fun _ _ e _ => e, em, em, fun _ _ _ => rfl, fun _ _ _ => rfl, Dj.em_left _, Sub.em _, Sub.em _, rfl⟩
/-- A row of one's own, sorted where it lies. -/
theorem srt32_trip {v : Value} {l : List flow_Loop} (hll : l.length < 4611686018427387904) {w : World} {hP h1 : Hp} (sub : Sub hP (hp w)) (s1 : Sub h1 (hp w)) (dj : Dj hP h1) (hI : (slO k_flow_Loop 40 v l).p hP h1) :
    Trip Tryd.prog 32 #[v, .func (.func 33) #[] #[]] h1 hP w (fun r => HO.pand (r = .tuple #[]) (HO.seps [slO k_flow_Loop 40 v (srt32 l.toArray).toList])) := by
  refine slO.rowTrip (fun v => #[v, .func (.func 33) #[] #[]]) (fun _ => .tuple #[]) enc32 (fun h cs x => Iff.rfl) srt32 (fun d => (srt32_sorts d).1.1) (fun blk cap d w hH hb hsz _ _ => ?_) (fun _ w hV sV => ?_) hll sub s1 dj hI
  · exact AnyQ.slices_SortFunc_eq Tryd.sort32 3 Tryd.isAgg40 Tryd.sizeOf40 enc32 (fun _ => rfl) (fun x v hv => by simp [enc32] at hv; rcases hv with rfl | rfl | rfl <;> rfl) cf32 swo32 33 #[] blk 0 cap d w (enters_of Tryd.func33 (by kernel_rfl) rfl) (fun _ _ _ _ x y => clos32 x y _) hH hb hsz
  · exact srt32_nilT _ w hV


/-! ### capstan/flow.Loops: function 11 -/
inductive flow_Loops.S where
  | start
  | l1 (l52 : List Int) (x53 : Int) (l55 : List flow_Loop) (x57 : Int)

def flow_Loops.j1 (l_0 : (List api_Instr))  : Option (flow_Loops.S ⊕ ((List flow_Loop) × Int)) :=
  some (.inr ([], 90))

def flow_Loops.j2 (l_0 : (List api_Instr)) (x57 : Int) (l80 : List Int) (x81 : Int) (l83 : List flow_Loop) : Option (flow_Loops.S ⊕ ((List flow_Loop) × Int)) :=
  some (.inl (.l1 l80 x81 l83 (IntKind.i64.wrap (x57 + 1))))

def flow_Loops.F (l_0 : (List api_Instr)) : flow_Loops.S → Option (flow_Loops.S ⊕ ((List flow_Loop) × Int))
  | .start => (if ((decide ((l_0.length : Int) = 0)) || (decide ((l_0.length : Int) > 200))) = true then (some true) else ((slices_ContainsFunc_api_Instr_api_Instr_s1.f l_0).bind fun t6 => some t6)).bind fun t7 => if t7 = true then (some (.inr ([], 40))) else (some (.inl (.l1 (List.replicate 4 0 : List Int) 0 [] 0)))
  | .l1 l52 x53 l55 x57 => if x57 < (l_0.length : Int) then ((elt l_0 x57).bind fun x61 => if x61.Op = 28 then ((flow_open_push_s2.f l52 x53 x57).bind fun t64 => if (!t64.1) = true then (flow_Loops.j1 l_0) else (flow_Loops.j2 l_0 x57 t64.2.1 t64.2.2 l55)) else (if x61.Op = 29 then ((flow_open_pop_s2.f l52 x53 x61.A).bind fun t65 => if (!t65.1) = true then (flow_Loops.j1 l_0) else ((elt l_0 x61.A).bind fun x68 => if (l55.length + [(⟨x61.A, x57, x68.A⟩ : flow_Loop)].length) * 24 ≤ 140737488355328 then (flow_Loops.j2 l_0 x57 t65.2.1 t65.2.2 (l55 ++ [(⟨x61.A, x57, x68.A⟩ : flow_Loop)])) else none)) else (flow_Loops.j2 l_0 x57 l52 x53 l55))) else ((if x53 > 0 then (some true) else ((elt l_0 (IntKind.i64.wrap ((l_0.length : Int) - 1))).bind fun x90 => (flow_last.f x90).bind fun t91 => some (!t91))).bind fun t92 => (if t92 = true then (some true) else ((flow_jumps.f l_0 l55).bind fun t95 => some (!t95))).bind fun t96 => if t96 = true then (flow_Loops.j1 l_0) else (if l55.length < 4611686018427387904 then (some (.inr ((srt32 l55.toArray).toList, 0))) else none))

def flow_Loops.f (l_0 : (List api_Instr)) : Option ((List flow_Loop) × Int) := runF (flow_Loops.F l_0) .start
theorem flow_Loops.ok (l_0 : (List api_Instr)) (v_l_0 : Value)  (r : (List flow_Loop) × Int) (H : flow_Loops.f l_0 = some r) (w : World) (hV : Hp) (sV : Sub hV (hp w)) (h0 : slR k_api_Instr hV v_l_0 l_0) (h1 : (arrP k_arr88 0 tab0).p hV) :
    Trip Tryd.prog 11 [v_l_0].toArray em hV w (fun v => HO.ex fun u0 : Value => HO.pand (v = .tuple #[u0, .int .i64 r.2]) (HO.seps [slO k_flow_Loop 40 u0 r.1])) := by
  have see : Sees w em hV := ⟨sV, Dj.em_right _⟩
  refine Trip.of (P := Tryd.prog) (n := ⟨76, []⟩) Tryd.func11 rfl ⟨rfl, rfl⟩ rfl (St.begin (All.cons (x := slP k_api_Instr v_l_0 l_0) h0 (All.cons (x := arrP k_arr88 0 tab0) h1 (All.nil _)))) ?_
  obtain ⟨n0, hi⟩ := runF_iff.1 H
  obtain ⟨m0, o, hm0, ho, hr⟩ := iter_some hi
  clear hi
  refine CP.seq ?_
  refine CP.region ?_
  refine SP.val (Val.assign rfl) rfl rfl rfl ?_
  refine SP.val (Val.assign rfl) rfl rfl rfl ?_
  refine SP.nil ?_
  refine QE.then ?_
  refine CP.scope 0 (fun a w2 => ∃ (m107 : Nat) (o : (flow_Loops.S ⊕ ((List flow_Loop) × Int))), m107 ≤ m0 ∧ flow_Loops.j1 l_0 = some o ∧ next (flow_Loops.F l_0) m107 o = some r ∧ Env ⟨76, []⟩ [] a ∧ St w em hV [arrP k_arr88 0 tab0] [] w2) rfl (fun _ _ _ h => h) ?_ ?_
  · rintro a w2 ⟨m107, o, hm_m107, ho, hr, ha, hw⟩
    refine CP.app ha hw ?_
    clear ha hw a w2
    refine CP.seq ?_
    refine CP.skip ?_
    refine QE.then ?_
    refine CP.seq ?_
    refine CP.region ?_
    refine SP.val (Val.assign rfl) rfl rfl rfl ?_
    refine SP.val (Val.assign rfl) rfl rfl rfl ?_
    refine SP.nil ?_
    refine QE.then ?_
    refine CP.ret ?_
    obtain rfl := Option.some.inj ho
    obtain rfl := Option.some.inj hr
    exact QE.rets (rs := [.tmp 2, .tmp 3]) (vs := [(.slice none 0 0), .int .i64 90]) Tryd.results11 rfl ⟨RVs.tmp rfl, RVs.tmp rfl, trivial⟩ (fun w2 h => St.done (fun a b p s => ⟨_, rfl, s⟩) (St.selO [0] rfl rfl (St.addO (slO.nil k_flow_Loop 40) h)))
  · refine CP.seq ?_
    refine CP.seq ?_
    refine CP.region ?_
    refine SP.val (Val.move rfl) rfl rfl rfl ?_
    refine SP.val (Val.lenP see 0 rfl Tryd.underlying22 rfl) rfl rfl rfl ?_
    refine SP.val (Val.eql rfl rfl) rfl rfl rfl ?_
    refine SP.val (Val.move rfl) rfl rfl rfl ?_
    refine SP.join 4 (fun a w2 => Env ⟨76, []⟩ [(0, v_l_0), (15, .bool ((decide ((l_0.length : Int) = 0)) || (decide ((l_0.length : Int) > 200))))] a ∧ St w em hV [slP k_api_Instr v_l_0 l_0, arrP k_arr88 0 tab0] [] w2) ?_ ?_
    · rintro a w2 ⟨ha, hw⟩
      refine SP.app ha hw ?_
      clear ha hw a w2
      refine SP.val (Val.move rfl) rfl rfl rfl ?_
      obtain ⟨t7, hg_t7, ho⟩ := bind_some ho
      refine SP.join 3 (fun a w2 => Env ⟨76, []⟩ [(0, v_l_0), (19, .bool t7)] a ∧ St w em hV [slP k_api_Instr v_l_0 l_0, arrP k_arr88 0 tab0] [] w2) ?_ ?_
      · rintro a w2 ⟨ha, hw⟩
        refine SP.app ha hw ?_
        clear ha hw a w2 hg_t7
        refine SP.nil ?_
        refine QE.then ?_
        rcases if_some ho with ⟨hc, ho⟩ | ⟨hc, ho⟩
        · refine CP.condT rfl hc ?_
          refine CP.seq ?_
          refine CP.region ?_
          refine SP.val (Val.assign rfl) rfl rfl rfl ?_
          refine SP.val (Val.assign rfl) rfl rfl rfl ?_
          refine SP.nil ?_
          refine QE.then ?_
          refine CP.ret ?_
          refine QE.thru (by intro e; cases e) ?_
          refine QE.scopeX rfl ?_
          obtain rfl := Option.some.inj ho
          obtain rfl := Option.some.inj hr
          exact QE.rets (rs := [.tmp 2, .tmp 3]) (vs := [(.slice none 0 0), .int .i64 40]) Tryd.results11 rfl ⟨RVs.tmp rfl, RVs.tmp rfl, trivial⟩ (fun w2 h => St.done (fun a b p s => ⟨_, rfl, s⟩) (St.selO [0] rfl rfl (St.addO (slO.nil k_flow_Loop 40) h)))
        · refine CP.condF rfl (bf hc) ?_
          refine CP.skip ?_
          refine QE.then ?_
          refine CP.seq ?_
          refine CP.region ?_
          refine SP.val (Val.assign rfl) rfl rfl rfl ?_
          refine SP.nil ?_
          refine QE.then ?_
          refine CP.seq ?_
          refine CP.region ?_
          refine SP.alloc (cs := [.int .i64 0, .int .i64 0, .int .i64 0, .int .i64 0, .int .i64 0]) inf63 rfl rfl (fun b9 => ?_)
          refine SP.nil ?_
          refine QE.then ?_
          refine CP.seq ?_
          refine CP.seq ?_
          refine CP.region ?_
          refine SP.val (Val.move rfl) rfl rfl rfl ?_
          refine SP.val (Val.lenP see 0 rfl Tryd.underlying22 rfl) rfl rfl rfl ?_
          refine SP.val (Val.move rfl) rfl rfl rfl ?_
          refine SP.nil ?_
          refine QE.then ?_
          refine CP.block ?_
          obtain rfl := Option.some.inj ho
          refine CP.loop (fun cl1 a w2 => ∃ l52 : List Int, ∃ x53 : Int, ∃ l55 : List flow_Loop, ∃ x57 : Int, ∃ v56 : Value, cl1 ≤ m0 ∧ iter (flow_Loops.F l_0) cl1 (.l1 l52 x53 l55 x57) = some r ∧ Env ⟨76, []⟩ [(0, v_l_0), (4, v56), (5, .pointer (some ⟨b9, 0, none⟩)), (20, v_l_0), (21, .int .i64 (l_0.length : Int)), (22, .int .i64 x57)] a ∧ St w em hV [slP k_api_Instr v_l_0 l_0, arrP k_arr88 0 tab0] [slO k_flow_Loop 40 v56 l55, arrO b9 [] (fun z : Int => Value.int .i64 z) 4 l52 [.int .i64 x53] 63] w2) m0 (fun a w2 ha hw => ⟨(List.replicate 4 0 : List Int), 0, [], 0, (.slice none 0 0), Nat.le_refl _, hr, ha.sub ⟨rfl, rfl, rfl, rfl, rfl, rfl, trivial⟩, (St.addO (slO.nil k_flow_Loop 40) (St.arr (f := (fun z : Int => Value.int .i64 z)) 0 rfl (List.replicate 4 0 : List Int) [] [.int .i64 0] rfl rfl hw))⟩) ?_
          clear hr
          rintro cl1 a w2 ⟨l52, x53, l55, x57, v56, hc_l1, hi, ha, hw⟩
          obtain ⟨m58, o, hm_m58, ho, hr⟩ := iter_some hi
          refine CP.app ha hw ?_
          clear ha hw a w2 hi
          refine CP.seq ?_
          refine CP.region ?_
          refine SP.val (Val.lss rfl rfl) rfl rfl rfl ?_
          refine SP.nil ?_
          refine QE.then ?_
          refine CP.seq ?_
          rcases if_some ho with ⟨hc, ho⟩ | ⟨hc, ho⟩
          · refine CP.condT rfl (decide_eq_true hc) ?_
            refine CP.skip ?_
            refine QE.then ?_
            refine CP.join (fun a w2 => ∃ l80 : List Int, ∃ x81 : Int, ∃ l83 : List flow_Loop, ∃ v84 : Value, ∃ (m85 : Nat) (o : (flow_Loops.S ⊕ ((List flow_Loop) × Int))), m85 ≤ m58 ∧ flow_Loops.j2 l_0 x57 l80 x81 l83 = some o ∧ next (flow_Loops.F l_0) m85 o = some r ∧ Env ⟨76, []⟩ [(0, v_l_0), (4, v84), (5, .pointer (some ⟨b9, 0, none⟩)), (20, v_l_0), (21, .int .i64 (l_0.length : Int)), (22, .int .i64 x57)] a ∧ St w em hV [slP k_api_Instr v_l_0 l_0, arrP k_arr88 0 tab0] [slO k_flow_Loop 40 v84 l83, arrO b9 [] (fun z : Int => Value.int .i64 z) 4 l80 [.int .i64 x81] 63] w2) ?_ ?_
            · rintro a w2 ⟨l80, x81, l83, v84, m85, o, hm_m85, ho, hr, ha, hw⟩
              refine CP.app ha hw ?_
              clear ha hw a w2
              refine CP.region ?_
              refine SP.val (Val.add rfl rfl) rfl rfl rfl ?_
              refine SP.val (Val.move rfl) rfl rfl rfl ?_
              refine SP.nil ?_
              obtain rfl := Option.some.inj ho
              exact QE.lower m85 (by omega) fun a w2 ha hw => ⟨l80, x81, l83, (IntKind.i64.wrap (x57 + 1)), v84, (by omega), hr, ha.sub ⟨rfl, rfl, rfl, rfl, rfl, rfl, trivial⟩, hw⟩
            · refine CP.block ?_
              refine CP.seq ?_
              refine CP.region ?_
              refine SP.val (Val.move rfl) rfl rfl rfl ?_
              obtain ⟨x61, hx, ho⟩ := bind_some ho
              have hx := elt_some hx
              refine SP.indexP see 0 rfl Tryd.underlying22 sz52 hx.1 hx.2 rfl rfl rfl rfl (fun p59 => ?_)
              clear hx
              refine k_api_Instr.load see 0 rfl Tryd.underlying52 rfl sz52 rfl rfl rfl ?_
              refine SP.alloc (cs := [.int .u8 0, .int .i64 0, .int .i64 0]) inf52 rfl rfl (fun b62 => ?_)
              refine SP.val (Val.assign rfl) rfl rfl rfl ?_
              refine SP.store (v := .agg #[.int .u8 x61.Op, .int .i64 x61.A, .int .i64 x61.B]) (vs := [.int .u8 x61.Op, .int .i64 x61.A, .int .i64 x61.B]) 0 (by rfl) sz52 (by rfl) (by rfl) (by rfl) (by rfl) (by rfl) (by rfl) ?_
              refine SP.nil ?_
              refine QE.then ?_
              refine CP.seq ?_
              refine CP.region ?_
              refine SP.val (Val.fieldAddr Tryd.underlying52 rfl sz5 rfl) rfl rfl rfl ?_
              refine SP.val (Val.load1 0 rfl Tryd.underlying5 rfl rfl rfl) rfl rfl rfl ?_
              refine SP.nil ?_
              refine QE.then ?_
              refine CP.block ?_
              refine CP.seq ?_
              refine CP.region ?_
              refine SP.val (Val.eql rfl rfl) rfl rfl rfl ?_
              refine SP.val (Val.assign rfl) rfl rfl rfl ?_
              refine SP.nil ?_
              refine QE.then ?_
              rcases if_some ho with ⟨hc, ho⟩ | ⟨hc, ho⟩
              · refine CP.condT rfl (decide_eq_true hc) ?_
                refine CP.seq ?_
                refine CP.region ?_
                refine SP.val (Val.move rfl) rfl rfl rfl ?_
                refine SP.imp (fun w2 hw => St.selO [2, 0, 1] rfl rfl hw) ?_
                obtain ⟨t64, hc, ho⟩ := bind_some (x := flow_open_push_s2.f l52 x53 x57) ho
                refine SP.callA see (caps := []) (X := arrO b9 [] (fun z : Int => Value.int .i64 z) 4 l52 [.int .i64 x53] 63) _ fn28 rfl rfl rfl rfl (fun w2 hP h1 sub s1 d1 ap hI => flow_open_push_s2.ok l52 x53 x57  _ hc w2 hP sub  _ h1 s1 d1 hI) (fun vr => ?_)
                refine SP.have (fun w2 h => (St.pand h).1.symm) (fun er => ?_)
                subst er
                refine SP.imp (fun w2 h => St.seps (St.pand h).2) ?_
                clear hc
                refine SP.val (Val.notB rfl) rfl rfl rfl ?_
                refine SP.nil ?_
                refine QE.then ?_
                rcases if_some ho with ⟨hc, ho⟩ | ⟨hc, ho⟩
                · refine CP.condT rfl hc ?_
                  refine CP.goto ?_
                  refine QE.blockG ?_
                  refine QE.blockG ?_
                  refine QE.thru (by intro e; cases e) ?_
                  refine QE.thru (by intro e; cases e) ?_
                  refine QE.blockG ?_
                  refine QE.thru (by intro e; cases e) ?_
                  exact QE.jump fun a w2 ha hw => ⟨m58, _, (by omega), ho, hr, ha.sub trivial, (St.selP [2] rfl (St.selO [] rfl rfl hw))⟩
                · refine CP.condF rfl (bf hc) ?_
                  refine CP.skip ?_
                  refine QE.blockN ?_
                  refine QE.blockN ?_
                  exact QE.meet fun a w2 ha hw => ⟨t64.2.1, t64.2.2, l55, v56, m58, _, (by omega), ho, hr, ha.sub ⟨rfl, rfl, rfl, rfl, rfl, rfl, trivial⟩, (St.selP [1, 2] rfl (St.selO [2, 0] rfl rfl hw))⟩
              · refine CP.condF rfl (decide_eq_false hc) ?_
                refine CP.seq ?_
                refine CP.region ?_
                refine SP.val (Val.eql rfl rfl) rfl rfl rfl ?_
                refine SP.val (Val.assign rfl) rfl rfl rfl ?_
                refine SP.nil ?_
                refine QE.then ?_
                rcases if_some ho with ⟨hc, ho⟩ | ⟨hc, ho⟩
                · refine CP.condT rfl (decide_eq_true hc) ?_
                  refine CP.seq ?_
                  refine CP.seq ?_
                  refine CP.region ?_
                  refine SP.val (Val.fieldAddr Tryd.underlying52 rfl sz3 rfl) rfl rfl rfl ?_
                  refine SP.val (Val.load1 0 rfl Tryd.underlying3 rfl rfl rfl) rfl rfl rfl ?_
                  refine SP.imp (fun w2 hw => St.selO [2, 0, 1] rfl rfl hw) ?_
                  obtain ⟨t65, hc, ho⟩ := bind_some (x := flow_open_pop_s2.f l52 x53 x61.A) ho
                  refine SP.callA see (caps := []) (X := arrO b9 [] (fun z : Int => Value.int .i64 z) 4 l52 [.int .i64 x53] 63) _ fn29 rfl rfl rfl rfl (fun w2 hP h1 sub s1 d1 ap hI => flow_open_pop_s2.ok l52 x53 x61.A  _ hc w2 hP sub  _ h1 s1 d1 hI) (fun vr => ?_)
                  refine SP.have (fun w2 h => (St.pand h).1.symm) (fun er => ?_)
                  subst er
                  refine SP.imp (fun w2 h => St.seps (St.pand h).2) ?_
                  clear hc
                  refine SP.val (Val.notB rfl) rfl rfl rfl ?_
                  refine SP.nil ?_
                  refine QE.then ?_
                  rcases if_some ho with ⟨hc, ho⟩ | ⟨hc, ho⟩
                  · refine CP.condT rfl hc ?_
                    refine CP.goto ?_
                    refine QE.thru (by intro e; cases e) ?_
                    refine QE.blockG ?_
                    refine QE.blockG ?_
                    refine QE.thru (by intro e; cases e) ?_
                    refine QE.thru (by intro e; cases e) ?_
                    refine QE.blockG ?_
                    refine QE.thru (by intro e; cases e) ?_
                    exact QE.jump fun a w2 ha hw => ⟨m58, _, (by omega), ho, hr, ha.sub trivial, (St.selP [2] rfl (St.selO [] rfl rfl hw))⟩
                  · refine CP.condF rfl (bf hc) ?_
                    refine CP.skip ?_
                    refine QE.then ?_
                    refine CP.drawA (by kernel_rfl) (fun w2 k h => h.drawn k) ?_
                    obtain ⟨x68, hx, ho⟩ := bind_some ho
                    have hx := elt_some hx
                    refine DA.ghost (fun w2 h => h.elem see 1 rfl hx.1 hx.2) (fun p66 h_p66 => ?_)
                    clear hx
                    refine DA.ghost (fun w2 h => h.fieldE see 0 rfl k_api_Instr.part_A) (fun p69 h_p69 => ?_)
                    refine DA.ghost (fun w2 h => h.openE see 0 rfl (fun _ : Unit => [.int .i64 x68.A]) (fun _ => []) (fun h cs e => ⟨(), e, All.nil _⟩)) (fun _ _ => ?_)
                    refine DA.phase (fun i => Nat.ble 0 i && Nat.blt i 12) (fun w2 => St w em hV [atP p69 [.int .i64 x68.A], elP (kInt .i64) p69 x68.A, elP k_api_Instr p66 x68, elP k_api_Instr p59 x61, slP k_api_Instr v_l_0 l_0, arrP k_arr88 0 tab0] [arrO b9 [] (fun z : Int => Value.int .i64 z) 4 t65.2.1 [.int .i64 t65.2.2] 63, boxO b62 [.int .u8 x61.Op, .int .i64 x61.A, .int .i64 x61.B] 52, slO k_flow_Loop 40 v56 l55] w2) ?_
                    refine DT.take 0 rfl rfl rfl rfl (by kernel_rfl) (fun _ _ _ h => h) (Val.move rfl) (fun w2 hw => hw) ?_
                    refine DT.take 1 rfl rfl rfl rfl (by kernel_rfl) (fun _ _ _ h => h) (Val.fieldAddr Tryd.underlying52 rfl sz3 rfl) (fun w2 hw => hw) ?_
                    refine DT.take 2 rfl rfl rfl rfl (by kernel_rfl) (fun _ _ _ h => h) (Val.load1 1 rfl Tryd.underlying3 rfl rfl rfl) (fun w2 hw => hw) ?_
                    refine DT.take 3 rfl rfl rfl rfl (by kernel_rfl) (fun _ _ _ h => h) (Val.move rfl) (fun w2 hw => hw) ?_
                    refine DT.take 4 rfl rfl rfl rfl (by kernel_rfl) (fun _ _ _ h => h) (Val.move rfl) (fun w2 hw => hw) ?_
                    refine DT.take 5 rfl rfl rfl rfl (by kernel_rfl) (fun _ _ _ h => h) (Val.fieldAddr Tryd.underlying52 rfl sz3 rfl) (fun w2 hw => hw) ?_
                    refine DT.take 6 rfl rfl rfl rfl (by kernel_rfl) (fun _ _ _ h => h) (Val.load1 1 rfl Tryd.underlying3 rfl rfl rfl) (fun w2 hw => hw) ?_
                    refine DT.take 7 rfl rfl rfl rfl (by kernel_rfl) (fun _ _ _ h => h) (Val.indexE h_p66 Tryd.underlying22 sz52 rfl rfl) (fun w2 hw => hw) ?_
                    refine DT.take 8 rfl rfl rfl rfl (by kernel_rfl) (fun _ _ _ h => h) (Val.fieldE h_p69 Tryd.underlying52 rfl rfl sz3 rfl) (fun w2 hw => hw) ?_
                    refine DT.take 9 rfl rfl rfl rfl (by kernel_rfl) (fun _ _ _ h => h) (Val.loadAt1 see 0 rfl Tryd.underlying3 rfl rfl) (fun w2 hw => hw) ?_
                    refine DT.take 10 rfl rfl rfl rfl (by kernel_rfl) (fun _ _ _ h => h) (Val.buildC (us := [(0, .int .i64 x61.A), (1, .int .i64 x57), (2, .int .i64 x68.A)]) (ucs := [(0, [.int .i64 x61.A]), (1, [.int .i64 x57]), (2, [.int .i64 x68.A])]) (cs := [.int .i64 x61.A, .int .i64 x57, .int .i64 x68.A]) bt40 rfl rfl ⟨rfl, rfl, ⟨rfl, rfl, ⟨rfl, rfl, trivial⟩⟩⟩ (by rfl)) (fun w2 hw => hw) ?_
                    refine DT.one 11 rfl (by kernel_rfl) rfl ?_
                    refine SP.lit (k := k_flow_Loop) (xs := [(⟨x61.A, x57, x68.A⟩ : flow_Loop)]) (vs := [.agg #[.int .i64 x61.A, .int .i64 x57, .int .i64 x68.A]]) (cells := [.int .i64 x61.A, .int .i64 x57, .int .i64 x68.A]) Tryd.underlying30 inf40 rfl rfl rfl rfl rfl rfl rfl rfl (fun _ ap => ⟨[.int .i64 x61.A, .int .i64 x57, .int .i64 x68.A], _, rfl, rfl, rfl⟩) rfl rfl rfl (fun v76 => ?_)
                    refine SP.nil ?_
                    refine QE.atT (fun w2 hw => (St.selO [1, 2, 3] rfl rfl hw)) ?_
                    refine DT.next (by kernel_rfl) ?_
                    refine DA.one 12 rfl (by kernel_rfl) ?_
                    refine SP.freezeS see 0 rfl ?_
                    obtain ⟨hb, ho⟩ := must_some ho
                    refine SP.append see 2 rfl 0 rfl Tryd.underlying30 inf40 rfl rfl hb rfl rfl rfl rfl rfl (fun v78 => ?_)
                    clear hb
                    refine SP.nil ?_
                    refine QE.atA ?_
                    refine DA.one 13 rfl (by kernel_rfl) ?_
                    refine SP.val (Val.assign rfl) rfl rfl rfl ?_
                    refine SP.nil ?_
                    refine QE.atA ?_
                    refine DA.done (by kernel_rfl) ?_
                    refine QE.blockN ?_
                    refine QE.blockN ?_
                    exact QE.meet fun a w2 ha hw => ⟨t65.2.1, t65.2.2, (l55 ++ [(⟨x61.A, x57, x68.A⟩ : flow_Loop)]), v78, m58, _, (by omega), ho, hr, ha.sub ⟨rfl, rfl, rfl, rfl, rfl, rfl, trivial⟩, (St.selP [5, 6] rfl (St.selO [2, 0] rfl rfl hw))⟩
                · refine CP.condF rfl (decide_eq_false hc) ?_
                  refine CP.skip ?_
                  refine QE.blockN ?_
                  refine QE.blockN ?_
                  exact QE.meet fun a w2 ha hw => ⟨l52, x53, l55, v56, m58, _, (by omega), ho, hr, ha.sub ⟨rfl, rfl, rfl, rfl, rfl, rfl, trivial⟩, (St.selP [1, 2] rfl (St.selO [1, 2] rfl rfl hw))⟩
          · refine CP.condF rfl (decide_eq_false hc) ?_
            refine CP.exit ?_
            refine QE.thru (by intro e; cases e) ?_
            refine QE.thru (by intro e; cases e) ?_
            refine QE.blockE ?_
            refine QE.then ?_
            refine CP.seq ?_
            refine CP.seq ?_
            refine CP.region ?_
            refine SP.val (Val.fieldAddr Tryd.underlying63 rfl sz3 rfl) rfl rfl rfl ?_
            refine SP.val (Val.loadArrPost (k := 0) 1 rfl Tryd.underlying3 rfl rfl rfl rfl) rfl rfl rfl ?_
            refine SP.val (Val.gtr rfl rfl) rfl rfl rfl ?_
            refine SP.val (Val.move rfl) rfl rfl rfl ?_
            obtain ⟨t92, hg_t92, ho⟩ := bind_some ho
            refine SP.join 9 (fun a w2 => Env ⟨76, []⟩ [(0, v_l_0), (4, v56), (66, .bool t92)] a ∧ St w em hV [slP k_api_Instr v_l_0 l_0, arrP k_arr88 0 tab0] [slO k_flow_Loop 40 v56 l55, arrO b9 [] (fun z : Int => Value.int .i64 z) 4 l52 [.int .i64 x53] 63] w2) ?_ ?_
            · rintro a w2 ⟨ha, hw⟩
              refine SP.app ha hw ?_
              clear ha hw a w2 hg_t92
              refine SP.val (Val.move rfl) rfl rfl rfl ?_
              obtain ⟨t96, hg_t96, ho⟩ := bind_some ho
              refine SP.join 5 (fun a w2 => Env ⟨76, []⟩ [(4, v56), (72, .bool t96)] a ∧ St w em hV [slP k_api_Instr v_l_0 l_0, arrP k_arr88 0 tab0] [slO k_flow_Loop 40 v56 l55, arrO b9 [] (fun z : Int => Value.int .i64 z) 4 l52 [.int .i64 x53] 63] w2) ?_ ?_
              · rintro a w2 ⟨ha, hw⟩
                refine SP.app ha hw ?_
                clear ha hw a w2 hg_t96
                refine SP.nil ?_
                refine QE.then ?_
                rcases if_some ho with ⟨hc, ho⟩ | ⟨hc, ho⟩
                · refine CP.condT rfl hc ?_
                  refine CP.goto ?_
                  refine QE.thru (by intro e; cases e) ?_
                  exact QE.jump fun a w2 ha hw => ⟨m58, _, (by omega), ho, hr, ha.sub trivial, (St.selP [1] rfl (St.selO [] rfl rfl hw))⟩
                · refine CP.condF rfl (bf hc) ?_
                  refine CP.skip ?_
                  refine QE.then ?_
                  refine CP.seq ?_
                  refine CP.region ?_
                  refine SP.val (Val.move rfl) rfl rfl rfl ?_
                  obtain ⟨hb, ho⟩ := must_some ho
                  refine SP.callA see (caps := []) (X := slO k_flow_Loop 40 v56 l55) (fun r => HO.pand (r = .tuple #[]) (HO.seps [slO k_flow_Loop 40 v56 ((srt32 l55.toArray).toList)])) fn32 rfl rfl rfl rfl (fun w2 hP h1 sub s1 d1 ap hI => srt32_trip hb sub s1 d1 hI) (fun vr => ?_)
                  refine SP.have (fun w2 h => (St.pand h).1.symm) (fun er => ?_)
                  subst er
                  refine SP.imp (fun w2 h => St.seps (St.pand h).2) ?_
                  clear hb
                  refine SP.nil ?_
                  refine QE.then ?_
                  refine CP.seq ?_
                  refine CP.seq ?_
                  refine CP.region ?_
                  refine SP.val (Val.move rfl) rfl rfl rfl ?_
                  refine SP.val (Val.assign rfl) rfl rfl rfl ?_
                  refine SP.val (Val.assign rfl) rfl rfl rfl ?_
                  refine SP.nil ?_
                  refine QE.then ?_
                  refine CP.ret ?_
                  refine QE.thru (by intro e; cases e) ?_
                  refine QE.scopeX rfl ?_
                  obtain rfl := Option.some.inj ho
                  obtain rfl := Option.some.inj hr
                  exact QE.rets (rs := [.tmp 2, .tmp 3]) (vs := [v56, .int .i64 0]) Tryd.results11 rfl ⟨RVs.tmp rfl, RVs.tmp rfl, trivial⟩ (fun w2 h => St.done (fun a b p s => ⟨_, rfl, s⟩) (St.selO [0] rfl rfl h))
              · intro J
                clear ho
                have ho := hg_t96
                clear hg_t96
                rcases if_some ho with ⟨hc, ho⟩ | ⟨hc, ho⟩
                · have hq94 := hc
                  refine SP.isT (d := 67) rfl hq94 ?_
                  refine SP.not rfl rfl rfl ?_
                  refine SP.not rfl rfl rfl ?_
                  refine SP.not rfl rfl rfl ?_
                  refine SP.not rfl rfl rfl ?_
                  refine SP.val (Val.pickT rfl rfl) rfl rfl rfl ?_
                  obtain rfl := Option.some.inj ho
                  exact J fun a w2 ha hw => ⟨ha.sub ⟨rfl, rfl, trivial⟩, hw⟩
                · have hq94 := (bf hc)
                  refine SP.isF (d := 67) rfl hq94 ?_
                  refine SP.val (Val.move rfl) rfl rfl rfl ?_
                  refine SP.val (Val.move rfl) rfl rfl rfl ?_
                  obtain ⟨t95, hc, ho⟩ := bind_some (x := flow_jumps.f l_0 l55) ho
                  refine SP.callVO see (caps := []) (.bool t95) fn31 rfl rfl rfl rfl (fun w2 hs => flow_jumps.ok l_0 l55 _ _ _ hc w2 (hp w2) (Sub.refl _) ((St.pers 0 rfl see.sub see.dj hs)) (slO.read (St.own 0 rfl see.sub see.dj hs) (Sub.refl _) (Sub.refl _))) ?_
                  clear hc
                  refine SP.val (Val.notB rfl) rfl rfl rfl ?_
                  refine SP.val (Val.pickF rfl rfl) rfl rfl rfl ?_
                  obtain rfl := Option.some.inj ho
                  exact J fun a w2 ha hw => ⟨ha.sub ⟨rfl, rfl, trivial⟩, hw⟩
            · intro J
              clear ho
              have ho := hg_t92
              clear hg_t92
              rcases if_some ho with ⟨hc, ho⟩ | ⟨hc, ho⟩
              · have hq87 := (decide_eq_true hc)
                refine SP.isT (d := 57) rfl hq87 ?_
                refine SP.not rfl rfl rfl ?_
                refine SP.not rfl rfl rfl ?_
                refine SP.not rfl rfl rfl ?_
                refine SP.not rfl rfl rfl ?_
                refine SP.not rfl rfl rfl ?_
                refine SP.not rfl rfl rfl ?_
                refine SP.not rfl rfl rfl ?_
                refine SP.not rfl rfl rfl ?_
                refine SP.val (Val.pickT rfl rfl) rfl rfl rfl ?_
                obtain rfl := Option.some.inj ho
                exact J fun a w2 ha hw => ⟨ha.sub ⟨rfl, rfl, rfl, trivial⟩, hw⟩
              · have hq87 := (decide_eq_false hc)
                refine SP.isF (d := 57) rfl hq87 ?_
                refine SP.val (Val.move rfl) rfl rfl rfl ?_
                refine SP.val (Val.move rfl) rfl rfl rfl ?_
                refine SP.val (Val.lenP see 0 rfl Tryd.underlying22 rfl) rfl rfl rfl ?_
                refine SP.val (Val.sub rfl rfl) rfl rfl rfl ?_
                obtain ⟨x90, hx, ho⟩ := bind_some ho
                have hx := elt_some hx
                refine SP.indexP see 0 rfl Tryd.underlying22 sz52 hx.1 hx.2 rfl rfl rfl rfl (fun p88 => ?_)
                clear hx
                refine k_api_Instr.load see 0 rfl Tryd.underlying52 rfl sz52 rfl rfl rfl ?_
                obtain ⟨t91, hc, ho⟩ := bind_some (x := flow_last.f x90) ho
                refine SP.callV see (caps := []) (.bool t91) fn30 rfl rfl rfl rfl (fun w2 hP hs sub ap => flow_last.ok x90  _ hc w2 hP sub ) ?_
                clear hc
                refine SP.val (Val.notB rfl) rfl rfl rfl ?_
                refine SP.val (Val.pickF rfl rfl) rfl rfl rfl ?_
                obtain rfl := Option.some.inj ho
                exact J fun a w2 ha hw => ⟨ha.sub ⟨rfl, rfl, rfl, trivial⟩, (St.selP [1, 2] rfl hw)⟩
      · intro J
        clear ho
        have ho := hg_t7
        clear hg_t7
        rcases if_some ho with ⟨hc, ho⟩ | ⟨hc, ho⟩
        · have hq5 := hc
          refine SP.isT (d := 16) rfl hq5 ?_
          refine SP.not rfl rfl rfl ?_
          refine SP.not rfl rfl rfl ?_
          refine SP.val (Val.pickT rfl rfl) rfl rfl rfl ?_
          obtain rfl := Option.some.inj ho
          exact J fun a w2 ha hw => ⟨ha.sub ⟨rfl, rfl, trivial⟩, hw⟩
        · have hq5 := (bf hc)
          refine SP.isF (d := 16) rfl hq5 ?_
          refine SP.val (Val.move rfl) rfl rfl rfl ?_
          obtain ⟨t6, hc, ho⟩ := bind_some (x := slices_ContainsFunc_api_Instr_api_Instr_s1.f l_0) ho
          refine SP.callV see (caps := []) (.bool t6) fn25 rfl rfl rfl rfl (fun w2 hP hs sub ap => slices_ContainsFunc_api_Instr_api_Instr_s1.ok l_0 _ _ hc w2 hP sub (ap.get 0 rfl) (ap.get 1 rfl)) ?_
          clear hc
          refine SP.val (Val.pickF rfl rfl) rfl rfl rfl ?_
          obtain rfl := Option.some.inj ho
          exact J fun a w2 ha hw => ⟨ha.sub ⟨rfl, rfl, trivial⟩, hw⟩
    · intro J
      by_cases hc : (l_0.length : Int) = 0
      · have hq3 := (decide_eq_true hc)
        refine SP.isT (d := 11) rfl hq3 ?_
        refine SP.not rfl rfl rfl ?_
        refine SP.not rfl rfl rfl ?_
        refine SP.not rfl rfl rfl ?_
        refine SP.val (Val.pickT rfl rfl) rfl rfl rfl ?_
        exact J fun a w2 ha hw => ⟨ha.sub ⟨rfl, congrArg (fun z => some (Value.bool z)) (or_t hq3), trivial⟩, hw⟩
      · have hq3 := (decide_eq_false hc)
        refine SP.isF (d := 11) rfl hq3 ?_
        refine SP.val (Val.move rfl) rfl rfl rfl ?_
        refine SP.val (Val.lenP see 0 rfl Tryd.underlying22 rfl) rfl rfl rfl ?_
        refine SP.val (Val.gtr rfl rfl) rfl rfl rfl ?_
        refine SP.val (Val.pickF rfl rfl) rfl rfl rfl ?_
        exact J fun a w2 ha hw => ⟨ha.sub ⟨rfl, congrArg (fun z => some (Value.bool z)) (or_f hq3 rfl), trivial⟩, hw⟩
/-! ### capstan/flow.Check: function 13 -/
def flow_Check.f (l_0 : (List api_Instr)) : Option Int :=
  (flow_Loops.f l_0).bind fun t2 => some t2.2
theorem flow_Check.ok (l_0 : (List api_Instr)) (v_l_0 : Value)  (r : Int) (H : flow_Check.f l_0 = some r) (w : World) (hV : Hp) (sV : Sub hV (hp w)) (h0 : slR k_api_Instr hV v_l_0 l_0) (h1 : (arrP k_arr88 0 tab0).p hV) :
    Trip Tryd.prog 13 [v_l_0].toArray em hV w (fun v => HO.pure (v = .int .i64 r)) := by
  have see : Sees w em hV := ⟨sV, Dj.em_right _⟩
  refine Trip.of (P := Tryd.prog) (n := ⟨11, []⟩) Tryd.func13 rfl ⟨rfl, rfl⟩ rfl (St.begin (All.cons (x := slP k_api_Instr v_l_0 l_0) h0 (All.cons (x := arrP k_arr88 0 tab0) h1 (All.nil _)))) ?_
  have ho := H
  refine CP.seq ?_
  refine CP.region ?_
  refine SP.val (Val.assign rfl) rfl rfl rfl ?_
  refine SP.nil ?_
  refine QE.then ?_
  refine CP.seq ?_
  refine CP.region ?_
  refine SP.val (Val.move rfl) rfl rfl rfl ?_
  obtain ⟨t2, hc, ho⟩ := bind_some (x := flow_Loops.f l_0) ho
  refine SP.callK see (caps := []) _ fn11 rfl rfl rfl rfl (fun w2 hP hs sub ap => flow_Loops.ok l_0 _ _ hc w2 hP sub (ap.get 0 rfl) (ap.get 1 rfl)) (fun vr => ?_)
  refine SP.ex (fun w2 h => St.open h) (fun v3 => ?_)
  refine SP.have (fun w2 h => (St.pand h).1.symm) (fun er => ?_)
  subst er
  refine SP.imp (fun w2 h => St.seps (St.pand h).2) ?_
  clear hc
  refine SP.val (Val.move rfl) rfl rfl rfl ?_
  refine SP.val (Val.extract rfl rfl) rfl rfl rfl ?_
  refine SP.val (Val.extract rfl rfl) rfl rfl rfl ?_
  refine SP.val (Val.assign rfl) rfl rfl rfl ?_
  refine SP.val (Val.assign rfl) rfl rfl rfl ?_
  refine SP.nil ?_
  refine QE.then ?_
  refine CP.seq ?_
  refine CP.region ?_
  refine SP.val (Val.move rfl) rfl rfl rfl ?_
  refine SP.val (Val.assign rfl) rfl rfl rfl ?_
  refine SP.nil ?_
  refine QE.then ?_
  refine CP.ret ?_
  obtain rfl := Option.some.inj ho
  exact QE.rets (rs := [.tmp 2]) (vs := [.int .i64 t2.2]) Tryd.results13 rfl ⟨RVs.tmp rfl, trivial⟩ (fun w2 h => St.done (fun a b p s => rfl) h)
/-! ### capstan/op.Goes: function 36 -/
def op_Goes.f (op_0 : Int) : Option Bool :=
  (op_Known.f op_0).bind fun t1 => some (((t1 && (decide (op_0 ≠ 26))) && (decide (op_0 ≠ 31))) && (decide (op_0 ≠ 32)))
theorem op_Goes.ok (op_0 : Int)  (r : Bool) (H : op_Goes.f op_0 = some r) (w : World) (hV : Hp) (sV : Sub hV (hp w))  :
    Trip Tryd.prog 36 [.int .u8 op_0].toArray em hV w (fun v => HO.pure (v = .bool r)) := by
  have see : Sees w em hV := ⟨sV, Dj.em_right _⟩
  refine Trip.of (P := Tryd.prog) (n := ⟨17, []⟩) Tryd.func36 rfl ⟨rfl, rfl⟩ rfl (St.begin (All.nil _)) ?_
  have ho := H
  refine CP.seq ?_
  refine CP.region ?_
  refine SP.val (Val.assign rfl) rfl rfl rfl ?_
  refine SP.nil ?_
  refine QE.then ?_
  refine CP.seq ?_
  refine CP.region ?_
  refine SP.val (Val.move rfl) rfl rfl rfl ?_
  obtain ⟨t1, hc, ho⟩ := bind_some (x := op_Known.f op_0) ho
  refine SP.callV see (caps := []) (.bool t1) fn53 rfl rfl rfl rfl (fun w2 hP hs sub ap => op_Known.ok op_0  _ hc w2 hP sub ) ?_
  clear hc
  refine SP.val (Val.move rfl) rfl rfl rfl ?_
  refine SP.join 3 (fun a w2 => Env ⟨17, []⟩ [(0, .int .u8 op_0), (8, .bool (t1 && (decide (op_0 ≠ 26))))] a ∧ St w em hV [] [] w2) ?_ ?_
  · rintro a w2 ⟨ha, hw⟩
    refine SP.app ha hw ?_
    clear ha hw a w2
    refine SP.val (Val.move rfl) rfl rfl rfl ?_
    refine SP.join 3 (fun a w2 => Env ⟨17, []⟩ [(0, .int .u8 op_0), (12, .bool ((t1 && (decide (op_0 ≠ 26))) && (decide (op_0 ≠ 31))))] a ∧ St w em hV [] [] w2) ?_ ?_
    · rintro a w2 ⟨ha, hw⟩
      refine SP.app ha hw ?_
      clear ha hw a w2
      refine SP.val (Val.move rfl) rfl rfl rfl ?_
      refine SP.join 3 (fun a w2 => Env ⟨17, []⟩ [(16, .bool (((t1 && (decide (op_0 ≠ 26))) && (decide (op_0 ≠ 31))) && (decide (op_0 ≠ 32))))] a ∧ St w em hV [] [] w2) ?_ ?_
      · rintro a w2 ⟨ha, hw⟩
        refine SP.app ha hw ?_
        clear ha hw a w2
        refine SP.val (Val.assign rfl) rfl rfl rfl ?_
        refine SP.nil ?_
        refine QE.then ?_
        refine CP.ret ?_
        obtain rfl := Option.some.inj ho
        exact QE.rets (rs := [.tmp 2]) (vs := [.bool (((t1 && (decide (op_0 ≠ 26))) && (decide (op_0 ≠ 31))) && (decide (op_0 ≠ 32)))]) Tryd.results36 rfl ⟨RVs.tmp rfl, trivial⟩ (fun w2 h => St.done (fun a b p s => rfl) h)
      · intro J
        by_cases hc : ((t1 && (decide (op_0 ≠ 26))) && (decide (op_0 ≠ 31))) = true
        · have hq7 := hc
          refine SP.isT (d := 13) rfl hq7 ?_
          refine SP.val (Val.move rfl) rfl rfl rfl ?_
          refine SP.val (Val.neq rfl rfl) rfl rfl rfl ?_
          refine SP.val (Val.pickT rfl rfl) rfl rfl rfl ?_
          exact J fun a w2 ha hw => ⟨ha.sub ⟨congrArg (fun z => some (Value.bool z)) (and_t hq7 rfl), trivial⟩, hw⟩
        · have hq7 := (bf hc)
          refine SP.isF (d := 13) rfl hq7 ?_
          refine SP.not rfl rfl rfl ?_
          refine SP.not rfl rfl rfl ?_
          refine SP.val (Val.pickF rfl rfl) rfl rfl rfl ?_
          exact J fun a w2 ha hw => ⟨ha.sub ⟨congrArg (fun z => some (Value.bool z)) (and_f hq7), trivial⟩, hw⟩
    · intro J
      by_cases hc : (t1 && (decide (op_0 ≠ 26))) = true
      · have hq5 := hc
        refine SP.isT (d := 9) rfl hq5 ?_
        refine SP.val (Val.move rfl) rfl rfl rfl ?_
        refine SP.val (Val.neq rfl rfl) rfl rfl rfl ?_
        refine SP.val (Val.pickT rfl rfl) rfl rfl rfl ?_
        exact J fun a w2 ha hw => ⟨ha.sub ⟨rfl, congrArg (fun z => some (Value.bool z)) (and_t hq5 rfl), trivial⟩, hw⟩
      · have hq5 := (bf hc)
        refine SP.isF (d := 9) rfl hq5 ?_
        refine SP.not rfl rfl rfl ?_
        refine SP.not rfl rfl rfl ?_
        refine SP.val (Val.pickF rfl rfl) rfl rfl rfl ?_
        exact J fun a w2 ha hw => ⟨ha.sub ⟨rfl, congrArg (fun z => some (Value.bool z)) (and_f hq5), trivial⟩, hw⟩
  · intro J
    by_cases hc : t1 = true
    · have hq3 := hc
      refine SP.isT (d := 5) rfl hq3 ?_
      refine SP.val (Val.move rfl) rfl rfl rfl ?_
      refine SP.val (Val.neq rfl rfl) rfl rfl rfl ?_
      refine SP.val (Val.pickT rfl rfl) rfl rfl rfl ?_
      exact J fun a w2 ha hw => ⟨ha.sub ⟨rfl, congrArg (fun z => some (Value.bool z)) (and_t hq3 rfl), trivial⟩, hw⟩
    · have hq3 := (bf hc)
      refine SP.isF (d := 5) rfl hq3 ?_
      refine SP.not rfl rfl rfl ?_
      refine SP.not rfl rfl rfl ?_
      refine SP.val (Val.pickF rfl rfl) rfl rfl rfl ?_
      exact J fun a w2 ha hw => ⟨ha.sub ⟨rfl, congrArg (fun z => some (Value.bool z)) (and_f hq3), trivial⟩, hw⟩
/-! ### capstan/op.Leads: function 37 -/
def op_Leads.f (op_0 : Int) : Option Bool :=
  (op_sign.f op_0).bind fun t1 => some (decide (t1 = 5))
theorem op_Leads.ok (op_0 : Int)  (r : Bool) (H : op_Leads.f op_0 = some r) (w : World) (hV : Hp) (sV : Sub hV (hp w))  :
    Trip Tryd.prog 37 [.int .u8 op_0].toArray em hV w (fun v => HO.pure (v = .bool r)) := by
  have see : Sees w em hV := ⟨sV, Dj.em_right _⟩
  refine Trip.of (P := Tryd.prog) (n := ⟨6, []⟩) Tryd.func37 rfl ⟨rfl, rfl⟩ rfl (St.begin (All.nil _)) ?_
  have ho := H
  refine CP.seq ?_
  refine CP.region ?_
  refine SP.val (Val.assign rfl) rfl rfl rfl ?_
  refine SP.nil ?_
  refine QE.then ?_
  refine CP.seq ?_
  refine CP.region ?_
  refine SP.val (Val.move rfl) rfl rfl rfl ?_
  obtain ⟨t1, hc, ho⟩ := bind_some (x := op_sign.f op_0) ho
  refine SP.callV see (caps := []) (.int .i64 t1) fn54 rfl rfl rfl rfl (fun w2 hP hs sub ap => op_sign.ok op_0  _ hc w2 hP sub ) ?_
  clear hc
  refine SP.val (Val.eql rfl rfl) rfl rfl rfl ?_
  refine SP.val (Val.assign rfl) rfl rfl rfl ?_
  refine SP.nil ?_
  refine QE.then ?_
  refine CP.ret ?_
  obtain rfl := Option.some.inj ho
  exact QE.rets (rs := [.tmp 2]) (vs := [.bool (decide (t1 = 5))]) Tryd.results37 rfl ⟨RVs.tmp rfl, trivial⟩ (fun w2 h => St.done (fun a b p s => rfl) h)
/-! ### slices.Sort[[]int,int]: function 38 -/
shelf_lay_g SlLaysM.n5 Slgm 5 at Tryd 38 as Tryd.sorti38
/-- A row of numbers of one's own, sorted where it lies. -/
theorem srti38_trip {v : Value} {l : List Int} (hll : l.length < 4611686018427387904) {w : World} {hP h1 : Hp} (sub : Sub hP (hp w)) (s1 : Sub h1 (hp w)) (dj : Dj hP h1) (hI : (slO (kInt .i64) 3 v l).p hP h1) :
    Trip Tryd.prog 38 #[v] h1 hP w (fun r => HO.pand (r = .tuple #[]) (HO.seps [slO (kInt .i64) 3 v (l.mergeSort fun x y => decide (x ≤ y))])) := by
  have h := slO.rowTrip (P := Tryd.prog) (f := 38) (fun v => #[v]) (fun _ => .tuple #[]) (fun x => [Value.int .i64 x]) (fun h cs x => Iff.rfl) (fun d : Array Int => (d.toList.mergeSort fun x y => decide (x ≤ y)).toArray) (fun d => by simp) (fun blk cap d w hH hb hsz _ _ => ?_) (fun _ w hV sV => ?_) hll sub s1 dj hI
  · simpa using h
  · have := AnyM.slices_Sort_int Tryd.sorti38 blk 0 cap d.toList w (holdsOne.1 hH) hb (by simpa using hsz)
    refine this.mono fun e w' ⟨h1, n, os, h2⟩ => ⟨h1, n, os, h2.trans (Eq.symm sortOne)⟩
  · refine (AnyM.slices_Sort_int_none Tryd.sorti38 none 0 w).mono fun e w' ⟨he, hw⟩ => ?_
    subst hw
    exact ⟨_, he, Met.refl _, fun _ _ e _ => e, em, em, fun _ _ _ => rfl, fun _ _ _ => rfl, Dj.em_left _, Sub.em _, Sub.em _, rfl⟩


/-! ### slices.Compact[[]int,int]: function 39 -/
shelf_lay_g SlLaysN.n43 Slgn 43 at Tryd 39 as Tryd.compacti39
/-- A row of numbers of one's own, of which none stands behind its like. -/
theorem compacti39_trip {v : Value} {l : List Int} (hll : l.length < 4611686018427387904) {w : World} {hP h1 : Hp} (sub : Sub hP (hp w)) (s1 : Sub h1 (hp w)) (dj : Dj hP h1) (hI : (slO (kInt .i64) 3 v l).p hP h1) :
    Trip Tryd.prog 39 #[v] h1 hP w (fun r => HO.ex fun u : Value => HO.pand (r = u) (HO.seps [slO (kInt .i64) 3 u (Lib.compact l)])) := by
  have hle : (Lib.compact l).length ≤ l.length := compact_le l
  have h := slO.rowTrip (P := Tryd.prog) (f := 39) (fun v => #[v]) (fun v => shrinkV v (Lib.compact l).length) (fun x => [Value.int .i64 x]) (fun h cs x => Iff.rfl) (fun d : Array Int => (Lib.compact d.toList ++ List.replicate (d.size - (Lib.compact d.toList).length) 0).toArray) (fun d => by have := compact_le d.toList; simp at this ⊢; omega) (fun blk cap d w hH hb hsz hcap hd => ?_) (fun h0 w hV sV => ?_) hll sub s1 dj hI
  · exact slO.shrinkT (by simp only [List.length_append]; omega) (by simp) h
  · have := AnyG.slices_Compact_int Tryd.compacti39 blk 0 cap d.toList w (holdsOne.1 hH) (by simp; omega) (by simpa using hcap)
    refine this.mono fun e w' ⟨h1, n, h2⟩ => ⟨?_, n, #[], h2.trans (Eq.trans ?_ (Eq.symm sortOne))⟩
    · rw [h1, hd]; rfl
    · rw [grow_none]; simp
  · refine (AnyG.slices_Compact_int_empty Tryd.compacti39 none 0 w).mono fun e w' ⟨he, hw⟩ => ?_
    subst hw
    exact ⟨_, he, Met.refl _, fun _ _ e _ => e, em, em, fun _ _ _ => rfl, fun _ _ _ => rfl, Dj.em_left _, Sub.em _, Sub.em _, rfl⟩


/-! ### capstan/flow.Ways: function 17 -/
def flow_Ways.j2 (l_0 : (List api_Instr)) (a1 : Int) (l31 : List Int) : Option ((List Int) × Int) :=
  if l31.length < 4611686018427387904 then (if (l31.mergeSort fun x y => decide (x ≤ y)).length < 4611686018427387904 then (some ((Lib.compact (l31.mergeSort fun x y => decide (x ≤ y))), 0)) else none) else none

def flow_Ways.j1 (l_0 : (List api_Instr)) (a1 : Int) (x9 : api_Instr) (l19 : List Int) : Option ((List Int) × Int) :=
  if x9.Op = 29 then (if (l19.length + [IntKind.i64.wrap (x9.A + 1)].length) * 8 ≤ 140737488355328 then (flow_Ways.j2 l_0 a1 (l19 ++ [IntKind.i64.wrap (x9.A + 1)])) else none) else ((op_Leads.f x9.Op).bind fun t25 => if t25 = true then (if (l19.length + [x9.A].length) * 8 ≤ 140737488355328 then (flow_Ways.j2 l_0 a1 (l19 ++ [x9.A])) else none) else (flow_Ways.j2 l_0 a1 l19))

def flow_Ways.f (l_0 : (List api_Instr)) (a1 : Int) : Option ((List Int) × Int) :=
  (flow_Check.f l_0).bind fun t2 => if t2 ≠ 0 then (some ([], t2)) else (if ((decide (a1 < 0)) || (decide (a1 ≥ (l_0.length : Int)))) = true then (some ([], 2)) else ((elt l_0 a1).bind fun x9 => (op_Goes.f x9.Op).bind fun t12 => if t12 = true then (if (([] : List Int).length + [IntKind.i64.wrap (a1 + 1)].length) * 8 ≤ 140737488355328 then (flow_Ways.j1 l_0 a1 x9 (([] : List Int) ++ [IntKind.i64.wrap (a1 + 1)])) else none) else (flow_Ways.j1 l_0 a1 x9 [])))
theorem flow_Ways.ok (l_0 : (List api_Instr)) (a1 : Int) (v_l_0 : Value)  (r : (List Int) × Int) (H : flow_Ways.f l_0 a1 = some r) (w : World) (hV : Hp) (sV : Sub hV (hp w)) (h0 : slR k_api_Instr hV v_l_0 l_0) (h1 : (arrP k_arr88 0 tab0).p hV) :
    Trip Tryd.prog 17 [v_l_0, .int .i64 a1].toArray em hV w (fun v => HO.ex fun u0 : Value => HO.pand (v = .tuple #[u0, .int .i64 r.2]) (HO.seps [slO (kInt .i64) 3 u0 r.1])) := by
  have see : Sees w em hV := ⟨sV, Dj.em_right _⟩
  refine Trip.of (P := Tryd.prog) (n := ⟨57, []⟩) Tryd.func17 rfl ⟨rfl, rfl⟩ rfl (St.begin (All.cons (x := slP k_api_Instr v_l_0 l_0) h0 (All.cons (x := arrP k_arr88 0 tab0) h1 (All.nil _)))) ?_
  have ho := H
  refine CP.seq ?_
  refine CP.region ?_
  refine SP.val (Val.assign rfl) rfl rfl rfl ?_
  refine SP.val (Val.assign rfl) rfl rfl rfl ?_
  refine SP.nil ?_
  refine QE.then ?_
  refine CP.seq ?_
  refine CP.seq ?_
  refine CP.region ?_
  refine SP.val (Val.move rfl) rfl rfl rfl ?_
  obtain ⟨t2, hc, ho⟩ := bind_some (x := flow_Check.f l_0) ho
  refine SP.callV see (caps := []) (.int .i64 t2) fn13 rfl rfl rfl rfl (fun w2 hP hs sub ap => flow_Check.ok l_0 _ _ hc w2 hP sub (ap.get 0 rfl) (ap.get 1 rfl)) ?_
  clear hc
  refine SP.val (Val.assign rfl) rfl rfl rfl ?_
  refine SP.nil ?_
  refine QE.then ?_
  refine CP.seq ?_
  refine CP.region ?_
  refine SP.val (Val.move rfl) rfl rfl rfl ?_
  refine SP.val (Val.neq rfl rfl) rfl rfl rfl ?_
  refine SP.nil ?_
  refine QE.then ?_
  rcases if_some ho with ⟨hc, ho⟩ | ⟨hc, ho⟩
  · refine CP.condT rfl (decide_eq_true hc) ?_
    refine CP.seq ?_
    refine CP.region ?_
    refine SP.val (Val.move rfl) rfl rfl rfl ?_
    refine SP.val (Val.assign rfl) rfl rfl rfl ?_
    refine SP.val (Val.assign rfl) rfl rfl rfl ?_
    refine SP.nil ?_
    refine QE.then ?_
    refine CP.ret ?_
    refine QE.thru (by intro e; cases e) ?_
    obtain rfl := Option.some.inj ho
    exact QE.rets (rs := [.tmp 4, .tmp 5]) (vs := [(.slice none 0 0), .int .i64 t2]) Tryd.results17 rfl ⟨RVs.tmp rfl, RVs.tmp rfl, trivial⟩ (fun w2 h => St.done (fun a b p s => ⟨_, rfl, s⟩) (St.selO [0] rfl rfl (St.addO (slO.nil (kInt .i64) 3) h)))
  · refine CP.condF rfl (decide_eq_false hc) ?_
    refine CP.skip ?_
    refine QE.then ?_
    refine CP.seq ?_
    refine CP.seq ?_
    refine CP.region ?_
    refine SP.val (Val.move rfl) rfl rfl rfl ?_
    refine SP.val (Val.lss rfl rfl) rfl rfl rfl ?_
    refine SP.val (Val.move rfl) rfl rfl rfl ?_
    refine SP.join 5 (fun a w2 => Env ⟨57, []⟩ [(0, v_l_0), (1, .int .i64 a1), (21, .bool ((decide (a1 < 0)) || (decide (a1 ≥ (l_0.length : Int)))))] a ∧ St w em hV [slP k_api_Instr v_l_0 l_0, arrP k_arr88 0 tab0] [] w2) ?_ ?_
    · rintro a w2 ⟨ha, hw⟩
      refine SP.app ha hw ?_
      clear ha hw a w2
      refine SP.nil ?_
      refine QE.then ?_
      rcases if_some ho with ⟨hc, ho⟩ | ⟨hc, ho⟩
      · refine CP.condT rfl hc ?_
        refine CP.seq ?_
        refine CP.region ?_
        refine SP.val (Val.assign rfl) rfl rfl rfl ?_
        refine SP.val (Val.assign rfl) rfl rfl rfl ?_
        refine SP.nil ?_
        refine QE.then ?_
        refine CP.ret ?_
        refine QE.thru (by intro e; cases e) ?_
        obtain rfl := Option.some.inj ho
        exact QE.rets (rs := [.tmp 4, .tmp 5]) (vs := [(.slice none 0 0), .int .i64 2]) Tryd.results17 rfl ⟨RVs.tmp rfl, RVs.tmp rfl, trivial⟩ (fun w2 h => St.done (fun a b p s => ⟨_, rfl, s⟩) (St.selO [0] rfl rfl (St.addO (slO.nil (kInt .i64) 3) h)))
      · refine CP.condF rfl (bf hc) ?_
        refine CP.skip ?_
        refine QE.then ?_
        refine CP.seq ?_
        refine CP.region ?_
        refine SP.val (Val.assign rfl) rfl rfl rfl ?_
        refine SP.nil ?_
        refine QE.then ?_
        refine CP.seq ?_
        refine CP.region ?_
        refine SP.val (Val.move rfl) rfl rfl rfl ?_
        refine SP.val (Val.move rfl) rfl rfl rfl ?_
        obtain ⟨x9, hx, ho⟩ := bind_some ho
        have hx := elt_some hx
        refine SP.indexP see 0 rfl Tryd.underlying22 sz52 hx.1 hx.2 rfl rfl rfl rfl (fun p7 => ?_)
        clear hx
        refine k_api_Instr.load see 0 rfl Tryd.underlying52 rfl sz52 rfl rfl rfl ?_
        refine SP.alloc (cs := [.int .u8 0, .int .i64 0, .int .i64 0]) inf52 rfl rfl (fun b10 => ?_)
        refine SP.store (v := .agg #[.int .u8 x9.Op, .int .i64 x9.A, .int .i64 x9.B]) (vs := [.int .u8 x9.Op, .int .i64 x9.A, .int .i64 x9.B]) 0 (by rfl) sz52 (by rfl) (by rfl) (by rfl) (by rfl) (by rfl) (by rfl) ?_
        refine SP.nil ?_
        refine QE.then ?_
        refine CP.join (fun a w2 => ∃ l19 : List Int, ∃ v20 : Value, flow_Ways.j1 l_0 a1 x9 l19 = some r ∧ Env ⟨57, []⟩ [(7, v20), (8, .pointer (some ⟨b10, 0, none⟩))] a ∧ St w em hV [arrP k_arr88 0 tab0] [slO (kInt .i64) 3 v20 l19, boxO b10 [.int .u8 x9.Op, .int .i64 x9.A, .int .i64 x9.B] 52] w2) ?_ ?_
        · rintro a w2 ⟨l19, v20, ho, ha, hw⟩
          refine CP.app ha hw ?_
          clear ha hw a w2
          refine CP.join (fun a w2 => ∃ l31 : List Int, ∃ v32 : Value, flow_Ways.j2 l_0 a1 l31 = some r ∧ Env ⟨57, []⟩ [(7, v32)] a ∧ St w em hV [arrP k_arr88 0 tab0] [slO (kInt .i64) 3 v32 l31] w2) ?_ ?_
          · rintro a w2 ⟨l31, v32, ho, ha, hw⟩
            refine CP.app ha hw ?_
            clear ha hw a w2
            refine CP.seq ?_
            refine CP.region ?_
            refine SP.val (Val.move rfl) rfl rfl rfl ?_
            obtain ⟨hb, ho⟩ := must_some ho
            refine SP.callA see (caps := []) (X := slO (kInt .i64) 3 v32 l31) (fun r => HO.pand (r = .tuple #[]) (HO.seps [slO (kInt .i64) 3 v32 (l31.mergeSort fun x y => decide (x ≤ y))])) fn38 rfl rfl rfl rfl (fun w2 hP h1 sub s1 d1 ap hI => srti38_trip hb sub s1 d1 hI) (fun vr => ?_)
            refine SP.have (fun w2 h => (St.pand h).1.symm) (fun er => ?_)
            subst er
            refine SP.imp (fun w2 h => St.seps (St.pand h).2) ?_
            clear hb
            refine SP.nil ?_
            refine QE.then ?_
            refine CP.seq ?_
            refine CP.region ?_
            refine SP.val (Val.move rfl) rfl rfl rfl ?_
            obtain ⟨hb, ho⟩ := must_some ho
            refine SP.callA see (caps := []) (X := slO (kInt .i64) 3 v32 (l31.mergeSort fun x y => decide (x ≤ y))) (fun r => HO.ex fun u : Value => HO.pand (r = u) (HO.seps [slO (kInt .i64) 3 u (Lib.compact (l31.mergeSort fun x y => decide (x ≤ y)))])) fn39 rfl rfl rfl rfl (fun w2 hP h1 sub s1 d1 ap hI => compacti39_trip hb sub s1 d1 hI) (fun vr => ?_)
            refine SP.ex (fun w2 h => St.open h) (fun v35 => ?_)
            refine SP.have (fun w2 h => (St.pand h).1.symm) (fun er => ?_)
            subst er
            refine SP.imp (fun w2 h => St.seps (St.pand h).2) ?_
            clear hb
            refine SP.val (Val.assign rfl) rfl rfl rfl ?_
            refine SP.val (Val.assign rfl) rfl rfl rfl ?_
            refine SP.nil ?_
            refine QE.then ?_
            refine CP.ret ?_
            obtain rfl := Option.some.inj ho
            exact QE.rets (rs := [.tmp 4, .tmp 5]) (vs := [v35, .int .i64 0]) Tryd.results17 rfl ⟨RVs.tmp rfl, RVs.tmp rfl, trivial⟩ (fun w2 h => St.done (fun a b p s => ⟨_, rfl, s⟩) (St.selO [0] rfl rfl h))
          · refine CP.block ?_
            refine CP.seq ?_
            refine CP.region ?_
            refine SP.val (Val.fieldAddr Tryd.underlying52 rfl sz5 rfl) rfl rfl rfl ?_
            refine SP.val (Val.load1 1 rfl Tryd.underlying5 rfl rfl rfl) rfl rfl rfl ?_
            refine SP.val (Val.eql rfl rfl) rfl rfl rfl ?_
            refine SP.val (Val.assign rfl) rfl rfl rfl ?_
            refine SP.nil ?_
            refine QE.then ?_
            rcases if_some ho with ⟨hc, ho⟩ | ⟨hc, ho⟩
            · refine CP.condT rfl (decide_eq_true hc) ?_
              refine CP.region ?_
              refine SP.val (Val.move rfl) rfl rfl rfl ?_
              refine SP.val (Val.fieldAddr Tryd.underlying52 rfl sz3 rfl) rfl rfl rfl ?_
              refine SP.val (Val.load1 1 rfl Tryd.underlying3 rfl rfl rfl) rfl rfl rfl ?_
              refine SP.val (Val.add rfl rfl) rfl rfl rfl ?_
              refine SP.lit (k := (kInt .i64)) (xs := [IntKind.i64.wrap (x9.A + 1)]) (vs := [.int .i64 (IntKind.i64.wrap (x9.A + 1))]) (cells := [.int .i64 (IntKind.i64.wrap (x9.A + 1))]) Tryd.underlying27 inf3 rfl rfl rfl rfl rfl rfl rfl rfl (fun _ ap => ⟨[.int .i64 (IntKind.i64.wrap (x9.A + 1))], _, rfl, rfl, rfl⟩) rfl rfl rfl (fun v21 => ?_)
              refine SP.freezeS see 0 rfl ?_
              obtain ⟨hb, ho⟩ := must_some ho
              refine SP.append see 0 rfl 0 rfl Tryd.underlying27 inf3 rfl rfl hb rfl rfl rfl rfl rfl (fun v23 => ?_)
              clear hb
              refine SP.val (Val.assign rfl) rfl rfl rfl ?_
              refine SP.nil ?_
              refine QE.blockN ?_
              exact QE.meet fun a w2 ha hw => ⟨(l19 ++ [IntKind.i64.wrap (x9.A + 1)]), v23, ho, ha.sub ⟨rfl, trivial⟩, (St.selP [1] rfl (St.selO [0] rfl rfl hw))⟩
            · refine CP.condF rfl (decide_eq_false hc) ?_
              refine CP.seq ?_
              refine CP.region ?_
              refine SP.val (Val.fieldAddr Tryd.underlying52 rfl sz5 rfl) rfl rfl rfl ?_
              refine SP.val (Val.load1 1 rfl Tryd.underlying5 rfl rfl rfl) rfl rfl rfl ?_
              obtain ⟨t25, hc, ho⟩ := bind_some (x := op_Leads.f x9.Op) ho
              refine SP.callV see (caps := []) (.bool t25) fn37 rfl rfl rfl rfl (fun w2 hP hs sub ap => op_Leads.ok x9.Op  _ hc w2 hP sub ) ?_
              clear hc
              refine SP.val (Val.assign rfl) rfl rfl rfl ?_
              refine SP.nil ?_
              refine QE.then ?_
              rcases if_some ho with ⟨hc, ho⟩ | ⟨hc, ho⟩
              · refine CP.condT rfl hc ?_
                refine CP.region ?_
                refine SP.val (Val.move rfl) rfl rfl rfl ?_
                refine SP.val (Val.fieldAddr Tryd.underlying52 rfl sz3 rfl) rfl rfl rfl ?_
                refine SP.val (Val.load1 1 rfl Tryd.underlying3 rfl rfl rfl) rfl rfl rfl ?_
                refine SP.lit (k := (kInt .i64)) (xs := [x9.A]) (vs := [.int .i64 x9.A]) (cells := [.int .i64 x9.A]) Tryd.underlying27 inf3 rfl rfl rfl rfl rfl rfl rfl rfl (fun _ ap => ⟨[.int .i64 x9.A], _, rfl, rfl, rfl⟩) rfl rfl rfl (fun v26 => ?_)
                refine SP.freezeS see 0 rfl ?_
                obtain ⟨hb, ho⟩ := must_some ho
                refine SP.append see 0 rfl 0 rfl Tryd.underlying27 inf3 rfl rfl hb rfl rfl rfl rfl rfl (fun v28 => ?_)
                clear hb
                refine SP.val (Val.assign rfl) rfl rfl rfl ?_
                refine SP.nil ?_
                refine QE.blockN ?_
                exact QE.meet fun a w2 ha hw => ⟨(l19 ++ [x9.A]), v28, ho, ha.sub ⟨rfl, trivial⟩, (St.selP [1] rfl (St.selO [0] rfl rfl hw))⟩
              · refine CP.condF rfl (bf hc) ?_
                refine CP.skip ?_
                refine QE.blockN ?_
                exact QE.meet fun a w2 ha hw => ⟨l19, v20, ho, ha.sub ⟨rfl, trivial⟩, (St.selO [0] rfl rfl hw)⟩
        · refine CP.seq ?_
          refine CP.region ?_
          refine SP.val (Val.fieldAddr Tryd.underlying52 rfl sz5 rfl) rfl rfl rfl ?_
          refine SP.val (Val.load1 0 rfl Tryd.underlying5 rfl rfl rfl) rfl rfl rfl ?_
          obtain ⟨t12, hc, ho⟩ := bind_some (x := op_Goes.f x9.Op) ho
          refine SP.callV see (caps := []) (.bool t12) fn36 rfl rfl rfl rfl (fun w2 hP hs sub ap => op_Goes.ok x9.Op  _ hc w2 hP sub ) ?_
          clear hc
          refine SP.nil ?_
          refine QE.then ?_
          rcases if_some ho with ⟨hc, ho⟩ | ⟨hc, ho⟩
          · refine CP.condT rfl hc ?_
            refine CP.region ?_
            refine SP.val (Val.move rfl) rfl rfl rfl ?_
            refine SP.val (Val.move rfl) rfl rfl rfl ?_
            refine SP.val (Val.add rfl rfl) rfl rfl rfl ?_
            refine SP.lit (k := (kInt .i64)) (xs := [IntKind.i64.wrap (a1 + 1)]) (vs := [.int .i64 (IntKind.i64.wrap (a1 + 1))]) (cells := [.int .i64 (IntKind.i64.wrap (a1 + 1))]) Tryd.underlying27 inf3 rfl rfl rfl rfl rfl rfl rfl rfl (fun _ ap => ⟨[.int .i64 (IntKind.i64.wrap (a1 + 1))], _, rfl, rfl, rfl⟩) rfl rfl rfl (fun v13 => ?_)
            refine SP.imp (fun w2 hw => St.addO (slO.nil (kInt .i64) 3) hw) ?_
            refine SP.freezeS see 1 rfl ?_
            obtain ⟨hb, ho⟩ := must_some ho
            refine SP.append see 0 rfl 0 rfl Tryd.underlying27 inf3 rfl rfl hb rfl rfl rfl rfl rfl (fun v16 => ?_)
            clear hb
            refine SP.val (Val.assign rfl) rfl rfl rfl ?_
            refine SP.nil ?_
            exact QE.meet fun a w2 ha hw => ⟨(([] : List Int) ++ [IntKind.i64.wrap (a1 + 1)]), v16, ho, ha.sub ⟨rfl, rfl, trivial⟩, (St.selP [3] rfl hw)⟩
          · refine CP.condF rfl (bf hc) ?_
            refine CP.skip ?_
            exact QE.meet fun a w2 ha hw => ⟨[], (.slice none 0 0), ho, ha.sub ⟨rfl, rfl, trivial⟩, (St.selP [2] rfl (St.addO (slO.nil (kInt .i64) 3) hw))⟩
    · intro J
      by_cases hc : a1 < 0
      · have hq5 := (decide_eq_true hc)
        refine SP.isT (d := 16) rfl hq5 ?_
        refine SP.not rfl rfl rfl ?_
        refine SP.not rfl rfl rfl ?_
        refine SP.not rfl rfl rfl ?_
        refine SP.not rfl rfl rfl ?_
        refine SP.val (Val.pickT rfl rfl) rfl rfl rfl ?_
        exact J fun a w2 ha hw => ⟨ha.sub ⟨rfl, rfl, congrArg (fun z => some (Value.bool z)) (or_t hq5), trivial⟩, hw⟩
      · have hq5 := (decide_eq_false hc)
        refine SP.isF (d := 16) rfl hq5 ?_
        refine SP.val (Val.move rfl) rfl rfl rfl ?_
        refine SP.val (Val.move rfl) rfl rfl rfl ?_
        refine SP.val (Val.lenP see 0 rfl Tryd.underlying22 rfl) rfl rfl rfl ?_
        refine SP.val (Val.geq rfl rfl) rfl rfl rfl ?_
        refine SP.val (Val.pickF rfl rfl) rfl rfl rfl ?_
        exact J fun a w2 ha hw => ⟨ha.sub ⟨rfl, rfl, congrArg (fun z => some (Value.bool z)) (or_f hq5 rfl), trivial⟩, hw⟩
/-! ### capstan/capstanref09.SameInts: function 14 -/
inductive capstanref09_SameInts.S where
  | start
  | l1 (x12 : Int)

def capstanref09_SameInts.F (a_0 : (List Int)) (b_1 : (List Int)) : capstanref09_SameInts.S → Option (capstanref09_SameInts.S ⊕ Bool)
  | .start => if (a_0.length : Int) ≠ (b_1.length : Int) then (some (.inr false)) else (some (.inl (.l1 0)))
  | .l1 x12 => if x12 < (a_0.length : Int) then ((elt a_0 x12).bind fun x16 => (elt b_1 x12).bind fun x20 => if x16 ≠ x20 then (some (.inr false)) else (some (.inl (.l1 (IntKind.i64.wrap (x12 + 1)))))) else (some (.inr true))

def capstanref09_SameInts.f (a_0 : (List Int)) (b_1 : (List Int)) : Option Bool := runF (capstanref09_SameInts.F a_0 b_1) .start
theorem capstanref09_SameInts.ok (a_0 : (List Int)) (b_1 : (List Int)) (v_a_0 : Value) (v_b_1 : Value) (r : Bool) (H : capstanref09_SameInts.f a_0 b_1 = some r) (w : World) (hV : Hp) (sV : Sub hV (hp w)) (h0 : slR (kInt .i64) hV v_a_0 a_0) (h1 : slR (kInt .i64) hV v_b_1 b_1) :
    Trip Tryd.prog 14 [v_a_0, v_b_1].toArray em hV w (fun v => HO.pure (v = .bool r)) := by
  have see : Sees w em hV := ⟨sV, Dj.em_right _⟩
  refine Trip.of (P := Tryd.prog) (n := ⟨26, []⟩) Tryd.func14 rfl ⟨rfl, rfl⟩ rfl (St.begin (All.cons (x := slP (kInt .i64) v_a_0 a_0) h0 (All.cons (x := slP (kInt .i64) v_b_1 b_1) h1 (All.nil _)))) ?_
  obtain ⟨n0, hi⟩ := runF_iff.1 H
  obtain ⟨m0, o, hm0, ho, hr⟩ := iter_some hi
  clear hi
  refine CP.seq ?_
  refine CP.region ?_
  refine SP.val (Val.assign rfl) rfl rfl rfl ?_
  refine SP.nil ?_
  refine QE.then ?_
  refine CP.seq ?_
  refine CP.seq ?_
  refine CP.region ?_
  refine SP.val (Val.move rfl) rfl rfl rfl ?_
  refine SP.val (Val.lenP see 0 rfl Tryd.underlying27 rfl) rfl rfl rfl ?_
  refine SP.val (Val.move rfl) rfl rfl rfl ?_
  refine SP.val (Val.lenP see 1 rfl Tryd.underlying27 rfl) rfl rfl rfl ?_
  refine SP.val (Val.neq rfl rfl) rfl rfl rfl ?_
  refine SP.nil ?_
  refine QE.then ?_
  rcases if_some ho with ⟨hc, ho⟩ | ⟨hc, ho⟩
  · refine CP.condT rfl (decide_eq_true hc) ?_
    refine CP.seq ?_
    refine CP.region ?_
    refine SP.val (Val.assign rfl) rfl rfl rfl ?_
    refine SP.nil ?_
    refine QE.then ?_
    refine CP.ret ?_
    refine QE.thru (by intro e; cases e) ?_
    obtain rfl := Option.some.inj ho
    obtain rfl := Option.some.inj hr
    exact QE.rets (rs := [.tmp 4]) (vs := [.bool false]) Tryd.results14 rfl ⟨RVs.tmp rfl, trivial⟩ (fun w2 h => St.done (fun a b p s => rfl) h)
  · refine CP.condF rfl (decide_eq_false hc) ?_
    refine CP.skip ?_
    refine QE.then ?_
    refine CP.seq ?_
    refine CP.seq ?_
    refine CP.region ?_
    refine SP.val (Val.assign rfl) rfl rfl rfl ?_
    refine SP.nil ?_
    refine QE.then ?_
    refine CP.block ?_
    obtain rfl := Option.some.inj ho
    refine CP.loop (fun cl1 a w2 => ∃ x12 : Int, cl1 ≤ m0 ∧ iter (capstanref09_SameInts.F a_0 b_1) cl1 (.l1 x12) = some r ∧ Env ⟨26, []⟩ [(0, v_a_0), (1, v_b_1), (5, .int .i64 x12)] a ∧ St w em hV [slP (kInt .i64) v_a_0 a_0, slP (kInt .i64) v_b_1 b_1] [] w2) m0 (fun a w2 ha hw => ⟨0, Nat.le_refl _, hr, ha.sub ⟨rfl, rfl, rfl, trivial⟩, hw⟩) ?_
    clear hr
    rintro cl1 a w2 ⟨x12, hc_l1, hi, ha, hw⟩
    obtain ⟨m13, o, hm_m13, ho, hr⟩ := iter_some hi
    refine CP.app ha hw ?_
    clear ha hw a w2 hi
    refine CP.seq ?_
    refine CP.seq ?_
    refine CP.region ?_
    refine SP.val (Val.move rfl) rfl rfl rfl ?_
    refine SP.val (Val.move rfl) rfl rfl rfl ?_
    refine SP.val (Val.lenP see 0 rfl Tryd.underlying27 rfl) rfl rfl rfl ?_
    refine SP.val (Val.lss rfl rfl) rfl rfl rfl ?_
    refine SP.nil ?_
    refine QE.then ?_
    rcases if_some ho with ⟨hc, ho⟩ | ⟨hc, ho⟩
    · refine CP.condT rfl (decide_eq_true hc) ?_
      refine CP.skip ?_
      refine QE.then ?_
      refine CP.seq ?_
      refine CP.block ?_
      refine CP.seq ?_
      refine CP.drawA (by kernel_rfl) (fun w2 k h => h.drawn k) ?_
      obtain ⟨x16, hx, ho⟩ := bind_some ho
      have hx := elt_some hx
      refine DA.ghost (fun w2 h => h.elem see 0 rfl hx.1 hx.2) (fun p14 h_p14 => ?_)
      clear hx
      refine DA.ghost (fun w2 h => h.openE see 0 rfl (fun _ : Unit => [.int .i64 x16]) (fun _ => []) (fun h cs e => ⟨(), e, All.nil _⟩)) (fun _ _ => ?_)
      obtain ⟨x20, hx, ho⟩ := bind_some ho
      have hx := elt_some hx
      refine DA.ghost (fun w2 h => h.elem see 3 rfl hx.1 hx.2) (fun p18 h_p18 => ?_)
      clear hx
      refine DA.ghost (fun w2 h => h.openE see 0 rfl (fun _ : Unit => [.int .i64 x20]) (fun _ => []) (fun h cs e => ⟨(), e, All.nil _⟩)) (fun _ _ => ?_)
      refine DA.phase (fun i => Nat.ble 0 i && Nat.blt i 8) (fun w2 => St w em hV [atP p18 [.int .i64 x20], elP (kInt .i64) p18 x20, atP p14 [.int .i64 x16], elP (kInt .i64) p14 x16, slP (kInt .i64) v_a_0 a_0, slP (kInt .i64) v_b_1 b_1] [] w2) ?_
      refine DT.take 0 rfl rfl rfl rfl (by kernel_rfl) (fun _ _ _ h => h) (Val.move rfl) (fun w2 hw => hw) ?_
      refine DT.take 1 rfl rfl rfl rfl (by kernel_rfl) (fun _ _ _ h => h) (Val.move rfl) (fun w2 hw => hw) ?_
      refine DT.take 2 rfl rfl rfl rfl (by kernel_rfl) (fun _ _ _ h => h) (Val.indexE h_p14 Tryd.underlying27 sz3 rfl rfl) (fun w2 hw => hw) ?_
      refine DT.take 3 rfl rfl rfl rfl (by kernel_rfl) (fun _ _ _ h => h) (Val.loadAt1 see 2 rfl Tryd.underlying3 rfl rfl) (fun w2 hw => hw) ?_
      refine DT.take 4 rfl rfl rfl rfl (by kernel_rfl) (fun _ _ _ h => h) (Val.move rfl) (fun w2 hw => hw) ?_
      refine DT.take 5 rfl rfl rfl rfl (by kernel_rfl) (fun _ _ _ h => h) (Val.move rfl) (fun w2 hw => hw) ?_
      refine DT.take 6 rfl rfl rfl rfl (by kernel_rfl) (fun _ _ _ h => h) (Val.indexE h_p18 Tryd.underlying27 sz3 rfl rfl) (fun w2 hw => hw) ?_
      refine DT.take 7 rfl rfl rfl rfl (by kernel_rfl) (fun _ _ _ h => h) (Val.loadAt1 see 0 rfl Tryd.underlying3 rfl rfl) (fun w2 hw => hw) ?_
      refine DT.next (by kernel_rfl) ?_
      refine DA.one 8 rfl (by kernel_rfl) ?_
      refine SP.val (Val.neq rfl rfl) rfl rfl rfl ?_
      refine SP.nil ?_
      refine QE.atA ?_
      refine DA.done (by kernel_rfl) ?_
      refine QE.then ?_
      rcases if_some ho with ⟨hc, ho⟩ | ⟨hc, ho⟩
      · refine CP.condT rfl (decide_eq_true hc) ?_
        refine CP.seq ?_
        refine CP.region ?_
        refine SP.val (Val.assign rfl) rfl rfl rfl ?_
        refine SP.nil ?_
        refine QE.then ?_
        refine CP.ret ?_
        refine QE.blockR ?_
        refine QE.thru (by intro e; cases e) ?_
        refine QE.thru (by intro e; cases e) ?_
        refine QE.blockR ?_
        refine QE.thru (by intro e; cases e) ?_
        obtain rfl := Option.some.inj ho
        obtain rfl := Option.some.inj hr
        exact QE.rets (rs := [.tmp 4]) (vs := [.bool false]) Tryd.results14 rfl ⟨RVs.tmp rfl, trivial⟩ (fun w2 h => St.done (fun a b p s => rfl) h)
      · refine CP.condF rfl (decide_eq_false hc) ?_
        refine CP.skip ?_
        refine QE.blockN ?_
        refine QE.then ?_
        refine CP.region ?_
        refine SP.val (Val.move rfl) rfl rfl rfl ?_
        refine SP.val (Val.add rfl rfl) rfl rfl rfl ?_
        refine SP.val (Val.assign rfl) rfl rfl rfl ?_
        refine SP.nil ?_
        obtain rfl := Option.some.inj ho
        exact QE.lower m13 (by omega) fun a w2 ha hw => ⟨(IntKind.i64.wrap (x12 + 1)), (by omega), hr, ha.sub ⟨rfl, rfl, rfl, trivial⟩, (St.selP [4, 5] rfl hw)⟩
    · refine CP.condF rfl (decide_eq_false hc) ?_
      refine CP.exit ?_
      refine QE.thru (by intro e; cases e) ?_
      refine QE.thru (by intro e; cases e) ?_
      refine QE.blockE ?_
      refine QE.then ?_
      refine CP.seq ?_
      refine CP.region ?_
      refine SP.val (Val.assign rfl) rfl rfl rfl ?_
      refine SP.nil ?_
      refine QE.then ?_
      refine CP.ret ?_
      obtain rfl := Option.some.inj ho
      obtain rfl := Option.some.inj hr
      exact QE.rets (rs := [.tmp 4]) (vs := [.bool true]) Tryd.results14 rfl ⟨RVs.tmp rfl, trivial⟩ (fun w2 h => St.done (fun a b p s => rfl) h)
/-! ### capstan/capstanlaw09.FlowWays: function 4 -/
inductive capstanlaw09_FlowWays.S where
  | start
  | l1 (t2 : (List Int) × Int) (l34 : List Int) (x36 : Int)
  | l2 (t2 : (List Int) × Int) (l50 : List Int) (x52 : Int)

def capstanlaw09_FlowWays.F (l_0 : (List api_Instr)) (a1 : Int) : capstanlaw09_FlowWays.S → Option (capstanlaw09_FlowWays.S ⊕ Bool)
  | .start => if (l_0.length : Int) > 300 then (some (.inr true)) else ((capstanref09_Ways.f l_0 a1).bind fun t2 => (flow_Ways.f l_0 a1).bind fun t5 => (if t5.2 ≠ t2.2 then (some true) else ((capstanref09_SameInts.f t5.1 t2.1).bind fun t10 => some (!t10))).bind fun t11 => if t11 = true then (some (.inr false)) else (some (.inl (.l1 t2 t5.1 0))))
  | .l1 t2 l34 x36 => if x36 < (l34.length : Int) then ((elt l34 x36).bind fun x39 => some (.inl (.l1 t2 (l34.set x36.toNat (-5)) (IntKind.i64.wrap (x36 + 1))))) else ((flow_Ways.f l_0 a1).bind fun t40 => (if t40.2 ≠ t2.2 then (some true) else ((capstanref09_SameInts.f t40.1 t2.1).bind fun t45 => some (!t45))).bind fun t46 => if t46 = true then (some (.inr false)) else (some (.inl (.l2 t2 t40.1 0))))
  | .l2 t2 l50 x52 => if x52 < (l50.length : Int) then ((elt l50 x52).bind fun x55 => some (.inl (.l2 t2 (l50.set x52.toNat (-5)) (IntKind.i64.wrap (x52 + 1))))) else (some (.inr true))

def capstanlaw09_FlowWays.f (l_0 : (List api_Instr)) (a1 : Int) : Option Bool := runF (capstanlaw09_FlowWays.F l_0 a1) .start
theorem capstanlaw09_FlowWays.ok (l_0 : (List api_Instr)) (a1 : Int) (v_l_0 : Value)  (r : Bool) (H : capstanlaw09_FlowWays.f l_0 a1 = some r) (w : World) (hV : Hp) (sV : Sub hV (hp w)) (h0 : slR k_api_Instr hV v_l_0 l_0) (h1 : (arrP k_arr88 0 tab0).p hV) :
    Trip Tryd.prog 4 [v_l_0, .int .i64 a1].toArray em hV w (fun v => HO.pure (v = .bool r)) := by
  have see : Sees w em hV := ⟨sV, Dj.em_right _⟩
  refine Trip.of (P := Tryd.prog) (n := ⟨48, []⟩) Tryd.func4 rfl ⟨rfl, rfl⟩ rfl (St.begin (All.cons (x := slP k_api_Instr v_l_0 l_0) h0 (All.cons (x := arrP k_arr88 0 tab0) h1 (All.nil _)))) ?_
  obtain ⟨n0, hi⟩ := runF_iff.1 H
  obtain ⟨m0, o, hm0, ho, hr⟩ := iter_some hi
  clear hi
  refine CP.seq ?_
  refine CP.region ?_
  refine SP.val (Val.assign rfl) rfl rfl rfl ?_
  refine SP.nil ?_
  refine QE.then ?_
  refine CP.seq ?_
  refine CP.seq ?_
  refine CP.region ?_
  refine SP.val (Val.move rfl) rfl rfl rfl ?_
  refine SP.val (Val.lenP see 0 rfl Tryd.underlying22 rfl) rfl rfl rfl ?_
  refine SP.val (Val.gtr rfl rfl) rfl rfl rfl ?_
  refine SP.nil ?_
  refine QE.then ?_
  rcases if_some ho with ⟨hc, ho⟩ | ⟨hc, ho⟩
  · refine CP.condT rfl (decide_eq_true hc) ?_
    refine CP.seq ?_
    refine CP.region ?_
    refine SP.val (Val.assign rfl) rfl rfl rfl ?_
    refine SP.nil ?_
    refine QE.then ?_
    refine CP.ret ?_
    refine QE.thru (by intro e; cases e) ?_
    obtain rfl := Option.some.inj ho
    obtain rfl := Option.some.inj hr
    exact QE.rets (rs := [.tmp 4]) (vs := [.bool true]) Tryd.results4 rfl ⟨RVs.tmp rfl, trivial⟩ (fun w2 h => St.done (fun a b p s => rfl) h)
  · refine CP.condF rfl (decide_eq_false hc) ?_
    refine CP.skip ?_
    refine QE.then ?_
    refine CP.seq ?_
    refine CP.region ?_
    refine SP.val (Val.move rfl) rfl rfl rfl ?_
    refine SP.val (Val.move rfl) rfl rfl rfl ?_
    obtain ⟨t2, hc, ho⟩ := bind_some (x := capstanref09_Ways.f l_0 a1) ho
    refine SP.callK see (caps := []) _ fn16 rfl rfl rfl rfl (fun w2 hP hs sub ap => capstanref09_Ways.ok l_0 a1 _ _ hc w2 hP sub (ap.get 0 rfl)) (fun vr => ?_)
    refine SP.ex (fun w2 h => St.open h) (fun v3 => ?_)
    refine SP.have (fun w2 h => (St.pand h).1.symm) (fun er => ?_)
    subst er
    refine SP.imp (fun w2 h => St.seps (St.pand h).2) ?_
    clear hc
    refine SP.val (Val.move rfl) rfl rfl rfl ?_
    refine SP.val (Val.extract rfl rfl) rfl rfl rfl ?_
    refine SP.val (Val.extract rfl rfl) rfl rfl rfl ?_
    refine SP.val (Val.assign rfl) rfl rfl rfl ?_
    refine SP.val (Val.assign rfl) rfl rfl rfl ?_
    refine SP.nil ?_
    refine QE.then ?_
    refine CP.seq ?_
    refine CP.seq ?_
    refine CP.region ?_
    refine SP.val (Val.assign rfl) rfl rfl rfl ?_
    refine SP.nil ?_
    refine QE.then ?_
    refine CP.block ?_
    refine CP.rounds 8 ?_
    refine LP.step ?_
    refine CP.seq ?_
    refine CP.seq ?_
    refine CP.region ?_
    refine SP.val (Val.move rfl) rfl rfl rfl ?_
    refine SP.val (Val.cast (v := .bool true) (Val.lss rfl rfl) rfl) rfl rfl rfl ?_
    refine SP.nil ?_
    refine QE.then ?_
    refine CP.condT rfl rfl ?_
    refine CP.skip ?_
    refine QE.then ?_
    refine CP.seq ?_
    refine CP.block ?_
    refine CP.seq ?_
    refine CP.region ?_
    refine SP.val (Val.move rfl) rfl rfl rfl ?_
    refine SP.val (Val.move rfl) rfl rfl rfl ?_
    obtain ⟨t5, hc, ho⟩ := bind_some (x := flow_Ways.f l_0 a1) ho
    refine SP.callK see (caps := []) _ fn17 rfl rfl rfl rfl (fun w2 hP hs sub ap => flow_Ways.ok l_0 a1 _ _ hc w2 hP sub (ap.get 0 rfl) (ap.get 1 rfl)) (fun vr => ?_)
    refine SP.ex (fun w2 h => St.open h) (fun v6 => ?_)
    refine SP.have (fun w2 h => (St.pand h).1.symm) (fun er => ?_)
    subst er
    refine SP.imp (fun w2 h => St.seps (St.pand h).2) ?_
    clear hc
    refine SP.val (Val.move rfl) rfl rfl rfl ?_
    refine SP.val (Val.extract rfl rfl) rfl rfl rfl ?_
    refine SP.val (Val.extract rfl rfl) rfl rfl rfl ?_
    refine SP.val (Val.assign rfl) rfl rfl rfl ?_
    refine SP.val (Val.assign rfl) rfl rfl rfl ?_
    refine SP.nil ?_
    refine QE.then ?_
    refine CP.seq ?_
    refine CP.seq ?_
    refine CP.region ?_
    refine SP.val (Val.move rfl) rfl rfl rfl ?_
    refine SP.val (Val.move rfl) rfl rfl rfl ?_
    refine SP.val (Val.neq rfl rfl) rfl rfl rfl ?_
    refine SP.val (Val.move rfl) rfl rfl rfl ?_
    obtain ⟨t11, hg_t11, ho⟩ := bind_some ho
    refine SP.join 5 (fun a w2 => Env ⟨48, []⟩ [(0, v_l_0), (1, .int .i64 a1), (5, v3), (6, .int .i64 t2.2), (7, .int .i64 0), (8, v6), (38, .bool t11)] a ∧ St w em hV [slP k_api_Instr v_l_0 l_0, arrP k_arr88 0 tab0] [slO (kInt .i64) 3 v6 t5.1, slO (kInt .i64) 3 v3 t2.1] w2) ?_ ?_
    · rintro a w2 ⟨ha, hw⟩
      refine SP.app ha hw ?_
      clear ha hw a w2 hg_t11
      refine SP.nil ?_
      refine QE.then ?_
      rcases if_some ho with ⟨hc, ho⟩ | ⟨hc, ho⟩
      · refine CP.condT rfl hc ?_
        refine CP.seq ?_
        refine CP.region ?_
        refine SP.val (Val.assign rfl) rfl rfl rfl ?_
        refine SP.nil ?_
        refine QE.then ?_
        refine CP.ret ?_
        refine QE.thru (by intro e; cases e) ?_
        refine QE.blockR ?_
        refine QE.thru (by intro e; cases e) ?_
        refine QE.thru (by intro e; cases e) ?_
        refine QE.blockR ?_
        refine QE.thru (by intro e; cases e) ?_
        obtain rfl := Option.some.inj ho
        obtain rfl := Option.some.inj hr
        exact QE.rets (rs := [.tmp 4]) (vs := [.bool false]) Tryd.results4 rfl ⟨RVs.tmp rfl, trivial⟩ (fun w2 h => St.done (fun a b p s => rfl) h)
      · refine CP.condF rfl (bf hc) ?_
        refine CP.skip ?_
        refine QE.then ?_
        refine CP.seq ?_
        refine CP.region ?_
        refine SP.val (Val.assign rfl) rfl rfl rfl ?_
        refine SP.nil ?_
        refine QE.then ?_
        refine CP.block ?_
        obtain rfl := Option.some.inj ho
        refine CP.loop (fun cl1 a w2 => ∃ l34 : List Int, ∃ x36 : Int, ∃ v35 : Value, cl1 ≤ m0 ∧ iter (capstanlaw09_FlowWays.F l_0 a1) cl1 (.l1 t2 l34 x36) = some r ∧ Env ⟨48, []⟩ [(0, v_l_0), (1, .int .i64 a1), (5, v3), (6, .int .i64 t2.2), (7, .int .i64 0), (8, v35), (10, .int .i64 x36)] a ∧ St w em hV [slP k_api_Instr v_l_0 l_0, arrP k_arr88 0 tab0] [slO (kInt .i64) 3 v35 l34, slO (kInt .i64) 3 v3 t2.1] w2) m0 (fun a w2 ha hw => ⟨t5.1, 0, v6, Nat.le_refl _, hr, ha.sub ⟨rfl, rfl, rfl, rfl, rfl, rfl, rfl, trivial⟩, hw⟩) ?_
        clear hr
        rintro cl1 a w2 ⟨l34, x36, v35, hc_l1, hi, ha, hw⟩
        obtain ⟨m37, o, hm_m37, ho, hr⟩ := iter_some hi
        refine CP.app ha hw ?_
        clear ha hw a w2 hi
        refine CP.seq ?_
        refine CP.seq ?_
        refine CP.region ?_
        refine SP.val (Val.move rfl) rfl rfl rfl ?_
        refine SP.val (Val.move rfl) rfl rfl rfl ?_
        refine SP.val (Val.lenW (fun w2 hw => slO.whole (St.own 0 rfl see.sub see.dj hw)) Tryd.underlying27 rfl) rfl rfl rfl ?_
        refine SP.val (Val.lss rfl rfl) rfl rfl rfl ?_
        refine SP.nil ?_
        refine QE.then ?_
        rcases if_some ho with ⟨hc, ho⟩ | ⟨hc, ho⟩
        · refine CP.condT rfl (decide_eq_true hc) ?_
          refine CP.skip ?_
          refine QE.then ?_
          refine CP.seq ?_
          refine CP.block ?_
          refine CP.region ?_
          refine SP.val (Val.move rfl) rfl rfl rfl ?_
          refine SP.val (Val.move rfl) rfl rfl rfl ?_
          obtain ⟨x39, hx_x39, ho⟩ := bind_some ho
          have hx_x39 := elt_some hx_x39
          refine SP.indexW (fun w2 hw => slO.whole (St.own 0 rfl see.sub see.dj hw)) Tryd.underlying27 sz3 hx_x39.1 hx_x39.2 rfl rfl rfl rfl (fun p38 h_p38 => ?_)
          refine SP.storeO (z0 := (-5)) (off := 0) (vs := [.int .i64 (-5)]) see 0 rfl hx_x39.2 h_p38 rfl rfl sz3 rfl (fun a cs _ e => by subst e; rfl) rfl rfl rfl ?_
          refine SP.nil ?_
          refine QE.blockN ?_
          refine QE.then ?_
          refine CP.region ?_
          refine SP.val (Val.move rfl) rfl rfl rfl ?_
          refine SP.val (Val.add rfl rfl) rfl rfl rfl ?_
          refine SP.val (Val.assign rfl) rfl rfl rfl ?_
          refine SP.nil ?_
          obtain rfl := Option.some.inj ho
          exact QE.lower m37 (by omega) fun a w2 ha hw => ⟨(l34.set x36.toNat (-5)), (IntKind.i64.wrap (x36 + 1)), v35, (by omega), hr, ha.sub ⟨rfl, rfl, rfl, rfl, rfl, rfl, rfl, trivial⟩, hw⟩
        · refine CP.condF rfl (decide_eq_false hc) ?_
          refine CP.exit ?_
          refine QE.thru (by intro e; cases e) ?_
          refine QE.thru (by intro e; cases e) ?_
          refine QE.blockE ?_
          refine QE.blockN ?_
          refine QE.then ?_
          refine CP.region ?_
          refine SP.val (Val.move rfl) rfl rfl rfl ?_
          refine SP.val (Val.cast (v := .int .i64 1) (Val.add rfl rfl) rfl) rfl rfl rfl ?_
          refine SP.val (Val.assign rfl) rfl rfl rfl ?_
          refine SP.nil ?_
          refine QE.round ?_
          refine LP.step ?_
          refine CP.seq ?_
          refine CP.seq ?_
          refine CP.region ?_
          refine SP.val (Val.move rfl) rfl rfl rfl ?_
          refine SP.val (Val.cast (v := .bool true) (Val.lss rfl rfl) rfl) rfl rfl rfl ?_
          refine SP.nil ?_
          refine QE.then ?_
          refine CP.condT rfl rfl ?_
          refine CP.skip ?_
          refine QE.then ?_
          refine CP.seq ?_
          refine CP.block ?_
          refine CP.seq ?_
          refine CP.region ?_
          refine SP.val (Val.move rfl) rfl rfl rfl ?_
          refine SP.val (Val.move rfl) rfl rfl rfl ?_
          obtain ⟨t40, hc, ho⟩ := bind_some (x := flow_Ways.f l_0 a1) ho
          refine SP.callK see (caps := []) _ fn17 rfl rfl rfl rfl (fun w2 hP hs sub ap => flow_Ways.ok l_0 a1 _ _ hc w2 hP sub (ap.get 0 rfl) (ap.get 1 rfl)) (fun vr => ?_)
          refine SP.ex (fun w2 h => St.open h) (fun v41 => ?_)
          refine SP.have (fun w2 h => (St.pand h).1.symm) (fun er => ?_)
          subst er
          refine SP.imp (fun w2 h => St.seps (St.pand h).2) ?_
          clear hc
          refine SP.val (Val.move rfl) rfl rfl rfl ?_
          refine SP.val (Val.extract rfl rfl) rfl rfl rfl ?_
          refine SP.val (Val.extract rfl rfl) rfl rfl rfl ?_
          refine SP.val (Val.assign rfl) rfl rfl rfl ?_
          refine SP.val (Val.assign rfl) rfl rfl rfl ?_
          refine SP.nil ?_
          refine QE.then ?_
          refine CP.seq ?_
          refine CP.seq ?_
          refine CP.region ?_
          refine SP.val (Val.move rfl) rfl rfl rfl ?_
          refine SP.val (Val.move rfl) rfl rfl rfl ?_
          refine SP.val (Val.neq rfl rfl) rfl rfl rfl ?_
          refine SP.val (Val.move rfl) rfl rfl rfl ?_
          obtain ⟨t46, hg_t46, ho⟩ := bind_some ho
          refine SP.join 5 (fun a w2 => Env ⟨48, []⟩ [(0, v_l_0), (1, .int .i64 a1), (5, v3), (6, .int .i64 t2.2), (7, .int .i64 1), (8, v41), (38, .bool t46)] a ∧ St w em hV [slP k_api_Instr v_l_0 l_0, arrP k_arr88 0 tab0] [slO (kInt .i64) 3 v41 t40.1, slO (kInt .i64) 3 v35 l34, slO (kInt .i64) 3 v3 t2.1] w2) ?_ ?_
          · rintro a w2 ⟨ha, hw⟩
            refine SP.app ha hw ?_
            clear ha hw a w2 hg_t46
            refine SP.nil ?_
            refine QE.then ?_
            rcases if_some ho with ⟨hc, ho⟩ | ⟨hc, ho⟩
            · refine CP.condT rfl hc ?_
              refine CP.seq ?_
              refine CP.region ?_
              refine SP.val (Val.assign rfl) rfl rfl rfl ?_
              refine SP.nil ?_
              refine QE.then ?_
              refine CP.ret ?_
              refine QE.thru (by intro e; cases e) ?_
              refine QE.blockR ?_
              refine QE.thru (by intro e; cases e) ?_
              refine QE.thru (by intro e; cases e) ?_
              refine QE.blockR ?_
              refine QE.thru (by intro e; cases e) ?_
              obtain rfl := Option.some.inj ho
              obtain rfl := Option.some.inj hr
              exact QE.rets (rs := [.tmp 4]) (vs := [.bool false]) Tryd.results4 rfl ⟨RVs.tmp rfl, trivial⟩ (fun w2 h => St.done (fun a b p s => rfl) h)
            · refine CP.condF rfl (bf hc) ?_
              refine CP.skip ?_
              refine QE.then ?_
              refine CP.seq ?_
              refine CP.region ?_
              refine SP.val (Val.assign rfl) rfl rfl rfl ?_
              refine SP.nil ?_
              refine QE.then ?_
              refine CP.block ?_
              obtain rfl := Option.some.inj ho
              refine CP.loop (fun cl2 a w2 => ∃ l50 : List Int, ∃ x52 : Int, ∃ v51 : Value, cl2 ≤ m37 ∧ iter (capstanlaw09_FlowWays.F l_0 a1) cl2 (.l2 t2 l50 x52) = some r ∧ Env ⟨48, []⟩ [(0, v_l_0), (1, .int .i64 a1), (5, v3), (6, .int .i64 t2.2), (7, .int .i64 1), (8, v51), (10, .int .i64 x52)] a ∧ St w em hV [slP k_api_Instr v_l_0 l_0, arrP k_arr88 0 tab0] [slO (kInt .i64) 3 v51 l50, slO (kInt .i64) 3 v3 t2.1] w2) m37 (fun a w2 ha hw => ⟨t40.1, 0, v41, Nat.le_refl _, hr, ha.sub ⟨rfl, rfl, rfl, rfl, rfl, rfl, rfl, trivial⟩, (St.selO [0, 2] rfl rfl hw)⟩) ?_
              clear hr
              rintro cl2 a w2 ⟨l50, x52, v51, hc_l2, hi, ha, hw⟩
              obtain ⟨m53, o, hm_m53, ho, hr⟩ := iter_some hi
              refine CP.app ha hw ?_
              clear ha hw a w2 hi
              refine CP.seq ?_
              refine CP.seq ?_
              refine CP.region ?_
              refine SP.val (Val.move rfl) rfl rfl rfl ?_
              refine SP.val (Val.move rfl) rfl rfl rfl ?_
              refine SP.val (Val.lenW (fun w2 hw => slO.whole (St.own 0 rfl see.sub see.dj hw)) Tryd.underlying27 rfl) rfl rfl rfl ?_
              refine SP.val (Val.lss rfl rfl) rfl rfl rfl ?_
              refine SP.nil ?_
              refine QE.then ?_
              rcases if_some ho with ⟨hc, ho⟩ | ⟨hc, ho⟩
              · refine CP.condT rfl (decide_eq_true hc) ?_
                refine CP.skip ?_
                refine QE.then ?_
                refine CP.seq ?_
                refine CP.block ?_
                refine CP.region ?_
                refine SP.val (Val.move rfl) rfl rfl rfl ?_
                refine SP.val (Val.move rfl) rfl rfl rfl ?_
                obtain ⟨x55, hx_x55, ho⟩ := bind_some ho
                have hx_x55 := elt_some hx_x55
                refine SP.indexW (fun w2 hw => slO.whole (St.own 0 rfl see.sub see.dj hw)) Tryd.underlying27 sz3 hx_x55.1 hx_x55.2 rfl rfl rfl rfl (fun p54 h_p54 => ?_)
                refine SP.storeO (z0 := (-5)) (off := 0) (vs := [.int .i64 (-5)]) see 0 rfl hx_x55.2 h_p54 rfl rfl sz3 rfl (fun a cs _ e => by subst e; rfl) rfl rfl rfl ?_
                refine SP.nil ?_
                refine QE.blockN ?_
                refine QE.then ?_
                refine CP.region ?_
                refine SP.val (Val.move rfl) rfl rfl rfl ?_
                refine SP.val (Val.add rfl rfl) rfl rfl rfl ?_
                refine SP.val (Val.assign rfl) rfl rfl rfl ?_
                refine SP.nil ?_
                obtain rfl := Option.some.inj ho
                exact QE.lower m53 (by omega) fun a w2 ha hw => ⟨(l50.set x52.toNat (-5)), (IntKind.i64.wrap (x52 + 1)), v51, (by omega), hr, ha.sub ⟨rfl, rfl, rfl, rfl, rfl, rfl, rfl, trivial⟩, hw⟩
              · refine CP.condF rfl (decide_eq_false hc) ?_
                refine CP.exit ?_
                refine QE.thru (by intro e; cases e) ?_
                refine QE.thru (by intro e; cases e) ?_
                refine QE.blockE ?_
                refine QE.blockN ?_
                refine QE.then ?_
                refine CP.region ?_
                refine SP.val (Val.move rfl) rfl rfl rfl ?_
                refine SP.val (Val.cast (v := .int .i64 2) (Val.add rfl rfl) rfl) rfl rfl rfl ?_
                refine SP.val (Val.assign rfl) rfl rfl rfl ?_
                refine SP.nil ?_
                refine QE.round ?_
                refine LP.step ?_
                refine CP.seq ?_
                refine CP.seq ?_
                refine CP.region ?_
                refine SP.val (Val.move rfl) rfl rfl rfl ?_
                refine SP.val (Val.cast (v := .bool false) (Val.lss rfl rfl) rfl) rfl rfl rfl ?_
                refine SP.nil ?_
                refine QE.then ?_
                refine CP.condF rfl rfl ?_
                refine CP.exit ?_
                refine QE.thru (by intro e; cases e) ?_
                refine QE.thru (by intro e; cases e) ?_
                refine QE.blockE ?_
                refine QE.then ?_
                refine CP.seq ?_
                refine CP.region ?_
                refine SP.val (Val.assign rfl) rfl rfl rfl ?_
                refine SP.nil ?_
                refine QE.then ?_
                refine CP.ret ?_
                obtain rfl := Option.some.inj ho
                obtain rfl := Option.some.inj hr
                exact QE.rets (rs := [.tmp 4]) (vs := [.bool true]) Tryd.results4 rfl ⟨RVs.tmp rfl, trivial⟩ (fun w2 h => St.done (fun a b p s => rfl) h)
          · intro J
            clear ho
            have ho := hg_t46
            clear hg_t46
            rcases if_some ho with ⟨hc, ho⟩ | ⟨hc, ho⟩
            · have hq44 := (decide_eq_true hc)
              refine SP.isT (d := 33) rfl hq44 ?_
              refine SP.not rfl rfl rfl ?_
              refine SP.not rfl rfl rfl ?_
              refine SP.not rfl rfl rfl ?_
              refine SP.not rfl rfl rfl ?_
              refine SP.val (Val.pickT rfl rfl) rfl rfl rfl ?_
              obtain rfl := Option.some.inj ho
              exact J fun a w2 ha hw => ⟨ha.sub ⟨rfl, rfl, rfl, rfl, rfl, rfl, rfl, trivial⟩, hw⟩
            · have hq44 := (decide_eq_false hc)
              refine SP.isF (d := 33) rfl hq44 ?_
              refine SP.val (Val.move rfl) rfl rfl rfl ?_
              refine SP.val (Val.move rfl) rfl rfl rfl ?_
              obtain ⟨t45, hc, ho⟩ := bind_some (x := capstanref09_SameInts.f t40.1 t2.1) ho
              refine SP.callVO see (caps := []) (.bool t45) fn14 rfl rfl rfl rfl (fun w2 hs => capstanref09_SameInts.ok t40.1 t2.1 _ _ _ hc w2 (hp w2) (Sub.refl _) (slO.read (St.own 0 rfl see.sub see.dj hs) (Sub.refl _) (Sub.refl _)) (slO.read (St.own 2 rfl see.sub see.dj hs) (Sub.refl _) (Sub.refl _))) ?_
              clear hc
              refine SP.val (Val.notB rfl) rfl rfl rfl ?_
              refine SP.val (Val.pickF rfl rfl) rfl rfl rfl ?_
              obtain rfl := Option.some.inj ho
              exact J fun a w2 ha hw => ⟨ha.sub ⟨rfl, rfl, rfl, rfl, rfl, rfl, rfl, trivial⟩, hw⟩
    · intro J
      clear ho
      have ho := hg_t11
      clear hg_t11
      rcases if_some ho with ⟨hc, ho⟩ | ⟨hc, ho⟩
      · have hq9 := (decide_eq_true hc)
        refine SP.isT (d := 33) rfl hq9 ?_
        refine SP.not rfl rfl rfl ?_
        refine SP.not rfl rfl rfl ?_
        refine SP.not rfl rfl rfl ?_
        refine SP.not rfl rfl rfl ?_
        refine SP.val (Val.pickT rfl rfl) rfl rfl rfl ?_
        obtain rfl := Option.some.inj ho
        exact J fun a w2 ha hw => ⟨ha.sub ⟨rfl, rfl, rfl, rfl, rfl, rfl, rfl, trivial⟩, hw⟩
      · have hq9 := (decide_eq_false hc)
        refine SP.isF (d := 33) rfl hq9 ?_
        refine SP.val (Val.move rfl) rfl rfl rfl ?_
        refine SP.val (Val.move rfl) rfl rfl rfl ?_
        obtain ⟨t10, hc, ho⟩ := bind_some (x := capstanref09_SameInts.f t5.1 t2.1) ho
        refine SP.callVO see (caps := []) (.bool t10) fn14 rfl rfl rfl rfl (fun w2 hs => capstanref09_SameInts.ok t5.1 t2.1 _ _ _ hc w2 (hp w2) (Sub.refl _) (slO.read (St.own 0 rfl see.sub see.dj hs) (Sub.refl _) (Sub.refl _)) (slO.read (St.own 1 rfl see.sub see.dj hs) (Sub.refl _) (Sub.refl _))) ?_
        clear hc
        refine SP.val (Val.notB rfl) rfl rfl rfl ?_
        refine SP.val (Val.pickF rfl rfl) rfl rfl rfl ?_
        obtain rfl := Option.some.inj ho
        exact J fun a w2 ha hw => ⟨ha.sub ⟨rfl, rfl, rfl, rfl, rfl, rfl, rfl, trivial⟩, hw⟩
theorem cl5 : Tryd.prog.cellsOf 5 = 1 := by kernel_rfl
theorem cl3 : Tryd.prog.cellsOf 3 = 1 := by kernel_rfl
theorem cl52 : Tryd.prog.cellsOf 52 = 3 := by kernel_rfl
def wf_api_Instr (x : api_Instr) : Prop := (Lit.int .u8 x.Op).wf = true ∧ (Lit.int .i64 x.A).wf = true ∧ (Lit.int .i64 x.B).wf = true
theorem opens_api_Instr : Opens Tryd.prog 52 k_api_Instr wf_api_Instr := by
  intro H enc W fuel cs d ps h
  cases fuel with
  | zero => simp [DataW.trod] at h
  | succ n =>
    obtain ⟨hl, hf⟩ := trod_struct Tryd.underlying52 h
    rw [cl52] at hl
    obtain ⟨c0, c1, c2, rfl⟩ := len3 hl
    obtain ⟨d0, q0, h0⟩ := hf 0 _ rfl
    replace h0 : DataW.trod enc Tryd.prog W 0 (fun _ => true) true n 5 (List.take (Tryd.prog.cellsOf 5) [c0, c1, c2]) = some (d0, q0) := h0
    rw [cl5] at h0
    replace h0 : DataW.trod enc Tryd.prog W 0 (fun _ => true) true n 5 [c0] = some (d0, q0) := h0
    obtain ⟨x0, r0, w0⟩ := (Opens.int Tryd.underlying5) enc W n _ _ _ h0
    obtain ⟨rfl, -⟩ := List.cons.inj r0
    obtain ⟨d1, q1, h1⟩ := hf 1 _ rfl
    replace h1 : DataW.trod enc Tryd.prog W 0 (fun _ => true) true n 3 (List.take (Tryd.prog.cellsOf 3) [c1, c2]) = some (d1, q1) := h1
    rw [cl3] at h1
    replace h1 : DataW.trod enc Tryd.prog W 0 (fun _ => true) true n 3 [c1] = some (d1, q1) := h1
    obtain ⟨x1, r1, w1⟩ := (Opens.int Tryd.underlying3) enc W n _ _ _ h1
    obtain ⟨rfl, -⟩ := List.cons.inj r1
    obtain ⟨d2, q2, h2⟩ := hf 2 _ rfl
    replace h2 : DataW.trod enc Tryd.prog W 0 (fun _ => true) true n 3 (List.take (Tryd.prog.cellsOf 3) [c2]) = some (d2, q2) := h2
    rw [cl3] at h2
    replace h2 : DataW.trod enc Tryd.prog W 0 (fun _ => true) true n 3 [c2] = some (d2, q2) := h2
    obtain ⟨x2, r2, w2⟩ := (Opens.int Tryd.underlying3) enc W n _ _ _ h2
    obtain ⟨rfl, -⟩ := List.cons.inj r2
    exact ⟨⟨x0, x1, x2⟩, rfl, w0, w1, w2⟩
/-- What is left to be shown of the law: of plain values alone. -/
def capstanlaw09_FlowWays.Pure : Prop := ∀ (x0 : (List api_Instr)) (x1 : Int), (x0.length ≤ maxLen ∧ ∀ y ∈ x0, wf_api_Instr y) → (Lit.int .i64 x1).wf = true → capstanlaw09_FlowWays.f x0 x1 = some true
end Go.Proofs.YtbejlahmhloloaaDoor
end
