/- Functions of the program as plain functions, with the proof that the code computes them: printed by gen.py of this session. -/
import Derived.Test.YtbejlahmhloloaaDoorProg
import Derived.Test.YtbejlahmhloloaaDoorQ26v13fef8
import Derived.Ground.NamesProg
import Derived.Ground.SlgcProg
import Derived.Ground.SlgmProg
import Derived.Ground.SlgnProg
import Derived.Ground.SlsfProg
import Derived.Shelf.Bits.Mul64
import Derived.Shelf.Lay
import Derived.Shelf.SlGeneric
import Derived.Shelf.SlSortCmp.WholeK
import Derived.Shelf.SlicesG.Cmp
import Derived.Shelf.SlicesG.CompactI
import Derived.Shelf.Small.Bits
import Derived.Shelf.SortM.Plain
import Derived.Shelf.SortM.SortNone
import Derived.Test.YtbejlahmhloloaaDoorGFlowNestedp1
set_option linter.unusedVariables false
set_option linter.unusedSimpArgs false
set_option maxRecDepth 20000
set_option maxHeartbeats 2000000
noncomputable section
namespace Go.Proofs.YtbejlahmhloloaaDoor
open Go.Q
/-! ### capstan/capstanlaw09.awake: function 18 -/
def capstanlaw09_awake.f  : Option Bool :=
  (capstanlaw09_row.f [28, 3, 0, 0, 29, 0, 31, 0]).bind fun t3 => (flow_Loops.f t3).bind fun t6 => (flow_Times.f t3).bind fun t9 => (flow_Ways.f t3 2).bind fun t12 => if ((((((decide (t6.2 ≠ 0)) || (decide (t9.2 ≠ 0))) || (decide (t12.2 ≠ 0))) || (decide ((t6.1.length : Int) ≠ 1))) || (decide ((t9.1.length : Int) ≠ 4))) || (decide ((t12.1.length : Int) ≠ 2))) = true then (some false) else ((elt t6.1 0).bind fun x26 => (if x26.From ≠ 0 then (some true) else ((elt t6.1 0).bind fun x31 => some (decide (x31.To ≠ 2)))).bind fun t33 => (if t33 = true then (some true) else ((elt t6.1 0).bind fun x37 => some (decide (x37.Turns ≠ 3)))).bind fun t39 => (if t39 = true then (some true) else ((elt t9.1 0).bind fun x43 => some (decide (x43 ≠ 1)))).bind fun t44 => (if t44 = true then (some true) else ((elt t9.1 1).bind fun x48 => some (decide (x48 ≠ 3)))).bind fun t49 => (if t49 = true then (some true) else ((elt t9.1 2).bind fun x53 => some (decide (x53 ≠ 3)))).bind fun t54 => (if t54 = true then (some true) else ((elt t9.1 3).bind fun x58 => some (decide (x58 ≠ 1)))).bind fun t59 => (if t59 = true then (some true) else ((elt t12.1 0).bind fun x63 => some (decide (x63 ≠ 1)))).bind fun t64 => (if t64 = true then (some true) else ((elt t12.1 1).bind fun x68 => some (decide (x68 ≠ 3)))).bind fun t69 => if t69 = true then (some false) else ((capstanlaw09_row.f [26, 1, 31, 0]).bind fun t72 => (flow_Check.f t72).bind fun t75 => (if t75 = 0 then ((capstanlaw09_row.f [26, 0, 31, 0]).bind fun t80 => (flow_Check.f t80).bind fun t83 => some (decide (t83 = 90))) else (some false)).bind fun t84 => (if t84 = true then ((capstanlaw09_row.f [26, 2, 31, 0]).bind fun t89 => (flow_Check.f t89).bind fun t92 => some (decide (t92 = 90))) else (some false)).bind fun t93 => (if t93 = true then ((capstanlaw09_row.f [27, 2, 28, 3, 29, 1, 31, 0]).bind fun t98 => (flow_Check.f t98).bind fun t101 => some (decide (t101 = 90))) else (some false)).bind fun t102 => (if t102 = true then ((capstanlaw09_row.f [28, 3, 26, 3, 29, 0, 31, 0]).bind fun t107 => (flow_Check.f t107).bind fun t110 => some (decide (t110 = 0))) else (some false)).bind fun t111 => (if t111 = true then ((capstanlaw09_row.f [0, 0]).bind fun t116 => (flow_Check.f t116).bind fun t119 => some (decide (t119 = 90))) else (some false)).bind fun t120 => some t120))
theorem capstanlaw09_awake.ok   (r : Bool) (H : capstanlaw09_awake.f  = some r) (w : World) (hV : Hp) (sV : Sub hV (hp w)) (h0 : (arrP k_arr88 0 tab0).p hV) :
    Trip Tryd.prog 18 [].toArray em hV w (fun v => HO.pure (v = .bool r)) := by
  have see : Sees w em hV := ⟨sV, Dj.em_right _⟩
  refine Trip.of (P := Tryd.prog) (n := ⟨164, []⟩) Tryd.func18 rfl ⟨rfl, rfl⟩ rfl (St.begin (All.cons (x := arrP k_arr88 0 tab0) h0 (All.nil _))) ?_
  have ho := H
  refine CP.seq ?_
  refine CP.region ?_
  refine SP.val (Val.assign rfl) rfl rfl rfl ?_
  refine SP.nil ?_
  refine QE.then ?_
  refine CP.seq ?_
  refine CP.region ?_
  refine SP.val (Val.assign rfl) rfl rfl rfl ?_
  refine SP.val (Val.assign rfl) rfl rfl rfl ?_
  refine SP.val (Val.assign rfl) rfl rfl rfl ?_
  refine SP.val (Val.assign rfl) rfl rfl rfl ?_
  refine SP.val (Val.assign rfl) rfl rfl rfl ?_
  refine SP.val (Val.assign rfl) rfl rfl rfl ?_
  refine SP.nil ?_
  refine QE.then ?_
  refine CP.seq ?_
  refine CP.region ?_
  refine SP.val (Val.move rfl) rfl rfl rfl ?_
  refine SP.val (Val.move rfl) rfl rfl rfl ?_
  refine SP.val (Val.move rfl) rfl rfl rfl ?_
  refine SP.val (Val.move rfl) rfl rfl rfl ?_
  refine SP.lit (k := (kInt .i64)) (xs := [28, 3, 0, 0, 29, 0, 31, 0]) (vs := [.int .i64 28, .int .i64 3, .int .i64 0, .int .i64 0, .int .i64 29, .int .i64 0, .int .i64 31, .int .i64 0]) (cells := [.int .i64 28, .int .i64 3, .int .i64 0, .int .i64 0, .int .i64 29, .int .i64 0, .int .i64 31, .int .i64 0]) Tryd.underlying27 inf3 rfl rfl rfl rfl rfl rfl rfl rfl (fun _ ap => ⟨[.int .i64 28], _, rfl, rfl, ⟨[.int .i64 3], _, rfl, rfl, ⟨[.int .i64 0], _, rfl, rfl, ⟨[.int .i64 0], _, rfl, rfl, ⟨[.int .i64 29], _, rfl, rfl, ⟨[.int .i64 0], _, rfl, rfl, ⟨[.int .i64 31], _, rfl, rfl, ⟨[.int .i64 0], _, rfl, rfl, rfl⟩⟩⟩⟩⟩⟩⟩⟩) rfl rfl rfl (fun v1 => ?_)
  obtain ⟨t3, hc, ho⟩ := bind_some (x := capstanlaw09_row.f [28, 3, 0, 0, 29, 0, 31, 0]) ho
  refine SP.callKO see (caps := []) _ fn40 rfl rfl rfl rfl (fun w2 hs => capstanlaw09_row.ok [28, 3, 0, 0, 29, 0, 31, 0] _ _ hc w2 (hp w2) (Sub.refl _) (slO.read (St.own 0 rfl see.sub see.dj hs) (Sub.refl _) (Sub.refl _))) (fun v a a2 b ⟨v4, e, h⟩ => ⟨v4, e, (Sep.fcons (fun _ => slO.flip (fun _ _ _ _ h => h)) (fun _ => Sep.fnil)) h⟩) (fun vr => ?_)
  refine SP.ex (fun w2 h => St.open h) (fun v4 => ?_)
  refine SP.have (fun w2 h => (St.pand h).1.symm) (fun er => ?_)
  subst er
  refine SP.imp (fun w2 h => St.seps (St.pand h).2) ?_
  clear hc
  refine SP.val (Val.assign rfl) rfl rfl rfl ?_
  refine SP.nil ?_
  refine QE.then ?_
  refine CP.seq ?_
  refine CP.region ?_
  refine SP.val (Val.move rfl) rfl rfl rfl ?_
  obtain ⟨t6, hc, ho⟩ := bind_some (x := flow_Loops.f t3) ho
  refine SP.callKO see (caps := []) _ fn11 rfl rfl rfl rfl (fun w2 hs => flow_Loops.ok t3 _ _ hc w2 (hp w2) (Sub.refl _) (slO.read (St.own 0 rfl see.sub see.dj hs) (Sub.refl _) (Sub.refl _)) ((St.pers 0 rfl see.sub see.dj hs))) (fun v a a2 b ⟨v7, e, h⟩ => ⟨v7, e, (Sep.fcons (fun _ => slO.flip (fun _ _ _ _ h => h)) (fun _ => Sep.fnil)) h⟩) (fun vr => ?_)
  refine SP.ex (fun w2 h => St.open h) (fun v7 => ?_)
  refine SP.have (fun w2 h => (St.pand h).1.symm) (fun er => ?_)
  subst er
  refine SP.imp (fun w2 h => St.seps (St.pand h).2) ?_
  clear hc
  refine SP.val (Val.move rfl) rfl rfl rfl ?_
  refine SP.val (Val.extract rfl rfl) rfl rfl rfl ?_
  refine SP.val (Val.extract rfl rfl) rfl rfl rfl ?_
  refine SP.val (Val.assign rfl) rfl rfl rfl ?_
  refine SP.val (Val.assign rfl) rfl rfl rfl ?_
  refine SP.nil ?_
  refine QE.then ?_
  refine CP.seq ?_
  refine CP.region ?_
  refine SP.val (Val.move rfl) rfl rfl rfl ?_
  obtain ⟨t9, hc, ho⟩ := bind_some (x := flow_Times.f t3) ho
  refine SP.callKO see (caps := []) _ fn12 rfl rfl rfl rfl (fun w2 hs => flow_Times.ok t3 _ _ hc w2 (hp w2) (Sub.refl _) (slO.read (St.own 1 rfl see.sub see.dj hs) (Sub.refl _) (Sub.refl _)) ((St.pers 0 rfl see.sub see.dj hs))) (fun v a a2 b ⟨v10, e, h⟩ => ⟨v10, e, (Sep.fcons (fun _ => slO.flip (fun _ _ _ _ h => h)) (fun _ => Sep.fnil)) h⟩) (fun vr => ?_)
  refine SP.ex (fun w2 h => St.open h) (fun v10 => ?_)
  refine SP.have (fun w2 h => (St.pand h).1.symm) (fun er => ?_)
  subst er
  refine SP.imp (fun w2 h => St.seps (St.pand h).2) ?_
  clear hc
  refine SP.val (Val.move rfl) rfl rfl rfl ?_
  refine SP.val (Val.extract rfl rfl) rfl rfl rfl ?_
  refine SP.val (Val.extract rfl rfl) rfl rfl rfl ?_
  refine SP.val (Val.assign rfl) rfl rfl rfl ?_
  refine SP.val (Val.assign rfl) rfl rfl rfl ?_
  refine SP.nil ?_
  refine QE.then ?_
  refine CP.seq ?_
  refine CP.region ?_
  refine SP.val (Val.move rfl) rfl rfl rfl ?_
  obtain ⟨t12, hc, ho⟩ := bind_some (x := flow_Ways.f t3 2) ho
  refine SP.callKO see (caps := []) _ fn17 rfl rfl rfl rfl (fun w2 hs => flow_Ways.ok t3 2 _ _ hc w2 (hp w2) (Sub.refl _) (slO.read (St.own 2 rfl see.sub see.dj hs) (Sub.refl _) (Sub.refl _)) ((St.pers 0 rfl see.sub see.dj hs))) (fun v a a2 b ⟨v13, e, h⟩ => ⟨v13, e, (Sep.fcons (fun _ => slO.flip (fun _ _ _ _ h => h)) (fun _ => Sep.fnil)) h⟩) (fun vr => ?_)
  refine SP.ex (fun w2 h => St.open h) (fun v13 => ?_)
  refine SP.have (fun w2 h => (St.pand h).1.symm) (fun er => ?_)
  subst er
  refine SP.imp (fun w2 h => St.seps (St.pand h).2) ?_
  clear hc
  refine SP.val (Val.move rfl) rfl rfl rfl ?_
  refine SP.val (Val.extract rfl rfl) rfl rfl rfl ?_
  refine SP.val (Val.extract rfl rfl) rfl rfl rfl ?_
  refine SP.val (Val.assign rfl) rfl rfl rfl ?_
  refine SP.val (Val.assign rfl) rfl rfl rfl ?_
  refine SP.nil ?_
  refine QE.then ?_
  refine CP.seq ?_
  refine CP.seq ?_
  refine CP.region ?_
  refine SP.val (Val.move rfl) rfl rfl rfl ?_
  refine SP.val (Val.neq rfl rfl) rfl rfl rfl ?_
  refine SP.val (Val.move rfl) rfl rfl rfl ?_
  refine SP.join 3 (fun a w2 => Env ⟨164, []⟩ [(1, .int .i64 28), (2, .int .i64 29), (3, .int .i64 31), (4, .int .i64 26), (5, .int .i64 27), (6, .int .i64 0), (8, v7), (10, v10), (12, v13), (13, .int .i64 t12.2), (40, .bool ((decide (t6.2 ≠ 0)) || (decide (t9.2 ≠ 0))))] a ∧ St w em hV [arrP k_arr88 0 tab0] [slO (kInt .i64) 3 v13 t12.1, slO (kInt .i64) 3 v10 t9.1, slO k_flow_Loop 40 v7 t6.1, slO k_api_Instr 52 v4 t3, slO (kInt .i64) 3 v1 [28, 3, 0, 0, 29, 0, 31, 0]] w2) ?_ ?_
  · rintro a w2 ⟨ha, hw⟩
    refine SP.app ha hw ?_
    clear ha hw a w2
    refine SP.val (Val.move rfl) rfl rfl rfl ?_
    refine SP.join 3 (fun a w2 => Env ⟨164, []⟩ [(1, .int .i64 28), (2, .int .i64 29), (3, .int .i64 31), (4, .int .i64 26), (5, .int .i64 27), (6, .int .i64 0), (8, v7), (10, v10), (12, v13), (44, .bool (((decide (t6.2 ≠ 0)) || (decide (t9.2 ≠ 0))) || (decide (t12.2 ≠ 0))))] a ∧ St w em hV [arrP k_arr88 0 tab0] [slO (kInt .i64) 3 v13 t12.1, slO (kInt .i64) 3 v10 t9.1, slO k_flow_Loop 40 v7 t6.1, slO k_api_Instr 52 v4 t3, slO (kInt .i64) 3 v1 [28, 3, 0, 0, 29, 0, 31, 0]] w2) ?_ ?_
    · rintro a w2 ⟨ha, hw⟩
      refine SP.app ha hw ?_
      clear ha hw a w2
      refine SP.val (Val.move rfl) rfl rfl rfl ?_
      refine SP.join 4 (fun a w2 => Env ⟨164, []⟩ [(1, .int .i64 28), (2, .int .i64 29), (3, .int .i64 31), (4, .int .i64 26), (5, .int .i64 27), (6, .int .i64 0), (8, v7), (10, v10), (12, v13), (49, .bool ((((decide (t6.2 ≠ 0)) || (decide (t9.2 ≠ 0))) || (decide (t12.2 ≠ 0))) || (decide ((t6.1.length : Int) ≠ 1))))] a ∧ St w em hV [arrP k_arr88 0 tab0] [slO (kInt .i64) 3 v13 t12.1, slO (kInt .i64) 3 v10 t9.1, slO k_flow_Loop 40 v7 t6.1, slO k_api_Instr 52 v4 t3, slO (kInt .i64) 3 v1 [28, 3, 0, 0, 29, 0, 31, 0]] w2) ?_ ?_
      · rintro a w2 ⟨ha, hw⟩
        refine SP.app ha hw ?_
        clear ha hw a w2
        refine SP.val (Val.move rfl) rfl rfl rfl ?_
        refine SP.join 4 (fun a w2 => Env ⟨164, []⟩ [(1, .int .i64 28), (2, .int .i64 29), (3, .int .i64 31), (4, .int .i64 26), (5, .int .i64 27), (6, .int .i64 0), (8, v7), (10, v10), (12, v13), (54, .bool (((((decide (t6.2 ≠ 0)) || (decide (t9.2 ≠ 0))) || (decide (t12.2 ≠ 0))) || (decide ((t6.1.length : Int) ≠ 1))) || (decide ((t9.1.length : Int) ≠ 4))))] a ∧ St w em hV [arrP k_arr88 0 tab0] [slO (kInt .i64) 3 v13 t12.1, slO (kInt .i64) 3 v10 t9.1, slO k_flow_Loop 40 v7 t6.1, slO k_api_Instr 52 v4 t3, slO (kInt .i64) 3 v1 [28, 3, 0, 0, 29, 0, 31, 0]] w2) ?_ ?_
        · rintro a w2 ⟨ha, hw⟩
          refine SP.app ha hw ?_
          clear ha hw a w2
          refine SP.val (Val.move rfl) rfl rfl rfl ?_
          refine SP.join 4 (fun a w2 => Env ⟨164, []⟩ [(1, .int .i64 28), (2, .int .i64 29), (3, .int .i64 31), (4, .int .i64 26), (5, .int .i64 27), (6, .int .i64 0), (8, v7), (10, v10), (12, v13), (59, .bool ((((((decide (t6.2 ≠ 0)) || (decide (t9.2 ≠ 0))) || (decide (t12.2 ≠ 0))) || (decide ((t6.1.length : Int) ≠ 1))) || (decide ((t9.1.length : Int) ≠ 4))) || (decide ((t12.1.length : Int) ≠ 2))))] a ∧ St w em hV [arrP k_arr88 0 tab0] [slO (kInt .i64) 3 v13 t12.1, slO (kInt .i64) 3 v10 t9.1, slO k_flow_Loop 40 v7 t6.1, slO k_api_Instr 52 v4 t3, slO (kInt .i64) 3 v1 [28, 3, 0, 0, 29, 0, 31, 0]] w2) ?_ ?_
          · rintro a w2 ⟨ha, hw⟩
            refine SP.app ha hw ?_
            clear ha hw a w2
            refine SP.nil ?_
            refine QE.then ?_
            rcases if_some ho with ⟨hc, ho⟩ | ⟨hc, ho⟩
            · refine CP.condT rfl hc ?_
              refine CP.seq ?_
              refine CP.region ?_
              refine SP.val (Val.assign rfl) rfl rfl rfl ?_
              refine SP.nil ?_
              refine QE.then ?_
              refine CP.ret ?_
              refine QE.thru (by intro e; cases e) ?_
              obtain rfl := Option.some.inj ho
              exact QE.rets (rs := [.tmp 0]) (vs := [.bool false]) Tryd.results18 rfl ⟨RVs.tmp rfl, trivial⟩ (fun w2 h => St.done (fun a b p s => rfl) h)
            · refine CP.condF rfl (bf hc) ?_
              refine CP.skip ?_
              refine QE.then ?_
              refine CP.seq ?_
              refine CP.seq ?_
              refine CP.region ?_
              refine SP.val (Val.move rfl) rfl rfl rfl ?_
              obtain ⟨x26, hx_x26, ho⟩ := bind_some ho
              have hx_x26 := elt_some hx_x26
              refine SP.indexW (fun w2 hw => slO.whole (St.own 2 rfl see.sub see.dj hw)) Tryd.underlying30 sz40 hx_x26.1 hx_x26.2 rfl rfl rfl rfl (fun p25 h_p25 => ?_)
              refine SP.fieldO h_p25 Tryd.underlying40 rfl sz3 rfl rfl rfl (fun p27 h_p27 => ?_)
              refine SP.val (Val.loadW1 (off := 0) (k := k_flow_Loop) (fun w2 hw => slO.whole (St.own 2 rfl see.sub see.dj hw)) hx_x26.2 h_p27 (fun _ _ e => by subst e; rfl) Tryd.underlying3 rfl rfl) rfl rfl rfl ?_
              refine SP.val (Val.neq rfl rfl) rfl rfl rfl ?_
              refine SP.val (Val.move rfl) rfl rfl rfl ?_
              obtain ⟨t33, hg_t33, ho⟩ := bind_some ho
              refine SP.join 6 (fun a w2 => Env ⟨164, []⟩ [(1, .int .i64 28), (2, .int .i64 29), (3, .int .i64 31), (4, .int .i64 26), (5, .int .i64 27), (6, .int .i64 0), (8, v7), (10, v10), (12, v13), (71, .bool t33)] a ∧ St w em hV [arrP k_arr88 0 tab0] [slO (kInt .i64) 3 v13 t12.1, slO (kInt .i64) 3 v10 t9.1, slO k_flow_Loop 40 v7 t6.1, slO k_api_Instr 52 v4 t3, slO (kInt .i64) 3 v1 [28, 3, 0, 0, 29, 0, 31, 0]] w2) ?_ ?_
              · rintro a w2 ⟨ha, hw⟩
                refine SP.app ha hw ?_
                clear ha hw a w2 hg_t33
                refine SP.val (Val.move rfl) rfl rfl rfl ?_
                obtain ⟨t39, hg_t39, ho⟩ := bind_some ho
                refine SP.join 6 (fun a w2 => Env ⟨164, []⟩ [(1, .int .i64 28), (2, .int .i64 29), (3, .int .i64 31), (4, .int .i64 26), (5, .int .i64 27), (6, .int .i64 0), (10, v10), (12, v13), (78, .bool t39)] a ∧ St w em hV [arrP k_arr88 0 tab0] [slO (kInt .i64) 3 v13 t12.1, slO (kInt .i64) 3 v10 t9.1, slO k_flow_Loop 40 v7 t6.1, slO k_api_Instr 52 v4 t3, slO (kInt .i64) 3 v1 [28, 3, 0, 0, 29, 0, 31, 0]] w2) ?_ ?_
                · rintro a w2 ⟨ha, hw⟩
                  refine SP.app ha hw ?_
                  clear ha hw a w2 hg_t39
                  refine SP.val (Val.move rfl) rfl rfl rfl ?_
                  obtain ⟨t44, hg_t44, ho⟩ := bind_some ho
                  refine SP.join 5 (fun a w2 => Env ⟨164, []⟩ [(1, .int .i64 28), (2, .int .i64 29), (3, .int .i64 31), (4, .int .i64 26), (5, .int .i64 27), (6, .int .i64 0), (10, v10), (12, v13), (84, .bool t44)] a ∧ St w em hV [arrP k_arr88 0 tab0] [slO (kInt .i64) 3 v13 t12.1, slO (kInt .i64) 3 v10 t9.1, slO k_flow_Loop 40 v7 t6.1, slO k_api_Instr 52 v4 t3, slO (kInt .i64) 3 v1 [28, 3, 0, 0, 29, 0, 31, 0]] w2) ?_ ?_
                  · rintro a w2 ⟨ha, hw⟩
                    refine SP.app ha hw ?_
                    clear ha hw a w2 hg_t44
                    refine SP.val (Val.move rfl) rfl rfl rfl ?_
                    obtain ⟨t49, hg_t49, ho⟩ := bind_some ho
                    refine SP.join 5 (fun a w2 => Env ⟨164, []⟩ [(1, .int .i64 28), (2, .int .i64 29), (3, .int .i64 31), (4, .int .i64 26), (5, .int .i64 27), (6, .int .i64 0), (10, v10), (12, v13), (90, .bool t49)] a ∧ St w em hV [arrP k_arr88 0 tab0] [slO (kInt .i64) 3 v13 t12.1, slO (kInt .i64) 3 v10 t9.1, slO k_flow_Loop 40 v7 t6.1, slO k_api_Instr 52 v4 t3, slO (kInt .i64) 3 v1 [28, 3, 0, 0, 29, 0, 31, 0]] w2) ?_ ?_
                    · rintro a w2 ⟨ha, hw⟩
                      refine SP.app ha hw ?_
                      clear ha hw a w2 hg_t49
                      refine SP.val (Val.move rfl) rfl rfl rfl ?_
                      obtain ⟨t54, hg_t54, ho⟩ := bind_some ho
                      refine SP.join 5 (fun a w2 => Env ⟨164, []⟩ [(1, .int .i64 28), (2, .int .i64 29), (3, .int .i64 31), (4, .int .i64 26), (5, .int .i64 27), (6, .int .i64 0), (10, v10), (12, v13), (96, .bool t54)] a ∧ St w em hV [arrP k_arr88 0 tab0] [slO (kInt .i64) 3 v13 t12.1, slO (kInt .i64) 3 v10 t9.1, slO k_flow_Loop 40 v7 t6.1, slO k_api_Instr 52 v4 t3, slO (kInt .i64) 3 v1 [28, 3, 0, 0, 29, 0, 31, 0]] w2) ?_ ?_
                      · rintro a w2 ⟨ha, hw⟩
                        refine SP.app ha hw ?_
                        clear ha hw a w2 hg_t54
                        refine SP.val (Val.move rfl) rfl rfl rfl ?_
                        obtain ⟨t59, hg_t59, ho⟩ := bind_some ho
                        refine SP.join 5 (fun a w2 => Env ⟨164, []⟩ [(1, .int .i64 28), (2, .int .i64 29), (3, .int .i64 31), (4, .int .i64 26), (5, .int .i64 27), (6, .int .i64 0), (12, v13), (102, .bool t59)] a ∧ St w em hV [arrP k_arr88 0 tab0] [slO (kInt .i64) 3 v13 t12.1, slO (kInt .i64) 3 v10 t9.1, slO k_flow_Loop 40 v7 t6.1, slO k_api_Instr 52 v4 t3, slO (kInt .i64) 3 v1 [28, 3, 0, 0, 29, 0, 31, 0]] w2) ?_ ?_
                        · rintro a w2 ⟨ha, hw⟩
                          refine SP.app ha hw ?_
                          clear ha hw a w2 hg_t59
                          refine SP.val (Val.move rfl) rfl rfl rfl ?_
                          obtain ⟨t64, hg_t64, ho⟩ := bind_some ho
                          refine SP.join 5 (fun a w2 => Env ⟨164, []⟩ [(1, .int .i64 28), (2, .int .i64 29), (3, .int .i64 31), (4, .int .i64 26), (5, .int .i64 27), (6, .int .i64 0), (12, v13), (108, .bool t64)] a ∧ St w em hV [arrP k_arr88 0 tab0] [slO (kInt .i64) 3 v13 t12.1, slO (kInt .i64) 3 v10 t9.1, slO k_flow_Loop 40 v7 t6.1, slO k_api_Instr 52 v4 t3, slO (kInt .i64) 3 v1 [28, 3, 0, 0, 29, 0, 31, 0]] w2) ?_ ?_
                          · rintro a w2 ⟨ha, hw⟩
                            refine SP.app ha hw ?_
                            clear ha hw a w2 hg_t64
                            refine SP.val (Val.move rfl) rfl rfl rfl ?_
                            obtain ⟨t69, hg_t69, ho⟩ := bind_some ho
                            refine SP.join 5 (fun a w2 => Env ⟨164, []⟩ [(1, .int .i64 28), (2, .int .i64 29), (3, .int .i64 31), (4, .int .i64 26), (5, .int .i64 27), (6, .int .i64 0), (114, .bool t69)] a ∧ St w em hV [arrP k_arr88 0 tab0] [slO (kInt .i64) 3 v13 t12.1, slO (kInt .i64) 3 v10 t9.1, slO k_flow_Loop 40 v7 t6.1, slO k_api_Instr 52 v4 t3, slO (kInt .i64) 3 v1 [28, 3, 0, 0, 29, 0, 31, 0]] w2) ?_ ?_
                            · rintro a w2 ⟨ha, hw⟩
                              refine SP.app ha hw ?_
                              clear ha hw a w2 hg_t69
                              refine SP.nil ?_
                              refine QE.then ?_
                              rcases if_some ho with ⟨hc, ho⟩ | ⟨hc, ho⟩
                              · refine CP.condT rfl hc ?_
                                refine CP.seq ?_
                                refine CP.region ?_
                                refine SP.val (Val.assign rfl) rfl rfl rfl ?_
                                refine SP.nil ?_
                                refine QE.then ?_
                                refine CP.ret ?_
                                refine QE.thru (by intro e; cases e) ?_
                                obtain rfl := Option.some.inj ho
                                exact QE.rets (rs := [.tmp 0]) (vs := [.bool false]) Tryd.results18 rfl ⟨RVs.tmp rfl, trivial⟩ (fun w2 h => St.done (fun a b p s => rfl) h)
                              · refine CP.condF rfl (bf hc) ?_
                                refine CP.skip ?_
                                refine QE.then ?_
                                refine CP.seq ?_
                                refine CP.region ?_
                                refine SP.val (Val.move rfl) rfl rfl rfl ?_
                                refine SP.val (Val.move rfl) rfl rfl rfl ?_
                                refine SP.lit (k := (kInt .i64)) (xs := [26, 1, 31, 0]) (vs := [.int .i64 26, .int .i64 1, .int .i64 31, .int .i64 0]) (cells := [.int .i64 26, .int .i64 1, .int .i64 31, .int .i64 0]) Tryd.underlying27 inf3 rfl rfl rfl rfl rfl rfl rfl rfl (fun _ ap => ⟨[.int .i64 26], _, rfl, rfl, ⟨[.int .i64 1], _, rfl, rfl, ⟨[.int .i64 31], _, rfl, rfl, ⟨[.int .i64 0], _, rfl, rfl, rfl⟩⟩⟩⟩) rfl rfl rfl (fun v70 => ?_)
                                obtain ⟨t72, hc, ho⟩ := bind_some (x := capstanlaw09_row.f [26, 1, 31, 0]) ho
                                refine SP.callKO see (caps := []) _ fn40 rfl rfl rfl rfl (fun w2 hs => capstanlaw09_row.ok [26, 1, 31, 0] _ _ hc w2 (hp w2) (Sub.refl _) (slO.read (St.own 0 rfl see.sub see.dj hs) (Sub.refl _) (Sub.refl _))) (fun v a a2 b ⟨v73, e, h⟩ => ⟨v73, e, (Sep.fcons (fun _ => slO.flip (fun _ _ _ _ h => h)) (fun _ => Sep.fnil)) h⟩) (fun vr => ?_)
                                refine SP.ex (fun w2 h => St.open h) (fun v73 => ?_)
                                refine SP.have (fun w2 h => (St.pand h).1.symm) (fun er => ?_)
                                subst er
                                refine SP.imp (fun w2 h => St.seps (St.pand h).2) ?_
                                clear hc
                                obtain ⟨t75, hc, ho⟩ := bind_some (x := flow_Check.f t72) ho
                                refine SP.callVO see (caps := []) (.int .i64 t75) fn13 rfl rfl rfl rfl (fun w2 hs => flow_Check.ok t72 _ _ hc w2 (hp w2) (Sub.refl _) (slO.read (St.own 0 rfl see.sub see.dj hs) (Sub.refl _) (Sub.refl _)) ((St.pers 0 rfl see.sub see.dj hs))) ?_
                                clear hc
                                refine SP.val (Val.eql rfl rfl) rfl rfl rfl ?_
                                refine SP.val (Val.move rfl) rfl rfl rfl ?_
                                obtain ⟨t84, hg_t84, ho⟩ := bind_some ho
                                refine SP.join 7 (fun a w2 => Env ⟨164, []⟩ [(1, .int .i64 28), (2, .int .i64 29), (3, .int .i64 31), (4, .int .i64 26), (5, .int .i64 27), (6, .int .i64 0), (128, .bool t84)] a ∧ St w em hV [arrP k_arr88 0 tab0] [slO k_api_Instr 52 v73 t72, slO (kInt .i64) 3 v70 [26, 1, 31, 0], slO (kInt .i64) 3 v13 t12.1, slO (kInt .i64) 3 v10 t9.1, slO k_flow_Loop 40 v7 t6.1, slO k_api_Instr 52 v4 t3, slO (kInt .i64) 3 v1 [28, 3, 0, 0, 29, 0, 31, 0]] w2) ?_ ?_
                                · rintro a w2 ⟨ha, hw⟩
                                  refine SP.app ha hw ?_
                                  clear ha hw a w2 hg_t84
                                  refine SP.val (Val.move rfl) rfl rfl rfl ?_
                                  obtain ⟨t93, hg_t93, ho⟩ := bind_some ho
                                  refine SP.join 7 (fun a w2 => Env ⟨164, []⟩ [(1, .int .i64 28), (2, .int .i64 29), (3, .int .i64 31), (4, .int .i64 26), (5, .int .i64 27), (6, .int .i64 0), (136, .bool t93)] a ∧ St w em hV [arrP k_arr88 0 tab0] [slO k_api_Instr 52 v73 t72, slO (kInt .i64) 3 v70 [26, 1, 31, 0], slO (kInt .i64) 3 v13 t12.1, slO (kInt .i64) 3 v10 t9.1, slO k_flow_Loop 40 v7 t6.1, slO k_api_Instr 52 v4 t3, slO (kInt .i64) 3 v1 [28, 3, 0, 0, 29, 0, 31, 0]] w2) ?_ ?_
                                  · rintro a w2 ⟨ha, hw⟩
                                    refine SP.app ha hw ?_
                                    clear ha hw a w2 hg_t93
                                    refine SP.val (Val.move rfl) rfl rfl rfl ?_
                                    obtain ⟨t102, hg_t102, ho⟩ := bind_some ho
                                    refine SP.join 9 (fun a w2 => Env ⟨164, []⟩ [(1, .int .i64 28), (2, .int .i64 29), (3, .int .i64 31), (4, .int .i64 26), (6, .int .i64 0), (146, .bool t102)] a ∧ St w em hV [arrP k_arr88 0 tab0] [slO k_api_Instr 52 v73 t72, slO (kInt .i64) 3 v70 [26, 1, 31, 0], slO (kInt .i64) 3 v13 t12.1, slO (kInt .i64) 3 v10 t9.1, slO k_flow_Loop 40 v7 t6.1, slO k_api_Instr 52 v4 t3, slO (kInt .i64) 3 v1 [28, 3, 0, 0, 29, 0, 31, 0]] w2) ?_ ?_
                                    · rintro a w2 ⟨ha, hw⟩
                                      refine SP.app ha hw ?_
                                      clear ha hw a w2 hg_t102
                                      refine SP.val (Val.move rfl) rfl rfl rfl ?_
                                      obtain ⟨t111, hg_t111, ho⟩ := bind_some ho
                                      refine SP.join 9 (fun a w2 => Env ⟨164, []⟩ [(6, .int .i64 0), (156, .bool t111)] a ∧ St w em hV [arrP k_arr88 0 tab0] [slO k_api_Instr 52 v73 t72, slO (kInt .i64) 3 v70 [26, 1, 31, 0], slO (kInt .i64) 3 v13 t12.1, slO (kInt .i64) 3 v10 t9.1, slO k_flow_Loop 40 v7 t6.1, slO k_api_Instr 52 v4 t3, slO (kInt .i64) 3 v1 [28, 3, 0, 0, 29, 0, 31, 0]] w2) ?_ ?_
                                      · rintro a w2 ⟨ha, hw⟩
                                        refine SP.app ha hw ?_
                                        clear ha hw a w2 hg_t111
                                        refine SP.val (Val.move rfl) rfl rfl rfl ?_
                                        obtain ⟨t120, hg_t120, ho⟩ := bind_some ho
                                        refine SP.join 6 (fun a w2 => Env ⟨164, []⟩ [(163, .bool t120)] a ∧ St w em hV [arrP k_arr88 0 tab0] [slO k_api_Instr 52 v73 t72, slO (kInt .i64) 3 v70 [26, 1, 31, 0], slO (kInt .i64) 3 v13 t12.1, slO (kInt .i64) 3 v10 t9.1, slO k_flow_Loop 40 v7 t6.1, slO k_api_Instr 52 v4 t3, slO (kInt .i64) 3 v1 [28, 3, 0, 0, 29, 0, 31, 0]] w2) ?_ ?_
                                        · rintro a w2 ⟨ha, hw⟩
                                          refine SP.app ha hw ?_
                                          clear ha hw a w2 hg_t120
                                          refine SP.val (Val.assign rfl) rfl rfl rfl ?_
                                          refine SP.nil ?_
                                          refine QE.then ?_
                                          refine CP.ret ?_
                                          obtain rfl := Option.some.inj ho
                                          exact QE.rets (rs := [.tmp 0]) (vs := [.bool t120]) Tryd.results18 rfl ⟨RVs.tmp rfl, trivial⟩ (fun w2 h => St.done (fun a b p s => rfl) h)
                                        · intro J
                                          clear ho
                                          have ho := hg_t120
                                          clear hg_t120
                                          rcases if_some ho with ⟨hc, ho⟩ | ⟨hc, ho⟩
                                          · have hq113 := hc
                                            refine SP.isT (d := 157) rfl hq113 ?_
                                            refine SP.val (Val.move rfl) rfl rfl rfl ?_
                                            refine SP.lit (k := (kInt .i64)) (xs := [0, 0]) (vs := [.int .i64 0, .int .i64 0]) (cells := [.int .i64 0, .int .i64 0]) Tryd.underlying27 inf3 rfl rfl rfl rfl rfl rfl rfl rfl (fun _ ap => ⟨[.int .i64 0], _, rfl, rfl, ⟨[.int .i64 0], _, rfl, rfl, rfl⟩⟩) rfl rfl rfl (fun v114 => ?_)
                                            obtain ⟨t116, hc, ho⟩ := bind_some (x := capstanlaw09_row.f [0, 0]) ho
                                            refine SP.callKO see (caps := []) _ fn40 rfl rfl rfl rfl (fun w2 hs => capstanlaw09_row.ok [0, 0] _ _ hc w2 (hp w2) (Sub.refl _) (slO.read (St.own 0 rfl see.sub see.dj hs) (Sub.refl _) (Sub.refl _))) (fun v a a2 b ⟨v117, e, h⟩ => ⟨v117, e, (Sep.fcons (fun _ => slO.flip (fun _ _ _ _ h => h)) (fun _ => Sep.fnil)) h⟩) (fun vr => ?_)
                                            refine SP.ex (fun w2 h => St.open h) (fun v117 => ?_)
                                            refine SP.have (fun w2 h => (St.pand h).1.symm) (fun er => ?_)
                                            subst er
                                            refine SP.imp (fun w2 h => St.seps (St.pand h).2) ?_
                                            clear hc
                                            obtain ⟨t119, hc, ho⟩ := bind_some (x := flow_Check.f t116) ho
                                            refine SP.callVO see (caps := []) (.int .i64 t119) fn13 rfl rfl rfl rfl (fun w2 hs => flow_Check.ok t116 _ _ hc w2 (hp w2) (Sub.refl _) (slO.read (St.own 0 rfl see.sub see.dj hs) (Sub.refl _) (Sub.refl _)) ((St.pers 0 rfl see.sub see.dj hs))) ?_
                                            clear hc
                                            refine SP.val (Val.eql rfl rfl) rfl rfl rfl ?_
                                            refine SP.val (Val.pickT rfl rfl) rfl rfl rfl ?_
                                            obtain rfl := Option.some.inj ho
                                            exact J fun a w2 ha hw => ⟨ha.sub ⟨rfl, trivial⟩, (St.selO [2, 3, 4, 5, 6, 7, 8] rfl rfl hw)⟩
                                          · have hq113 := (bf hc)
                                            refine SP.isF (d := 157) rfl hq113 ?_
                                            refine SP.not rfl rfl rfl ?_
                                            refine SP.not rfl rfl rfl ?_
                                            refine SP.not rfl rfl rfl ?_
                                            refine SP.not rfl rfl rfl ?_
                                            refine SP.not rfl rfl rfl ?_
                                            refine SP.val (Val.pickF rfl rfl) rfl rfl rfl ?_
                                            obtain rfl := Option.some.inj ho
                                            exact J fun a w2 ha hw => ⟨ha.sub ⟨rfl, trivial⟩, hw⟩
                                      · intro J
                                        clear ho
                                        have ho := hg_t111
                                        clear hg_t111
                                        rcases if_some ho with ⟨hc, ho⟩ | ⟨hc, ho⟩
                                        · have hq104 := hc
                                          refine SP.isT (d := 147) rfl hq104 ?_
                                          refine SP.val (Val.move rfl) rfl rfl rfl ?_
                                          refine SP.val (Val.move rfl) rfl rfl rfl ?_
                                          refine SP.val (Val.move rfl) rfl rfl rfl ?_
                                          refine SP.val (Val.move rfl) rfl rfl rfl ?_
                                          refine SP.lit (k := (kInt .i64)) (xs := [28, 3, 26, 3, 29, 0, 31, 0]) (vs := [.int .i64 28, .int .i64 3, .int .i64 26, .int .i64 3, .int .i64 29, .int .i64 0, .int .i64 31, .int .i64 0]) (cells := [.int .i64 28, .int .i64 3, .int .i64 26, .int .i64 3, .int .i64 29, .int .i64 0, .int .i64 31, .int .i64 0]) Tryd.underlying27 inf3 rfl rfl rfl rfl rfl rfl rfl rfl (fun _ ap => ⟨[.int .i64 28], _, rfl, rfl, ⟨[.int .i64 3], _, rfl, rfl, ⟨[.int .i64 26], _, rfl, rfl, ⟨[.int .i64 3], _, rfl, rfl, ⟨[.int .i64 29], _, rfl, rfl, ⟨[.int .i64 0], _, rfl, rfl, ⟨[.int .i64 31], _, rfl, rfl, ⟨[.int .i64 0], _, rfl, rfl, rfl⟩⟩⟩⟩⟩⟩⟩⟩) rfl rfl rfl (fun v105 => ?_)
                                          obtain ⟨t107, hc, ho⟩ := bind_some (x := capstanlaw09_row.f [28, 3, 26, 3, 29, 0, 31, 0]) ho
                                          refine SP.callKO see (caps := []) _ fn40 rfl rfl rfl rfl (fun w2 hs => capstanlaw09_row.ok [28, 3, 26, 3, 29, 0, 31, 0] _ _ hc w2 (hp w2) (Sub.refl _) (slO.read (St.own 0 rfl see.sub see.dj hs) (Sub.refl _) (Sub.refl _))) (fun v a a2 b ⟨v108, e, h⟩ => ⟨v108, e, (Sep.fcons (fun _ => slO.flip (fun _ _ _ _ h => h)) (fun _ => Sep.fnil)) h⟩) (fun vr => ?_)
                                          refine SP.ex (fun w2 h => St.open h) (fun v108 => ?_)
                                          refine SP.have (fun w2 h => (St.pand h).1.symm) (fun er => ?_)
                                          subst er
                                          refine SP.imp (fun w2 h => St.seps (St.pand h).2) ?_
                                          clear hc
                                          obtain ⟨t110, hc, ho⟩ := bind_some (x := flow_Check.f t107) ho
                                          refine SP.callVO see (caps := []) (.int .i64 t110) fn13 rfl rfl rfl rfl (fun w2 hs => flow_Check.ok t107 _ _ hc w2 (hp w2) (Sub.refl _) (slO.read (St.own 0 rfl see.sub see.dj hs) (Sub.refl _) (Sub.refl _)) ((St.pers 0 rfl see.sub see.dj hs))) ?_
                                          clear hc
                                          refine SP.val (Val.eql rfl rfl) rfl rfl rfl ?_
                                          refine SP.val (Val.pickT rfl rfl) rfl rfl rfl ?_
                                          obtain rfl := Option.some.inj ho
                                          exact J fun a w2 ha hw => ⟨ha.sub ⟨rfl, rfl, trivial⟩, (St.selO [2, 3, 4, 5, 6, 7, 8] rfl rfl hw)⟩
                                        · have hq104 := (bf hc)
                                          refine SP.isF (d := 147) rfl hq104 ?_
                                          refine SP.not rfl rfl rfl ?_
                                          refine SP.not rfl rfl rfl ?_
                                          refine SP.not rfl rfl rfl ?_
                                          refine SP.not rfl rfl rfl ?_
                                          refine SP.not rfl rfl rfl ?_
                                          refine SP.not rfl rfl rfl ?_
                                          refine SP.not rfl rfl rfl ?_
                                          refine SP.not rfl rfl rfl ?_
                                          refine SP.val (Val.pickF rfl rfl) rfl rfl rfl ?_
                                          obtain rfl := Option.some.inj ho
                                          exact J fun a w2 ha hw => ⟨ha.sub ⟨rfl, rfl, trivial⟩, hw⟩
                                    · intro J
                                      clear ho
                                      have ho := hg_t102
                                      clear hg_t102
                                      rcases if_some ho with ⟨hc, ho⟩ | ⟨hc, ho⟩
                                      · have hq95 := hc
                                        refine SP.isT (d := 137) rfl hq95 ?_
                                        refine SP.val (Val.move rfl) rfl rfl rfl ?_
                                        refine SP.val (Val.move rfl) rfl rfl rfl ?_
                                        refine SP.val (Val.move rfl) rfl rfl rfl ?_
                                        refine SP.val (Val.move rfl) rfl rfl rfl ?_
                                        refine SP.lit (k := (kInt .i64)) (xs := [27, 2, 28, 3, 29, 1, 31, 0]) (vs := [.int .i64 27, .int .i64 2, .int .i64 28, .int .i64 3, .int .i64 29, .int .i64 1, .int .i64 31, .int .i64 0]) (cells := [.int .i64 27, .int .i64 2, .int .i64 28, .int .i64 3, .int .i64 29, .int .i64 1, .int .i64 31, .int .i64 0]) Tryd.underlying27 inf3 rfl rfl rfl rfl rfl rfl rfl rfl (fun _ ap => ⟨[.int .i64 27], _, rfl, rfl, ⟨[.int .i64 2], _, rfl, rfl, ⟨[.int .i64 28], _, rfl, rfl, ⟨[.int .i64 3], _, rfl, rfl, ⟨[.int .i64 29], _, rfl, rfl, ⟨[.int .i64 1], _, rfl, rfl, ⟨[.int .i64 31], _, rfl, rfl, ⟨[.int .i64 0], _, rfl, rfl, rfl⟩⟩⟩⟩⟩⟩⟩⟩) rfl rfl rfl (fun v96 => ?_)
                                        obtain ⟨t98, hc, ho⟩ := bind_some (x := capstanlaw09_row.f [27, 2, 28, 3, 29, 1, 31, 0]) ho
                                        refine SP.callKO see (caps := []) _ fn40 rfl rfl rfl rfl (fun w2 hs => capstanlaw09_row.ok [27, 2, 28, 3, 29, 1, 31, 0] _ _ hc w2 (hp w2) (Sub.refl _) (slO.read (St.own 0 rfl see.sub see.dj hs) (Sub.refl _) (Sub.refl _))) (fun v a a2 b ⟨v99, e, h⟩ => ⟨v99, e, (Sep.fcons (fun _ => slO.flip (fun _ _ _ _ h => h)) (fun _ => Sep.fnil)) h⟩) (fun vr => ?_)
                                        refine SP.ex (fun w2 h => St.open h) (fun v99 => ?_)
                                        refine SP.have (fun w2 h => (St.pand h).1.symm) (fun er => ?_)
                                        subst er
                                        refine SP.imp (fun w2 h => St.seps (St.pand h).2) ?_
                                        clear hc
                                        obtain ⟨t101, hc, ho⟩ := bind_some (x := flow_Check.f t98) ho
                                        refine SP.callVO see (caps := []) (.int .i64 t101) fn13 rfl rfl rfl rfl (fun w2 hs => flow_Check.ok t98 _ _ hc w2 (hp w2) (Sub.refl _) (slO.read (St.own 0 rfl see.sub see.dj hs) (Sub.refl _) (Sub.refl _)) ((St.pers 0 rfl see.sub see.dj hs))) ?_
                                        clear hc
                                        refine SP.val (Val.eql rfl rfl) rfl rfl rfl ?_
                                        refine SP.val (Val.pickT rfl rfl) rfl rfl rfl ?_
                                        obtain rfl := Option.some.inj ho
                                        exact J fun a w2 ha hw => ⟨ha.sub ⟨rfl, rfl, rfl, rfl, rfl, rfl, trivial⟩, (St.selO [2, 3, 4, 5, 6, 7, 8] rfl rfl hw)⟩
                                      · have hq95 := (bf hc)
                                        refine SP.isF (d := 137) rfl hq95 ?_
                                        refine SP.not rfl rfl rfl ?_
                                        refine SP.not rfl rfl rfl ?_
                                        refine SP.not rfl rfl rfl ?_
                                        refine SP.not rfl rfl rfl ?_
                                        refine SP.not rfl rfl rfl ?_
                                        refine SP.not rfl rfl rfl ?_
                                        refine SP.not rfl rfl rfl ?_
                                        refine SP.not rfl rfl rfl ?_
                                        refine SP.val (Val.pickF rfl rfl) rfl rfl rfl ?_
                                        obtain rfl := Option.some.inj ho
                                        exact J fun a w2 ha hw => ⟨ha.sub ⟨rfl, rfl, rfl, rfl, rfl, rfl, trivial⟩, hw⟩
                                  · intro J
                                    clear ho
                                    have ho := hg_t93
                                    clear hg_t93
                                    rcases if_some ho with ⟨hc, ho⟩ | ⟨hc, ho⟩
                                    · have hq86 := hc
                                      refine SP.isT (d := 129) rfl hq86 ?_
                                      refine SP.val (Val.move rfl) rfl rfl rfl ?_
                                      refine SP.val (Val.move rfl) rfl rfl rfl ?_
                                      refine SP.lit (k := (kInt .i64)) (xs := [26, 2, 31, 0]) (vs := [.int .i64 26, .int .i64 2, .int .i64 31, .int .i64 0]) (cells := [.int .i64 26, .int .i64 2, .int .i64 31, .int .i64 0]) Tryd.underlying27 inf3 rfl rfl rfl rfl rfl rfl rfl rfl (fun _ ap => ⟨[.int .i64 26], _, rfl, rfl, ⟨[.int .i64 2], _, rfl, rfl, ⟨[.int .i64 31], _, rfl, rfl, ⟨[.int .i64 0], _, rfl, rfl, rfl⟩⟩⟩⟩) rfl rfl rfl (fun v87 => ?_)
                                      obtain ⟨t89, hc, ho⟩ := bind_some (x := capstanlaw09_row.f [26, 2, 31, 0]) ho
                                      refine SP.callKO see (caps := []) _ fn40 rfl rfl rfl rfl (fun w2 hs => capstanlaw09_row.ok [26, 2, 31, 0] _ _ hc w2 (hp w2) (Sub.refl _) (slO.read (St.own 0 rfl see.sub see.dj hs) (Sub.refl _) (Sub.refl _))) (fun v a a2 b ⟨v90, e, h⟩ => ⟨v90, e, (Sep.fcons (fun _ => slO.flip (fun _ _ _ _ h => h)) (fun _ => Sep.fnil)) h⟩) (fun vr => ?_)
                                      refine SP.ex (fun w2 h => St.open h) (fun v90 => ?_)
                                      refine SP.have (fun w2 h => (St.pand h).1.symm) (fun er => ?_)
                                      subst er
                                      refine SP.imp (fun w2 h => St.seps (St.pand h).2) ?_
                                      clear hc
                                      obtain ⟨t92, hc, ho⟩ := bind_some (x := flow_Check.f t89) ho
                                      refine SP.callVO see (caps := []) (.int .i64 t92) fn13 rfl rfl rfl rfl (fun w2 hs => flow_Check.ok t89 _ _ hc w2 (hp w2) (Sub.refl _) (slO.read (St.own 0 rfl see.sub see.dj hs) (Sub.refl _) (Sub.refl _)) ((St.pers 0 rfl see.sub see.dj hs))) ?_
                                      clear hc
                                      refine SP.val (Val.eql rfl rfl) rfl rfl rfl ?_
                                      refine SP.val (Val.pickT rfl rfl) rfl rfl rfl ?_
                                      obtain rfl := Option.some.inj ho
                                      exact J fun a w2 ha hw => ⟨ha.sub ⟨rfl, rfl, rfl, rfl, rfl, rfl, rfl, trivial⟩, (St.selO [2, 3, 4, 5, 6, 7, 8] rfl rfl hw)⟩
                                    · have hq86 := (bf hc)
                                      refine SP.isF (d := 129) rfl hq86 ?_
                                      refine SP.not rfl rfl rfl ?_
                                      refine SP.not rfl rfl rfl ?_
                                      refine SP.not rfl rfl rfl ?_
                                      refine SP.not rfl rfl rfl ?_
                                      refine SP.not rfl rfl rfl ?_
                                      refine SP.not rfl rfl rfl ?_
                                      refine SP.val (Val.pickF rfl rfl) rfl rfl rfl ?_
                                      obtain rfl := Option.some.inj ho
                                      exact J fun a w2 ha hw => ⟨ha.sub ⟨rfl, rfl, rfl, rfl, rfl, rfl, rfl, trivial⟩, hw⟩
                                · intro J
                                  clear ho
                                  have ho := hg_t84
                                  clear hg_t84
                                  rcases if_some ho with ⟨hc, ho⟩ | ⟨hc, ho⟩
                                  · have hq77 := (decide_eq_true hc)
                                    refine SP.isT (d := 121) rfl hq77 ?_
                                    refine SP.val (Val.move rfl) rfl rfl rfl ?_
                                    refine SP.val (Val.move rfl) rfl rfl rfl ?_
                                    refine SP.lit (k := (kInt .i64)) (xs := [26, 0, 31, 0]) (vs := [.int .i64 26, .int .i64 0, .int .i64 31, .int .i64 0]) (cells := [.int .i64 26, .int .i64 0, .int .i64 31, .int .i64 0]) Tryd.underlying27 inf3 rfl rfl rfl rfl rfl rfl rfl rfl (fun _ ap => ⟨[.int .i64 26], _, rfl, rfl, ⟨[.int .i64 0], _, rfl, rfl, ⟨[.int .i64 31], _, rfl, rfl, ⟨[.int .i64 0], _, rfl, rfl, rfl⟩⟩⟩⟩) rfl rfl rfl (fun v78 => ?_)
                                    obtain ⟨t80, hc, ho⟩ := bind_some (x := capstanlaw09_row.f [26, 0, 31, 0]) ho
                                    refine SP.callKO see (caps := []) _ fn40 rfl rfl rfl rfl (fun w2 hs => capstanlaw09_row.ok [26, 0, 31, 0] _ _ hc w2 (hp w2) (Sub.refl _) (slO.read (St.own 0 rfl see.sub see.dj hs) (Sub.refl _) (Sub.refl _))) (fun v a a2 b ⟨v81, e, h⟩ => ⟨v81, e, (Sep.fcons (fun _ => slO.flip (fun _ _ _ _ h => h)) (fun _ => Sep.fnil)) h⟩) (fun vr => ?_)
                                    refine SP.ex (fun w2 h => St.open h) (fun v81 => ?_)
                                    refine SP.have (fun w2 h => (St.pand h).1.symm) (fun er => ?_)
                                    subst er
                                    refine SP.imp (fun w2 h => St.seps (St.pand h).2) ?_
                                    clear hc
                                    obtain ⟨t83, hc, ho⟩ := bind_some (x := flow_Check.f t80) ho
                                    refine SP.callVO see (caps := []) (.int .i64 t83) fn13 rfl rfl rfl rfl (fun w2 hs => flow_Check.ok t80 _ _ hc w2 (hp w2) (Sub.refl _) (slO.read (St.own 0 rfl see.sub see.dj hs) (Sub.refl _) (Sub.refl _)) ((St.pers 0 rfl see.sub see.dj hs))) ?_
                                    clear hc
                                    refine SP.val (Val.eql rfl rfl) rfl rfl rfl ?_
                                    refine SP.val (Val.pickT rfl rfl) rfl rfl rfl ?_
                                    obtain rfl := Option.some.inj ho
                                    exact J fun a w2 ha hw => ⟨ha.sub ⟨rfl, rfl, rfl, rfl, rfl, rfl, rfl, trivial⟩, (St.selO [2, 3, 4, 5, 6, 7, 8] rfl rfl hw)⟩
                                  · have hq77 := (decide_eq_false hc)
                                    refine SP.isF (d := 121) rfl hq77 ?_
                                    refine SP.not rfl rfl rfl ?_
                                    refine SP.not rfl rfl rfl ?_
                                    refine SP.not rfl rfl rfl ?_
                                    refine SP.not rfl rfl rfl ?_
                                    refine SP.not rfl rfl rfl ?_
                                    refine SP.not rfl rfl rfl ?_
                                    refine SP.val (Val.pickF rfl rfl) rfl rfl rfl ?_
                                    obtain rfl := Option.some.inj ho
                                    exact J fun a w2 ha hw => ⟨ha.sub ⟨rfl, rfl, rfl, rfl, rfl, rfl, rfl, trivial⟩, hw⟩
                            · intro J
                              clear ho
                              have ho := hg_t69
                              clear hg_t69
                              rcases if_some ho with ⟨hc, ho⟩ | ⟨hc, ho⟩
                              · have hq66 := hc
                                refine SP.isT (d := 109) rfl hq66 ?_
                                refine SP.not rfl rfl rfl ?_
                                refine SP.not rfl rfl rfl ?_
                                refine SP.not rfl rfl rfl ?_
                                refine SP.not rfl rfl rfl ?_
                                refine SP.val (Val.pickT rfl rfl) rfl rfl rfl ?_
                                obtain rfl := Option.some.inj ho
                                exact J fun a w2 ha hw => ⟨ha.sub ⟨rfl, rfl, rfl, rfl, rfl, rfl, rfl, trivial⟩, hw⟩
                              · have hq66 := (bf hc)
                                refine SP.isF (d := 109) rfl hq66 ?_
                                refine SP.val (Val.move rfl) rfl rfl rfl ?_
                                obtain ⟨x68, hx_x68, ho⟩ := bind_some ho
                                have hx_x68 := elt_some hx_x68
                                refine SP.indexW (fun w2 hw => slO.whole (St.own 0 rfl see.sub see.dj hw)) Tryd.underlying27 sz3 hx_x68.1 hx_x68.2 rfl rfl rfl rfl (fun p67 h_p67 => ?_)
                                refine SP.val (Val.loadW1 (off := 0) (k := (kInt .i64)) (fun w2 hw => slO.whole (St.own 0 rfl see.sub see.dj hw)) hx_x68.2 h_p67 (fun _ _ e => by subst e; rfl) Tryd.underlying3 rfl rfl) rfl rfl rfl ?_
                                refine SP.val (Val.neq rfl rfl) rfl rfl rfl ?_
                                refine SP.val (Val.pickF rfl rfl) rfl rfl rfl ?_
                                obtain rfl := Option.some.inj ho
                                exact J fun a w2 ha hw => ⟨ha.sub ⟨rfl, rfl, rfl, rfl, rfl, rfl, rfl, trivial⟩, hw⟩
                          · intro J
                            clear ho
                            have ho := hg_t64
                            clear hg_t64
                            rcases if_some ho with ⟨hc, ho⟩ | ⟨hc, ho⟩
                            · have hq61 := hc
                              refine SP.isT (d := 103) rfl hq61 ?_
                              refine SP.not rfl rfl rfl ?_
                              refine SP.not rfl rfl rfl ?_
                              refine SP.not rfl rfl rfl ?_
                              refine SP.not rfl rfl rfl ?_
                              refine SP.val (Val.pickT rfl rfl) rfl rfl rfl ?_
                              obtain rfl := Option.some.inj ho
                              exact J fun a w2 ha hw => ⟨ha.sub ⟨rfl, rfl, rfl, rfl, rfl, rfl, rfl, rfl, trivial⟩, hw⟩
                            · have hq61 := (bf hc)
                              refine SP.isF (d := 103) rfl hq61 ?_
                              refine SP.val (Val.move rfl) rfl rfl rfl ?_
                              obtain ⟨x63, hx_x63, ho⟩ := bind_some ho
                              have hx_x63 := elt_some hx_x63
                              refine SP.indexW (fun w2 hw => slO.whole (St.own 0 rfl see.sub see.dj hw)) Tryd.underlying27 sz3 hx_x63.1 hx_x63.2 rfl rfl rfl rfl (fun p62 h_p62 => ?_)
                              refine SP.val (Val.loadW1 (off := 0) (k := (kInt .i64)) (fun w2 hw => slO.whole (St.own 0 rfl see.sub see.dj hw)) hx_x63.2 h_p62 (fun _ _ e => by subst e; rfl) Tryd.underlying3 rfl rfl) rfl rfl rfl ?_
                              refine SP.val (Val.neq rfl rfl) rfl rfl rfl ?_
                              refine SP.val (Val.pickF rfl rfl) rfl rfl rfl ?_
                              obtain rfl := Option.some.inj ho
                              exact J fun a w2 ha hw => ⟨ha.sub ⟨rfl, rfl, rfl, rfl, rfl, rfl, rfl, rfl, trivial⟩, hw⟩
                        · intro J
                          clear ho
                          have ho := hg_t59
                          clear hg_t59
                          rcases if_some ho with ⟨hc, ho⟩ | ⟨hc, ho⟩
                          · have hq56 := hc
                            refine SP.isT (d := 97) rfl hq56 ?_
                            refine SP.not rfl rfl rfl ?_
                            refine SP.not rfl rfl rfl ?_
                            refine SP.not rfl rfl rfl ?_
                            refine SP.not rfl rfl rfl ?_
                            refine SP.val (Val.pickT rfl rfl) rfl rfl rfl ?_
                            obtain rfl := Option.some.inj ho
                            exact J fun a w2 ha hw => ⟨ha.sub ⟨rfl, rfl, rfl, rfl, rfl, rfl, rfl, rfl, trivial⟩, hw⟩
                          · have hq56 := (bf hc)
                            refine SP.isF (d := 97) rfl hq56 ?_
                            refine SP.val (Val.move rfl) rfl rfl rfl ?_
                            obtain ⟨x58, hx_x58, ho⟩ := bind_some ho
                            have hx_x58 := elt_some hx_x58
                            refine SP.indexW (fun w2 hw => slO.whole (St.own 1 rfl see.sub see.dj hw)) Tryd.underlying27 sz3 hx_x58.1 hx_x58.2 rfl rfl rfl rfl (fun p57 h_p57 => ?_)
                            refine SP.val (Val.loadW1 (off := 0) (k := (kInt .i64)) (fun w2 hw => slO.whole (St.own 1 rfl see.sub see.dj hw)) hx_x58.2 h_p57 (fun _ _ e => by subst e; rfl) Tryd.underlying3 rfl rfl) rfl rfl rfl ?_
                            refine SP.val (Val.neq rfl rfl) rfl rfl rfl ?_
                            refine SP.val (Val.pickF rfl rfl) rfl rfl rfl ?_
                            obtain rfl := Option.some.inj ho
                            exact J fun a w2 ha hw => ⟨ha.sub ⟨rfl, rfl, rfl, rfl, rfl, rfl, rfl, rfl, trivial⟩, hw⟩
                      · intro J
                        clear ho
                        have ho := hg_t54
                        clear hg_t54
                        rcases if_some ho with ⟨hc, ho⟩ | ⟨hc, ho⟩
                        · have hq51 := hc
                          refine SP.isT (d := 91) rfl hq51 ?_
                          refine SP.not rfl rfl rfl ?_
                          refine SP.not rfl rfl rfl ?_
                          refine SP.not rfl rfl rfl ?_
                          refine SP.not rfl rfl rfl ?_
                          refine SP.val (Val.pickT rfl rfl) rfl rfl rfl ?_
                          obtain rfl := Option.some.inj ho
                          exact J fun a w2 ha hw => ⟨ha.sub ⟨rfl, rfl, rfl, rfl, rfl, rfl, rfl, rfl, rfl, trivial⟩, hw⟩
                        · have hq51 := (bf hc)
                          refine SP.isF (d := 91) rfl hq51 ?_
                          refine SP.val (Val.move rfl) rfl rfl rfl ?_
                          obtain ⟨x53, hx_x53, ho⟩ := bind_some ho
                          have hx_x53 := elt_some hx_x53
                          refine SP.indexW (fun w2 hw => slO.whole (St.own 1 rfl see.sub see.dj hw)) Tryd.underlying27 sz3 hx_x53.1 hx_x53.2 rfl rfl rfl rfl (fun p52 h_p52 => ?_)
                          refine SP.val (Val.loadW1 (off := 0) (k := (kInt .i64)) (fun w2 hw => slO.whole (St.own 1 rfl see.sub see.dj hw)) hx_x53.2 h_p52 (fun _ _ e => by subst e; rfl) Tryd.underlying3 rfl rfl) rfl rfl rfl ?_
                          refine SP.val (Val.neq rfl rfl) rfl rfl rfl ?_
                          refine SP.val (Val.pickF rfl rfl) rfl rfl rfl ?_
                          obtain rfl := Option.some.inj ho
                          exact J fun a w2 ha hw => ⟨ha.sub ⟨rfl, rfl, rfl, rfl, rfl, rfl, rfl, rfl, rfl, trivial⟩, hw⟩
                    · intro J
                      clear ho
                      have ho := hg_t49
                      clear hg_t49
                      rcases if_some ho with ⟨hc, ho⟩ | ⟨hc, ho⟩
                      · have hq46 := hc
                        refine SP.isT (d := 85) rfl hq46 ?_
                        refine SP.not rfl rfl rfl ?_
                        refine SP.not rfl rfl rfl ?_
                        refine SP.not rfl rfl rfl ?_
                        refine SP.not rfl rfl rfl ?_
                        refine SP.val (Val.pickT rfl rfl) rfl rfl rfl ?_
                        obtain rfl := Option.some.inj ho
                        exact J fun a w2 ha hw => ⟨ha.sub ⟨rfl, rfl, rfl, rfl, rfl, rfl, rfl, rfl, rfl, trivial⟩, hw⟩
                      · have hq46 := (bf hc)
                        refine SP.isF (d := 85) rfl hq46 ?_
                        refine SP.val (Val.move rfl) rfl rfl rfl ?_
                        obtain ⟨x48, hx_x48, ho⟩ := bind_some ho
                        have hx_x48 := elt_some hx_x48
                        refine SP.indexW (fun w2 hw => slO.whole (St.own 1 rfl see.sub see.dj hw)) Tryd.underlying27 sz3 hx_x48.1 hx_x48.2 rfl rfl rfl rfl (fun p47 h_p47 => ?_)
                        refine SP.val (Val.loadW1 (off := 0) (k := (kInt .i64)) (fun w2 hw => slO.whole (St.own 1 rfl see.sub see.dj hw)) hx_x48.2 h_p47 (fun _ _ e => by subst e; rfl) Tryd.underlying3 rfl rfl) rfl rfl rfl ?_
                        refine SP.val (Val.neq rfl rfl) rfl rfl rfl ?_
                        refine SP.val (Val.pickF rfl rfl) rfl rfl rfl ?_
                        obtain rfl := Option.some.inj ho
                        exact J fun a w2 ha hw => ⟨ha.sub ⟨rfl, rfl, rfl, rfl, rfl, rfl, rfl, rfl, rfl, trivial⟩, hw⟩
                  · intro J
                    clear ho
                    have ho := hg_t44
                    clear hg_t44
                    rcases if_some ho with ⟨hc, ho⟩ | ⟨hc, ho⟩
                    · have hq41 := hc
                      refine SP.isT (d := 79) rfl hq41 ?_
                      refine SP.not rfl rfl rfl ?_
                      refine SP.not rfl rfl rfl ?_
                      refine SP.not rfl rfl rfl ?_
                      refine SP.not rfl rfl rfl ?_
                      refine SP.val (Val.pickT rfl rfl) rfl rfl rfl ?_
                      obtain rfl := Option.some.inj ho
                      exact J fun a w2 ha hw => ⟨ha.sub ⟨rfl, rfl, rfl, rfl, rfl, rfl, rfl, rfl, rfl, trivial⟩, hw⟩
                    · have hq41 := (bf hc)
                      refine SP.isF (d := 79) rfl hq41 ?_
                      refine SP.val (Val.move rfl) rfl rfl rfl ?_
                      obtain ⟨x43, hx_x43, ho⟩ := bind_some ho
                      have hx_x43 := elt_some hx_x43
                      refine SP.indexW (fun w2 hw => slO.whole (St.own 1 rfl see.sub see.dj hw)) Tryd.underlying27 sz3 hx_x43.1 hx_x43.2 rfl rfl rfl rfl (fun p42 h_p42 => ?_)
                      refine SP.val (Val.loadW1 (off := 0) (k := (kInt .i64)) (fun w2 hw => slO.whole (St.own 1 rfl see.sub see.dj hw)) hx_x43.2 h_p42 (fun _ _ e => by subst e; rfl) Tryd.underlying3 rfl rfl) rfl rfl rfl ?_
                      refine SP.val (Val.neq rfl rfl) rfl rfl rfl ?_
                      refine SP.val (Val.pickF rfl rfl) rfl rfl rfl ?_
                      obtain rfl := Option.some.inj ho
                      exact J fun a w2 ha hw => ⟨ha.sub ⟨rfl, rfl, rfl, rfl, rfl, rfl, rfl, rfl, rfl, trivial⟩, hw⟩
                · intro J
                  clear ho
                  have ho := hg_t39
                  clear hg_t39
                  rcases if_some ho with ⟨hc, ho⟩ | ⟨hc, ho⟩
                  · have hq35 := hc
                    refine SP.isT (d := 72) rfl hq35 ?_
                    refine SP.not rfl rfl rfl ?_
                    refine SP.not rfl rfl rfl ?_
                    refine SP.not rfl rfl rfl ?_
                    refine SP.not rfl rfl rfl ?_
                    refine SP.not rfl rfl rfl ?_
                    refine SP.val (Val.pickT rfl rfl) rfl rfl rfl ?_
                    obtain rfl := Option.some.inj ho
                    exact J fun a w2 ha hw => ⟨ha.sub ⟨rfl, rfl, rfl, rfl, rfl, rfl, rfl, rfl, rfl, trivial⟩, hw⟩
                  · have hq35 := (bf hc)
                    refine SP.isF (d := 72) rfl hq35 ?_
                    refine SP.val (Val.move rfl) rfl rfl rfl ?_
                    obtain ⟨x37, hx_x37, ho⟩ := bind_some ho
                    have hx_x37 := elt_some hx_x37
                    refine SP.indexW (fun w2 hw => slO.whole (St.own 2 rfl see.sub see.dj hw)) Tryd.underlying30 sz40 hx_x37.1 hx_x37.2 rfl rfl rfl rfl (fun p36 h_p36 => ?_)
                    refine SP.fieldO h_p36 Tryd.underlying40 rfl sz3 rfl rfl rfl (fun p38 h_p38 => ?_)
                    refine SP.val (Val.loadW1 (off := 2) (k := k_flow_Loop) (fun w2 hw => slO.whole (St.own 2 rfl see.sub see.dj hw)) hx_x37.2 h_p38 (fun _ _ e => by subst e; rfl) Tryd.underlying3 rfl rfl) rfl rfl rfl ?_
                    refine SP.val (Val.neq rfl rfl) rfl rfl rfl ?_
                    refine SP.val (Val.pickF rfl rfl) rfl rfl rfl ?_
                    obtain rfl := Option.some.inj ho
                    exact J fun a w2 ha hw => ⟨ha.sub ⟨rfl, rfl, rfl, rfl, rfl, rfl, rfl, rfl, rfl, trivial⟩, hw⟩
              · intro J
                clear ho
                have ho := hg_t33
                clear hg_t33
                rcases if_some ho with ⟨hc, ho⟩ | ⟨hc, ho⟩
                · have hq29 := (decide_eq_true hc)
                  refine SP.isT (d := 65) rfl hq29 ?_
                  refine SP.not rfl rfl rfl ?_
                  refine SP.not rfl rfl rfl ?_
                  refine SP.not rfl rfl rfl ?_
                  refine SP.not rfl rfl rfl ?_
                  refine SP.not rfl rfl rfl ?_
                  refine SP.val (Val.pickT rfl rfl) rfl rfl rfl ?_
                  obtain rfl := Option.some.inj ho
                  exact J fun a w2 ha hw => ⟨ha.sub ⟨rfl, rfl, rfl, rfl, rfl, rfl, rfl, rfl, rfl, rfl, trivial⟩, hw⟩
                · have hq29 := (decide_eq_false hc)
                  refine SP.isF (d := 65) rfl hq29 ?_
                  refine SP.val (Val.move rfl) rfl rfl rfl ?_
                  obtain ⟨x31, hx_x31, ho⟩ := bind_some ho
                  have hx_x31 := elt_some hx_x31
                  refine SP.indexW (fun w2 hw => slO.whole (St.own 2 rfl see.sub see.dj hw)) Tryd.underlying30 sz40 hx_x31.1 hx_x31.2 rfl rfl rfl rfl (fun p30 h_p30 => ?_)
                  refine SP.fieldO h_p30 Tryd.underlying40 rfl sz3 rfl rfl rfl (fun p32 h_p32 => ?_)
                  refine SP.val (Val.loadW1 (off := 1) (k := k_flow_Loop) (fun w2 hw => slO.whole (St.own 2 rfl see.sub see.dj hw)) hx_x31.2 h_p32 (fun _ _ e => by subst e; rfl) Tryd.underlying3 rfl rfl) rfl rfl rfl ?_
                  refine SP.val (Val.neq rfl rfl) rfl rfl rfl ?_
                  refine SP.val (Val.pickF rfl rfl) rfl rfl rfl ?_
                  obtain rfl := Option.some.inj ho
                  exact J fun a w2 ha hw => ⟨ha.sub ⟨rfl, rfl, rfl, rfl, rfl, rfl, rfl, rfl, rfl, rfl, trivial⟩, hw⟩
          · intro J
            by_cases hc : (((((decide (t6.2 ≠ 0)) || (decide (t9.2 ≠ 0))) || (decide (t12.2 ≠ 0))) || (decide ((t6.1.length : Int) ≠ 1))) || (decide ((t9.1.length : Int) ≠ 4))) = true
            · have hq24 := hc
              refine SP.isT (d := 55) rfl hq24 ?_
              refine SP.not rfl rfl rfl ?_
              refine SP.not rfl rfl rfl ?_
              refine SP.not rfl rfl rfl ?_
              refine SP.val (Val.pickT rfl rfl) rfl rfl rfl ?_
              exact J fun a w2 ha hw => ⟨ha.sub ⟨rfl, rfl, rfl, rfl, rfl, rfl, rfl, rfl, rfl, congrArg (fun z => some (Value.bool z)) (or_t hq24), trivial⟩, hw⟩
            · have hq24 := (bf hc)
              refine SP.isF (d := 55) rfl hq24 ?_
              refine SP.val (Val.move rfl) rfl rfl rfl ?_
              refine SP.val (Val.lenW (fun w2 hw => slO.whole (St.own 0 rfl see.sub see.dj hw)) Tryd.underlying27 rfl) rfl rfl rfl ?_
              refine SP.val (Val.neq rfl rfl) rfl rfl rfl ?_
              refine SP.val (Val.pickF rfl rfl) rfl rfl rfl ?_
              exact J fun a w2 ha hw => ⟨ha.sub ⟨rfl, rfl, rfl, rfl, rfl, rfl, rfl, rfl, rfl, congrArg (fun z => some (Value.bool z)) (or_f hq24 rfl), trivial⟩, hw⟩
        · intro J
          by_cases hc : ((((decide (t6.2 ≠ 0)) || (decide (t9.2 ≠ 0))) || (decide (t12.2 ≠ 0))) || (decide ((t6.1.length : Int) ≠ 1))) = true
          · have hq22 := hc
            refine SP.isT (d := 50) rfl hq22 ?_
            refine SP.not rfl rfl rfl ?_
            refine SP.not rfl rfl rfl ?_
            refine SP.not rfl rfl rfl ?_
            refine SP.val (Val.pickT rfl rfl) rfl rfl rfl ?_
            exact J fun a w2 ha hw => ⟨ha.sub ⟨rfl, rfl, rfl, rfl, rfl, rfl, rfl, rfl, rfl, congrArg (fun z => some (Value.bool z)) (or_t hq22), trivial⟩, hw⟩
          · have hq22 := (bf hc)
            refine SP.isF (d := 50) rfl hq22 ?_
            refine SP.val (Val.move rfl) rfl rfl rfl ?_
            refine SP.val (Val.lenW (fun w2 hw => slO.whole (St.own 1 rfl see.sub see.dj hw)) Tryd.underlying27 rfl) rfl rfl rfl ?_
            refine SP.val (Val.neq rfl rfl) rfl rfl rfl ?_
            refine SP.val (Val.pickF rfl rfl) rfl rfl rfl ?_
            exact J fun a w2 ha hw => ⟨ha.sub ⟨rfl, rfl, rfl, rfl, rfl, rfl, rfl, rfl, rfl, congrArg (fun z => some (Value.bool z)) (or_f hq22 rfl), trivial⟩, hw⟩
      · intro J
        by_cases hc : (((decide (t6.2 ≠ 0)) || (decide (t9.2 ≠ 0))) || (decide (t12.2 ≠ 0))) = true
        · have hq20 := hc
          refine SP.isT (d := 45) rfl hq20 ?_
          refine SP.not rfl rfl rfl ?_
          refine SP.not rfl rfl rfl ?_
          refine SP.not rfl rfl rfl ?_
          refine SP.val (Val.pickT rfl rfl) rfl rfl rfl ?_
          exact J fun a w2 ha hw => ⟨ha.sub ⟨rfl, rfl, rfl, rfl, rfl, rfl, rfl, rfl, rfl, congrArg (fun z => some (Value.bool z)) (or_t hq20), trivial⟩, hw⟩
        · have hq20 := (bf hc)
          refine SP.isF (d := 45) rfl hq20 ?_
          refine SP.val (Val.move rfl) rfl rfl rfl ?_
          refine SP.val (Val.lenW (fun w2 hw => slO.whole (St.own 2 rfl see.sub see.dj hw)) Tryd.underlying30 rfl) rfl rfl rfl ?_
          refine SP.val (Val.neq rfl rfl) rfl rfl rfl ?_
          refine SP.val (Val.pickF rfl rfl) rfl rfl rfl ?_
          exact J fun a w2 ha hw => ⟨ha.sub ⟨rfl, rfl, rfl, rfl, rfl, rfl, rfl, rfl, rfl, congrArg (fun z => some (Value.bool z)) (or_f hq20 rfl), trivial⟩, hw⟩
    · intro J
      by_cases hc : ((decide (t6.2 ≠ 0)) || (decide (t9.2 ≠ 0))) = true
      · have hq18 := hc
        refine SP.isT (d := 41) rfl hq18 ?_
        refine SP.not rfl rfl rfl ?_
        refine SP.not rfl rfl rfl ?_
        refine SP.val (Val.pickT rfl rfl) rfl rfl rfl ?_
        exact J fun a w2 ha hw => ⟨ha.sub ⟨rfl, rfl, rfl, rfl, rfl, rfl, rfl, rfl, rfl, congrArg (fun z => some (Value.bool z)) (or_t hq18), trivial⟩, hw⟩
      · have hq18 := (bf hc)
        refine SP.isF (d := 41) rfl hq18 ?_
        refine SP.val (Val.move rfl) rfl rfl rfl ?_
        refine SP.val (Val.neq rfl rfl) rfl rfl rfl ?_
        refine SP.val (Val.pickF rfl rfl) rfl rfl rfl ?_
        exact J fun a w2 ha hw => ⟨ha.sub ⟨rfl, rfl, rfl, rfl, rfl, rfl, rfl, rfl, rfl, congrArg (fun z => some (Value.bool z)) (or_f hq18 rfl), trivial⟩, hw⟩
  · intro J
    by_cases hc : t6.2 ≠ 0
    · have hq16 := (decide_eq_true hc)
      refine SP.isT (d := 37) rfl hq16 ?_
      refine SP.not rfl rfl rfl ?_
      refine SP.not rfl rfl rfl ?_
      refine SP.val (Val.pickT rfl rfl) rfl rfl rfl ?_
      exact J fun a w2 ha hw => ⟨ha.sub ⟨rfl, rfl, rfl, rfl, rfl, rfl, rfl, rfl, rfl, rfl, congrArg (fun z => some (Value.bool z)) (or_t hq16), trivial⟩, hw⟩
    · have hq16 := (decide_eq_false hc)
      refine SP.isF (d := 37) rfl hq16 ?_
      refine SP.val (Val.move rfl) rfl rfl rfl ?_
      refine SP.val (Val.neq rfl rfl) rfl rfl rfl ?_
      refine SP.val (Val.pickF rfl rfl) rfl rfl rfl ?_
      exact J fun a w2 ha hw => ⟨ha.sub ⟨rfl, rfl, rfl, rfl, rfl, rfl, rfl, rfl, rfl, rfl, congrArg (fun z => some (Value.bool z)) (or_f hq16 rfl), trivial⟩, hw⟩
/-! ### capstan/capstanlaw09.FlowNested: function 7 -/
inductive capstanlaw09_FlowNested.S where
  | start
  | l1 (t3 : (List flow_Loop) × Int) (t6 : (List Int) × Int) (x188 : Int) (x189 : Int) (x190 : Int)
  | l2 (t3 : (List flow_Loop) × Int) (t6 : (List Int) × Int) (x190 : Int) (x199 : Int) (x206 : Int) (x228 : Int) (x229 : Int) (x230 : Int)
  | l3 (t3 : (List flow_Loop) × Int) (t6 : (List Int) × Int) (x188 : Int) (x189 : Int) (x299 : Int)
  | l4 (t3 : (List flow_Loop) × Int) (t6 : (List Int) × Int) (x188 : Int) (x189 : Int) (x299 : Int) (x302 : flow_Loop) (x350 : Int)

def capstanlaw09_FlowNested.j3 (l_0 : (List api_Instr)) (t3 : (List flow_Loop) × Int) (t6 : (List Int) × Int) (x190 : Int) (x199 : Int) (x206 : Int) (x230 : Int) (x244 : Int) (x245 : Int) : Option (capstanlaw09_FlowNested.S ⊕ Bool) :=
  some (.inl (.l2 t3 t6 x190 x199 x206 x244 x245 (IntKind.i64.wrap (x230 + 1))))

def capstanlaw09_FlowNested.j2 (l_0 : (List api_Instr)) (t3 : (List flow_Loop) × Int) (t6 : (List Int) × Int) (x190 : Int) (x199 : Int) (x206 : Int) : Option (capstanlaw09_FlowNested.S ⊕ Bool) :=
  some (.inl (.l2 t3 t6 x190 x199 x206 1 0 0))

def capstanlaw09_FlowNested.j1 (l_0 : (List api_Instr)) (t3 : (List flow_Loop) × Int) (t6 : (List Int) × Int) (x189 : Int) (x190 : Int) (x199 : Int) : Option (capstanlaw09_FlowNested.S ⊕ Bool) :=
  (elt l_0 x190).bind fun x203 => if x203.Op = 29 then (capstanlaw09_FlowNested.j2 l_0 t3 t6 x190 x199 (IntKind.i64.wrap (x189 + 1))) else (capstanlaw09_FlowNested.j2 l_0 t3 t6 x190 x199 x189)

def capstanlaw09_FlowNested.j4 (l_0 : (List api_Instr)) (t3 : (List flow_Loop) × Int) (t6 : (List Int) × Int) (x188 : Int) (x189 : Int) (x299 : Int) (x302 : flow_Loop) (b339 : Bool) : Option (capstanlaw09_FlowNested.S ⊕ Bool) :=
  if b339 = true then (some (.inr false)) else (some (.inl (.l4 t3 t6 x188 x189 x299 x302 0)))

def capstanlaw09_FlowNested.F (l_0 : (List api_Instr)) : capstanlaw09_FlowNested.S → Option (capstanlaw09_FlowNested.S ⊕ Bool)
  | .start => (capstanlaw09_awake.f ).bind fun t2 => if (!t2) = true then (some (.inr false)) else (if (l_0.length : Int) > 300 then (some (.inr true)) else ((flow_Loops.f l_0).bind fun t3 => (flow_Times.f l_0).bind fun t6 => if ((decide (t3.2 ≠ 0)) || (decide (t6.2 ≠ 0))) = true then (some (.inr ((decide (t3.2 = t6.2)) && (decide ((t6.1.length : Int) = 0))))) else (some (.inl (.l1 t3 t6 0 0 0)))))
  | .l1 t3 t6 x188 x189 x190 => if ((decide (x190 < (l_0.length : Int))) && (decide (x190 < (t6.1.length : Int)))) = true then ((elt l_0 x190).bind fun x196 => if x196.Op = 28 then (capstanlaw09_FlowNested.j1 l_0 t3 t6 x189 x190 (IntKind.i64.wrap (x188 + 1))) else (capstanlaw09_FlowNested.j1 l_0 t3 t6 x189 x190 x188)) else (some (.inl (.l3 t3 t6 x188 x189 0)))
  | .l2 t3 t6 x190 x199 x206 x228 x229 x230 => if x230 < (t3.1.length : Int) then ((elt t3.1 x230).bind fun x233 => (if x233.From < x190 then ((elt t3.1 x230).bind fun x238 => some (decide (x190 ≤ x238.To))) else (some false)).bind fun t240 => if t240 = true then ((elt t3.1 x230).bind fun x242 => capstanlaw09_FlowNested.j3 l_0 t3 t6 x190 x199 x206 x230 (IntKind.i64.wrap (x228 * x242.Turns)) (IntKind.i64.wrap (x229 + 1))) else (capstanlaw09_FlowNested.j3 l_0 t3 t6 x190 x199 x206 x230 x228 x229)) else ((elt t6.1 x190).bind fun x248 => if ((decide (x248 ≠ x228)) || (decide (x229 > 4))) = true then (some (.inr false)) else (some (.inl (.l1 t3 t6 x199 x206 (IntKind.i64.wrap (x190 + 1))))))
  | .l3 t3 t6 x188 x189 x299 => if x299 < (t3.1.length : Int) then ((elt t3.1 x299).bind fun x302 => if x302.From < 0 then (capstanlaw09_FlowNested.j4 l_0 t3 t6 x188 x189 x299 x302 true) else (if x302.To ≥ (l_0.length : Int) then (capstanlaw09_FlowNested.j4 l_0 t3 t6 x188 x189 x299 x302 true) else (if x302.To ≤ x302.From then (capstanlaw09_FlowNested.j4 l_0 t3 t6 x188 x189 x299 x302 true) else ((elt l_0 x302.From).bind fun x313 => if x313.Op ≠ 28 then (capstanlaw09_FlowNested.j4 l_0 t3 t6 x188 x189 x299 x302 true) else ((elt l_0 x302.From).bind fun x320 => if x320.A ≠ x302.Turns then (capstanlaw09_FlowNested.j4 l_0 t3 t6 x188 x189 x299 x302 true) else ((elt l_0 x302.To).bind fun x328 => if x328.Op ≠ 29 then (capstanlaw09_FlowNested.j4 l_0 t3 t6 x188 x189 x299 x302 true) else ((elt l_0 x302.To).bind fun x335 => capstanlaw09_FlowNested.j4 l_0 t3 t6 x188 x189 x299 x302 (decide (x335.A ≠ x302.From))))))))) else (some (.inr (((decide (x188 = (t3.1.length : Int))) && (decide (x189 = (t3.1.length : Int)))) && (decide ((t6.1.length : Int) = (l_0.length : Int))))))
  | .l4 t3 t6 x188 x189 x299 x302 x350 => if x350 < x299 then ((elt t3.1 x350).bind fun x353 => if ((decide (x353.From ≥ x302.From)) || ((decide (x353.To > x302.From)) && (decide (x353.To < x302.To)))) = true then (some (.inr false)) else (some (.inl (.l4 t3 t6 x188 x189 x299 x302 (IntKind.i64.wrap (x350 + 1)))))) else (some (.inl (.l3 t3 t6 x188 x189 (IntKind.i64.wrap (x299 + 1)))))

def capstanlaw09_FlowNested.f (l_0 : (List api_Instr)) : Option Bool := runF (capstanlaw09_FlowNested.F l_0) .start
theorem capstanlaw09_FlowNested.ok (l_0 : (List api_Instr)) (v_l_0 : Value)  (r : Bool) (H : capstanlaw09_FlowNested.f l_0 = some r) (w : World) (hV : Hp) (sV : Sub hV (hp w)) (h0 : slR k_api_Instr hV v_l_0 l_0) (h1 : (arrP k_arr88 0 tab0).p hV) :
    Trip Tryd.prog 7 [v_l_0].toArray em hV w (fun v => HO.pure (v = .bool r)) := by
  have see : Sees w em hV := ⟨sV, Dj.em_right _⟩
  refine Trip.of (P := Tryd.prog) (n := ⟨227, []⟩) Tryd.func7 rfl ⟨rfl, rfl⟩ rfl (St.begin (All.cons (x := slP k_api_Instr v_l_0 l_0) h0 (All.cons (x := arrP k_arr88 0 tab0) h1 (All.nil _)))) ?_
  obtain ⟨n0, hi⟩ := runF_iff.1 H
  obtain ⟨m0, o, hm0, ho, hr⟩ := iter_some hi
  clear hi
  refine CP.seq ?_
  refine CP.region ?_
  refine SP.val (Val.assign rfl) rfl rfl rfl ?_
  refine SP.nil ?_
  refine QE.then ?_
  refine CP.seq ?_
  refine CP.seq ?_
  refine CP.region ?_
  obtain ⟨t2, hc, ho⟩ := bind_some (x := capstanlaw09_awake.f ) ho
  refine SP.callV see (caps := []) (.bool t2) fn18 rfl rfl rfl rfl (fun w2 hP hs sub ap => capstanlaw09_awake.ok   _ hc w2 hP sub (ap.get 1 rfl)) ?_
  clear hc
  refine SP.val (Val.notB rfl) rfl rfl rfl ?_
  refine SP.nil ?_
  refine QE.then ?_
  rcases if_some ho with ⟨hc, ho⟩ | ⟨hc, ho⟩
  · refine CP.condT rfl hc ?_
    refine CP.seq ?_
    refine CP.region ?_
    refine SP.val (Val.assign rfl) rfl rfl rfl ?_
    refine SP.nil ?_
    refine QE.then ?_
    refine CP.ret ?_
    refine QE.thru (by intro e; cases e) ?_
    obtain rfl := Option.some.inj ho
    obtain rfl := Option.some.inj hr
    exact QE.rets (rs := [.tmp 2]) (vs := [.bool false]) Tryd.results7 rfl ⟨RVs.tmp rfl, trivial⟩ (fun w2 h => St.done (fun a b p s => rfl) h)
  · refine CP.condF rfl (bf hc) ?_
    refine CP.skip ?_
    refine QE.then ?_
    refine CP.seq ?_
    refine CP.seq ?_
    refine CP.region ?_
    refine SP.val (Val.move rfl) rfl rfl rfl ?_
    refine SP.val (Val.lenP see 0 rfl Tryd.underlying22 rfl) rfl rfl rfl ?_
    refine SP.val (Val.gtr rfl rfl) rfl rfl rfl ?_
    refine SP.nil ?_
    refine QE.then ?_
    rcases if_some ho with ⟨hc, ho⟩ | ⟨hc, ho⟩
    · refine CP.condT rfl (decide_eq_true hc) ?_
      refine CP.seq ?_
      refine CP.region ?_
      refine SP.val (Val.assign rfl) rfl rfl rfl ?_
      refine SP.nil ?_
      refine QE.then ?_
      refine CP.ret ?_
      refine QE.thru (by intro e; cases e) ?_
      obtain rfl := Option.some.inj ho
      obtain rfl := Option.some.inj hr
      exact QE.rets (rs := [.tmp 2]) (vs := [.bool true]) Tryd.results7 rfl ⟨RVs.tmp rfl, trivial⟩ (fun w2 h => St.done (fun a b p s => rfl) h)
    · refine CP.condF rfl (decide_eq_false hc) ?_
      refine CP.skip ?_
      refine QE.then ?_
      refine CP.seq ?_
      refine CP.region ?_
      refine SP.val (Val.move rfl) rfl rfl rfl ?_
      obtain ⟨t3, hc, ho⟩ := bind_some (x := flow_Loops.f l_0) ho
      refine SP.callK see (caps := []) _ fn11 rfl rfl rfl rfl (fun w2 hP hs sub ap => flow_Loops.ok l_0 _ _ hc w2 hP sub (ap.get 0 rfl) (ap.get 1 rfl)) (fun vr => ?_)
      refine SP.ex (fun w2 h => St.open h) (fun v4 => ?_)
      refine SP.have (fun w2 h => (St.pand h).1.symm) (fun er => ?_)
      subst er
      refine SP.imp (fun w2 h => St.seps (St.pand h).2) ?_
      clear hc
      refine SP.val (Val.move rfl) rfl rfl rfl ?_
      refine SP.val (Val.extract rfl rfl) rfl rfl rfl ?_
      refine SP.val (Val.extract rfl rfl) rfl rfl rfl ?_
      refine SP.val (Val.assign rfl) rfl rfl rfl ?_
      refine SP.val (Val.assign rfl) rfl rfl rfl ?_
      refine SP.nil ?_
      refine QE.then ?_
      refine CP.seq ?_
      refine CP.region ?_
      refine SP.val (Val.move rfl) rfl rfl rfl ?_
      obtain ⟨t6, hc, ho⟩ := bind_some (x := flow_Times.f l_0) ho
      refine SP.callK see (caps := []) _ fn12 rfl rfl rfl rfl (fun w2 hP hs sub ap => flow_Times.ok l_0 _ _ hc w2 hP sub (ap.get 0 rfl) (ap.get 1 rfl)) (fun vr => ?_)
      refine SP.ex (fun w2 h => St.open h) (fun v7 => ?_)
      refine SP.have (fun w2 h => (St.pand h).1.symm) (fun er => ?_)
      subst er
      refine SP.imp (fun w2 h => St.seps (St.pand h).2) ?_
      clear hc
      refine SP.val (Val.move rfl) rfl rfl rfl ?_
      refine SP.val (Val.extract rfl rfl) rfl rfl rfl ?_
      refine SP.val (Val.extract rfl rfl) rfl rfl rfl ?_
      refine SP.val (Val.assign rfl) rfl rfl rfl ?_
      refine SP.val (Val.assign rfl) rfl rfl rfl ?_
      refine SP.nil ?_
      refine QE.then ?_
      refine CP.seq ?_
      refine CP.seq ?_
      refine CP.region ?_
      refine SP.val (Val.move rfl) rfl rfl rfl ?_
      refine SP.val (Val.neq rfl rfl) rfl rfl rfl ?_
      refine SP.val (Val.move rfl) rfl rfl rfl ?_
      refine SP.join 3 (fun a w2 => Env ⟨227, []⟩ [(0, v_l_0), (3, v4), (4, .int .i64 t3.2), (5, v7), (6, .int .i64 t6.2), (37, .bool ((decide (t3.2 ≠ 0)) || (decide (t6.2 ≠ 0))))] a ∧ St w em hV [slP k_api_Instr v_l_0 l_0, arrP k_arr88 0 tab0] [slO (kInt .i64) 3 v7 t6.1, slO k_flow_Loop 40 v4 t3.1] w2) ?_ ?_
      · rintro a w2 ⟨ha, hw⟩
        refine SP.app ha hw ?_
        clear ha hw a w2
        refine SP.nil ?_
        refine QE.then ?_
        rcases if_some ho with ⟨hc, ho⟩ | ⟨hc, ho⟩
        · refine CP.condT rfl hc ?_
          refine CP.seq ?_
          refine CP.region ?_
          refine SP.val (Val.move rfl) rfl rfl rfl ?_
          refine SP.val (Val.move rfl) rfl rfl rfl ?_
          refine SP.val (Val.eql rfl rfl) rfl rfl rfl ?_
          refine SP.val (Val.move rfl) rfl rfl rfl ?_
          refine SP.join 4 (fun a w2 => Env ⟨227, []⟩ [(45, .bool ((decide (t3.2 = t6.2)) && (decide ((t6.1.length : Int) = 0))))] a ∧ St w em hV [slP k_api_Instr v_l_0 l_0, arrP k_arr88 0 tab0] [slO (kInt .i64) 3 v7 t6.1, slO k_flow_Loop 40 v4 t3.1] w2) ?_ ?_
          · rintro a w2 ⟨ha, hw⟩
            refine SP.app ha hw ?_
            clear ha hw a w2
            refine SP.val (Val.assign rfl) rfl rfl rfl ?_
            refine SP.nil ?_
            refine QE.then ?_
            refine CP.ret ?_
            refine QE.thru (by intro e; cases e) ?_
            obtain rfl := Option.some.inj ho
            obtain rfl := Option.some.inj hr
            exact QE.rets (rs := [.tmp 2]) (vs := [.bool ((decide (t3.2 = t6.2)) && (decide ((t6.1.length : Int) = 0)))]) Tryd.results7 rfl ⟨RVs.tmp rfl, trivial⟩ (fun w2 h => St.done (fun a b p s => rfl) h)
          · intro J
            by_cases hc : t3.2 = t6.2
            · have hq12 := (decide_eq_true hc)
              refine SP.isT (d := 41) rfl hq12 ?_
              refine SP.val (Val.move rfl) rfl rfl rfl ?_
              refine SP.val (Val.lenW (fun w2 hw => slO.whole (St.own 0 rfl see.sub see.dj hw)) Tryd.underlying27 rfl) rfl rfl rfl ?_
              refine SP.val (Val.eql rfl rfl) rfl rfl rfl ?_
              refine SP.val (Val.pickT rfl rfl) rfl rfl rfl ?_
              exact J fun a w2 ha hw => ⟨ha.sub ⟨congrArg (fun z => some (Value.bool z)) (and_t hq12 rfl), trivial⟩, hw⟩
            · have hq12 := (decide_eq_false hc)
              refine SP.isF (d := 41) rfl hq12 ?_
              refine SP.not rfl rfl rfl ?_
              refine SP.not rfl rfl rfl ?_
              refine SP.not rfl rfl rfl ?_
              refine SP.val (Val.pickF rfl rfl) rfl rfl rfl ?_
              exact J fun a w2 ha hw => ⟨ha.sub ⟨congrArg (fun z => some (Value.bool z)) (and_f hq12), trivial⟩, hw⟩
        · refine CP.condF rfl (bf hc) ?_
          refine CP.skip ?_
          refine QE.then ?_
          refine CP.seq ?_
          refine CP.region ?_
          refine SP.val (Val.assign rfl) rfl rfl rfl ?_
          refine SP.val (Val.assign rfl) rfl rfl rfl ?_
          refine SP.nil ?_
          refine QE.then ?_
          refine CP.seq ?_
          refine CP.seq ?_
          refine CP.region ?_
          refine SP.val (Val.assign rfl) rfl rfl rfl ?_
          refine SP.nil ?_
          refine QE.then ?_
          refine CP.block ?_
          obtain rfl := Option.some.inj ho
          refine CP.loop (fun cl1 a w2 => ∃ x188 : Int, ∃ x189 : Int, ∃ x190 : Int, cl1 ≤ m0 ∧ iter (capstanlaw09_FlowNested.F l_0) cl1 (.l1 t3 t6 x188 x189 x190) = some r ∧ Env ⟨227, []⟩ [(0, v_l_0), (3, v4), (5, v7), (7, .int .i64 x188), (8, .int .i64 x189), (9, .int .i64 x190)] a ∧ St w em hV [slP k_api_Instr v_l_0 l_0, arrP k_arr88 0 tab0] [slO (kInt .i64) 3 v7 t6.1, slO k_flow_Loop 40 v4 t3.1] w2) m0 (fun a w2 ha hw => ⟨0, 0, 0, Nat.le_refl _, hr, ha.sub ⟨rfl, rfl, rfl, rfl, rfl, rfl, trivial⟩, hw⟩) ?_
          clear hr
          rintro cl1 a w2 ⟨x188, x189, x190, hc_l1, hi, ha, hw⟩
          obtain ⟨m191, o, hm_m191, ho, hr⟩ := iter_some hi
          refine CP.app ha hw ?_
          clear ha hw a w2 hi
          refine CP.seq ?_
          refine CP.seq ?_
          refine CP.region ?_
          refine SP.val (Val.move rfl) rfl rfl rfl ?_
          refine SP.val (Val.move rfl) rfl rfl rfl ?_
          refine SP.val (Val.lenP see 0 rfl Tryd.underlying22 rfl) rfl rfl rfl ?_
          refine SP.val (Val.lss rfl rfl) rfl rfl rfl ?_
          refine SP.val (Val.move rfl) rfl rfl rfl ?_
          refine SP.join 5 (fun a w2 => Env ⟨227, []⟩ [(0, v_l_0), (3, v4), (5, v7), (7, .int .i64 x188), (8, .int .i64 x189), (9, .int .i64 x190), (55, .bool ((decide (x190 < (l_0.length : Int))) && (decide (x190 < (t6.1.length : Int)))))] a ∧ St w em hV [slP k_api_Instr v_l_0 l_0, arrP k_arr88 0 tab0] [slO (kInt .i64) 3 v7 t6.1, slO k_flow_Loop 40 v4 t3.1] w2) ?_ ?_
          · rintro a w2 ⟨ha, hw⟩
            refine SP.app ha hw ?_
            clear ha hw a w2
            refine SP.nil ?_
            refine QE.then ?_
            rcases if_some ho with ⟨hc, ho⟩ | ⟨hc, ho⟩
            · refine CP.condT rfl hc ?_
              refine CP.skip ?_
              refine QE.then ?_
              refine CP.seq ?_
              refine CP.block ?_
              refine CP.join (fun a w2 => ∃ x199 : Int, ∃ (m200 : Nat) (o : (capstanlaw09_FlowNested.S ⊕ Bool)), m200 ≤ m191 ∧ capstanlaw09_FlowNested.j1 l_0 t3 t6 x189 x190 x199 = some o ∧ next (capstanlaw09_FlowNested.F l_0) m200 o = some r ∧ Env ⟨227, []⟩ [(0, v_l_0), (3, v4), (5, v7), (7, .int .i64 x199), (8, .int .i64 x189), (9, .int .i64 x190)] a ∧ St w em hV [slP k_api_Instr v_l_0 l_0, arrP k_arr88 0 tab0] [slO (kInt .i64) 3 v7 t6.1, slO k_flow_Loop 40 v4 t3.1] w2) ?_ ?_
              · rintro a w2 ⟨x199, m200, o, hm_m200, ho, hr, ha, hw⟩
                refine CP.app ha hw ?_
                clear ha hw a w2
                refine CP.join (fun a w2 => ∃ x206 : Int, ∃ (m207 : Nat) (o : (capstanlaw09_FlowNested.S ⊕ Bool)), m207 ≤ m200 ∧ capstanlaw09_FlowNested.j2 l_0 t3 t6 x190 x199 x206 = some o ∧ next (capstanlaw09_FlowNested.F l_0) m207 o = some r ∧ Env ⟨227, []⟩ [(0, v_l_0), (3, v4), (5, v7), (7, .int .i64 x199), (8, .int .i64 x206), (9, .int .i64 x190)] a ∧ St w em hV [slP k_api_Instr v_l_0 l_0, arrP k_arr88 0 tab0] [slO (kInt .i64) 3 v7 t6.1, slO k_flow_Loop 40 v4 t3.1] w2) ?_ ?_
                · rintro a w2 ⟨x206, m207, o, hm_m207, ho, hr, ha, hw⟩
                  refine CP.app ha hw ?_
                  clear ha hw a w2
                  refine CP.seq ?_
                  refine CP.region ?_
                  refine SP.val (Val.assign rfl) rfl rfl rfl ?_
                  refine SP.val (Val.assign rfl) rfl rfl rfl ?_
                  refine SP.nil ?_
                  refine QE.then ?_
                  refine CP.seq ?_
                  refine CP.seq ?_
                  refine CP.region ?_
                  refine SP.val (Val.assign rfl) rfl rfl rfl ?_
                  refine SP.nil ?_
                  refine QE.then ?_
                  refine CP.block ?_
                  obtain rfl := Option.some.inj ho
                  refine CP.loop (fun cl2 a w2 => ∃ x228 : Int, ∃ x229 : Int, ∃ x230 : Int, cl2 ≤ m207 ∧ iter (capstanlaw09_FlowNested.F l_0) cl2 (.l2 t3 t6 x190 x199 x206 x228 x229 x230) = some r ∧ Env ⟨227, []⟩ [(0, v_l_0), (3, v4), (5, v7), (7, .int .i64 x199), (8, .int .i64 x206), (9, .int .i64 x190), (10, .int .i64 x228), (11, .int .i64 x229), (12, .int .i64 x230)] a ∧ St w em hV [slP k_api_Instr v_l_0 l_0, arrP k_arr88 0 tab0] [slO (kInt .i64) 3 v7 t6.1, slO k_flow_Loop 40 v4 t3.1] w2) m207 (fun a w2 ha hw => ⟨1, 0, 0, Nat.le_refl _, hr, ha.sub ⟨rfl, rfl, rfl, rfl, rfl, rfl, rfl, rfl, rfl, trivial⟩, hw⟩) ?_
                  clear hr
                  rintro cl2 a w2 ⟨x228, x229, x230, hc_l2, hi, ha, hw⟩
                  obtain ⟨m231, o, hm_m231, ho, hr⟩ := iter_some hi
                  refine CP.app ha hw ?_
                  clear ha hw a w2 hi
                  refine CP.seq ?_
                  refine CP.seq ?_
                  refine CP.region ?_
                  refine SP.val (Val.move rfl) rfl rfl rfl ?_
                  refine SP.val (Val.move rfl) rfl rfl rfl ?_
                  refine SP.val (Val.lenW (fun w2 hw => slO.whole (St.own 1 rfl see.sub see.dj hw)) Tryd.underlying30 rfl) rfl rfl rfl ?_
                  refine SP.val (Val.lss rfl rfl) rfl rfl rfl ?_
                  refine SP.nil ?_
                  refine QE.then ?_
                  rcases if_some ho with ⟨hc, ho⟩ | ⟨hc, ho⟩
                  · refine CP.condT rfl (decide_eq_true hc) ?_
                    refine CP.skip ?_
                    refine QE.then ?_
                    refine CP.join (fun a w2 => ∃ x244 : Int, ∃ x245 : Int, ∃ (m246 : Nat) (o : (capstanlaw09_FlowNested.S ⊕ Bool)), m246 ≤ m231 ∧ capstanlaw09_FlowNested.j3 l_0 t3 t6 x190 x199 x206 x230 x244 x245 = some o ∧ next (capstanlaw09_FlowNested.F l_0) m246 o = some r ∧ Env ⟨227, []⟩ [(0, v_l_0), (3, v4), (5, v7), (7, .int .i64 x199), (8, .int .i64 x206), (9, .int .i64 x190), (10, .int .i64 x244), (11, .int .i64 x245), (12, .int .i64 x230)] a ∧ St w em hV [slP k_api_Instr v_l_0 l_0, arrP k_arr88 0 tab0] [slO (kInt .i64) 3 v7 t6.1, slO k_flow_Loop 40 v4 t3.1] w2) ?_ ?_
                    · rintro a w2 ⟨x244, x245, m246, o, hm_m246, ho, hr, ha, hw⟩
                      refine CP.app ha hw ?_
                      clear ha hw a w2
                      refine CP.region ?_
                      refine SP.val (Val.move rfl) rfl rfl rfl ?_
                      refine SP.val (Val.add rfl rfl) rfl rfl rfl ?_
                      refine SP.val (Val.assign rfl) rfl rfl rfl ?_
                      refine SP.nil ?_
                      obtain rfl := Option.some.inj ho
                      exact QE.lower m246 (by omega) fun a w2 ha hw => ⟨x244, x245, (IntKind.i64.wrap (x230 + 1)), (by omega), hr, ha.sub ⟨rfl, rfl, rfl, rfl, rfl, rfl, rfl, rfl, rfl, trivial⟩, hw⟩
                    · refine CP.block ?_
                      refine CP.seq ?_
                      refine CP.region ?_
                      refine SP.val (Val.move rfl) rfl rfl rfl ?_
                      refine SP.val (Val.move rfl) rfl rfl rfl ?_
                      obtain ⟨x233, hx_x233, ho⟩ := bind_some ho
                      have hx_x233 := elt_some hx_x233
                      refine SP.indexW (fun w2 hw => slO.whole (St.own 1 rfl see.sub see.dj hw)) Tryd.underlying30 sz40 hx_x233.1 hx_x233.2 rfl rfl rfl rfl (fun p232 h_p232 => ?_)
                      refine SP.fieldO h_p232 Tryd.underlying40 rfl sz3 rfl rfl rfl (fun p234 h_p234 => ?_)
                      refine SP.val (Val.loadW1 (off := 0) (k := k_flow_Loop) (fun w2 hw => slO.whole (St.own 1 rfl see.sub see.dj hw)) hx_x233.2 h_p234 (fun _ _ e => by subst e; rfl) Tryd.underlying3 rfl rfl) rfl rfl rfl ?_
                      refine SP.val (Val.move rfl) rfl rfl rfl ?_
                      refine SP.val (Val.lss rfl rfl) rfl rfl rfl ?_
                      refine SP.val (Val.move rfl) rfl rfl rfl ?_
                      obtain ⟨t240, hg_t240, ho⟩ := bind_some ho
                      refine SP.join 8 (fun a w2 => Env ⟨227, []⟩ [(0, v_l_0), (3, v4), (5, v7), (7, .int .i64 x199), (8, .int .i64 x206), (9, .int .i64 x190), (10, .int .i64 x228), (11, .int .i64 x229), (12, .int .i64 x230), (95, .bool t240)] a ∧ St w em hV [slP k_api_Instr v_l_0 l_0, arrP k_arr88 0 tab0] [slO (kInt .i64) 3 v7 t6.1, slO k_flow_Loop 40 v4 t3.1] w2) ?_ ?_
                      · rintro a w2 ⟨ha, hw⟩
                        refine SP.app ha hw ?_
                        clear ha hw a w2 hg_t240
                        refine SP.nil ?_
                        refine QE.then ?_
                        rcases if_some ho with ⟨hc, ho⟩ | ⟨hc, ho⟩
                        · refine CP.condT rfl hc ?_
                          refine CP.seq ?_
                          refine CP.region ?_
                          refine SP.val (Val.move rfl) rfl rfl rfl ?_
                          refine SP.val (Val.move rfl) rfl rfl rfl ?_
                          refine SP.val (Val.move rfl) rfl rfl rfl ?_
                          obtain ⟨x242, hx_x242, ho⟩ := bind_some ho
                          have hx_x242 := elt_some hx_x242
                          refine SP.indexW (fun w2 hw => slO.whole (St.own 1 rfl see.sub see.dj hw)) Tryd.underlying30 sz40 hx_x242.1 hx_x242.2 rfl rfl rfl rfl (fun p241 h_p241 => ?_)
                          refine SP.fieldO h_p241 Tryd.underlying40 rfl sz3 rfl rfl rfl (fun p243 h_p243 => ?_)
                          refine SP.val (Val.loadW1 (off := 2) (k := k_flow_Loop) (fun w2 hw => slO.whole (St.own 1 rfl see.sub see.dj hw)) hx_x242.2 h_p243 (fun _ _ e => by subst e; rfl) Tryd.underlying3 rfl rfl) rfl rfl rfl ?_
                          refine SP.val (Val.mul rfl rfl) rfl rfl rfl ?_
                          refine SP.val (Val.assign rfl) rfl rfl rfl ?_
                          refine SP.nil ?_
                          refine QE.then ?_
                          refine CP.region ?_
                          refine SP.val (Val.move rfl) rfl rfl rfl ?_
                          refine SP.val (Val.add rfl rfl) rfl rfl rfl ?_
                          refine SP.val (Val.assign rfl) rfl rfl rfl ?_
                          refine SP.nil ?_
                          refine QE.blockN ?_
                          exact QE.meet fun a w2 ha hw => ⟨(IntKind.i64.wrap (x228 * x242.Turns)), (IntKind.i64.wrap (x229 + 1)), m231, _, (by omega), ho, hr, ha.sub ⟨rfl, rfl, rfl, rfl, rfl, rfl, rfl, rfl, rfl, trivial⟩, hw⟩
                        · refine CP.condF rfl (bf hc) ?_
                          refine CP.skip ?_
                          refine QE.blockN ?_
                          exact QE.meet fun a w2 ha hw => ⟨x228, x229, m231, _, (by omega), ho, hr, ha.sub ⟨rfl, rfl, rfl, rfl, rfl, rfl, rfl, rfl, rfl, trivial⟩, hw⟩
                      · intro J
                        clear ho
                        have ho := hg_t240
                        clear hg_t240
                        rcases if_some ho with ⟨hc, ho⟩ | ⟨hc, ho⟩
                        · have hq236 := (decide_eq_true hc)
                          refine SP.isT (d := 87) rfl hq236 ?_
                          refine SP.val (Val.move rfl) rfl rfl rfl ?_
                          refine SP.val (Val.move rfl) rfl rfl rfl ?_
                          refine SP.val (Val.move rfl) rfl rfl rfl ?_
                          obtain ⟨x238, hx_x238, ho⟩ := bind_some ho
                          have hx_x238 := elt_some hx_x238
                          refine SP.indexW (fun w2 hw => slO.whole (St.own 1 rfl see.sub see.dj hw)) Tryd.underlying30 sz40 hx_x238.1 hx_x238.2 rfl rfl rfl rfl (fun p237 h_p237 => ?_)
                          refine SP.fieldO h_p237 Tryd.underlying40 rfl sz3 rfl rfl rfl (fun p239 h_p239 => ?_)
                          refine SP.val (Val.loadW1 (off := 1) (k := k_flow_Loop) (fun w2 hw => slO.whole (St.own 1 rfl see.sub see.dj hw)) hx_x238.2 h_p239 (fun _ _ e => by subst e; rfl) Tryd.underlying3 rfl rfl) rfl rfl rfl ?_
                          refine SP.val (Val.leq rfl rfl) rfl rfl rfl ?_
                          refine SP.val (Val.pickT rfl rfl) rfl rfl rfl ?_
                          obtain rfl := Option.some.inj ho
                          exact J fun a w2 ha hw => ⟨ha.sub ⟨rfl, rfl, rfl, rfl, rfl, rfl, rfl, rfl, rfl, rfl, trivial⟩, hw⟩
                        · have hq236 := (decide_eq_false hc)
                          refine SP.isF (d := 87) rfl hq236 ?_
                          refine SP.not rfl rfl rfl ?_
                          refine SP.not rfl rfl rfl ?_
                          refine SP.not rfl rfl rfl ?_
                          refine SP.not rfl rfl rfl ?_
                          refine SP.not rfl rfl rfl ?_
                          refine SP.not rfl rfl rfl ?_
                          refine SP.not rfl rfl rfl ?_
                          refine SP.val (Val.pickF rfl rfl) rfl rfl rfl ?_
                          obtain rfl := Option.some.inj ho
                          exact J fun a w2 ha hw => ⟨ha.sub ⟨rfl, rfl, rfl, rfl, rfl, rfl, rfl, rfl, rfl, rfl, trivial⟩, hw⟩
                  · refine CP.condF rfl (decide_eq_false hc) ?_
                    refine CP.exit ?_
                    refine QE.thru (by intro e; cases e) ?_
                    refine QE.thru (by intro e; cases e) ?_
                    refine QE.blockE ?_
                    refine QE.then ?_
                    refine CP.seq ?_
                    refine CP.region ?_
                    refine SP.val (Val.move rfl) rfl rfl rfl ?_
                    refine SP.val (Val.move rfl) rfl rfl rfl ?_
                    obtain ⟨x248, hx_x248, ho⟩ := bind_some ho
                    have hx_x248 := elt_some hx_x248
                    refine SP.indexW (fun w2 hw => slO.whole (St.own 0 rfl see.sub see.dj hw)) Tryd.underlying27 sz3 hx_x248.1 hx_x248.2 rfl rfl rfl rfl (fun p247 h_p247 => ?_)
                    refine SP.val (Val.loadW1 (off := 0) (k := (kInt .i64)) (fun w2 hw => slO.whole (St.own 0 rfl see.sub see.dj hw)) hx_x248.2 h_p247 (fun _ _ e => by subst e; rfl) Tryd.underlying3 rfl rfl) rfl rfl rfl ?_
                    refine SP.val (Val.move rfl) rfl rfl rfl ?_
                    refine SP.val (Val.neq rfl rfl) rfl rfl rfl ?_
                    refine SP.val (Val.move rfl) rfl rfl rfl ?_
                    refine SP.join 3 (fun a w2 => Env ⟨227, []⟩ [(0, v_l_0), (3, v4), (5, v7), (7, .int .i64 x199), (8, .int .i64 x206), (9, .int .i64 x190), (114, .bool ((decide (x248 ≠ x228)) || (decide (x229 > 4))))] a ∧ St w em hV [slP k_api_Instr v_l_0 l_0, arrP k_arr88 0 tab0] [slO (kInt .i64) 3 v7 t6.1, slO k_flow_Loop 40 v4 t3.1] w2) ?_ ?_
                    · rintro a w2 ⟨ha, hw⟩
                      refine SP.app ha hw ?_
                      clear ha hw a w2
                      refine SP.nil ?_
                      refine QE.then ?_
                      rcases if_some ho with ⟨hc, ho⟩ | ⟨hc, ho⟩
                      · refine CP.condT rfl hc ?_
                        refine CP.seq ?_
                        refine CP.region ?_
                        refine SP.val (Val.assign rfl) rfl rfl rfl ?_
                        refine SP.nil ?_
                        refine QE.then ?_
                        refine CP.ret ?_
                        refine QE.blockR ?_
                        refine QE.thru (by intro e; cases e) ?_
                        refine QE.thru (by intro e; cases e) ?_
                        refine QE.blockR ?_
                        refine QE.thru (by intro e; cases e) ?_
                        obtain rfl := Option.some.inj ho
                        obtain rfl := Option.some.inj hr
                        exact QE.rets (rs := [.tmp 2]) (vs := [.bool false]) Tryd.results7 rfl ⟨RVs.tmp rfl, trivial⟩ (fun w2 h => St.done (fun a b p s => rfl) h)
                      · refine CP.condF rfl (bf hc) ?_
                        refine CP.skip ?_
                        refine QE.blockN ?_
                        refine QE.then ?_
                        refine CP.region ?_
                        refine SP.val (Val.move rfl) rfl rfl rfl ?_
                        refine SP.val (Val.add rfl rfl) rfl rfl rfl ?_
                        refine SP.val (Val.assign rfl) rfl rfl rfl ?_
                        refine SP.nil ?_
                        obtain rfl := Option.some.inj ho
                        exact QE.lower m231 (by omega) fun a w2 ha hw => ⟨x199, x206, (IntKind.i64.wrap (x190 + 1)), (by omega), hr, ha.sub ⟨rfl, rfl, rfl, rfl, rfl, rfl, trivial⟩, hw⟩
                    · intro J
                      by_cases hc : x248 ≠ x228
                      · have hq250 := (decide_eq_true hc)
                        refine SP.isT (d := 111) rfl hq250 ?_
                        refine SP.not rfl rfl rfl ?_
                        refine SP.not rfl rfl rfl ?_
                        refine SP.val (Val.pickT rfl rfl) rfl rfl rfl ?_
                        exact J fun a w2 ha hw => ⟨ha.sub ⟨rfl, rfl, rfl, rfl, rfl, rfl, congrArg (fun z => some (Value.bool z)) (or_t hq250), trivial⟩, hw⟩
                      · have hq250 := (decide_eq_false hc)
                        refine SP.isF (d := 111) rfl hq250 ?_
                        refine SP.val (Val.move rfl) rfl rfl rfl ?_
                        refine SP.val (Val.gtr rfl rfl) rfl rfl rfl ?_
                        refine SP.val (Val.pickF rfl rfl) rfl rfl rfl ?_
                        exact J fun a w2 ha hw => ⟨ha.sub ⟨rfl, rfl, rfl, rfl, rfl, rfl, congrArg (fun z => some (Value.bool z)) (or_f hq250 rfl), trivial⟩, hw⟩
                · refine CP.seq ?_
                  refine CP.region ?_
                  refine SP.val (Val.move rfl) rfl rfl rfl ?_
                  refine SP.val (Val.move rfl) rfl rfl rfl ?_
                  obtain ⟨x203, hx, ho⟩ := bind_some ho
                  have hx := elt_some hx
                  refine SP.indexP see 0 rfl Tryd.underlying22 sz52 hx.1 hx.2 rfl rfl rfl rfl (fun p201 => ?_)
                  clear hx
                  refine SP.fieldP see 0 rfl Tryd.underlying52 rfl sz5 k_api_Instr.part_Op rfl rfl rfl (fun p204 => ?_)
                  refine SP.val (Val.loadP1 see 0 rfl (fun _ _ e => e) Tryd.underlying5 rfl rfl) rfl rfl rfl ?_
                  refine SP.val (Val.eql rfl rfl) rfl rfl rfl ?_
                  refine SP.nil ?_
                  refine QE.then ?_
                  rcases if_some ho with ⟨hc, ho⟩ | ⟨hc, ho⟩
                  · refine CP.condT rfl (decide_eq_true hc) ?_
                    refine CP.region ?_
                    refine SP.val (Val.move rfl) rfl rfl rfl ?_
                    refine SP.val (Val.add rfl rfl) rfl rfl rfl ?_
                    refine SP.val (Val.assign rfl) rfl rfl rfl ?_
                    refine SP.nil ?_
                    exact QE.meet fun a w2 ha hw => ⟨(IntKind.i64.wrap (x189 + 1)), m200, _, (by omega), ho, hr, ha.sub ⟨rfl, rfl, rfl, rfl, rfl, rfl, trivial⟩, (St.selP [2, 3] rfl hw)⟩
                  · refine CP.condF rfl (decide_eq_false hc) ?_
                    refine CP.skip ?_
                    exact QE.meet fun a w2 ha hw => ⟨x189, m200, _, (by omega), ho, hr, ha.sub ⟨rfl, rfl, rfl, rfl, rfl, rfl, trivial⟩, (St.selP [2, 3] rfl hw)⟩
              · refine CP.seq ?_
                refine CP.region ?_
                refine SP.val (Val.move rfl) rfl rfl rfl ?_
                refine SP.val (Val.move rfl) rfl rfl rfl ?_
                obtain ⟨x196, hx, ho⟩ := bind_some ho
                have hx := elt_some hx
                refine SP.indexP see 0 rfl Tryd.underlying22 sz52 hx.1 hx.2 rfl rfl rfl rfl (fun p194 => ?_)
                clear hx
                refine SP.fieldP see 0 rfl Tryd.underlying52 rfl sz5 k_api_Instr.part_Op rfl rfl rfl (fun p197 => ?_)
                refine SP.val (Val.loadP1 see 0 rfl (fun _ _ e => e) Tryd.underlying5 rfl rfl) rfl rfl rfl ?_
                refine SP.val (Val.eql rfl rfl) rfl rfl rfl ?_
                refine SP.nil ?_
                refine QE.then ?_
                rcases if_some ho with ⟨hc, ho⟩ | ⟨hc, ho⟩
                · refine CP.condT rfl (decide_eq_true hc) ?_
                  refine CP.region ?_
                  refine SP.val (Val.move rfl) rfl rfl rfl ?_
                  refine SP.val (Val.add rfl rfl) rfl rfl rfl ?_
                  refine SP.val (Val.assign rfl) rfl rfl rfl ?_
                  refine SP.nil ?_
                  exact QE.meet fun a w2 ha hw => ⟨(IntKind.i64.wrap (x188 + 1)), m191, _, (by omega), ho, hr, ha.sub ⟨rfl, rfl, rfl, rfl, rfl, rfl, trivial⟩, (St.selP [2, 3] rfl hw)⟩
                · refine CP.condF rfl (decide_eq_false hc) ?_
                  refine CP.skip ?_
                  exact QE.meet fun a w2 ha hw => ⟨x188, m191, _, (by omega), ho, hr, ha.sub ⟨rfl, rfl, rfl, rfl, rfl, rfl, trivial⟩, (St.selP [2, 3] rfl hw)⟩
            · refine CP.condF rfl (bf hc) ?_
              refine CP.exit ?_
              refine QE.thru (by intro e; cases e) ?_
              refine QE.thru (by intro e; cases e) ?_
              refine QE.blockE ?_
              refine QE.then ?_
              refine CP.seq ?_
              refine CP.seq ?_
              refine CP.region ?_
              refine SP.val (Val.assign rfl) rfl rfl rfl ?_
              refine SP.nil ?_
              refine QE.then ?_
              refine CP.block ?_
              obtain rfl := Option.some.inj ho
              refine CP.loop (fun cl3 a w2 => ∃ x299 : Int, cl3 ≤ m191 ∧ iter (capstanlaw09_FlowNested.F l_0) cl3 (.l3 t3 t6 x188 x189 x299) = some r ∧ Env ⟨227, []⟩ [(0, v_l_0), (3, v4), (5, v7), (7, .int .i64 x188), (8, .int .i64 x189), (13, .int .i64 x299)] a ∧ St w em hV [slP k_api_Instr v_l_0 l_0, arrP k_arr88 0 tab0] [slO (kInt .i64) 3 v7 t6.1, slO k_flow_Loop 40 v4 t3.1] w2) m191 (fun a w2 ha hw => ⟨0, Nat.le_refl _, hr, ha.sub ⟨rfl, rfl, rfl, rfl, rfl, rfl, trivial⟩, hw⟩) ?_
              clear hr
              rintro cl3 a w2 ⟨x299, hc_l3, hi, ha, hw⟩
              obtain ⟨m300, o, hm_m300, ho, hr⟩ := iter_some hi
              refine CP.app ha hw ?_
              clear ha hw a w2 hi
              refine CP.seq ?_
              refine CP.seq ?_
              refine CP.region ?_
              refine SP.val (Val.move rfl) rfl rfl rfl ?_
              refine SP.val (Val.move rfl) rfl rfl rfl ?_
              refine SP.val (Val.lenW (fun w2 hw => slO.whole (St.own 1 rfl see.sub see.dj hw)) Tryd.underlying30 rfl) rfl rfl rfl ?_
              refine SP.val (Val.lss rfl rfl) rfl rfl rfl ?_
              refine SP.nil ?_
              refine QE.then ?_
              rcases if_some ho with ⟨hc, ho⟩ | ⟨hc, ho⟩
              · refine CP.condT rfl (decide_eq_true hc) ?_
                refine CP.skip ?_
                refine QE.then ?_
                refine CP.seq ?_
                refine CP.block ?_
                refine CP.seq ?_
                refine CP.region ?_
                refine SP.val (Val.move rfl) rfl rfl rfl ?_
                refine SP.val (Val.move rfl) rfl rfl rfl ?_
                obtain ⟨x302, hx_x302, ho⟩ := bind_some ho
                have hx_x302 := elt_some hx_x302
                refine SP.indexW (fun w2 hw => slO.whole (St.own 1 rfl see.sub see.dj hw)) Tryd.underlying30 sz40 hx_x302.1 hx_x302.2 rfl rfl rfl rfl (fun p301 h_p301 => ?_)
                refine SP.val (Val.loadOA see 1 rfl hx_x302.2 h_p301 (fun _ _ e => e) Tryd.underlying40 rfl sz40 rfl) rfl rfl rfl ?_
                refine SP.alloc (cs := [.int .i64 0, .int .i64 0, .int .i64 0]) inf40 rfl rfl (fun b303 => ?_)
                refine SP.store (v := .agg #[.int .i64 x302.From, .int .i64 x302.To, .int .i64 x302.Turns]) (vs := [.int .i64 x302.From, .int .i64 x302.To, .int .i64 x302.Turns]) 0 (by rfl) sz40 (by rfl) (by rfl) (by rfl) (by rfl) (by rfl) (by rfl) ?_
                refine SP.nil ?_
                refine QE.then ?_
                refine CP.seq ?_
                refine CP.join (fun a w2 => ∃ b339 : Bool, ∃ (m340 : Nat) (o : (capstanlaw09_FlowNested.S ⊕ Bool)), m340 ≤ m300 ∧ capstanlaw09_FlowNested.j4 l_0 t3 t6 x188 x189 x299 x302 b339 = some o ∧ next (capstanlaw09_FlowNested.F l_0) m340 o = some r ∧ Env ⟨227, []⟩ [(0, v_l_0), (3, v4), (5, v7), (7, .int .i64 x188), (8, .int .i64 x189), (13, .int .i64 x299), (14, .pointer (some ⟨b303, 0, none⟩)), (181, .bool b339)] a ∧ St w em hV [slP k_api_Instr v_l_0 l_0, arrP k_arr88 0 tab0] [boxO b303 [.int .i64 x302.From, .int .i64 x302.To, .int .i64 x302.Turns] 40, slO (kInt .i64) 3 v7 t6.1, slO k_flow_Loop 40 v4 t3.1] w2) ?_ ?_
                · rintro a w2 ⟨b339, m340, o, hm_m340, ho, hr, ha, hw⟩
                  refine CP.app ha hw ?_
                  clear ha hw a w2
                  rcases if_some ho with ⟨hc, ho⟩ | ⟨hc, ho⟩
                  · refine CP.condT rfl hc ?_
                    refine CP.seq ?_
                    refine CP.region ?_
                    refine SP.val (Val.assign rfl) rfl rfl rfl ?_
                    refine SP.nil ?_
                    refine QE.then ?_
                    refine CP.ret ?_
                    refine QE.thru (by intro e; cases e) ?_
                    refine QE.blockR ?_
                    refine QE.thru (by intro e; cases e) ?_
                    refine QE.thru (by intro e; cases e) ?_
                    refine QE.blockR ?_
                    refine QE.thru (by intro e; cases e) ?_
                    obtain rfl := Option.some.inj ho
                    obtain rfl := Option.some.inj hr
                    exact QE.rets (rs := [.tmp 2]) (vs := [.bool false]) Tryd.results7 rfl ⟨RVs.tmp rfl, trivial⟩ (fun w2 h => St.done (fun a b p s => rfl) h)
                  · refine CP.condF rfl (bf hc) ?_
                    refine CP.skip ?_
                    refine QE.then ?_
                    refine CP.seq ?_
                    refine CP.region ?_
                    refine SP.val (Val.assign rfl) rfl rfl rfl ?_
                    refine SP.nil ?_
                    refine QE.then ?_
                    refine CP.block ?_
                    obtain rfl := Option.some.inj ho
                    refine CP.loop (fun cl4 a w2 => ∃ x350 : Int, cl4 ≤ m340 ∧ iter (capstanlaw09_FlowNested.F l_0) cl4 (.l4 t3 t6 x188 x189 x299 x302 x350) = some r ∧ Env ⟨227, []⟩ [(0, v_l_0), (3, v4), (5, v7), (7, .int .i64 x188), (8, .int .i64 x189), (13, .int .i64 x299), (14, .pointer (some ⟨b303, 0, none⟩)), (15, .int .i64 x350)] a ∧ St w em hV [slP k_api_Instr v_l_0 l_0, arrP k_arr88 0 tab0] [boxO b303 [.int .i64 x302.From, .int .i64 x302.To, .int .i64 x302.Turns] 40, slO (kInt .i64) 3 v7 t6.1, slO k_flow_Loop 40 v4 t3.1] w2) m340 (fun a w2 ha hw => ⟨0, Nat.le_refl _, hr, ha.sub ⟨rfl, rfl, rfl, rfl, rfl, rfl, rfl, rfl, trivial⟩, hw⟩) ?_
                    clear hr
                    rintro cl4 a w2 ⟨x350, hc_l4, hi, ha, hw⟩
                    obtain ⟨m351, o, hm_m351, ho, hr⟩ := iter_some hi
                    refine CP.app ha hw ?_
                    clear ha hw a w2 hi
                    refine CP.seq ?_
                    refine CP.seq ?_
                    refine CP.region ?_
                    refine SP.val (Val.move rfl) rfl rfl rfl ?_
                    refine SP.val (Val.move rfl) rfl rfl rfl ?_
                    refine SP.val (Val.lss rfl rfl) rfl rfl rfl ?_
                    refine SP.nil ?_
                    refine QE.then ?_
                    rcases if_some ho with ⟨hc, ho⟩ | ⟨hc, ho⟩
                    · refine CP.condT rfl (decide_eq_true hc) ?_
                      refine CP.skip ?_
                      refine QE.then ?_
                      refine CP.seq ?_
                      refine CP.block ?_
                      refine CP.seq ?_
                      refine CP.region ?_
                      refine SP.val (Val.move rfl) rfl rfl rfl ?_
                      refine SP.val (Val.move rfl) rfl rfl rfl ?_
                      obtain ⟨x353, hx_x353, ho⟩ := bind_some ho
                      have hx_x353 := elt_some hx_x353
                      refine SP.indexW (fun w2 hw => slO.whole (St.own 2 rfl see.sub see.dj hw)) Tryd.underlying30 sz40 hx_x353.1 hx_x353.2 rfl rfl rfl rfl (fun p352 h_p352 => ?_)
                      refine SP.val (Val.loadOA see 2 rfl hx_x353.2 h_p352 (fun _ _ e => e) Tryd.underlying40 rfl sz40 rfl) rfl rfl rfl ?_
                      refine SP.alloc (cs := [.int .i64 0, .int .i64 0, .int .i64 0]) inf40 rfl rfl (fun b354 => ?_)
                      refine SP.store (v := .agg #[.int .i64 x353.From, .int .i64 x353.To, .int .i64 x353.Turns]) (vs := [.int .i64 x353.From, .int .i64 x353.To, .int .i64 x353.Turns]) 0 (by rfl) sz40 (by rfl) (by rfl) (by rfl) (by rfl) (by rfl) (by rfl) ?_
                      refine SP.nil ?_
                      refine QE.then ?_
                      refine CP.seq ?_
                      refine CP.region ?_
                      refine SP.val (Val.fieldAddr Tryd.underlying40 rfl sz3 rfl) rfl rfl rfl ?_
                      refine SP.val (Val.load1 0 rfl Tryd.underlying3 rfl rfl rfl) rfl rfl rfl ?_
                      refine SP.val (Val.fieldAddr Tryd.underlying40 rfl sz3 rfl) rfl rfl rfl ?_
                      refine SP.val (Val.load1 1 rfl Tryd.underlying3 rfl rfl rfl) rfl rfl rfl ?_
                      refine SP.val (Val.geq rfl rfl) rfl rfl rfl ?_
                      refine SP.val (Val.move rfl) rfl rfl rfl ?_
                      refine SP.join 13 (fun a w2 => Env ⟨227, []⟩ [(0, v_l_0), (3, v4), (5, v7), (7, .int .i64 x188), (8, .int .i64 x189), (13, .int .i64 x299), (14, .pointer (some ⟨b303, 0, none⟩)), (15, .int .i64 x350), (209, .bool ((decide (x353.From ≥ x302.From)) || ((decide (x353.To > x302.From)) && (decide (x353.To < x302.To)))))] a ∧ St w em hV [slP k_api_Instr v_l_0 l_0, arrP k_arr88 0 tab0] [boxO b354 [.int .i64 x353.From, .int .i64 x353.To, .int .i64 x353.Turns] 40, boxO b303 [.int .i64 x302.From, .int .i64 x302.To, .int .i64 x302.Turns] 40, slO (kInt .i64) 3 v7 t6.1, slO k_flow_Loop 40 v4 t3.1] w2) ?_ ?_
                      · rintro a w2 ⟨ha, hw⟩
                        refine SP.app ha hw ?_
                        clear ha hw a w2
                        refine SP.nil ?_
                        refine QE.then ?_
                        rcases if_some ho with ⟨hc, ho⟩ | ⟨hc, ho⟩
                        · refine CP.condT rfl hc ?_
                          refine CP.seq ?_
                          refine CP.region ?_
                          refine SP.val (Val.assign rfl) rfl rfl rfl ?_
                          refine SP.nil ?_
                          refine QE.then ?_
                          refine CP.ret ?_
                          refine QE.blockR ?_
                          refine QE.thru (by intro e; cases e) ?_
                          refine QE.thru (by intro e; cases e) ?_
                          refine QE.blockR ?_
                          refine QE.blockR ?_
                          refine QE.thru (by intro e; cases e) ?_
                          refine QE.thru (by intro e; cases e) ?_
                          refine QE.blockR ?_
                          refine QE.thru (by intro e; cases e) ?_
                          obtain rfl := Option.some.inj ho
                          obtain rfl := Option.some.inj hr
                          exact QE.rets (rs := [.tmp 2]) (vs := [.bool false]) Tryd.results7 rfl ⟨RVs.tmp rfl, trivial⟩ (fun w2 h => St.done (fun a b p s => rfl) h)
                        · refine CP.condF rfl (bf hc) ?_
                          refine CP.skip ?_
                          refine QE.blockN ?_
                          refine QE.then ?_
                          refine CP.region ?_
                          refine SP.val (Val.move rfl) rfl rfl rfl ?_
                          refine SP.val (Val.add rfl rfl) rfl rfl rfl ?_
                          refine SP.val (Val.assign rfl) rfl rfl rfl ?_
                          refine SP.nil ?_
                          obtain rfl := Option.some.inj ho
                          exact QE.lower m351 (by omega) fun a w2 ha hw => ⟨(IntKind.i64.wrap (x350 + 1)), (by omega), hr, ha.sub ⟨rfl, rfl, rfl, rfl, rfl, rfl, rfl, rfl, trivial⟩, (St.selO [1, 2, 3] rfl rfl hw)⟩
                      · intro J
                        by_cases hc : x353.From ≥ x302.From
                        · have hq357 := (decide_eq_true hc)
                          refine SP.isT (d := 196) rfl hq357 ?_
                          refine SP.not rfl rfl rfl ?_
                          refine SP.not rfl rfl rfl ?_
                          refine SP.not rfl rfl rfl ?_
                          refine SP.not rfl rfl rfl ?_
                          refine SP.not rfl rfl rfl ?_
                          refine SP.not rfl rfl rfl ?_
                          refine SP.not rfl rfl rfl ?_
                          refine SP.not rfl rfl rfl ?_
                          refine SP.not rfl rfl rfl ?_
                          refine SP.not rfl rfl rfl ?_
                          refine SP.not rfl rfl rfl ?_
                          refine SP.not rfl rfl rfl ?_
                          refine SP.val (Val.pickT rfl rfl) rfl rfl rfl ?_
                          exact J fun a w2 ha hw => ⟨ha.sub ⟨rfl, rfl, rfl, rfl, rfl, rfl, rfl, rfl, congrArg (fun z => some (Value.bool z)) (or_t hq357), trivial⟩, hw⟩
                        · have hq357 := (decide_eq_false hc)
                          refine SP.isF (d := 196) rfl hq357 ?_
                          refine SP.val (Val.fieldAddr Tryd.underlying40 rfl sz3 rfl) rfl rfl rfl ?_
                          refine SP.val (Val.load1 0 rfl Tryd.underlying3 rfl rfl rfl) rfl rfl rfl ?_
                          refine SP.val (Val.fieldAddr Tryd.underlying40 rfl sz3 rfl) rfl rfl rfl ?_
                          refine SP.val (Val.load1 1 rfl Tryd.underlying3 rfl rfl rfl) rfl rfl rfl ?_
                          refine SP.val (Val.gtr rfl rfl) rfl rfl rfl ?_
                          refine SP.val (Val.move rfl) rfl rfl rfl ?_
                          refine SP.join 6 (fun a w2 => Env ⟨227, []⟩ [(0, v_l_0), (3, v4), (5, v7), (7, .int .i64 x188), (8, .int .i64 x189), (13, .int .i64 x299), (14, .pointer (some ⟨b303, 0, none⟩)), (15, .int .i64 x350), (196, .bool false), (197, .pointer (some ⟨b354, 1, none⟩)), (198, .int .i64 x353.To), (199, .pointer (some ⟨b303, 0, none⟩)), (200, .int .i64 x302.From), (201, .bool (decide (x353.To > x302.From))), (202, .bool (decide (x353.To > x302.From))), (208, .bool ((decide (x353.To > x302.From)) && (decide (x353.To < x302.To))))] a ∧ St w em hV [slP k_api_Instr v_l_0 l_0, arrP k_arr88 0 tab0] [boxO b354 [.int .i64 x353.From, .int .i64 x353.To, .int .i64 x353.Turns] 40, boxO b303 [.int .i64 x302.From, .int .i64 x302.To, .int .i64 x302.Turns] 40, slO (kInt .i64) 3 v7 t6.1, slO k_flow_Loop 40 v4 t3.1] w2) ?_ ?_
                          · rintro a w2 ⟨ha, hw⟩
                            refine SP.app ha hw ?_
                            clear ha hw a w2
                            refine SP.val (Val.pickF rfl rfl) rfl rfl rfl ?_
                            exact J fun a w2 ha hw => ⟨ha.sub ⟨rfl, rfl, rfl, rfl, rfl, rfl, rfl, rfl, congrArg (fun z => some (Value.bool z)) (or_f hq357 rfl), trivial⟩, hw⟩
                          · intro J
                            by_cases hc : x353.To > x302.From
                            · have hq359 := (decide_eq_true hc)
                              refine SP.isT (d := 202) rfl hq359 ?_
                              refine SP.val (Val.fieldAddr Tryd.underlying40 rfl sz3 rfl) rfl rfl rfl ?_
                              refine SP.val (Val.load1 0 rfl Tryd.underlying3 rfl rfl rfl) rfl rfl rfl ?_
                              refine SP.val (Val.fieldAddr Tryd.underlying40 rfl sz3 rfl) rfl rfl rfl ?_
                              refine SP.val (Val.load1 1 rfl Tryd.underlying3 rfl rfl rfl) rfl rfl rfl ?_
                              refine SP.val (Val.lss rfl rfl) rfl rfl rfl ?_
                              refine SP.val (Val.pickT rfl rfl) rfl rfl rfl ?_
                              exact J fun a w2 ha hw => ⟨ha.sub ⟨rfl, rfl, rfl, rfl, rfl, rfl, rfl, rfl, rfl, rfl, rfl, rfl, rfl, rfl, congrArg (fun z => some (Value.bool z)) hq359.symm, congrArg (fun z => some (Value.bool z)) (and_t hq359 rfl), trivial⟩, hw⟩
                            · have hq359 := (decide_eq_false hc)
                              refine SP.isF (d := 202) rfl hq359 ?_
                              refine SP.not rfl rfl rfl ?_
                              refine SP.not rfl rfl rfl ?_
                              refine SP.not rfl rfl rfl ?_
                              refine SP.not rfl rfl rfl ?_
                              refine SP.not rfl rfl rfl ?_
                              refine SP.val (Val.pickF rfl rfl) rfl rfl rfl ?_
                              exact J fun a w2 ha hw => ⟨ha.sub ⟨rfl, rfl, rfl, rfl, rfl, rfl, rfl, rfl, rfl, rfl, rfl, rfl, rfl, rfl, congrArg (fun z => some (Value.bool z)) hq359.symm, congrArg (fun z => some (Value.bool z)) (and_f hq359), trivial⟩, hw⟩
                    · refine CP.condF rfl (decide_eq_false hc) ?_
                      refine CP.exit ?_
                      refine QE.thru (by intro e; cases e) ?_
                      refine QE.thru (by intro e; cases e) ?_
                      refine QE.blockE ?_
                      refine QE.blockN ?_
                      refine QE.then ?_
                      refine CP.region ?_
                      refine SP.val (Val.move rfl) rfl rfl rfl ?_
                      refine SP.val (Val.add rfl rfl) rfl rfl rfl ?_
                      refine SP.val (Val.assign rfl) rfl rfl rfl ?_
                      refine SP.nil ?_
                      obtain rfl := Option.some.inj ho
                      exact QE.lower m351 (by omega) fun a w2 ha hw => ⟨(IntKind.i64.wrap (x299 + 1)), (by omega), hr, ha.sub ⟨rfl, rfl, rfl, rfl, rfl, rfl, trivial⟩, (St.selO [1, 2] rfl rfl hw)⟩
                · refine CP.drawA (by kernel_rfl) (fun w2 k h => h.drawn k) ?_
                  refine DA.one 0 rfl (by kernel_rfl) ?_
                  refine SP.val (Val.fieldAddr Tryd.underlying40 rfl sz3 rfl) rfl rfl rfl ?_
                  refine SP.nil ?_
                  refine QE.atA ?_
                  refine DA.one 1 rfl (by kernel_rfl) ?_
                  refine SP.val (Val.load1 0 rfl Tryd.underlying3 rfl rfl rfl) rfl rfl rfl ?_
                  refine SP.nil ?_
                  refine QE.atA ?_
                  refine DA.one 2 rfl (by kernel_rfl) ?_
                  refine SP.val (Val.lss rfl rfl) rfl rfl rfl ?_
                  refine SP.nil ?_
                  refine QE.atA ?_
                  refine DA.one 3 rfl (by kernel_rfl) ?_
                  refine SP.val (Val.move rfl) rfl rfl rfl ?_
                  refine SP.nil ?_
                  refine QE.atA ?_
                  rcases if_some ho with ⟨hc, ho⟩ | ⟨hc, ho⟩
                  · have hg305 := (decide_eq_true hc)
                    clear hc
                    refine DA.phase (fun i => Nat.ble 4 i && Nat.blt i 8) (fun w2 => St w em hV [slP k_api_Instr v_l_0 l_0, arrP k_arr88 0 tab0] [boxO b303 [.int .i64 x302.From, .int .i64 x302.To, .int .i64 x302.Turns] 40, slO (kInt .i64) 3 v7 t6.1, slO k_flow_Loop 40 v4 t3.1] w2) ?_
                    refine DT.is (d := 128) (b := true) rfl hg305 ?_
                    refine DT.not 4 rfl rfl rfl rfl (by kernel_rfl) (fun _ _ _ h => h) (fun w2 hw => hw) ?_
                    refine DT.not 5 rfl rfl rfl rfl (by kernel_rfl) (fun _ _ _ h => h) (fun w2 hw => hw) ?_
                    refine DT.not 6 rfl rfl rfl rfl (by kernel_rfl) (fun _ _ _ h => h) (fun w2 hw => hw) ?_
                    refine DT.not 7 rfl rfl rfl rfl (by kernel_rfl) (fun _ _ _ h => h) (fun w2 hw => hw) ?_
                    refine DT.next (by kernel_rfl) ?_
                    refine DA.phase (fun i => Nat.ble 8 i && Nat.blt i 9) (fun w2 => St w em hV [slP k_api_Instr v_l_0 l_0, arrP k_arr88 0 tab0] [boxO b303 [.int .i64 x302.From, .int .i64 x302.To, .int .i64 x302.Turns] 40, slO (kInt .i64) 3 v7 t6.1, slO k_flow_Loop 40 v4 t3.1] w2) ?_
                    refine DT.not 8 rfl rfl rfl rfl (by kernel_rfl) (fun _ _ _ h => h) (fun w2 hw => hw) ?_
                    refine DT.next (by kernel_rfl) ?_
                    refine DA.one 9 rfl (by kernel_rfl) ?_
                    refine SP.val (Val.pickT rfl rfl) rfl rfl rfl ?_
                    refine SP.nil ?_
                    refine QE.atA ?_
                    refine DA.one 10 rfl (by kernel_rfl) ?_
                    refine SP.val (Val.move rfl) rfl rfl rfl ?_
                    refine SP.nil ?_
                    refine QE.atA ?_
                    refine DA.phase (fun i => Nat.ble 11 i && Nat.blt i 15) (fun w2 => St w em hV [slP k_api_Instr v_l_0 l_0, arrP k_arr88 0 tab0] [boxO b303 [.int .i64 x302.From, .int .i64 x302.To, .int .i64 x302.Turns] 40, slO (kInt .i64) 3 v7 t6.1, slO k_flow_Loop 40 v4 t3.1] w2) ?_
                    refine DT.not 11 rfl rfl rfl rfl (by kernel_rfl) (fun _ _ _ h => h) (fun w2 hw => hw) ?_
                    refine DT.not 12 rfl rfl rfl rfl (by kernel_rfl) (fun _ _ _ h => h) (fun w2 hw => hw) ?_
                    refine DT.not 13 rfl rfl rfl rfl (by kernel_rfl) (fun _ _ _ h => h) (fun w2 hw => hw) ?_
                    refine DT.not 14 rfl rfl rfl rfl (by kernel_rfl) (fun _ _ _ h => h) (fun w2 hw => hw) ?_
                    refine DT.next (by kernel_rfl) ?_
                    refine DA.phase (fun i => Nat.ble 15 i && Nat.blt i 16) (fun w2 => St w em hV [slP k_api_Instr v_l_0 l_0, arrP k_arr88 0 tab0] [boxO b303 [.int .i64 x302.From, .int .i64 x302.To, .int .i64 x302.Turns] 40, slO (kInt .i64) 3 v7 t6.1, slO k_flow_Loop 40 v4 t3.1] w2) ?_
                    refine DT.not 15 rfl rfl rfl rfl (by kernel_rfl) (fun _ _ _ h => h) (fun w2 hw => hw) ?_
                    refine DT.next (by kernel_rfl) ?_
                    refine DA.one 16 rfl (by kernel_rfl) ?_
                    refine SP.val (Val.pickT rfl rfl) rfl rfl rfl ?_
                    refine SP.nil ?_
                    refine QE.atA ?_
                    refine DA.one 17 rfl (by kernel_rfl) ?_
                    refine SP.val (Val.move rfl) rfl rfl rfl ?_
                    refine SP.nil ?_
                    refine QE.atA ?_
                    refine DA.phase (fun i => Nat.ble 18 i && Nat.blt i 21) (fun w2 => St w em hV [slP k_api_Instr v_l_0 l_0, arrP k_arr88 0 tab0] [boxO b303 [.int .i64 x302.From, .int .i64 x302.To, .int .i64 x302.Turns] 40, slO (kInt .i64) 3 v7 t6.1, slO k_flow_Loop 40 v4 t3.1] w2) ?_
                    refine DT.not 18 rfl rfl rfl rfl (by kernel_rfl) (fun _ _ _ h => h) (fun w2 hw => hw) ?_
                    refine DT.not 19 rfl rfl rfl rfl (by kernel_rfl) (fun _ _ _ h => h) (fun w2 hw => hw) ?_
                    refine DT.not 20 rfl rfl rfl rfl (by kernel_rfl) (fun _ _ _ h => h) (fun w2 hw => hw) ?_
                    refine DT.next (by kernel_rfl) ?_
                    refine DA.phase (fun i => Nat.ble 21 i && Nat.blt i 22) (fun w2 => St w em hV [slP k_api_Instr v_l_0 l_0, arrP k_arr88 0 tab0] [boxO b303 [.int .i64 x302.From, .int .i64 x302.To, .int .i64 x302.Turns] 40, slO (kInt .i64) 3 v7 t6.1, slO k_flow_Loop 40 v4 t3.1] w2) ?_
                    refine DT.not 21 rfl rfl rfl rfl (by kernel_rfl) (fun _ _ _ h => h) (fun w2 hw => hw) ?_
                    refine DT.next (by kernel_rfl) ?_
                    refine DA.phase (fun i => Nat.ble 22 i && Nat.blt i 23) (fun w2 => St w em hV [slP k_api_Instr v_l_0 l_0, arrP k_arr88 0 tab0] [boxO b303 [.int .i64 x302.From, .int .i64 x302.To, .int .i64 x302.Turns] 40, slO (kInt .i64) 3 v7 t6.1, slO k_flow_Loop 40 v4 t3.1] w2) ?_
                    refine DT.not 22 rfl rfl rfl rfl (by kernel_rfl) (fun _ _ _ h => h) (fun w2 hw => hw) ?_
                    refine DT.next (by kernel_rfl) ?_
                    refine DA.phase (fun i => Nat.ble 23 i && Nat.blt i 24) (fun w2 => St w em hV [slP k_api_Instr v_l_0 l_0, arrP k_arr88 0 tab0] [boxO b303 [.int .i64 x302.From, .int .i64 x302.To, .int .i64 x302.Turns] 40, slO (kInt .i64) 3 v7 t6.1, slO k_flow_Loop 40 v4 t3.1] w2) ?_
                    refine DT.not 23 rfl rfl rfl rfl (by kernel_rfl) (fun _ _ _ h => h) (fun w2 hw => hw) ?_
                    refine DT.next (by kernel_rfl) ?_
                    refine DA.phase (fun i => Nat.ble 24 i && Nat.blt i 25) (fun w2 => St w em hV [slP k_api_Instr v_l_0 l_0, arrP k_arr88 0 tab0] [boxO b303 [.int .i64 x302.From, .int .i64 x302.To, .int .i64 x302.Turns] 40, slO (kInt .i64) 3 v7 t6.1, slO k_flow_Loop 40 v4 t3.1] w2) ?_
                    refine DT.not 24 rfl rfl rfl rfl (by kernel_rfl) (fun _ _ _ h => h) (fun w2 hw => hw) ?_
                    refine DT.next (by kernel_rfl) ?_
                    refine DA.one 25 rfl (by kernel_rfl) ?_
                    refine SP.val (Val.pickT rfl rfl) rfl rfl rfl ?_
                    refine SP.nil ?_
                    refine QE.atA ?_
                    refine DA.one 26 rfl (by kernel_rfl) ?_
                    refine SP.val (Val.move rfl) rfl rfl rfl ?_
                    refine SP.nil ?_
                    refine QE.atA ?_
                    refine DA.phase (fun i => Nat.ble 27 i && Nat.blt i 35) (fun w2 => St w em hV [slP k_api_Instr v_l_0 l_0, arrP k_arr88 0 tab0] [boxO b303 [.int .i64 x302.From, .int .i64 x302.To, .int .i64 x302.Turns] 40, slO (kInt .i64) 3 v7 t6.1, slO k_flow_Loop 40 v4 t3.1] w2) ?_
                    refine DT.not 27 rfl rfl rfl rfl (by kernel_rfl) (fun _ _ _ h => h) (fun w2 hw => hw) ?_
                    refine DT.not 28 rfl rfl rfl rfl (by kernel_rfl) (fun _ _ _ h => h) (fun w2 hw => hw) ?_
                    refine DT.not 29 rfl rfl rfl rfl (by kernel_rfl) (fun _ _ _ h => h) (fun w2 hw => hw) ?_
                    refine DT.not 30 rfl rfl rfl rfl (by kernel_rfl) (fun _ _ _ h => h) (fun w2 hw => hw) ?_
                    refine DT.not 31 rfl rfl rfl rfl (by kernel_rfl) (fun _ _ _ h => h) (fun w2 hw => hw) ?_
                    refine DT.not 32 rfl rfl rfl rfl (by kernel_rfl) (fun _ _ _ h => h) (fun w2 hw => hw) ?_
                    refine DT.not 33 rfl rfl rfl rfl (by kernel_rfl) (fun _ _ _ h => h) (fun w2 hw => hw) ?_
                    refine DT.not 34 rfl rfl rfl rfl (by kernel_rfl) (fun _ _ _ h => h) (fun w2 hw => hw) ?_
                    refine DT.next (by kernel_rfl) ?_
                    refine DA.phase (fun i => Nat.ble 35 i && Nat.blt i 36) (fun w2 => St w em hV [slP k_api_Instr v_l_0 l_0, arrP k_arr88 0 tab0] [boxO b303 [.int .i64 x302.From, .int .i64 x302.To, .int .i64 x302.Turns] 40, slO (kInt .i64) 3 v7 t6.1, slO k_flow_Loop 40 v4 t3.1] w2) ?_
                    refine DT.not 35 rfl rfl rfl rfl (by kernel_rfl) (fun _ _ _ h => h) (fun w2 hw => hw) ?_
                    refine DT.next (by kernel_rfl) ?_
                    refine DA.one 36 rfl (by kernel_rfl) ?_
                    refine SP.val (Val.pickT rfl rfl) rfl rfl rfl ?_
                    refine SP.nil ?_
                    refine QE.atA ?_
                    refine DA.one 37 rfl (by kernel_rfl) ?_
                    refine SP.val (Val.move rfl) rfl rfl rfl ?_
                    refine SP.nil ?_
                    refine QE.atA ?_
                    refine DA.phase (fun i => Nat.ble 38 i && Nat.blt i 41) (fun w2 => St w em hV [slP k_api_Instr v_l_0 l_0, arrP k_arr88 0 tab0] [boxO b303 [.int .i64 x302.From, .int .i64 x302.To, .int .i64 x302.Turns] 40, slO (kInt .i64) 3 v7 t6.1, slO k_flow_Loop 40 v4 t3.1] w2) ?_
                    refine DT.not 38 rfl rfl rfl rfl (by kernel_rfl) (fun _ _ _ h => h) (fun w2 hw => hw) ?_
                    refine DT.not 39 rfl rfl rfl rfl (by kernel_rfl) (fun _ _ _ h => h) (fun w2 hw => hw) ?_
                    refine DT.not 40 rfl rfl rfl rfl (by kernel_rfl) (fun _ _ _ h => h) (fun w2 hw => hw) ?_
                    refine DT.next (by kernel_rfl) ?_
                    refine DA.phase (fun i => Nat.ble 41 i && Nat.blt i 42) (fun w2 => St w em hV [slP k_api_Instr v_l_0 l_0, arrP k_arr88 0 tab0] [boxO b303 [.int .i64 x302.From, .int .i64 x302.To, .int .i64 x302.Turns] 40, slO (kInt .i64) 3 v7 t6.1, slO k_flow_Loop 40 v4 t3.1] w2) ?_
                    refine DT.not 41 rfl rfl rfl rfl (by kernel_rfl) (fun _ _ _ h => h) (fun w2 hw => hw) ?_
                    refine DT.next (by kernel_rfl) ?_
                    refine DA.phase (fun i => Nat.ble 42 i && Nat.blt i 43) (fun w2 => St w em hV [slP k_api_Instr v_l_0 l_0, arrP k_arr88 0 tab0] [boxO b303 [.int .i64 x302.From, .int .i64 x302.To, .int .i64 x302.Turns] 40, slO (kInt .i64) 3 v7 t6.1, slO k_flow_Loop 40 v4 t3.1] w2) ?_
                    refine DT.not 42 rfl rfl rfl rfl (by kernel_rfl) (fun _ _ _ h => h) (fun w2 hw => hw) ?_
                    refine DT.next (by kernel_rfl) ?_
                    refine DA.phase (fun i => Nat.ble 43 i && Nat.blt i 44) (fun w2 => St w em hV [slP k_api_Instr v_l_0 l_0, arrP k_arr88 0 tab0] [boxO b303 [.int .i64 x302.From, .int .i64 x302.To, .int .i64 x302.Turns] 40, slO (kInt .i64) 3 v7 t6.1, slO k_flow_Loop 40 v4 t3.1] w2) ?_
                    refine DT.not 43 rfl rfl rfl rfl (by kernel_rfl) (fun _ _ _ h => h) (fun w2 hw => hw) ?_
                    refine DT.next (by kernel_rfl) ?_
                    refine DA.phase (fun i => Nat.ble 44 i && Nat.blt i 45) (fun w2 => St w em hV [slP k_api_Instr v_l_0 l_0, arrP k_arr88 0 tab0] [boxO b303 [.int .i64 x302.From, .int .i64 x302.To, .int .i64 x302.Turns] 40, slO (kInt .i64) 3 v7 t6.1, slO k_flow_Loop 40 v4 t3.1] w2) ?_
                    refine DT.not 44 rfl rfl rfl rfl (by kernel_rfl) (fun _ _ _ h => h) (fun w2 hw => hw) ?_
                    refine DT.next (by kernel_rfl) ?_
                    refine DA.one 45 rfl (by kernel_rfl) ?_
                    refine SP.val (Val.pickT rfl rfl) rfl rfl rfl ?_
                    refine SP.nil ?_
                    refine QE.atA ?_
                    refine DA.one 46 rfl (by kernel_rfl) ?_
                    refine SP.val (Val.move rfl) rfl rfl rfl ?_
                    refine SP.nil ?_
                    refine QE.atA ?_
                    refine DA.phase (fun i => Nat.ble 47 i && Nat.blt i 55) (fun w2 => St w em hV [slP k_api_Instr v_l_0 l_0, arrP k_arr88 0 tab0] [boxO b303 [.int .i64 x302.From, .int .i64 x302.To, .int .i64 x302.Turns] 40, slO (kInt .i64) 3 v7 t6.1, slO k_flow_Loop 40 v4 t3.1] w2) ?_
                    refine DT.not 47 rfl rfl rfl rfl (by kernel_rfl) (fun _ _ _ h => h) (fun w2 hw => hw) ?_
                    refine DT.not 48 rfl rfl rfl rfl (by kernel_rfl) (fun _ _ _ h => h) (fun w2 hw => hw) ?_
                    refine DT.not 49 rfl rfl rfl rfl (by kernel_rfl) (fun _ _ _ h => h) (fun w2 hw => hw) ?_
                    refine DT.not 50 rfl rfl rfl rfl (by kernel_rfl) (fun _ _ _ h => h) (fun w2 hw => hw) ?_
                    refine DT.not 51 rfl rfl rfl rfl (by kernel_rfl) (fun _ _ _ h => h) (fun w2 hw => hw) ?_
                    refine DT.not 52 rfl rfl rfl rfl (by kernel_rfl) (fun _ _ _ h => h) (fun w2 hw => hw) ?_
                    refine DT.not 53 rfl rfl rfl rfl (by kernel_rfl) (fun _ _ _ h => h) (fun w2 hw => hw) ?_
                    refine DT.not 54 rfl rfl rfl rfl (by kernel_rfl) (fun _ _ _ h => h) (fun w2 hw => hw) ?_
                    refine DT.next (by kernel_rfl) ?_
                    refine DA.phase (fun i => Nat.ble 55 i && Nat.blt i 56) (fun w2 => St w em hV [slP k_api_Instr v_l_0 l_0, arrP k_arr88 0 tab0] [boxO b303 [.int .i64 x302.From, .int .i64 x302.To, .int .i64 x302.Turns] 40, slO (kInt .i64) 3 v7 t6.1, slO k_flow_Loop 40 v4 t3.1] w2) ?_
                    refine DT.not 55 rfl rfl rfl rfl (by kernel_rfl) (fun _ _ _ h => h) (fun w2 hw => hw) ?_
                    refine DT.next (by kernel_rfl) ?_
                    refine DA.one 56 rfl (by kernel_rfl) ?_
                    refine SP.val (Val.pickT rfl rfl) rfl rfl rfl ?_
                    refine SP.nil ?_
                    refine QE.atA ?_
                    refine DA.done (by kernel_rfl) ?_
                    exact QE.meet fun a w2 ha hw => ⟨true, m300, _, (by omega), ho, hr, ha.sub ⟨rfl, rfl, rfl, rfl, rfl, rfl, rfl, rfl, trivial⟩, hw⟩
                  · have hg306 := (decide_eq_false hc)
                    clear hc
                    refine DA.phase (fun i => Nat.ble 4 i && Nat.blt i 8) (fun w2 => St w em hV [slP k_api_Instr v_l_0 l_0, arrP k_arr88 0 tab0] [boxO b303 [.int .i64 x302.From, .int .i64 x302.To, .int .i64 x302.Turns] 40, slO (kInt .i64) 3 v7 t6.1, slO k_flow_Loop 40 v4 t3.1] w2) ?_
                    refine DT.is (d := 128) (b := false) rfl hg306 ?_
                    refine DT.take 4 rfl rfl rfl rfl (by kernel_rfl) (fun _ _ _ h => h) (Val.fieldAddr Tryd.underlying40 rfl sz3 rfl) (fun w2 hw => hw) ?_
                    refine DT.take 5 rfl rfl rfl rfl (by kernel_rfl) (fun _ _ _ h => h) (Val.load1 0 rfl Tryd.underlying3 rfl rfl rfl) (fun w2 hw => hw) ?_
                    refine DT.take 6 rfl rfl rfl rfl (by kernel_rfl) (fun _ _ _ h => h) (Val.move rfl) (fun w2 hw => hw) ?_
                    refine DT.take 7 rfl rfl rfl rfl (by kernel_rfl) (fun _ _ _ h => h) (Val.lenP see 0 rfl Tryd.underlying22 rfl) (fun w2 hw => hw) ?_
                    refine DT.next (by kernel_rfl) ?_
                    refine DA.one 8 rfl (by kernel_rfl) ?_
                    refine SP.val (Val.geq rfl rfl) rfl rfl rfl ?_
                    refine SP.nil ?_
                    refine QE.atA ?_
                    refine DA.one 9 rfl (by kernel_rfl) ?_
                    refine SP.val (Val.pickF rfl rfl) rfl rfl rfl ?_
                    refine SP.nil ?_
                    refine QE.atA ?_
                    refine DA.one 10 rfl (by kernel_rfl) ?_
                    refine SP.val (Val.move rfl) rfl rfl rfl ?_
                    refine SP.nil ?_
                    refine QE.atA ?_
                    rcases if_some ho with ⟨hc, ho⟩ | ⟨hc, ho⟩
                    · have hg307 := (decide_eq_true hc)
                      clear hc
                      refine DA.phase (fun i => Nat.ble 11 i && Nat.blt i 15) (fun w2 => St w em hV [slP k_api_Instr v_l_0 l_0, arrP k_arr88 0 tab0] [boxO b303 [.int .i64 x302.From, .int .i64 x302.To, .int .i64 x302.Turns] 40, slO (kInt .i64) 3 v7 t6.1, slO k_flow_Loop 40 v4 t3.1] w2) ?_
                      refine DT.is (d := 135) (b := true) rfl hg307 ?_
                      refine DT.not 11 rfl rfl rfl rfl (by kernel_rfl) (fun _ _ _ h => h) (fun w2 hw => hw) ?_
                      refine DT.not 12 rfl rfl rfl rfl (by kernel_rfl) (fun _ _ _ h => h) (fun w2 hw => hw) ?_
                      refine DT.not 13 rfl rfl rfl rfl (by kernel_rfl) (fun _ _ _ h => h) (fun w2 hw => hw) ?_
                      refine DT.not 14 rfl rfl rfl rfl (by kernel_rfl) (fun _ _ _ h => h) (fun w2 hw => hw) ?_
                      refine DT.next (by kernel_rfl) ?_
                      refine DA.phase (fun i => Nat.ble 15 i && Nat.blt i 16) (fun w2 => St w em hV [slP k_api_Instr v_l_0 l_0, arrP k_arr88 0 tab0] [boxO b303 [.int .i64 x302.From, .int .i64 x302.To, .int .i64 x302.Turns] 40, slO (kInt .i64) 3 v7 t6.1, slO k_flow_Loop 40 v4 t3.1] w2) ?_
                      refine DT.not 15 rfl rfl rfl rfl (by kernel_rfl) (fun _ _ _ h => h) (fun w2 hw => hw) ?_
                      refine DT.next (by kernel_rfl) ?_
                      refine DA.one 16 rfl (by kernel_rfl) ?_
                      refine SP.val (Val.pickT rfl rfl) rfl rfl rfl ?_
                      refine SP.nil ?_
                      refine QE.atA ?_
                      refine DA.one 17 rfl (by kernel_rfl) ?_
                      refine SP.val (Val.move rfl) rfl rfl rfl ?_
                      refine SP.nil ?_
                      refine QE.atA ?_
                      refine DA.phase (fun i => Nat.ble 18 i && Nat.blt i 21) (fun w2 => St w em hV [slP k_api_Instr v_l_0 l_0, arrP k_arr88 0 tab0] [boxO b303 [.int .i64 x302.From, .int .i64 x302.To, .int .i64 x302.Turns] 40, slO (kInt .i64) 3 v7 t6.1, slO k_flow_Loop 40 v4 t3.1] w2) ?_
                      refine DT.not 18 rfl rfl rfl rfl (by kernel_rfl) (fun _ _ _ h => h) (fun w2 hw => hw) ?_
                      refine DT.not 19 rfl rfl rfl rfl (by kernel_rfl) (fun _ _ _ h => h) (fun w2 hw => hw) ?_
                      refine DT.not 20 rfl rfl rfl rfl (by kernel_rfl) (fun _ _ _ h => h) (fun w2 hw => hw) ?_
                      refine DT.next (by kernel_rfl) ?_
                      refine DA.phase (fun i => Nat.ble 21 i && Nat.blt i 22) (fun w2 => St w em hV [slP k_api_Instr v_l_0 l_0, arrP k_arr88 0 tab0] [boxO b303 [.int .i64 x302.From, .int .i64 x302.To, .int .i64 x302.Turns] 40, slO (kInt .i64) 3 v7 t6.1, slO k_flow_Loop 40 v4 t3.1] w2) ?_
                      refine DT.not 21 rfl rfl rfl rfl (by kernel_rfl) (fun _ _ _ h => h) (fun w2 hw => hw) ?_
                      refine DT.next (by kernel_rfl) ?_
                      refine DA.phase (fun i => Nat.ble 22 i && Nat.blt i 23) (fun w2 => St w em hV [slP k_api_Instr v_l_0 l_0, arrP k_arr88 0 tab0] [boxO b303 [.int .i64 x302.From, .int .i64 x302.To, .int .i64 x302.Turns] 40, slO (kInt .i64) 3 v7 t6.1, slO k_flow_Loop 40 v4 t3.1] w2) ?_
                      refine DT.not 22 rfl rfl rfl rfl (by kernel_rfl) (fun _ _ _ h => h) (fun w2 hw => hw) ?_
                      refine DT.next (by kernel_rfl) ?_
                      refine DA.phase (fun i => Nat.ble 23 i && Nat.blt i 24) (fun w2 => St w em hV [slP k_api_Instr v_l_0 l_0, arrP k_arr88 0 tab0] [boxO b303 [.int .i64 x302.From, .int .i64 x302.To, .int .i64 x302.Turns] 40, slO (kInt .i64) 3 v7 t6.1, slO k_flow_Loop 40 v4 t3.1] w2) ?_
                      refine DT.not 23 rfl rfl rfl rfl (by kernel_rfl) (fun _ _ _ h => h) (fun w2 hw => hw) ?_
                      refine DT.next (by kernel_rfl) ?_
                      refine DA.phase (fun i => Nat.ble 24 i && Nat.blt i 25) (fun w2 => St w em hV [slP k_api_Instr v_l_0 l_0, arrP k_arr88 0 tab0] [boxO b303 [.int .i64 x302.From, .int .i64 x302.To, .int .i64 x302.Turns] 40, slO (kInt .i64) 3 v7 t6.1, slO k_flow_Loop 40 v4 t3.1] w2) ?_
                      refine DT.not 24 rfl rfl rfl rfl (by kernel_rfl) (fun _ _ _ h => h) (fun w2 hw => hw) ?_
                      refine DT.next (by kernel_rfl) ?_
                      refine DA.one 25 rfl (by kernel_rfl) ?_
                      refine SP.val (Val.pickT rfl rfl) rfl rfl rfl ?_
                      refine SP.nil ?_
                      refine QE.atA ?_
                      refine DA.one 26 rfl (by kernel_rfl) ?_
                      refine SP.val (Val.move rfl) rfl rfl rfl ?_
                      refine SP.nil ?_
                      refine QE.atA ?_
                      refine DA.phase (fun i => Nat.ble 27 i && Nat.blt i 35) (fun w2 => St w em hV [slP k_api_Instr v_l_0 l_0, arrP k_arr88 0 tab0] [boxO b303 [.int .i64 x302.From, .int .i64 x302.To, .int .i64 x302.Turns] 40, slO (kInt .i64) 3 v7 t6.1, slO k_flow_Loop 40 v4 t3.1] w2) ?_
                      refine DT.not 27 rfl rfl rfl rfl (by kernel_rfl) (fun _ _ _ h => h) (fun w2 hw => hw) ?_
                      refine DT.not 28 rfl rfl rfl rfl (by kernel_rfl) (fun _ _ _ h => h) (fun w2 hw => hw) ?_
                      refine DT.not 29 rfl rfl rfl rfl (by kernel_rfl) (fun _ _ _ h => h) (fun w2 hw => hw) ?_
                      refine DT.not 30 rfl rfl rfl rfl (by kernel_rfl) (fun _ _ _ h => h) (fun w2 hw => hw) ?_
                      refine DT.not 31 rfl rfl rfl rfl (by kernel_rfl) (fun _ _ _ h => h) (fun w2 hw => hw) ?_
                      refine DT.not 32 rfl rfl rfl rfl (by kernel_rfl) (fun _ _ _ h => h) (fun w2 hw => hw) ?_
                      refine DT.not 33 rfl rfl rfl rfl (by kernel_rfl) (fun _ _ _ h => h) (fun w2 hw => hw) ?_
                      refine DT.not 34 rfl rfl rfl rfl (by kernel_rfl) (fun _ _ _ h => h) (fun w2 hw => hw) ?_
                      refine DT.next (by kernel_rfl) ?_
                      refine DA.phase (fun i => Nat.ble 35 i && Nat.blt i 36) (fun w2 => St w em hV [slP k_api_Instr v_l_0 l_0, arrP k_arr88 0 tab0] [boxO b303 [.int .i64 x302.From, .int .i64 x302.To, .int .i64 x302.Turns] 40, slO (kInt .i64) 3 v7 t6.1, slO k_flow_Loop 40 v4 t3.1] w2) ?_
                      refine DT.not 35 rfl rfl rfl rfl (by kernel_rfl) (fun _ _ _ h => h) (fun w2 hw => hw) ?_
                      refine DT.next (by kernel_rfl) ?_
                      refine DA.one 36 rfl (by kernel_rfl) ?_
                      refine SP.val (Val.pickT rfl rfl) rfl rfl rfl ?_
                      refine SP.nil ?_
                      refine QE.atA ?_
                      refine DA.one 37 rfl (by kernel_rfl) ?_
                      refine SP.val (Val.move rfl) rfl rfl rfl ?_
                      refine SP.nil ?_
                      refine QE.atA ?_
                      refine DA.phase (fun i => Nat.ble 38 i && Nat.blt i 41) (fun w2 => St w em hV [slP k_api_Instr v_l_0 l_0, arrP k_arr88 0 tab0] [boxO b303 [.int .i64 x302.From, .int .i64 x302.To, .int .i64 x302.Turns] 40, slO (kInt .i64) 3 v7 t6.1, slO k_flow_Loop 40 v4 t3.1] w2) ?_
                      refine DT.not 38 rfl rfl rfl rfl (by kernel_rfl) (fun _ _ _ h => h) (fun w2 hw => hw) ?_
                      refine DT.not 39 rfl rfl rfl rfl (by kernel_rfl) (fun _ _ _ h => h) (fun w2 hw => hw) ?_
                      refine DT.not 40 rfl rfl rfl rfl (by kernel_rfl) (fun _ _ _ h => h) (fun w2 hw => hw) ?_
                      refine DT.next (by kernel_rfl) ?_
                      refine DA.phase (fun i => Nat.ble 41 i && Nat.blt i 42) (fun w2 => St w em hV [slP k_api_Instr v_l_0 l_0, arrP k_arr88 0 tab0] [boxO b303 [.int .i64 x302.From, .int .i64 x302.To, .int .i64 x302.Turns] 40, slO (kInt .i64) 3 v7 t6.1, slO k_flow_Loop 40 v4 t3.1] w2) ?_
                      refine DT.not 41 rfl rfl rfl rfl (by kernel_rfl) (fun _ _ _ h => h) (fun w2 hw => hw) ?_
                      refine DT.next (by kernel_rfl) ?_
                      refine DA.phase (fun i => Nat.ble 42 i && Nat.blt i 43) (fun w2 => St w em hV [slP k_api_Instr v_l_0 l_0, arrP k_arr88 0 tab0] [boxO b303 [.int .i64 x302.From, .int .i64 x302.To, .int .i64 x302.Turns] 40, slO (kInt .i64) 3 v7 t6.1, slO k_flow_Loop 40 v4 t3.1] w2) ?_
                      refine DT.not 42 rfl rfl rfl rfl (by kernel_rfl) (fun _ _ _ h => h) (fun w2 hw => hw) ?_
                      refine DT.next (by kernel_rfl) ?_
                      refine DA.phase (fun i => Nat.ble 43 i && Nat.blt i 44) (fun w2 => St w em hV [slP k_api_Instr v_l_0 l_0, arrP k_arr88 0 tab0] [boxO b303 [.int .i64 x302.From, .int .i64 x302.To, .int .i64 x302.Turns] 40, slO (kInt .i64) 3 v7 t6.1, slO k_flow_Loop 40 v4 t3.1] w2) ?_
                      refine DT.not 43 rfl rfl rfl rfl (by kernel_rfl) (fun _ _ _ h => h) (fun w2 hw => hw) ?_
                      refine DT.next (by kernel_rfl) ?_
                      refine DA.phase (fun i => Nat.ble 44 i && Nat.blt i 45) (fun w2 => St w em hV [slP k_api_Instr v_l_0 l_0, arrP k_arr88 0 tab0] [boxO b303 [.int .i64 x302.From, .int .i64 x302.To, .int .i64 x302.Turns] 40, slO (kInt .i64) 3 v7 t6.1, slO k_flow_Loop 40 v4 t3.1] w2) ?_
                      refine DT.not 44 rfl rfl rfl rfl (by kernel_rfl) (fun _ _ _ h => h) (fun w2 hw => hw) ?_
                      refine DT.next (by kernel_rfl) ?_
                      refine DA.one 45 rfl (by kernel_rfl) ?_
                      refine SP.val (Val.pickT rfl rfl) rfl rfl rfl ?_
                      refine SP.nil ?_
                      refine QE.atA ?_
                      refine DA.one 46 rfl (by kernel_rfl) ?_
                      refine SP.val (Val.move rfl) rfl rfl rfl ?_
                      refine SP.nil ?_
                      refine QE.atA ?_
                      refine DA.phase (fun i => Nat.ble 47 i && Nat.blt i 55) (fun w2 => St w em hV [slP k_api_Instr v_l_0 l_0, arrP k_arr88 0 tab0] [boxO b303 [.int .i64 x302.From, .int .i64 x302.To, .int .i64 x302.Turns] 40, slO (kInt .i64) 3 v7 t6.1, slO k_flow_Loop 40 v4 t3.1] w2) ?_
                      refine DT.not 47 rfl rfl rfl rfl (by kernel_rfl) (fun _ _ _ h => h) (fun w2 hw => hw) ?_
                      refine DT.not 48 rfl rfl rfl rfl (by kernel_rfl) (fun _ _ _ h => h) (fun w2 hw => hw) ?_
                      refine DT.not 49 rfl rfl rfl rfl (by kernel_rfl) (fun _ _ _ h => h) (fun w2 hw => hw) ?_
                      refine DT.not 50 rfl rfl rfl rfl (by kernel_rfl) (fun _ _ _ h => h) (fun w2 hw => hw) ?_
                      refine DT.not 51 rfl rfl rfl rfl (by kernel_rfl) (fun _ _ _ h => h) (fun w2 hw => hw) ?_
                      refine DT.not 52 rfl rfl rfl rfl (by kernel_rfl) (fun _ _ _ h => h) (fun w2 hw => hw) ?_
                      refine DT.not 53 rfl rfl rfl rfl (by kernel_rfl) (fun _ _ _ h => h) (fun w2 hw => hw) ?_
                      refine DT.not 54 rfl rfl rfl rfl (by kernel_rfl) (fun _ _ _ h => h) (fun w2 hw => hw) ?_
                      refine DT.next (by kernel_rfl) ?_
                      refine DA.phase (fun i => Nat.ble 55 i && Nat.blt i 56) (fun w2 => St w em hV [slP k_api_Instr v_l_0 l_0, arrP k_arr88 0 tab0] [boxO b303 [.int .i64 x302.From, .int .i64 x302.To, .int .i64 x302.Turns] 40, slO (kInt .i64) 3 v7 t6.1, slO k_flow_Loop 40 v4 t3.1] w2) ?_
                      refine DT.not 55 rfl rfl rfl rfl (by kernel_rfl) (fun _ _ _ h => h) (fun w2 hw => hw) ?_
                      refine DT.next (by kernel_rfl) ?_
                      refine DA.one 56 rfl (by kernel_rfl) ?_
                      refine SP.val (Val.pickT rfl rfl) rfl rfl rfl ?_
                      refine SP.nil ?_
                      refine QE.atA ?_
                      refine DA.done (by kernel_rfl) ?_
                      exact QE.meet fun a w2 ha hw => ⟨true, m300, _, (by omega), ho, hr, ha.sub ⟨rfl, rfl, rfl, rfl, rfl, rfl, rfl, rfl, trivial⟩, hw⟩
                    · have hg308 := (decide_eq_false hc)
                      clear hc
                      refine DA.phase (fun i => Nat.ble 11 i && Nat.blt i 15) (fun w2 => St w em hV [slP k_api_Instr v_l_0 l_0, arrP k_arr88 0 tab0] [boxO b303 [.int .i64 x302.From, .int .i64 x302.To, .int .i64 x302.Turns] 40, slO (kInt .i64) 3 v7 t6.1, slO k_flow_Loop 40 v4 t3.1] w2) ?_
                      refine DT.is (d := 135) (b := false) rfl hg308 ?_
                      refine DT.take 11 rfl rfl rfl rfl (by kernel_rfl) (fun _ _ _ h => h) (Val.fieldAddr Tryd.underlying40 rfl sz3 rfl) (fun w2 hw => hw) ?_
                      refine DT.take 12 rfl rfl rfl rfl (by kernel_rfl) (fun _ _ _ h => h) (Val.load1 0 rfl Tryd.underlying3 rfl rfl rfl) (fun w2 hw => hw) ?_
                      refine DT.take 13 rfl rfl rfl rfl (by kernel_rfl) (fun _ _ _ h => h) (Val.fieldAddr Tryd.underlying40 rfl sz3 rfl) (fun w2 hw => hw) ?_
                      refine DT.take 14 rfl rfl rfl rfl (by kernel_rfl) (fun _ _ _ h => h) (Val.load1 0 rfl Tryd.underlying3 rfl rfl rfl) (fun w2 hw => hw) ?_
                      refine DT.next (by kernel_rfl) ?_
                      refine DA.one 15 rfl (by kernel_rfl) ?_
                      refine SP.val (Val.leq rfl rfl) rfl rfl rfl ?_
                      refine SP.nil ?_
                      refine QE.atA ?_
                      refine DA.one 16 rfl (by kernel_rfl) ?_
                      refine SP.val (Val.pickF rfl rfl) rfl rfl rfl ?_
                      refine SP.nil ?_
                      refine QE.atA ?_
                      refine DA.one 17 rfl (by kernel_rfl) ?_
                      refine SP.val (Val.move rfl) rfl rfl rfl ?_
                      refine SP.nil ?_
                      refine QE.atA ?_
                      rcases if_some ho with ⟨hc, ho⟩ | ⟨hc, ho⟩
                      · have hg309 := (decide_eq_true hc)
                        clear hc
                        refine DA.phase (fun i => Nat.ble 18 i && Nat.blt i 21) (fun w2 => St w em hV [slP k_api_Instr v_l_0 l_0, arrP k_arr88 0 tab0] [boxO b303 [.int .i64 x302.From, .int .i64 x302.To, .int .i64 x302.Turns] 40, slO (kInt .i64) 3 v7 t6.1, slO k_flow_Loop 40 v4 t3.1] w2) ?_
                        refine DT.is (d := 142) (b := true) rfl hg309 ?_
                        refine DT.not 18 rfl rfl rfl rfl (by kernel_rfl) (fun _ _ _ h => h) (fun w2 hw => hw) ?_
                        refine DT.not 19 rfl rfl rfl rfl (by kernel_rfl) (fun _ _ _ h => h) (fun w2 hw => hw) ?_
                        refine DT.not 20 rfl rfl rfl rfl (by kernel_rfl) (fun _ _ _ h => h) (fun w2 hw => hw) ?_
                        refine DT.next (by kernel_rfl) ?_
                        refine DA.phase (fun i => Nat.ble 21 i && Nat.blt i 22) (fun w2 => St w em hV [slP k_api_Instr v_l_0 l_0, arrP k_arr88 0 tab0] [boxO b303 [.int .i64 x302.From, .int .i64 x302.To, .int .i64 x302.Turns] 40, slO (kInt .i64) 3 v7 t6.1, slO k_flow_Loop 40 v4 t3.1] w2) ?_
                        refine DT.not 21 rfl rfl rfl rfl (by kernel_rfl) (fun _ _ _ h => h) (fun w2 hw => hw) ?_
                        refine DT.next (by kernel_rfl) ?_
                        refine DA.phase (fun i => Nat.ble 22 i && Nat.blt i 23) (fun w2 => St w em hV [slP k_api_Instr v_l_0 l_0, arrP k_arr88 0 tab0] [boxO b303 [.int .i64 x302.From, .int .i64 x302.To, .int .i64 x302.Turns] 40, slO (kInt .i64) 3 v7 t6.1, slO k_flow_Loop 40 v4 t3.1] w2) ?_
                        refine DT.not 22 rfl rfl rfl rfl (by kernel_rfl) (fun _ _ _ h => h) (fun w2 hw => hw) ?_
                        refine DT.next (by kernel_rfl) ?_
                        refine DA.phase (fun i => Nat.ble 23 i && Nat.blt i 24) (fun w2 => St w em hV [slP k_api_Instr v_l_0 l_0, arrP k_arr88 0 tab0] [boxO b303 [.int .i64 x302.From, .int .i64 x302.To, .int .i64 x302.Turns] 40, slO (kInt .i64) 3 v7 t6.1, slO k_flow_Loop 40 v4 t3.1] w2) ?_
                        refine DT.not 23 rfl rfl rfl rfl (by kernel_rfl) (fun _ _ _ h => h) (fun w2 hw => hw) ?_
                        refine DT.next (by kernel_rfl) ?_
                        refine DA.phase (fun i => Nat.ble 24 i && Nat.blt i 25) (fun w2 => St w em hV [slP k_api_Instr v_l_0 l_0, arrP k_arr88 0 tab0] [boxO b303 [.int .i64 x302.From, .int .i64 x302.To, .int .i64 x302.Turns] 40, slO (kInt .i64) 3 v7 t6.1, slO k_flow_Loop 40 v4 t3.1] w2) ?_
                        refine DT.not 24 rfl rfl rfl rfl (by kernel_rfl) (fun _ _ _ h => h) (fun w2 hw => hw) ?_
                        refine DT.next (by kernel_rfl) ?_
                        refine DA.one 25 rfl (by kernel_rfl) ?_
                        refine SP.val (Val.pickT rfl rfl) rfl rfl rfl ?_
                        refine SP.nil ?_
                        refine QE.atA ?_
                        refine DA.one 26 rfl (by kernel_rfl) ?_
                        refine SP.val (Val.move rfl) rfl rfl rfl ?_
                        refine SP.nil ?_
                        refine QE.atA ?_
                        refine DA.phase (fun i => Nat.ble 27 i && Nat.blt i 35) (fun w2 => St w em hV [slP k_api_Instr v_l_0 l_0, arrP k_arr88 0 tab0] [boxO b303 [.int .i64 x302.From, .int .i64 x302.To, .int .i64 x302.Turns] 40, slO (kInt .i64) 3 v7 t6.1, slO k_flow_Loop 40 v4 t3.1] w2) ?_
                        refine DT.not 27 rfl rfl rfl rfl (by kernel_rfl) (fun _ _ _ h => h) (fun w2 hw => hw) ?_
                        refine DT.not 28 rfl rfl rfl rfl (by kernel_rfl) (fun _ _ _ h => h) (fun w2 hw => hw) ?_
                        refine DT.not 29 rfl rfl rfl rfl (by kernel_rfl) (fun _ _ _ h => h) (fun w2 hw => hw) ?_
                        refine DT.not 30 rfl rfl rfl rfl (by kernel_rfl) (fun _ _ _ h => h) (fun w2 hw => hw) ?_
                        refine DT.not 31 rfl rfl rfl rfl (by kernel_rfl) (fun _ _ _ h => h) (fun w2 hw => hw) ?_
                        refine DT.not 32 rfl rfl rfl rfl (by kernel_rfl) (fun _ _ _ h => h) (fun w2 hw => hw) ?_
                        refine DT.not 33 rfl rfl rfl rfl (by kernel_rfl) (fun _ _ _ h => h) (fun w2 hw => hw) ?_
                        refine DT.not 34 rfl rfl rfl rfl (by kernel_rfl) (fun _ _ _ h => h) (fun w2 hw => hw) ?_
                        refine DT.next (by kernel_rfl) ?_
                        refine DA.phase (fun i => Nat.ble 35 i && Nat.blt i 36) (fun w2 => St w em hV [slP k_api_Instr v_l_0 l_0, arrP k_arr88 0 tab0] [boxO b303 [.int .i64 x302.From, .int .i64 x302.To, .int .i64 x302.Turns] 40, slO (kInt .i64) 3 v7 t6.1, slO k_flow_Loop 40 v4 t3.1] w2) ?_
                        refine DT.not 35 rfl rfl rfl rfl (by kernel_rfl) (fun _ _ _ h => h) (fun w2 hw => hw) ?_
                        refine DT.next (by kernel_rfl) ?_
                        refine DA.one 36 rfl (by kernel_rfl) ?_
                        refine SP.val (Val.pickT rfl rfl) rfl rfl rfl ?_
                        refine SP.nil ?_
                        refine QE.atA ?_
                        refine DA.one 37 rfl (by kernel_rfl) ?_
                        refine SP.val (Val.move rfl) rfl rfl rfl ?_
                        refine SP.nil ?_
                        refine QE.atA ?_
                        refine DA.phase (fun i => Nat.ble 38 i && Nat.blt i 41) (fun w2 => St w em hV [slP k_api_Instr v_l_0 l_0, arrP k_arr88 0 tab0] [boxO b303 [.int .i64 x302.From, .int .i64 x302.To, .int .i64 x302.Turns] 40, slO (kInt .i64) 3 v7 t6.1, slO k_flow_Loop 40 v4 t3.1] w2) ?_
                        refine DT.not 38 rfl rfl rfl rfl (by kernel_rfl) (fun _ _ _ h => h) (fun w2 hw => hw) ?_
                        refine DT.not 39 rfl rfl rfl rfl (by kernel_rfl) (fun _ _ _ h => h) (fun w2 hw => hw) ?_
                        refine DT.not 40 rfl rfl rfl rfl (by kernel_rfl) (fun _ _ _ h => h) (fun w2 hw => hw) ?_
                        refine DT.next (by kernel_rfl) ?_
                        refine DA.phase (fun i => Nat.ble 41 i && Nat.blt i 42) (fun w2 => St w em hV [slP k_api_Instr v_l_0 l_0, arrP k_arr88 0 tab0] [boxO b303 [.int .i64 x302.From, .int .i64 x302.To, .int .i64 x302.Turns] 40, slO (kInt .i64) 3 v7 t6.1, slO k_flow_Loop 40 v4 t3.1] w2) ?_
                        refine DT.not 41 rfl rfl rfl rfl (by kernel_rfl) (fun _ _ _ h => h) (fun w2 hw => hw) ?_
                        refine DT.next (by kernel_rfl) ?_
                        refine DA.phase (fun i => Nat.ble 42 i && Nat.blt i 43) (fun w2 => St w em hV [slP k_api_Instr v_l_0 l_0, arrP k_arr88 0 tab0] [boxO b303 [.int .i64 x302.From, .int .i64 x302.To, .int .i64 x302.Turns] 40, slO (kInt .i64) 3 v7 t6.1, slO k_flow_Loop 40 v4 t3.1] w2) ?_
                        refine DT.not 42 rfl rfl rfl rfl (by kernel_rfl) (fun _ _ _ h => h) (fun w2 hw => hw) ?_
                        refine DT.next (by kernel_rfl) ?_
                        refine DA.phase (fun i => Nat.ble 43 i && Nat.blt i 44) (fun w2 => St w em hV [slP k_api_Instr v_l_0 l_0, arrP k_arr88 0 tab0] [boxO b303 [.int .i64 x302.From, .int .i64 x302.To, .int .i64 x302.Turns] 40, slO (kInt .i64) 3 v7 t6.1, slO k_flow_Loop 40 v4 t3.1] w2) ?_
                        refine DT.not 43 rfl rfl rfl rfl (by kernel_rfl) (fun _ _ _ h => h) (fun w2 hw => hw) ?_
                        refine DT.next (by kernel_rfl) ?_
                        refine DA.phase (fun i => Nat.ble 44 i && Nat.blt i 45) (fun w2 => St w em hV [slP k_api_Instr v_l_0 l_0, arrP k_arr88 0 tab0] [boxO b303 [.int .i64 x302.From, .int .i64 x302.To, .int .i64 x302.Turns] 40, slO (kInt .i64) 3 v7 t6.1, slO k_flow_Loop 40 v4 t3.1] w2) ?_
                        refine DT.not 44 rfl rfl rfl rfl (by kernel_rfl) (fun _ _ _ h => h) (fun w2 hw => hw) ?_
                        refine DT.next (by kernel_rfl) ?_
                        refine DA.one 45 rfl (by kernel_rfl) ?_
                        refine SP.val (Val.pickT rfl rfl) rfl rfl rfl ?_
                        refine SP.nil ?_
                        refine QE.atA ?_
                        refine DA.one 46 rfl (by kernel_rfl) ?_
                        refine SP.val (Val.move rfl) rfl rfl rfl ?_
                        refine SP.nil ?_
                        refine QE.atA ?_
                        refine DA.phase (fun i => Nat.ble 47 i && Nat.blt i 55) (fun w2 => St w em hV [slP k_api_Instr v_l_0 l_0, arrP k_arr88 0 tab0] [boxO b303 [.int .i64 x302.From, .int .i64 x302.To, .int .i64 x302.Turns] 40, slO (kInt .i64) 3 v7 t6.1, slO k_flow_Loop 40 v4 t3.1] w2) ?_
                        refine DT.not 47 rfl rfl rfl rfl (by kernel_rfl) (fun _ _ _ h => h) (fun w2 hw => hw) ?_
                        refine DT.not 48 rfl rfl rfl rfl (by kernel_rfl) (fun _ _ _ h => h) (fun w2 hw => hw) ?_
                        refine DT.not 49 rfl rfl rfl rfl (by kernel_rfl) (fun _ _ _ h => h) (fun w2 hw => hw) ?_
                        refine DT.not 50 rfl rfl rfl rfl (by kernel_rfl) (fun _ _ _ h => h) (fun w2 hw => hw) ?_
                        refine DT.not 51 rfl rfl rfl rfl (by kernel_rfl) (fun _ _ _ h => h) (fun w2 hw => hw) ?_
                        refine DT.not 52 rfl rfl rfl rfl (by kernel_rfl) (fun _ _ _ h => h) (fun w2 hw => hw) ?_
                        refine DT.not 53 rfl rfl rfl rfl (by kernel_rfl) (fun _ _ _ h => h) (fun w2 hw => hw) ?_
                        refine DT.not 54 rfl rfl rfl rfl (by kernel_rfl) (fun _ _ _ h => h) (fun w2 hw => hw) ?_
                        refine DT.next (by kernel_rfl) ?_
                        refine DA.phase (fun i => Nat.ble 55 i && Nat.blt i 56) (fun w2 => St w em hV [slP k_api_Instr v_l_0 l_0, arrP k_arr88 0 tab0] [boxO b303 [.int .i64 x302.From, .int .i64 x302.To, .int .i64 x302.Turns] 40, slO (kInt .i64) 3 v7 t6.1, slO k_flow_Loop 40 v4 t3.1] w2) ?_
                        refine DT.not 55 rfl rfl rfl rfl (by kernel_rfl) (fun _ _ _ h => h) (fun w2 hw => hw) ?_
                        refine DT.next (by kernel_rfl) ?_
                        refine DA.one 56 rfl (by kernel_rfl) ?_
                        refine SP.val (Val.pickT rfl rfl) rfl rfl rfl ?_
                        refine SP.nil ?_
                        refine QE.atA ?_
                        refine DA.done (by kernel_rfl) ?_
                        exact QE.meet fun a w2 ha hw => ⟨true, m300, _, (by omega), ho, hr, ha.sub ⟨rfl, rfl, rfl, rfl, rfl, rfl, rfl, rfl, trivial⟩, hw⟩
                      · have hg310 := (decide_eq_false hc)
                        clear hc
                        refine DA.phase (fun i => Nat.ble 18 i && Nat.blt i 21) (fun w2 => St w em hV [slP k_api_Instr v_l_0 l_0, arrP k_arr88 0 tab0] [boxO b303 [.int .i64 x302.From, .int .i64 x302.To, .int .i64 x302.Turns] 40, slO (kInt .i64) 3 v7 t6.1, slO k_flow_Loop 40 v4 t3.1] w2) ?_
                        refine DT.is (d := 142) (b := false) rfl hg310 ?_
                        refine DT.take 18 rfl rfl rfl rfl (by kernel_rfl) (fun _ _ _ h => h) (Val.move rfl) (fun w2 hw => hw) ?_
                        refine DT.take 19 rfl rfl rfl rfl (by kernel_rfl) (fun _ _ _ h => h) (Val.fieldAddr Tryd.underlying40 rfl sz3 rfl) (fun w2 hw => hw) ?_
                        refine DT.take 20 rfl rfl rfl rfl (by kernel_rfl) (fun _ _ _ h => h) (Val.load1 0 rfl Tryd.underlying3 rfl rfl rfl) (fun w2 hw => hw) ?_
                        refine DT.next (by kernel_rfl) ?_
                        refine DA.one 21 rfl (by kernel_rfl) ?_
                        obtain ⟨x313, hx, ho⟩ := bind_some ho
                        have hx := elt_some hx
                        refine SP.indexP see 0 rfl Tryd.underlying22 sz52 hx.1 hx.2 rfl rfl rfl rfl (fun p311 => ?_)
                        clear hx
                        refine SP.nil ?_
                        refine QE.atA ?_
                        refine DA.one 22 rfl (by kernel_rfl) ?_
                        refine SP.fieldP see 0 rfl Tryd.underlying52 rfl sz5 k_api_Instr.part_Op rfl rfl rfl (fun p314 => ?_)
                        refine SP.nil ?_
                        refine QE.atA ?_
                        refine DA.one 23 rfl (by kernel_rfl) ?_
                        refine SP.val (Val.loadP1 see 0 rfl (fun _ _ e => e) Tryd.underlying5 rfl rfl) rfl rfl rfl ?_
                        refine SP.nil ?_
                        refine QE.atA ?_
                        refine DA.one 24 rfl (by kernel_rfl) ?_
                        refine SP.val (Val.neq rfl rfl) rfl rfl rfl ?_
                        refine SP.nil ?_
                        refine QE.atA ?_
                        refine DA.one 25 rfl (by kernel_rfl) ?_
                        refine SP.val (Val.pickF rfl rfl) rfl rfl rfl ?_
                        refine SP.nil ?_
                        refine QE.atA ?_
                        refine DA.one 26 rfl (by kernel_rfl) ?_
                        refine SP.val (Val.move rfl) rfl rfl rfl ?_
                        refine SP.nil ?_
                        refine QE.atA ?_
                        rcases if_some ho with ⟨hc, ho⟩ | ⟨hc, ho⟩
                        · have hg316 := (decide_eq_true hc)
                          clear hc
                          refine DA.phase (fun i => Nat.ble 27 i && Nat.blt i 35) (fun w2 => St w em hV [elP (kInt .u8) p314 x313.Op, elP k_api_Instr p311 x313, slP k_api_Instr v_l_0 l_0, arrP k_arr88 0 tab0] [boxO b303 [.int .i64 x302.From, .int .i64 x302.To, .int .i64 x302.Turns] 40, slO (kInt .i64) 3 v7 t6.1, slO k_flow_Loop 40 v4 t3.1] w2) ?_
                          refine DT.is (d := 151) (b := true) rfl hg316 ?_
                          refine DT.not 27 rfl rfl rfl rfl (by kernel_rfl) (fun _ _ _ h => h) (fun w2 hw => hw) ?_
                          refine DT.not 28 rfl rfl rfl rfl (by kernel_rfl) (fun _ _ _ h => h) (fun w2 hw => hw) ?_
                          refine DT.not 29 rfl rfl rfl rfl (by kernel_rfl) (fun _ _ _ h => h) (fun w2 hw => hw) ?_
                          refine DT.not 30 rfl rfl rfl rfl (by kernel_rfl) (fun _ _ _ h => h) (fun w2 hw => hw) ?_
                          refine DT.not 31 rfl rfl rfl rfl (by kernel_rfl) (fun _ _ _ h => h) (fun w2 hw => hw) ?_
                          refine DT.not 32 rfl rfl rfl rfl (by kernel_rfl) (fun _ _ _ h => h) (fun w2 hw => hw) ?_
                          refine DT.not 33 rfl rfl rfl rfl (by kernel_rfl) (fun _ _ _ h => h) (fun w2 hw => hw) ?_
                          refine DT.not 34 rfl rfl rfl rfl (by kernel_rfl) (fun _ _ _ h => h) (fun w2 hw => hw) ?_
                          refine DT.next (by kernel_rfl) ?_
                          refine DA.phase (fun i => Nat.ble 35 i && Nat.blt i 36) (fun w2 => St w em hV [elP (kInt .u8) p314 x313.Op, elP k_api_Instr p311 x313, slP k_api_Instr v_l_0 l_0, arrP k_arr88 0 tab0] [boxO b303 [.int .i64 x302.From, .int .i64 x302.To, .int .i64 x302.Turns] 40, slO (kInt .i64) 3 v7 t6.1, slO k_flow_Loop 40 v4 t3.1] w2) ?_
                          refine DT.not 35 rfl rfl rfl rfl (by kernel_rfl) (fun _ _ _ h => h) (fun w2 hw => hw) ?_
                          refine DT.next (by kernel_rfl) ?_
                          refine DA.one 36 rfl (by kernel_rfl) ?_
                          refine SP.val (Val.pickT rfl rfl) rfl rfl rfl ?_
                          refine SP.nil ?_
                          refine QE.atA ?_
                          refine DA.one 37 rfl (by kernel_rfl) ?_
                          refine SP.val (Val.move rfl) rfl rfl rfl ?_
                          refine SP.nil ?_
                          refine QE.atA ?_
                          refine DA.phase (fun i => Nat.ble 38 i && Nat.blt i 41) (fun w2 => St w em hV [elP (kInt .u8) p314 x313.Op, elP k_api_Instr p311 x313, slP k_api_Instr v_l_0 l_0, arrP k_arr88 0 tab0] [boxO b303 [.int .i64 x302.From, .int .i64 x302.To, .int .i64 x302.Turns] 40, slO (kInt .i64) 3 v7 t6.1, slO k_flow_Loop 40 v4 t3.1] w2) ?_
                          refine DT.not 38 rfl rfl rfl rfl (by kernel_rfl) (fun _ _ _ h => h) (fun w2 hw => hw) ?_
                          refine DT.not 39 rfl rfl rfl rfl (by kernel_rfl) (fun _ _ _ h => h) (fun w2 hw => hw) ?_
                          refine DT.not 40 rfl rfl rfl rfl (by kernel_rfl) (fun _ _ _ h => h) (fun w2 hw => hw) ?_
                          refine DT.next (by kernel_rfl) ?_
                          refine DA.phase (fun i => Nat.ble 41 i && Nat.blt i 42) (fun w2 => St w em hV [elP (kInt .u8) p314 x313.Op, elP k_api_Instr p311 x313, slP k_api_Instr v_l_0 l_0, arrP k_arr88 0 tab0] [boxO b303 [.int .i64 x302.From, .int .i64 x302.To, .int .i64 x302.Turns] 40, slO (kInt .i64) 3 v7 t6.1, slO k_flow_Loop 40 v4 t3.1] w2) ?_
                          refine DT.not 41 rfl rfl rfl rfl (by kernel_rfl) (fun _ _ _ h => h) (fun w2 hw => hw) ?_
                          refine DT.next (by kernel_rfl) ?_
                          refine DA.phase (fun i => Nat.ble 42 i && Nat.blt i 43) (fun w2 => St w em hV [elP (kInt .u8) p314 x313.Op, elP k_api_Instr p311 x313, slP k_api_Instr v_l_0 l_0, arrP k_arr88 0 tab0] [boxO b303 [.int .i64 x302.From, .int .i64 x302.To, .int .i64 x302.Turns] 40, slO (kInt .i64) 3 v7 t6.1, slO k_flow_Loop 40 v4 t3.1] w2) ?_
                          refine DT.not 42 rfl rfl rfl rfl (by kernel_rfl) (fun _ _ _ h => h) (fun w2 hw => hw) ?_
                          refine DT.next (by kernel_rfl) ?_
                          refine DA.phase (fun i => Nat.ble 43 i && Nat.blt i 44) (fun w2 => St w em hV [elP (kInt .u8) p314 x313.Op, elP k_api_Instr p311 x313, slP k_api_Instr v_l_0 l_0, arrP k_arr88 0 tab0] [boxO b303 [.int .i64 x302.From, .int .i64 x302.To, .int .i64 x302.Turns] 40, slO (kInt .i64) 3 v7 t6.1, slO k_flow_Loop 40 v4 t3.1] w2) ?_
                          refine DT.not 43 rfl rfl rfl rfl (by kernel_rfl) (fun _ _ _ h => h) (fun w2 hw => hw) ?_
                          refine DT.next (by kernel_rfl) ?_
                          refine DA.phase (fun i => Nat.ble 44 i && Nat.blt i 45) (fun w2 => St w em hV [elP (kInt .u8) p314 x313.Op, elP k_api_Instr p311 x313, slP k_api_Instr v_l_0 l_0, arrP k_arr88 0 tab0] [boxO b303 [.int .i64 x302.From, .int .i64 x302.To, .int .i64 x302.Turns] 40, slO (kInt .i64) 3 v7 t6.1, slO k_flow_Loop 40 v4 t3.1] w2) ?_
                          refine DT.not 44 rfl rfl rfl rfl (by kernel_rfl) (fun _ _ _ h => h) (fun w2 hw => hw) ?_
                          refine DT.next (by kernel_rfl) ?_
                          refine DA.one 45 rfl (by kernel_rfl) ?_
                          refine SP.val (Val.pickT rfl rfl) rfl rfl rfl ?_
                          refine SP.nil ?_
                          refine QE.atA ?_
                          refine DA.one 46 rfl (by kernel_rfl) ?_
                          refine SP.val (Val.move rfl) rfl rfl rfl ?_
                          refine SP.nil ?_
                          refine QE.atA ?_
                          refine DA.phase (fun i => Nat.ble 47 i && Nat.blt i 55) (fun w2 => St w em hV [elP (kInt .u8) p314 x313.Op, elP k_api_Instr p311 x313, slP k_api_Instr v_l_0 l_0, arrP k_arr88 0 tab0] [boxO b303 [.int .i64 x302.From, .int .i64 x302.To, .int .i64 x302.Turns] 40, slO (kInt .i64) 3 v7 t6.1, slO k_flow_Loop 40 v4 t3.1] w2) ?_
                          refine DT.not 47 rfl rfl rfl rfl (by kernel_rfl) (fun _ _ _ h => h) (fun w2 hw => hw) ?_
                          refine DT.not 48 rfl rfl rfl rfl (by kernel_rfl) (fun _ _ _ h => h) (fun w2 hw => hw) ?_
                          refine DT.not 49 rfl rfl rfl rfl (by kernel_rfl) (fun _ _ _ h => h) (fun w2 hw => hw) ?_
                          refine DT.not 50 rfl rfl rfl rfl (by kernel_rfl) (fun _ _ _ h => h) (fun w2 hw => hw) ?_
                          refine DT.not 51 rfl rfl rfl rfl (by kernel_rfl) (fun _ _ _ h => h) (fun w2 hw => hw) ?_
                          refine DT.not 52 rfl rfl rfl rfl (by kernel_rfl) (fun _ _ _ h => h) (fun w2 hw => hw) ?_
                          refine DT.not 53 rfl rfl rfl rfl (by kernel_rfl) (fun _ _ _ h => h) (fun w2 hw => hw) ?_
                          refine DT.not 54 rfl rfl rfl rfl (by kernel_rfl) (fun _ _ _ h => h) (fun w2 hw => hw) ?_
                          refine DT.next (by kernel_rfl) ?_
                          refine DA.phase (fun i => Nat.ble 55 i && Nat.blt i 56) (fun w2 => St w em hV [elP (kInt .u8) p314 x313.Op, elP k_api_Instr p311 x313, slP k_api_Instr v_l_0 l_0, arrP k_arr88 0 tab0] [boxO b303 [.int .i64 x302.From, .int .i64 x302.To, .int .i64 x302.Turns] 40, slO (kInt .i64) 3 v7 t6.1, slO k_flow_Loop 40 v4 t3.1] w2) ?_
                          refine DT.not 55 rfl rfl rfl rfl (by kernel_rfl) (fun _ _ _ h => h) (fun w2 hw => hw) ?_
                          refine DT.next (by kernel_rfl) ?_
                          refine DA.one 56 rfl (by kernel_rfl) ?_
                          refine SP.val (Val.pickT rfl rfl) rfl rfl rfl ?_
                          refine SP.nil ?_
                          refine QE.atA ?_
                          refine DA.done (by kernel_rfl) ?_
                          exact QE.meet fun a w2 ha hw => ⟨true, m300, _, (by omega), ho, hr, ha.sub ⟨rfl, rfl, rfl, rfl, rfl, rfl, rfl, rfl, trivial⟩, (St.selP [2, 3] rfl hw)⟩
                        · have hg317 := (decide_eq_false hc)
                          clear hc
                          obtain ⟨x320, hx, ho⟩ := bind_some ho
                          have hx := elt_some hx
                          refine DA.ghost (fun w2 h => h.elem see 2 rfl hx.1 hx.2) (fun p318 h_p318 => ?_)
                          clear hx
                          refine DA.ghost (fun w2 h => h.fieldE see 0 rfl k_api_Instr.part_A) (fun p321 h_p321 => ?_)
                          refine DA.ghost (fun w2 h => h.openE see 0 rfl (fun _ : Unit => [.int .i64 x320.A]) (fun _ => []) (fun h cs e => ⟨(), e, All.nil _⟩)) (fun _ _ => ?_)
                          refine DA.phase (fun i => Nat.ble 27 i && Nat.blt i 35) (fun w2 => St w em hV [atP p321 [.int .i64 x320.A], elP (kInt .i64) p321 x320.A, elP k_api_Instr p318 x320, elP (kInt .u8) p314 x313.Op, elP k_api_Instr p311 x313, slP k_api_Instr v_l_0 l_0, arrP k_arr88 0 tab0] [boxO b303 [.int .i64 x302.From, .int .i64 x302.To, .int .i64 x302.Turns] 40, slO (kInt .i64) 3 v7 t6.1, slO k_flow_Loop 40 v4 t3.1] w2) ?_
                          refine DT.is (d := 151) (b := false) rfl hg317 ?_
                          refine DT.take 27 rfl rfl rfl rfl (by kernel_rfl) (fun _ _ _ h => h) (Val.move rfl) (fun w2 hw => hw) ?_
                          refine DT.take 28 rfl rfl rfl rfl (by kernel_rfl) (fun _ _ _ h => h) (Val.fieldAddr Tryd.underlying40 rfl sz3 rfl) (fun w2 hw => hw) ?_
                          refine DT.take 29 rfl rfl rfl rfl (by kernel_rfl) (fun _ _ _ h => h) (Val.load1 0 rfl Tryd.underlying3 rfl rfl rfl) (fun w2 hw => hw) ?_
                          refine DT.take 30 rfl rfl rfl rfl (by kernel_rfl) (fun _ _ _ h => h) (Val.indexE h_p318 Tryd.underlying22 sz52 rfl rfl) (fun w2 hw => hw) ?_
                          refine DT.take 31 rfl rfl rfl rfl (by kernel_rfl) (fun _ _ _ h => h) (Val.fieldE h_p321 Tryd.underlying52 rfl rfl sz3 rfl) (fun w2 hw => hw) ?_
                          refine DT.take 32 rfl rfl rfl rfl (by kernel_rfl) (fun _ _ _ h => h) (Val.loadAt1 see 0 rfl Tryd.underlying3 rfl rfl) (fun w2 hw => hw) ?_
                          refine DT.take 33 rfl rfl rfl rfl (by kernel_rfl) (fun _ _ _ h => h) (Val.fieldAddr Tryd.underlying40 rfl sz3 rfl) (fun w2 hw => hw) ?_
                          refine DT.take 34 rfl rfl rfl rfl (by kernel_rfl) (fun _ _ _ h => h) (Val.load1 0 rfl Tryd.underlying3 rfl rfl rfl) (fun w2 hw => hw) ?_
                          refine DT.next (by kernel_rfl) ?_
                          refine DA.one 35 rfl (by kernel_rfl) ?_
                          refine SP.val (Val.neq rfl rfl) rfl rfl rfl ?_
                          refine SP.nil ?_
                          refine QE.atA ?_
                          refine DA.one 36 rfl (by kernel_rfl) ?_
                          refine SP.val (Val.pickF rfl rfl) rfl rfl rfl ?_
                          refine SP.nil ?_
                          refine QE.atA ?_
                          refine DA.one 37 rfl (by kernel_rfl) ?_
                          refine SP.val (Val.move rfl) rfl rfl rfl ?_
                          refine SP.nil ?_
                          refine QE.atA ?_
                          rcases if_some ho with ⟨hc, ho⟩ | ⟨hc, ho⟩
                          · have hg324 := (decide_eq_true hc)
                            clear hc
                            refine DA.phase (fun i => Nat.ble 38 i && Nat.blt i 41) (fun w2 => St w em hV [atP p321 [.int .i64 x320.A], elP (kInt .i64) p321 x320.A, elP k_api_Instr p318 x320, elP (kInt .u8) p314 x313.Op, elP k_api_Instr p311 x313, slP k_api_Instr v_l_0 l_0, arrP k_arr88 0 tab0] [boxO b303 [.int .i64 x302.From, .int .i64 x302.To, .int .i64 x302.Turns] 40, slO (kInt .i64) 3 v7 t6.1, slO k_flow_Loop 40 v4 t3.1] w2) ?_
                            refine DT.is (d := 162) (b := true) rfl hg324 ?_
                            refine DT.not 38 rfl rfl rfl rfl (by kernel_rfl) (fun _ _ _ h => h) (fun w2 hw => hw) ?_
                            refine DT.not 39 rfl rfl rfl rfl (by kernel_rfl) (fun _ _ _ h => h) (fun w2 hw => hw) ?_
                            refine DT.not 40 rfl rfl rfl rfl (by kernel_rfl) (fun _ _ _ h => h) (fun w2 hw => hw) ?_
                            refine DT.next (by kernel_rfl) ?_
                            refine DA.phase (fun i => Nat.ble 41 i && Nat.blt i 42) (fun w2 => St w em hV [atP p321 [.int .i64 x320.A], elP (kInt .i64) p321 x320.A, elP k_api_Instr p318 x320, elP (kInt .u8) p314 x313.Op, elP k_api_Instr p311 x313, slP k_api_Instr v_l_0 l_0, arrP k_arr88 0 tab0] [boxO b303 [.int .i64 x302.From, .int .i64 x302.To, .int .i64 x302.Turns] 40, slO (kInt .i64) 3 v7 t6.1, slO k_flow_Loop 40 v4 t3.1] w2) ?_
                            refine DT.not 41 rfl rfl rfl rfl (by kernel_rfl) (fun _ _ _ h => h) (fun w2 hw => hw) ?_
                            refine DT.next (by kernel_rfl) ?_
                            refine DA.phase (fun i => Nat.ble 42 i && Nat.blt i 43) (fun w2 => St w em hV [atP p321 [.int .i64 x320.A], elP (kInt .i64) p321 x320.A, elP k_api_Instr p318 x320, elP (kInt .u8) p314 x313.Op, elP k_api_Instr p311 x313, slP k_api_Instr v_l_0 l_0, arrP k_arr88 0 tab0] [boxO b303 [.int .i64 x302.From, .int .i64 x302.To, .int .i64 x302.Turns] 40, slO (kInt .i64) 3 v7 t6.1, slO k_flow_Loop 40 v4 t3.1] w2) ?_
                            refine DT.not 42 rfl rfl rfl rfl (by kernel_rfl) (fun _ _ _ h => h) (fun w2 hw => hw) ?_
                            refine DT.next (by kernel_rfl) ?_
                            refine DA.phase (fun i => Nat.ble 43 i && Nat.blt i 44) (fun w2 => St w em hV [atP p321 [.int .i64 x320.A], elP (kInt .i64) p321 x320.A, elP k_api_Instr p318 x320, elP (kInt .u8) p314 x313.Op, elP k_api_Instr p311 x313, slP k_api_Instr v_l_0 l_0, arrP k_arr88 0 tab0] [boxO b303 [.int .i64 x302.From, .int .i64 x302.To, .int .i64 x302.Turns] 40, slO (kInt .i64) 3 v7 t6.1, slO k_flow_Loop 40 v4 t3.1] w2) ?_
                            refine DT.not 43 rfl rfl rfl rfl (by kernel_rfl) (fun _ _ _ h => h) (fun w2 hw => hw) ?_
                            refine DT.next (by kernel_rfl) ?_
                            refine DA.phase (fun i => Nat.ble 44 i && Nat.blt i 45) (fun w2 => St w em hV [atP p321 [.int .i64 x320.A], elP (kInt .i64) p321 x320.A, elP k_api_Instr p318 x320, elP (kInt .u8) p314 x313.Op, elP k_api_Instr p311 x313, slP k_api_Instr v_l_0 l_0, arrP k_arr88 0 tab0] [boxO b303 [.int .i64 x302.From, .int .i64 x302.To, .int .i64 x302.Turns] 40, slO (kInt .i64) 3 v7 t6.1, slO k_flow_Loop 40 v4 t3.1] w2) ?_
                            refine DT.not 44 rfl rfl rfl rfl (by kernel_rfl) (fun _ _ _ h => h) (fun w2 hw => hw) ?_
                            refine DT.next (by kernel_rfl) ?_
                            refine DA.one 45 rfl (by kernel_rfl) ?_
                            refine SP.val (Val.pickT rfl rfl) rfl rfl rfl ?_
                            refine SP.nil ?_
                            refine QE.atA ?_
                            refine DA.one 46 rfl (by kernel_rfl) ?_
                            refine SP.val (Val.move rfl) rfl rfl rfl ?_
                            refine SP.nil ?_
                            refine QE.atA ?_
                            refine DA.phase (fun i => Nat.ble 47 i && Nat.blt i 55) (fun w2 => St w em hV [atP p321 [.int .i64 x320.A], elP (kInt .i64) p321 x320.A, elP k_api_Instr p318 x320, elP (kInt .u8) p314 x313.Op, elP k_api_Instr p311 x313, slP k_api_Instr v_l_0 l_0, arrP k_arr88 0 tab0] [boxO b303 [.int .i64 x302.From, .int .i64 x302.To, .int .i64 x302.Turns] 40, slO (kInt .i64) 3 v7 t6.1, slO k_flow_Loop 40 v4 t3.1] w2) ?_
                            refine DT.not 47 rfl rfl rfl rfl (by kernel_rfl) (fun _ _ _ h => h) (fun w2 hw => hw) ?_
                            refine DT.not 48 rfl rfl rfl rfl (by kernel_rfl) (fun _ _ _ h => h) (fun w2 hw => hw) ?_
                            refine DT.not 49 rfl rfl rfl rfl (by kernel_rfl) (fun _ _ _ h => h) (fun w2 hw => hw) ?_
                            refine DT.not 50 rfl rfl rfl rfl (by kernel_rfl) (fun _ _ _ h => h) (fun w2 hw => hw) ?_
                            refine DT.not 51 rfl rfl rfl rfl (by kernel_rfl) (fun _ _ _ h => h) (fun w2 hw => hw) ?_
                            refine DT.not 52 rfl rfl rfl rfl (by kernel_rfl) (fun _ _ _ h => h) (fun w2 hw => hw) ?_
                            refine DT.not 53 rfl rfl rfl rfl (by kernel_rfl) (fun _ _ _ h => h) (fun w2 hw => hw) ?_
                            refine DT.not 54 rfl rfl rfl rfl (by kernel_rfl) (fun _ _ _ h => h) (fun w2 hw => hw) ?_
                            refine DT.next (by kernel_rfl) ?_
                            refine DA.phase (fun i => Nat.ble 55 i && Nat.blt i 56) (fun w2 => St w em hV [atP p321 [.int .i64 x320.A], elP (kInt .i64) p321 x320.A, elP k_api_Instr p318 x320, elP (kInt .u8) p314 x313.Op, elP k_api_Instr p311 x313, slP k_api_Instr v_l_0 l_0, arrP k_arr88 0 tab0] [boxO b303 [.int .i64 x302.From, .int .i64 x302.To, .int .i64 x302.Turns] 40, slO (kInt .i64) 3 v7 t6.1, slO k_flow_Loop 40 v4 t3.1] w2) ?_
                            refine DT.not 55 rfl rfl rfl rfl (by kernel_rfl) (fun _ _ _ h => h) (fun w2 hw => hw) ?_
                            refine DT.next (by kernel_rfl) ?_
                            refine DA.one 56 rfl (by kernel_rfl) ?_
                            refine SP.val (Val.pickT rfl rfl) rfl rfl rfl ?_
                            refine SP.nil ?_
                            refine QE.atA ?_
                            refine DA.done (by kernel_rfl) ?_
                            exact QE.meet fun a w2 ha hw => ⟨true, m300, _, (by omega), ho, hr, ha.sub ⟨rfl, rfl, rfl, rfl, rfl, rfl, rfl, rfl, trivial⟩, (St.selP [5, 6] rfl hw)⟩
                          · have hg325 := (decide_eq_false hc)
                            clear hc
                            refine DA.phase (fun i => Nat.ble 38 i && Nat.blt i 41) (fun w2 => St w em hV [atP p321 [.int .i64 x320.A], elP (kInt .i64) p321 x320.A, elP k_api_Instr p318 x320, elP (kInt .u8) p314 x313.Op, elP k_api_Instr p311 x313, slP k_api_Instr v_l_0 l_0, arrP k_arr88 0 tab0] [boxO b303 [.int .i64 x302.From, .int .i64 x302.To, .int .i64 x302.Turns] 40, slO (kInt .i64) 3 v7 t6.1, slO k_flow_Loop 40 v4 t3.1] w2) ?_
                            refine DT.is (d := 162) (b := false) rfl hg325 ?_
                            refine DT.take 38 rfl rfl rfl rfl (by kernel_rfl) (fun _ _ _ h => h) (Val.move rfl) (fun w2 hw => hw) ?_
                            refine DT.take 39 rfl rfl rfl rfl (by kernel_rfl) (fun _ _ _ h => h) (Val.fieldAddr Tryd.underlying40 rfl sz3 rfl) (fun w2 hw => hw) ?_
                            refine DT.take 40 rfl rfl rfl rfl (by kernel_rfl) (fun _ _ _ h => h) (Val.load1 0 rfl Tryd.underlying3 rfl rfl rfl) (fun w2 hw => hw) ?_
                            refine DT.next (by kernel_rfl) ?_
                            refine DA.one 41 rfl (by kernel_rfl) ?_
                            obtain ⟨x328, hx, ho⟩ := bind_some ho
                            have hx := elt_some hx
                            refine SP.indexP see 5 rfl Tryd.underlying22 sz52 hx.1 hx.2 rfl rfl rfl rfl (fun p326 => ?_)
                            clear hx
                            refine SP.nil ?_
                            refine QE.atA ?_
                            refine DA.one 42 rfl (by kernel_rfl) ?_
                            refine SP.fieldP see 0 rfl Tryd.underlying52 rfl sz5 k_api_Instr.part_Op rfl rfl rfl (fun p329 => ?_)
                            refine SP.nil ?_
                            refine QE.atA ?_
                            refine DA.one 43 rfl (by kernel_rfl) ?_
                            refine SP.val (Val.loadP1 see 0 rfl (fun _ _ e => e) Tryd.underlying5 rfl rfl) rfl rfl rfl ?_
                            refine SP.nil ?_
                            refine QE.atA ?_
                            refine DA.one 44 rfl (by kernel_rfl) ?_
                            refine SP.val (Val.neq rfl rfl) rfl rfl rfl ?_
                            refine SP.nil ?_
                            refine QE.atA ?_
                            refine DA.one 45 rfl (by kernel_rfl) ?_
                            refine SP.val (Val.pickF rfl rfl) rfl rfl rfl ?_
                            refine SP.nil ?_
                            refine QE.atA ?_
                            refine DA.one 46 rfl (by kernel_rfl) ?_
                            refine SP.val (Val.move rfl) rfl rfl rfl ?_
                            refine SP.nil ?_
                            refine QE.atA ?_
                            rcases if_some ho with ⟨hc, ho⟩ | ⟨hc, ho⟩
                            · have hg331 := (decide_eq_true hc)
                              clear hc
                              refine DA.phase (fun i => Nat.ble 47 i && Nat.blt i 55) (fun w2 => St w em hV [elP (kInt .u8) p329 x328.Op, elP k_api_Instr p326 x328, atP p321 [.int .i64 x320.A], elP (kInt .i64) p321 x320.A, elP k_api_Instr p318 x320, elP (kInt .u8) p314 x313.Op, elP k_api_Instr p311 x313, slP k_api_Instr v_l_0 l_0, arrP k_arr88 0 tab0] [boxO b303 [.int .i64 x302.From, .int .i64 x302.To, .int .i64 x302.Turns] 40, slO (kInt .i64) 3 v7 t6.1, slO k_flow_Loop 40 v4 t3.1] w2) ?_
                              refine DT.is (d := 171) (b := true) rfl hg331 ?_
                              refine DT.not 47 rfl rfl rfl rfl (by kernel_rfl) (fun _ _ _ h => h) (fun w2 hw => hw) ?_
                              refine DT.not 48 rfl rfl rfl rfl (by kernel_rfl) (fun _ _ _ h => h) (fun w2 hw => hw) ?_
                              refine DT.not 49 rfl rfl rfl rfl (by kernel_rfl) (fun _ _ _ h => h) (fun w2 hw => hw) ?_
                              refine DT.not 50 rfl rfl rfl rfl (by kernel_rfl) (fun _ _ _ h => h) (fun w2 hw => hw) ?_
                              refine DT.not 51 rfl rfl rfl rfl (by kernel_rfl) (fun _ _ _ h => h) (fun w2 hw => hw) ?_
                              refine DT.not 52 rfl rfl rfl rfl (by kernel_rfl) (fun _ _ _ h => h) (fun w2 hw => hw) ?_
                              refine DT.not 53 rfl rfl rfl rfl (by kernel_rfl) (fun _ _ _ h => h) (fun w2 hw => hw) ?_
                              refine DT.not 54 rfl rfl rfl rfl (by kernel_rfl) (fun _ _ _ h => h) (fun w2 hw => hw) ?_
                              refine DT.next (by kernel_rfl) ?_
                              refine DA.phase (fun i => Nat.ble 55 i && Nat.blt i 56) (fun w2 => St w em hV [elP (kInt .u8) p329 x328.Op, elP k_api_Instr p326 x328, atP p321 [.int .i64 x320.A], elP (kInt .i64) p321 x320.A, elP k_api_Instr p318 x320, elP (kInt .u8) p314 x313.Op, elP k_api_Instr p311 x313, slP k_api_Instr v_l_0 l_0, arrP k_arr88 0 tab0] [boxO b303 [.int .i64 x302.From, .int .i64 x302.To, .int .i64 x302.Turns] 40, slO (kInt .i64) 3 v7 t6.1, slO k_flow_Loop 40 v4 t3.1] w2) ?_
                              refine DT.not 55 rfl rfl rfl rfl (by kernel_rfl) (fun _ _ _ h => h) (fun w2 hw => hw) ?_
                              refine DT.next (by kernel_rfl) ?_
                              refine DA.one 56 rfl (by kernel_rfl) ?_
                              refine SP.val (Val.pickT rfl rfl) rfl rfl rfl ?_
                              refine SP.nil ?_
                              refine QE.atA ?_
                              refine DA.done (by kernel_rfl) ?_
                              exact QE.meet fun a w2 ha hw => ⟨true, m300, _, (by omega), ho, hr, ha.sub ⟨rfl, rfl, rfl, rfl, rfl, rfl, rfl, rfl, trivial⟩, (St.selP [7, 8] rfl hw)⟩
                            · have hg332 := (decide_eq_false hc)
                              clear hc
                              obtain ⟨x335, hx, ho⟩ := bind_some ho
                              have hx := elt_some hx
                              refine DA.ghost (fun w2 h => h.elem see 7 rfl hx.1 hx.2) (fun p333 h_p333 => ?_)
                              clear hx
                              refine DA.ghost (fun w2 h => h.fieldE see 0 rfl k_api_Instr.part_A) (fun p336 h_p336 => ?_)
                              refine DA.ghost (fun w2 h => h.openE see 0 rfl (fun _ : Unit => [.int .i64 x335.A]) (fun _ => []) (fun h cs e => ⟨(), e, All.nil _⟩)) (fun _ _ => ?_)
                              refine DA.phase (fun i => Nat.ble 47 i && Nat.blt i 55) (fun w2 => St w em hV [atP p336 [.int .i64 x335.A], elP (kInt .i64) p336 x335.A, elP k_api_Instr p333 x335, elP (kInt .u8) p329 x328.Op, elP k_api_Instr p326 x328, atP p321 [.int .i64 x320.A], elP (kInt .i64) p321 x320.A, elP k_api_Instr p318 x320, elP (kInt .u8) p314 x313.Op, elP k_api_Instr p311 x313, slP k_api_Instr v_l_0 l_0, arrP k_arr88 0 tab0] [boxO b303 [.int .i64 x302.From, .int .i64 x302.To, .int .i64 x302.Turns] 40, slO (kInt .i64) 3 v7 t6.1, slO k_flow_Loop 40 v4 t3.1] w2) ?_
                              refine DT.is (d := 171) (b := false) rfl hg332 ?_
                              refine DT.take 47 rfl rfl rfl rfl (by kernel_rfl) (fun _ _ _ h => h) (Val.move rfl) (fun w2 hw => hw) ?_
                              refine DT.take 48 rfl rfl rfl rfl (by kernel_rfl) (fun _ _ _ h => h) (Val.fieldAddr Tryd.underlying40 rfl sz3 rfl) (fun w2 hw => hw) ?_
                              refine DT.take 49 rfl rfl rfl rfl (by kernel_rfl) (fun _ _ _ h => h) (Val.load1 0 rfl Tryd.underlying3 rfl rfl rfl) (fun w2 hw => hw) ?_
                              refine DT.take 50 rfl rfl rfl rfl (by kernel_rfl) (fun _ _ _ h => h) (Val.indexE h_p333 Tryd.underlying22 sz52 rfl rfl) (fun w2 hw => hw) ?_
                              refine DT.take 51 rfl rfl rfl rfl (by kernel_rfl) (fun _ _ _ h => h) (Val.fieldE h_p336 Tryd.underlying52 rfl rfl sz3 rfl) (fun w2 hw => hw) ?_
                              refine DT.take 52 rfl rfl rfl rfl (by kernel_rfl) (fun _ _ _ h => h) (Val.loadAt1 see 0 rfl Tryd.underlying3 rfl rfl) (fun w2 hw => hw) ?_
                              refine DT.take 53 rfl rfl rfl rfl (by kernel_rfl) (fun _ _ _ h => h) (Val.fieldAddr Tryd.underlying40 rfl sz3 rfl) (fun w2 hw => hw) ?_
                              refine DT.take 54 rfl rfl rfl rfl (by kernel_rfl) (fun _ _ _ h => h) (Val.load1 0 rfl Tryd.underlying3 rfl rfl rfl) (fun w2 hw => hw) ?_
                              refine DT.next (by kernel_rfl) ?_
                              refine DA.one 55 rfl (by kernel_rfl) ?_
                              refine SP.val (Val.neq rfl rfl) rfl rfl rfl ?_
                              refine SP.nil ?_
                              refine QE.atA ?_
                              refine DA.one 56 rfl (by kernel_rfl) ?_
                              refine SP.val (Val.pickF rfl rfl) rfl rfl rfl ?_
                              refine SP.nil ?_
                              refine QE.atA ?_
                              refine DA.done (by kernel_rfl) ?_
                              exact QE.meet fun a w2 ha hw => ⟨(decide (x335.A ≠ x302.From)), m300, _, (by omega), ho, hr, ha.sub ⟨rfl, rfl, rfl, rfl, rfl, rfl, rfl, rfl, trivial⟩, (St.selP [10, 11] rfl hw)⟩
              · refine CP.condF rfl (decide_eq_false hc) ?_
                refine CP.exit ?_
                refine QE.thru (by intro e; cases e) ?_
                refine QE.thru (by intro e; cases e) ?_
                refine QE.blockE ?_
                refine QE.then ?_
                refine CP.seq ?_
                refine CP.region ?_
                refine SP.val (Val.move rfl) rfl rfl rfl ?_
                refine SP.val (Val.move rfl) rfl rfl rfl ?_
                refine SP.val (Val.lenW (fun w2 hw => slO.whole (St.own 1 rfl see.sub see.dj hw)) Tryd.underlying30 rfl) rfl rfl rfl ?_
                refine SP.val (Val.eql rfl rfl) rfl rfl rfl ?_
                refine SP.val (Val.move rfl) rfl rfl rfl ?_
                refine SP.join 5 (fun a w2 => Env ⟨227, []⟩ [(0, v_l_0), (5, v7), (219, .bool ((decide (x188 = (t3.1.length : Int))) && (decide (x189 = (t3.1.length : Int)))))] a ∧ St w em hV [slP k_api_Instr v_l_0 l_0, arrP k_arr88 0 tab0] [slO (kInt .i64) 3 v7 t6.1, slO k_flow_Loop 40 v4 t3.1] w2) ?_ ?_
                · rintro a w2 ⟨ha, hw⟩
                  refine SP.app ha hw ?_
                  clear ha hw a w2
                  refine SP.val (Val.move rfl) rfl rfl rfl ?_
                  refine SP.join 6 (fun a w2 => Env ⟨227, []⟩ [(226, .bool (((decide (x188 = (t3.1.length : Int))) && (decide (x189 = (t3.1.length : Int)))) && (decide ((t6.1.length : Int) = (l_0.length : Int)))))] a ∧ St w em hV [slP k_api_Instr v_l_0 l_0, arrP k_arr88 0 tab0] [slO (kInt .i64) 3 v7 t6.1, slO k_flow_Loop 40 v4 t3.1] w2) ?_ ?_
                  · rintro a w2 ⟨ha, hw⟩
                    refine SP.app ha hw ?_
                    clear ha hw a w2
                    refine SP.val (Val.assign rfl) rfl rfl rfl ?_
                    refine SP.nil ?_
                    refine QE.then ?_
                    refine CP.ret ?_
                    obtain rfl := Option.some.inj ho
                    obtain rfl := Option.some.inj hr
                    exact QE.rets (rs := [.tmp 2]) (vs := [.bool (((decide (x188 = (t3.1.length : Int))) && (decide (x189 = (t3.1.length : Int)))) && (decide ((t6.1.length : Int) = (l_0.length : Int))))]) Tryd.results7 rfl ⟨RVs.tmp rfl, trivial⟩ (fun w2 h => St.done (fun a b p s => rfl) h)
                  · intro J
                    by_cases hc : ((decide (x188 = (t3.1.length : Int))) && (decide (x189 = (t3.1.length : Int)))) = true
                    · have hq364 := hc
                      refine SP.isT (d := 220) rfl hq364 ?_
                      refine SP.val (Val.move rfl) rfl rfl rfl ?_
                      refine SP.val (Val.lenW (fun w2 hw => slO.whole (St.own 0 rfl see.sub see.dj hw)) Tryd.underlying27 rfl) rfl rfl rfl ?_
                      refine SP.val (Val.move rfl) rfl rfl rfl ?_
                      refine SP.val (Val.lenP see 0 rfl Tryd.underlying22 rfl) rfl rfl rfl ?_
                      refine SP.val (Val.eql rfl rfl) rfl rfl rfl ?_
                      refine SP.val (Val.pickT rfl rfl) rfl rfl rfl ?_
                      exact J fun a w2 ha hw => ⟨ha.sub ⟨congrArg (fun z => some (Value.bool z)) (and_t hq364 rfl), trivial⟩, hw⟩
                    · have hq364 := (bf hc)
                      refine SP.isF (d := 220) rfl hq364 ?_
                      refine SP.not rfl rfl rfl ?_
                      refine SP.not rfl rfl rfl ?_
                      refine SP.not rfl rfl rfl ?_
                      refine SP.not rfl rfl rfl ?_
                      refine SP.not rfl rfl rfl ?_
                      refine SP.val (Val.pickF rfl rfl) rfl rfl rfl ?_
                      exact J fun a w2 ha hw => ⟨ha.sub ⟨congrArg (fun z => some (Value.bool z)) (and_f hq364), trivial⟩, hw⟩
                · intro J
                  by_cases hc : x188 = (t3.1.length : Int)
                  · have hq362 := (decide_eq_true hc)
                    refine SP.isT (d := 214) rfl hq362 ?_
                    refine SP.val (Val.move rfl) rfl rfl rfl ?_
                    refine SP.val (Val.move rfl) rfl rfl rfl ?_
                    refine SP.val (Val.lenW (fun w2 hw => slO.whole (St.own 1 rfl see.sub see.dj hw)) Tryd.underlying30 rfl) rfl rfl rfl ?_
                    refine SP.val (Val.eql rfl rfl) rfl rfl rfl ?_
                    refine SP.val (Val.pickT rfl rfl) rfl rfl rfl ?_
                    exact J fun a w2 ha hw => ⟨ha.sub ⟨rfl, rfl, congrArg (fun z => some (Value.bool z)) (and_t hq362 rfl), trivial⟩, hw⟩
                  · have hq362 := (decide_eq_false hc)
                    refine SP.isF (d := 214) rfl hq362 ?_
                    refine SP.not rfl rfl rfl ?_
                    refine SP.not rfl rfl rfl ?_
                    refine SP.not rfl rfl rfl ?_
                    refine SP.not rfl rfl rfl ?_
                    refine SP.val (Val.pickF rfl rfl) rfl rfl rfl ?_
                    exact J fun a w2 ha hw => ⟨ha.sub ⟨rfl, rfl, congrArg (fun z => some (Value.bool z)) (and_f hq362), trivial⟩, hw⟩
          · intro J
            by_cases hc : x190 < (l_0.length : Int)
            · have hq193 := (decide_eq_true hc)
              refine SP.isT (d := 50) rfl hq193 ?_
              refine SP.val (Val.move rfl) rfl rfl rfl ?_
              refine SP.val (Val.move rfl) rfl rfl rfl ?_
              refine SP.val (Val.lenW (fun w2 hw => slO.whole (St.own 0 rfl see.sub see.dj hw)) Tryd.underlying27 rfl) rfl rfl rfl ?_
              refine SP.val (Val.lss rfl rfl) rfl rfl rfl ?_
              refine SP.val (Val.pickT rfl rfl) rfl rfl rfl ?_
              exact J fun a w2 ha hw => ⟨ha.sub ⟨rfl, rfl, rfl, rfl, rfl, rfl, congrArg (fun z => some (Value.bool z)) (and_t hq193 rfl), trivial⟩, hw⟩
            · have hq193 := (decide_eq_false hc)
              refine SP.isF (d := 50) rfl hq193 ?_
              refine SP.not rfl rfl rfl ?_
              refine SP.not rfl rfl rfl ?_
              refine SP.not rfl rfl rfl ?_
              refine SP.not rfl rfl rfl ?_
              refine SP.val (Val.pickF rfl rfl) rfl rfl rfl ?_
              exact J fun a w2 ha hw => ⟨ha.sub ⟨rfl, rfl, rfl, rfl, rfl, rfl, congrArg (fun z => some (Value.bool z)) (and_f hq193), trivial⟩, hw⟩
      · intro J
        by_cases hc : t3.2 ≠ 0
        · have hq10 := (decide_eq_true hc)
          refine SP.isT (d := 34) rfl hq10 ?_
          refine SP.not rfl rfl rfl ?_
          refine SP.not rfl rfl rfl ?_
          refine SP.val (Val.pickT rfl rfl) rfl rfl rfl ?_
          exact J fun a w2 ha hw => ⟨ha.sub ⟨rfl, rfl, rfl, rfl, rfl, congrArg (fun z => some (Value.bool z)) (or_t hq10), trivial⟩, hw⟩
        · have hq10 := (decide_eq_false hc)
          refine SP.isF (d := 34) rfl hq10 ?_
          refine SP.val (Val.move rfl) rfl rfl rfl ?_
          refine SP.val (Val.neq rfl rfl) rfl rfl rfl ?_
          refine SP.val (Val.pickF rfl rfl) rfl rfl rfl ?_
          exact J fun a w2 ha hw => ⟨ha.sub ⟨rfl, rfl, rfl, rfl, rfl, congrArg (fun z => some (Value.bool z)) (or_f hq10 rfl), trivial⟩, hw⟩
theorem cl5 : Tryd.prog.cellsOf 5 = 1 := by kernel_rfl
theorem cl3 : Tryd.prog.cellsOf 3 = 1 := by kernel_rfl
theorem cl52 : Tryd.prog.cellsOf 52 = 3 := by kernel_rfl
def wf_api_Instr (x : api_Instr) : Prop := (Lit.int .u8 x.Op).wf = true ∧ (Lit.int .i64 x.A).wf = true ∧ (Lit.int .i64 x.B).wf = true
theorem opens_api_Instr : Opens Tryd.prog 52 k_api_Instr wf_api_Instr := by
  intro H enc W fuel cs d ps h
  cases fuel with
  | zero => simp [DataW.trod] at h
  | succ n =>
    obtain ⟨hl, hf⟩ := trod_struct Tryd.underlying52 h
    rw [cl52] at hl
    obtain ⟨c0, c1, c2, rfl⟩ := len3 hl
    obtain ⟨d0, q0, h0⟩ := hf 0 _ rfl
    replace h0 : DataW.trod enc Tryd.prog W 0 (fun _ => true) true n 5 (List.take (Tryd.prog.cellsOf 5) [c0, c1, c2]) = some (d0, q0) := h0
    rw [cl5] at h0
    replace h0 : DataW.trod enc Tryd.prog W 0 (fun _ => true) true n 5 [c0] = some (d0, q0) := h0
    obtain ⟨x0, r0, w0⟩ := (Opens.int Tryd.underlying5) enc W n _ _ _ h0
    obtain ⟨rfl, -⟩ := List.cons.inj r0
    obtain ⟨d1, q1, h1⟩ := hf 1 _ rfl
    replace h1 : DataW.trod enc Tryd.prog W 0 (fun _ => true) true n 3 (List.take (Tryd.prog.cellsOf 3) [c1, c2]) = some (d1, q1) := h1
    rw [cl3] at h1
    replace h1 : DataW.trod enc Tryd.prog W 0 (fun _ => true) true n 3 [c1] = some (d1, q1) := h1
    obtain ⟨x1, r1, w1⟩ := (Opens.int Tryd.underlying3) enc W n _ _ _ h1
    obtain ⟨rfl, -⟩ := List.cons.inj r1
    obtain ⟨d2, q2, h2⟩ := hf 2 _ rfl
    replace h2 : DataW.trod enc Tryd.prog W 0 (fun _ => true) true n 3 (List.take (Tryd.prog.cellsOf 3) [c2]) = some (d2, q2) := h2
    rw [cl3] at h2
    replace h2 : DataW.trod enc Tryd.prog W 0 (fun _ => true) true n 3 [c2] = some (d2, q2) := h2
    obtain ⟨x2, r2, w2⟩ := (Opens.int Tryd.underlying3) enc W n _ _ _ h2
    obtain ⟨rfl, -⟩ := List.cons.inj r2
    exact ⟨⟨x0, x1, x2⟩, rfl, w0, w1, w2⟩
/-- What is left to be shown of the law: of plain values alone. -/
def capstanlaw09_FlowNested.Pure : Prop := ∀ (x0 : (List api_Instr)), (x0.length ≤ maxLen ∧ ∀ y ∈ x0, wf_api_Instr y) → capstanlaw09_FlowNested.f x0 = some true
end Go.Proofs.YtbejlahmhloloaaDoor
end
