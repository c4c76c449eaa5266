/- Functions of the program as plain functions, with the proof that the code computes them: printed by gen.py of this session. -/
import Derived.Test.YtbejlahmhloloaaDoorProg
import Derived.Test.YtbejlahmhloloaaDoorQ26v13fef8
import Derived.Ground.NamesProg
import Derived.Ground.SlgcProg
import Derived.Ground.SlgmProg
import Derived.Ground.SlgnProg
import Derived.Ground.SlsfProg
import Derived.Shelf.Bits.Mul64
import Derived.Shelf.Lay
import Derived.Shelf.SlGeneric
import Derived.Shelf.SlSortCmp.WholeK
import Derived.Shelf.SlicesG.Cmp
import Derived.Shelf.SlicesG.CompactI
import Derived.Shelf.Small.Bits
import Derived.Shelf.SortM.Plain
import Derived.Shelf.SortM.SortNone
import Derived.Test.YtbejlahmhloloaaDoorGFlowAheadp1
set_option linter.unusedVariables false
set_option linter.unusedSimpArgs false
set_option maxRecDepth 20000
set_option maxHeartbeats 2000000
noncomputable section
namespace Go.Proofs.YtbejlahmhloloaaDoor
open Go.Q
/-! ### capstan/capstanlaw09.awake: function 18 -/
def capstanlaw09_awake.f  : Option Bool :=
  (capstanlaw09_row.f [28, 3, 0, 0, 29, 0, 31, 0]).bind fun t3 => (flow_Loops.f t3).bind fun t6 => (flow_Times.f t3).bind fun t9 => (flow_Ways.f t3 2).bind fun t12 => if ((((((decide (t6.2 ≠ 0)) || (decide (t9.2 ≠ 0))) || (decide (t12.2 ≠ 0))) || (decide ((t6.1.length : Int) ≠ 1))) || (decide ((t9.1.length : Int) ≠ 4))) || (decide ((t12.1.length : Int) ≠ 2))) = true then (some false) else ((elt t6.1 0).bind fun x26 => (if x26.From ≠ 0 then (some true) else ((elt t6.1 0).bind fun x31 => some (decide (x31.To ≠ 2)))).bind fun t33 => (if t33 = true then (some true) else ((elt t6.1 0).bind fun x37 => some (decide (x37.Turns ≠ 3)))).bind fun t39 => (if t39 = true then (some true) else ((elt t9.1 0).bind fun x43 => some (decide (x43 ≠ 1)))).bind fun t44 => (if t44 = true then (some true) else ((elt t9.1 1).bind fun x48 => some (decide (x48 ≠ 3)))).bind fun t49 => (if t49 = true then (some true) else ((elt t9.1 2).bind fun x53 => some (decide (x53 ≠ 3)))).bind fun t54 => (if t54 = true then (some true) else ((elt t9.1 3).bind fun x58 => some (decide (x58 ≠ 1)))).bind fun t59 => (if t59 = true then (some true) else ((elt t12.1 0).bind fun x63 => some (decide (x63 ≠ 1)))).bind fun t64 => (if t64 = true then (some true) else ((elt t12.1 1).bind fun x68 => some (decide (x68 ≠ 3)))).bind fun t69 => if t69 = true then (some false) else ((capstanlaw09_row.f [26, 1, 31, 0]).bind fun t72 => (flow_Check.f t72).bind fun t75 => (if t75 = 0 then ((capstanlaw09_row.f [26, 0, 31, 0]).bind fun t80 => (flow_Check.f t80).bind fun t83 => some (decide (t83 = 90))) else (some false)).bind fun t84 => (if t84 = true then ((capstanlaw09_row.f [26, 2, 31, 0]).bind fun t89 => (flow_Check.f t89).bind fun t92 => some (decide (t92 = 90))) else (some false)).bind fun t93 => (if t93 = true then ((capstanlaw09_row.f [27, 2, 28, 3, 29, 1, 31, 0]).bind fun t98 => (flow_Check.f t98).bind fun t101 => some (decide (t101 = 90))) else (some false)).bind fun t102 => (if t102 = true then ((capstanlaw09_row.f [28, 3, 26, 3, 29, 0, 31, 0]).bind fun t107 => (flow_Check.f t107).bind fun t110 => some (decide (t110 = 0))) else (some false)).bind fun t111 => (if t111 = true then ((capstanlaw09_row.f [0, 0]).bind fun t116 => (flow_Check.f t116).bind fun t119 => some (decide (t119 = 90))) else (some false)).bind fun t120 => some t120))
theorem capstanlaw09_awake.ok   (r : Bool) (H : capstanlaw09_awake.f  = some r) (w : World) (hV : Hp) (sV : Sub hV (hp w)) (h0 : (arrP k_arr88 0 tab0).p hV) :
    Trip Tryd.prog 18 [].toArray em hV w (fun v => HO.pure (v = .bool r)) := by
  have see : Sees w em hV := ⟨sV, Dj.em_right _⟩
  refine Trip.of (P := Tryd.prog) (n := ⟨164, []⟩) Tryd.func18 rfl ⟨rfl, rfl⟩ rfl (St.begin (All.cons (x := arrP k_arr88 0 tab0) h0 (All.nil _))) ?_
  have ho := H
  refine CP.seq ?_
  refine CP.region ?_
  refine SP.val (Val.assign rfl) rfl rfl rfl ?_
  refine SP.nil ?_
  refine QE.then ?_
  refine CP.seq ?_
  refine CP.region ?_
  refine SP.val (Val.assign rfl) rfl rfl rfl ?_
  refine SP.val (Val.assign rfl) rfl rfl rfl ?_
  refine SP.val (Val.assign rfl) rfl rfl rfl ?_
  refine SP.val (Val.assign rfl) rfl rfl rfl ?_
  refine SP.val (Val.assign rfl) rfl rfl rfl ?_
  refine SP.val (Val.assign rfl) rfl rfl rfl ?_
  refine SP.nil ?_
  refine QE.then ?_
  refine CP.seq ?_
  refine CP.region ?_
  refine SP.val (Val.move rfl) rfl rfl rfl ?_
  refine SP.val (Val.move rfl) rfl rfl rfl ?_
  refine SP.val (Val.move rfl) rfl rfl rfl ?_
  refine SP.val (Val.move rfl) rfl rfl rfl ?_
  refine SP.lit (k := (kInt .i64)) (xs := [28, 3, 0, 0, 29, 0, 31, 0]) (vs := [.int .i64 28, .int .i64 3, .int .i64 0, .int .i64 0, .int .i64 29, .int .i64 0, .int .i64 31, .int .i64 0]) (cells := [.int .i64 28, .int .i64 3, .int .i64 0, .int .i64 0, .int .i64 29, .int .i64 0, .int .i64 31, .int .i64 0]) Tryd.underlying27 inf3 rfl rfl rfl rfl rfl rfl rfl rfl (fun _ ap => ⟨[.int .i64 28], _, rfl, rfl, ⟨[.int .i64 3], _, rfl, rfl, ⟨[.int .i64 0], _, rfl, rfl, ⟨[.int .i64 0], _, rfl, rfl, ⟨[.int .i64 29], _, rfl, rfl, ⟨[.int .i64 0], _, rfl, rfl, ⟨[.int .i64 31], _, rfl, rfl, ⟨[.int .i64 0], _, rfl, rfl, rfl⟩⟩⟩⟩⟩⟩⟩⟩) rfl rfl rfl (fun v1 => ?_)
  obtain ⟨t3, hc, ho⟩ := bind_some (x := capstanlaw09_row.f [28, 3, 0, 0, 29, 0, 31, 0]) ho
  refine SP.callKO see (caps := []) _ fn40 rfl rfl rfl rfl (fun w2 hs => capstanlaw09_row.ok [28, 3, 0, 0, 29, 0, 31, 0] _ _ hc w2 (hp w2) (Sub.refl _) (slO.read (St.own 0 rfl see.sub see.dj hs) (Sub.refl _) (Sub.refl _))) (fun v a a2 b ⟨v4, e, h⟩ => ⟨v4, e, (Sep.fcons (fun _ => slO.flip (fun _ _ _ _ h => h)) (fun _ => Sep.fnil)) h⟩) (fun vr => ?_)
  refine SP.ex (fun w2 h => St.open h) (fun v4 => ?_)
  refine SP.have (fun w2 h => (St.pand h).1.symm) (fun er => ?_)
  subst er
  refine SP.imp (fun w2 h => St.seps (St.pand h).2) ?_
  clear hc
  refine SP.val (Val.assign rfl) rfl rfl rfl ?_
  refine SP.nil ?_
  refine QE.then ?_
  refine CP.seq ?_
  refine CP.region ?_
  refine SP.val (Val.move rfl) rfl rfl rfl ?_
  obtain ⟨t6, hc, ho⟩ := bind_some (x := flow_Loops.f t3) ho
  refine SP.callKO see (caps := []) _ fn11 rfl rfl rfl rfl (fun w2 hs => flow_Loops.ok t3 _ _ hc w2 (hp w2) (Sub.refl _) (slO.read (St.own 0 rfl see.sub see.dj hs) (Sub.refl _) (Sub.refl _)) ((St.pers 0 rfl see.sub see.dj hs))) (fun v a a2 b ⟨v7, e, h⟩ => ⟨v7, e, (Sep.fcons (fun _ => slO.flip (fun _ _ _ _ h => h)) (fun _ => Sep.fnil)) h⟩) (fun vr => ?_)
  refine SP.ex (fun w2 h => St.open h) (fun v7 => ?_)
  refine SP.have (fun w2 h => (St.pand h).1.symm) (fun er => ?_)
  subst er
  refine SP.imp (fun w2 h => St.seps (St.pand h).2) ?_
  clear hc
  refine SP.val (Val.move rfl) rfl rfl rfl ?_
  refine SP.val (Val.extract rfl rfl) rfl rfl rfl ?_
  refine SP.val (Val.extract rfl rfl) rfl rfl rfl ?_
  refine SP.val (Val.assign rfl) rfl rfl rfl ?_
  refine SP.val (Val.assign rfl) rfl rfl rfl ?_
  refine SP.nil ?_
  refine QE.then ?_
  refine CP.seq ?_
  refine CP.region ?_
  refine SP.val (Val.move rfl) rfl rfl rfl ?_
  obtain ⟨t9, hc, ho⟩ := bind_some (x := flow_Times.f t3) ho
  refine SP.callKO see (caps := []) _ fn12 rfl rfl rfl rfl (fun w2 hs => flow_Times.ok t3 _ _ hc w2 (hp w2) (Sub.refl _) (slO.read (St.own 1 rfl see.sub see.dj hs) (Sub.refl _) (Sub.refl _)) ((St.pers 0 rfl see.sub see.dj hs))) (fun v a a2 b ⟨v10, e, h⟩ => ⟨v10, e, (Sep.fcons (fun _ => slO.flip (fun _ _ _ _ h => h)) (fun _ => Sep.fnil)) h⟩) (fun vr => ?_)
  refine SP.ex (fun w2 h => St.open h) (fun v10 => ?_)
  refine SP.have (fun w2 h => (St.pand h).1.symm) (fun er => ?_)
  subst er
  refine SP.imp (fun w2 h => St.seps (St.pand h).2) ?_
  clear hc
  refine SP.val (Val.move rfl) rfl rfl rfl ?_
  refine SP.val (Val.extract rfl rfl) rfl rfl rfl ?_
  refine SP.val (Val.extract rfl rfl) rfl rfl rfl ?_
  refine SP.val (Val.assign rfl) rfl rfl rfl ?_
  refine SP.val (Val.assign rfl) rfl rfl rfl ?_
  refine SP.nil ?_
  refine QE.then ?_
  refine CP.seq ?_
  refine CP.region ?_
  refine SP.val (Val.move rfl) rfl rfl rfl ?_
  obtain ⟨t12, hc, ho⟩ := bind_some (x := flow_Ways.f t3 2) ho
  refine SP.callKO see (caps := []) _ fn17 rfl rfl rfl rfl (fun w2 hs => flow_Ways.ok t3 2 _ _ hc w2 (hp w2) (Sub.refl _) (slO.read (St.own 2 rfl see.sub see.dj hs) (Sub.refl _) (Sub.refl _)) ((St.pers 0 rfl see.sub see.dj hs))) (fun v a a2 b ⟨v13, e, h⟩ => ⟨v13, e, (Sep.fcons (fun _ => slO.flip (fun _ _ _ _ h => h)) (fun _ => Sep.fnil)) h⟩) (fun vr => ?_)
  refine SP.ex (fun w2 h => St.open h) (fun v13 => ?_)
  refine SP.have (fun w2 h => (St.pand h).1.symm) (fun er => ?_)
  subst er
  refine SP.imp (fun w2 h => St.seps (St.pand h).2) ?_
  clear hc
  refine SP.val (Val.move rfl) rfl rfl rfl ?_
  refine SP.val (Val.extract rfl rfl) rfl rfl rfl ?_
  refine SP.val (Val.extract rfl rfl) rfl rfl rfl ?_
  refine SP.val (Val.assign rfl) rfl rfl rfl ?_
  refine SP.val (Val.assign rfl) rfl rfl rfl ?_
  refine SP.nil ?_
  refine QE.then ?_
  refine CP.seq ?_
  refine CP.seq ?_
  refine CP.region ?_
  refine SP.val (Val.move rfl) rfl rfl rfl ?_
  refine SP.val (Val.neq rfl rfl) rfl rfl rfl ?_
  refine SP.val (Val.move rfl) rfl rfl rfl ?_
  refine SP.join 3 (fun a w2 => Env ⟨164, []⟩ [(1, .int .i64 28), (2, .int .i64 29), (3, .int .i64 31), (4, .int .i64 26), (5, .int .i64 27), (6, .int .i64 0), (8, v7), (10, v10), (12, v13), (13, .int .i64 t12.2), (40, .bool ((decide (t6.2 ≠ 0)) || (decide (t9.2 ≠ 0))))] a ∧ St w em hV [arrP k_arr88 0 tab0] [slO (kInt .i64) 3 v13 t12.1, slO (kInt .i64) 3 v10 t9.1, slO k_flow_Loop 40 v7 t6.1, slO k_api_Instr 52 v4 t3, slO (kInt .i64) 3 v1 [28, 3, 0, 0, 29, 0, 31, 0]] w2) ?_ ?_
  · rintro a w2 ⟨ha, hw⟩
    refine SP.app ha hw ?_
    clear ha hw a w2
    refine SP.val (Val.move rfl) rfl rfl rfl ?_
    refine SP.join 3 (fun a w2 => Env ⟨164, []⟩ [(1, .int .i64 28), (2, .int .i64 29), (3, .int .i64 31), (4, .int .i64 26), (5, .int .i64 27), (6, .int .i64 0), (8, v7), (10, v10), (12, v13), (44, .bool (((decide (t6.2 ≠ 0)) || (decide (t9.2 ≠ 0))) || (decide (t12.2 ≠ 0))))] a ∧ St w em hV [arrP k_arr88 0 tab0] [slO (kInt .i64) 3 v13 t12.1, slO (kInt .i64) 3 v10 t9.1, slO k_flow_Loop 40 v7 t6.1, slO k_api_Instr 52 v4 t3, slO (kInt .i64) 3 v1 [28, 3, 0, 0, 29, 0, 31, 0]] w2) ?_ ?_
    · rintro a w2 ⟨ha, hw⟩
      refine SP.app ha hw ?_
      clear ha hw a w2
      refine SP.val (Val.move rfl) rfl rfl rfl ?_
      refine SP.join 4 (fun a w2 => Env ⟨164, []⟩ [(1, .int .i64 28), (2, .int .i64 29), (3, .int .i64 31), (4, .int .i64 26), (5, .int .i64 27), (6, .int .i64 0), (8, v7), (10, v10), (12, v13), (49, .bool ((((decide (t6.2 ≠ 0)) || (decide (t9.2 ≠ 0))) || (decide (t12.2 ≠ 0))) || (decide ((t6.1.length : Int) ≠ 1))))] a ∧ St w em hV [arrP k_arr88 0 tab0] [slO (kInt .i64) 3 v13 t12.1, slO (kInt .i64) 3 v10 t9.1, slO k_flow_Loop 40 v7 t6.1, slO k_api_Instr 52 v4 t3, slO (kInt .i64) 3 v1 [28, 3, 0, 0, 29, 0, 31, 0]] w2) ?_ ?_
      · rintro a w2 ⟨ha, hw⟩
        refine SP.app ha hw ?_
        clear ha hw a w2
        refine SP.val (Val.move rfl) rfl rfl rfl ?_
        refine SP.join 4 (fun a w2 => Env ⟨164, []⟩ [(1, .int .i64 28), (2, .int .i64 29), (3, .int .i64 31), (4, .int .i64 26), (5, .int .i64 27), (6, .int .i64 0), (8, v7), (10, v10), (12, v13), (54, .bool (((((decide (t6.2 ≠ 0)) || (decide (t9.2 ≠ 0))) || (decide (t12.2 ≠ 0))) || (decide ((t6.1.length : Int) ≠ 1))) || (decide ((t9.1.length : Int) ≠ 4))))] a ∧ St w em hV [arrP k_arr88 0 tab0] [slO (kInt .i64) 3 v13 t12.1, slO (kInt .i64) 3 v10 t9.1, slO k_flow_Loop 40 v7 t6.1, slO k_api_Instr 52 v4 t3, slO (kInt .i64) 3 v1 [28, 3, 0, 0, 29, 0, 31, 0]] w2) ?_ ?_
        · rintro a w2 ⟨ha, hw⟩
          refine SP.app ha hw ?_
          clear ha hw a w2
          refine SP.val (Val.move rfl) rfl rfl rfl ?_
          refine SP.join 4 (fun a w2 => Env ⟨164, []⟩ [(1, .int .i64 28), (2, .int .i64 29), (3, .int .i64 31), (4, .int .i64 26), (5, .int .i64 27), (6, .int .i64 0), (8, v7), (10, v10), (12, v13), (59, .bool ((((((decide (t6.2 ≠ 0)) || (decide (t9.2 ≠ 0))) || (decide (t12.2 ≠ 0))) || (decide ((t6.1.length : Int) ≠ 1))) || (decide ((t9.1.length : Int) ≠ 4))) || (decide ((t12.1.length : Int) ≠ 2))))] a ∧ St w em hV [arrP k_arr88 0 tab0] [slO (kInt .i64) 3 v13 t12.1, slO (kInt .i64) 3 v10 t9.1, slO k_flow_Loop 40 v7 t6.1, slO k_api_Instr 52 v4 t3, slO (kInt .i64) 3 v1 [28, 3, 0, 0, 29, 0, 31, 0]] w2) ?_ ?_
          · rintro a w2 ⟨ha, hw⟩
            refine SP.app ha hw ?_
            clear ha hw a w2
            refine SP.nil ?_
            refine QE.then ?_
            rcases if_some ho with ⟨hc, ho⟩ | ⟨hc, ho⟩
            · refine CP.condT rfl hc ?_
              refine CP.seq ?_
              refine CP.region ?_
              refine SP.val (Val.assign rfl) rfl rfl rfl ?_
              refine SP.nil ?_
              refine QE.then ?_
              refine CP.ret ?_
              refine QE.thru (by intro e; cases e) ?_
              obtain rfl := Option.some.inj ho
              exact QE.rets (rs := [.tmp 0]) (vs := [.bool false]) Tryd.results18 rfl ⟨RVs.tmp rfl, trivial⟩ (fun w2 h => St.done (fun a b p s => rfl) h)
            · refine CP.condF rfl (bf hc) ?_
              refine CP.skip ?_
              refine QE.then ?_
              refine CP.seq ?_
              refine CP.seq ?_
              refine CP.region ?_
              refine SP.val (Val.move rfl) rfl rfl rfl ?_
              obtain ⟨x26, hx_x26, ho⟩ := bind_some ho
              have hx_x26 := elt_some hx_x26
              refine SP.indexW (fun w2 hw => slO.whole (St.own 2 rfl see.sub see.dj hw)) Tryd.underlying30 sz40 hx_x26.1 hx_x26.2 rfl rfl rfl rfl (fun p25 h_p25 => ?_)
              refine SP.fieldO h_p25 Tryd.underlying40 rfl sz3 rfl rfl rfl (fun p27 h_p27 => ?_)
              refine SP.val (Val.loadW1 (off := 0) (k := k_flow_Loop) (fun w2 hw => slO.whole (St.own 2 rfl see.sub see.dj hw)) hx_x26.2 h_p27 (fun _ _ e => by subst e; rfl) Tryd.underlying3 rfl rfl) rfl rfl rfl ?_
              refine SP.val (Val.neq rfl rfl) rfl rfl rfl ?_
              refine SP.val (Val.move rfl) rfl rfl rfl ?_
              obtain ⟨t33, hg_t33, ho⟩ := bind_some ho
              refine SP.join 6 (fun a w2 => Env ⟨164, []⟩ [(1, .int .i64 28), (2, .int .i64 29), (3, .int .i64 31), (4, .int .i64 26), (5, .int .i64 27), (6, .int .i64 0), (8, v7), (10, v10), (12, v13), (71, .bool t33)] a ∧ St w em hV [arrP k_arr88 0 tab0] [slO (kInt .i64) 3 v13 t12.1, slO (kInt .i64) 3 v10 t9.1, slO k_flow_Loop 40 v7 t6.1, slO k_api_Instr 52 v4 t3, slO (kInt .i64) 3 v1 [28, 3, 0, 0, 29, 0, 31, 0]] w2) ?_ ?_
              · rintro a w2 ⟨ha, hw⟩
                refine SP.app ha hw ?_
                clear ha hw a w2 hg_t33
                refine SP.val (Val.move rfl) rfl rfl rfl ?_
                obtain ⟨t39, hg_t39, ho⟩ := bind_some ho
                refine SP.join 6 (fun a w2 => Env ⟨164, []⟩ [(1, .int .i64 28), (2, .int .i64 29), (3, .int .i64 31), (4, .int .i64 26), (5, .int .i64 27), (6, .int .i64 0), (10, v10), (12, v13), (78, .bool t39)] a ∧ St w em hV [arrP k_arr88 0 tab0] [slO (kInt .i64) 3 v13 t12.1, slO (kInt .i64) 3 v10 t9.1, slO k_flow_Loop 40 v7 t6.1, slO k_api_Instr 52 v4 t3, slO (kInt .i64) 3 v1 [28, 3, 0, 0, 29, 0, 31, 0]] w2) ?_ ?_
                · rintro a w2 ⟨ha, hw⟩
                  refine SP.app ha hw ?_
                  clear ha hw a w2 hg_t39
                  refine SP.val (Val.move rfl) rfl rfl rfl ?_
                  obtain ⟨t44, hg_t44, ho⟩ := bind_some ho
                  refine SP.join 5 (fun a w2 => Env ⟨164, []⟩ [(1, .int .i64 28), (2, .int .i64 29), (3, .int .i64 31), (4, .int .i64 26), (5, .int .i64 27), (6, .int .i64 0), (10, v10), (12, v13), (84, .bool t44)] a ∧ St w em hV [arrP k_arr88 0 tab0] [slO (kInt .i64) 3 v13 t12.1, slO (kInt .i64) 3 v10 t9.1, slO k_flow_Loop 40 v7 t6.1, slO k_api_Instr 52 v4 t3, slO (kInt .i64) 3 v1 [28, 3, 0, 0, 29, 0, 31, 0]] w2) ?_ ?_
                  · rintro a w2 ⟨ha, hw⟩
                    refine SP.app ha hw ?_
                    clear ha hw a w2 hg_t44
                    refine SP.val (Val.move rfl) rfl rfl rfl ?_
                    obtain ⟨t49, hg_t49, ho⟩ := bind_some ho
                    refine SP.join 5 (fun a w2 => Env ⟨164, []⟩ [(1, .int .i64 28), (2, .int .i64 29), (3, .int .i64 31), (4, .int .i64 26), (5, .int .i64 27), (6, .int .i64 0), (10, v10), (12, v13), (90, .bool t49)] a ∧ St w em hV [arrP k_arr88 0 tab0] [slO (kInt .i64) 3 v13 t12.1, slO (kInt .i64) 3 v10 t9.1, slO k_flow_Loop 40 v7 t6.1, slO k_api_Instr 52 v4 t3, slO (kInt .i64) 3 v1 [28, 3, 0, 0, 29, 0, 31, 0]] w2) ?_ ?_
                    · rintro a w2 ⟨ha, hw⟩
                      refine SP.app ha hw ?_
                      clear ha hw a w2 hg_t49
                      refine SP.val (Val.move rfl) rfl rfl rfl ?_
                      obtain ⟨t54, hg_t54, ho⟩ := bind_some ho
                      refine SP.join 5 (fun a w2 => Env ⟨164, []⟩ [(1, .int .i64 28), (2, .int .i64 29), (3, .int .i64 31), (4, .int .i64 26), (5, .int .i64 27), (6, .int .i64 0), (10, v10), (12, v13), (96, .bool t54)] a ∧ St w em hV [arrP k_arr88 0 tab0] [slO (kInt .i64) 3 v13 t12.1, slO (kInt .i64) 3 v10 t9.1, slO k_flow_Loop 40 v7 t6.1, slO k_api_Instr 52 v4 t3, slO (kInt .i64) 3 v1 [28, 3, 0, 0, 29, 0, 31, 0]] w2) ?_ ?_
                      · rintro a w2 ⟨ha, hw⟩
                        refine SP.app ha hw ?_
                        clear ha hw a w2 hg_t54
                        refine SP.val (Val.move rfl) rfl rfl rfl ?_
                        obtain ⟨t59, hg_t59, ho⟩ := bind_some ho
                        refine SP.join 5 (fun a w2 => Env ⟨164, []⟩ [(1, .int .i64 28), (2, .int .i64 29), (3, .int .i64 31), (4, .int .i64 26), (5, .int .i64 27), (6, .int .i64 0), (12, v13), (102, .bool t59)] a ∧ St w em hV [arrP k_arr88 0 tab0] [slO (kInt .i64) 3 v13 t12.1, slO (kInt .i64) 3 v10 t9.1, slO k_flow_Loop 40 v7 t6.1, slO k_api_Instr 52 v4 t3, slO (kInt .i64) 3 v1 [28, 3, 0, 0, 29, 0, 31, 0]] w2) ?_ ?_
                        · rintro a w2 ⟨ha, hw⟩
                          refine SP.app ha hw ?_
                          clear ha hw a w2 hg_t59
                          refine SP.val (Val.move rfl) rfl rfl rfl ?_
                          obtain ⟨t64, hg_t64, ho⟩ := bind_some ho
                          refine SP.join 5 (fun a w2 => Env ⟨164, []⟩ [(1, .int .i64 28), (2, .int .i64 29), (3, .int .i64 31), (4, .int .i64 26), (5, .int .i64 27), (6, .int .i64 0), (12, v13), (108, .bool t64)] a ∧ St w em hV [arrP k_arr88 0 tab0] [slO (kInt .i64) 3 v13 t12.1, slO (kInt .i64) 3 v10 t9.1, slO k_flow_Loop 40 v7 t6.1, slO k_api_Instr 52 v4 t3, slO (kInt .i64) 3 v1 [28, 3, 0, 0, 29, 0, 31, 0]] w2) ?_ ?_
                          · rintro a w2 ⟨ha, hw⟩
                            refine SP.app ha hw ?_
                            clear ha hw a w2 hg_t64
                            refine SP.val (Val.move rfl) rfl rfl rfl ?_
                            obtain ⟨t69, hg_t69, ho⟩ := bind_some ho
                            refine SP.join 5 (fun a w2 => Env ⟨164, []⟩ [(1, .int .i64 28), (2, .int .i64 29), (3, .int .i64 31), (4, .int .i64 26), (5, .int .i64 27), (6, .int .i64 0), (114, .bool t69)] a ∧ St w em hV [arrP k_arr88 0 tab0] [slO (kInt .i64) 3 v13 t12.1, slO (kInt .i64) 3 v10 t9.1, slO k_flow_Loop 40 v7 t6.1, slO k_api_Instr 52 v4 t3, slO (kInt .i64) 3 v1 [28, 3, 0, 0, 29, 0, 31, 0]] w2) ?_ ?_
                            · rintro a w2 ⟨ha, hw⟩
                              refine SP.app ha hw ?_
                              clear ha hw a w2 hg_t69
                              refine SP.nil ?_
                              refine QE.then ?_
                              rcases if_some ho with ⟨hc, ho⟩ | ⟨hc, ho⟩
                              · refine CP.condT rfl hc ?_
                                refine CP.seq ?_
                                refine CP.region ?_
                                refine SP.val (Val.assign rfl) rfl rfl rfl ?_
                                refine SP.nil ?_
                                refine QE.then ?_
                                refine CP.ret ?_
                                refine QE.thru (by intro e; cases e) ?_
                                obtain rfl := Option.some.inj ho
                                exact QE.rets (rs := [.tmp 0]) (vs := [.bool false]) Tryd.results18 rfl ⟨RVs.tmp rfl, trivial⟩ (fun w2 h => St.done (fun a b p s => rfl) h)
                              · refine CP.condF rfl (bf hc) ?_
                                refine CP.skip ?_
                                refine QE.then ?_
                                refine CP.seq ?_
                                refine CP.region ?_
                                refine SP.val (Val.move rfl) rfl rfl rfl ?_
                                refine SP.val (Val.move rfl) rfl rfl rfl ?_
                                refine SP.lit (k := (kInt .i64)) (xs := [26, 1, 31, 0]) (vs := [.int .i64 26, .int .i64 1, .int .i64 31, .int .i64 0]) (cells := [.int .i64 26, .int .i64 1, .int .i64 31, .int .i64 0]) Tryd.underlying27 inf3 rfl rfl rfl rfl rfl rfl rfl rfl (fun _ ap => ⟨[.int .i64 26], _, rfl, rfl, ⟨[.int .i64 1], _, rfl, rfl, ⟨[.int .i64 31], _, rfl, rfl, ⟨[.int .i64 0], _, rfl, rfl, rfl⟩⟩⟩⟩) rfl rfl rfl (fun v70 => ?_)
                                obtain ⟨t72, hc, ho⟩ := bind_some (x := capstanlaw09_row.f [26, 1, 31, 0]) ho
                                refine SP.callKO see (caps := []) _ fn40 rfl rfl rfl rfl (fun w2 hs => capstanlaw09_row.ok [26, 1, 31, 0] _ _ hc w2 (hp w2) (Sub.refl _) (slO.read (St.own 0 rfl see.sub see.dj hs) (Sub.refl _) (Sub.refl _))) (fun v a a2 b ⟨v73, e, h⟩ => ⟨v73, e, (Sep.fcons (fun _ => slO.flip (fun _ _ _ _ h => h)) (fun _ => Sep.fnil)) h⟩) (fun vr => ?_)
                                refine SP.ex (fun w2 h => St.open h) (fun v73 => ?_)
                                refine SP.have (fun w2 h => (St.pand h).1.symm) (fun er => ?_)
                                subst er
                                refine SP.imp (fun w2 h => St.seps (St.pand h).2) ?_
                                clear hc
                                obtain ⟨t75, hc, ho⟩ := bind_some (x := flow_Check.f t72) ho
                                refine SP.callVO see (caps := []) (.int .i64 t75) fn13 rfl rfl rfl rfl (fun w2 hs => flow_Check.ok t72 _ _ hc w2 (hp w2) (Sub.refl _) (slO.read (St.own 0 rfl see.sub see.dj hs) (Sub.refl _) (Sub.refl _)) ((St.pers 0 rfl see.sub see.dj hs))) ?_
                                clear hc
                                refine SP.val (Val.eql rfl rfl) rfl rfl rfl ?_
                                refine SP.val (Val.move rfl) rfl rfl rfl ?_
                                obtain ⟨t84, hg_t84, ho⟩ := bind_some ho
                                refine SP.join 7 (fun a w2 => Env ⟨164, []⟩ [(1, .int .i64 28), (2, .int .i64 29), (3, .int .i64 31), (4, .int .i64 26), (5, .int .i64 27), (6, .int .i64 0), (128, .bool t84)] a ∧ St w em hV [arrP k_arr88 0 tab0] [slO k_api_Instr 52 v73 t72, slO (kInt .i64) 3 v70 [26, 1, 31, 0], slO (kInt .i64) 3 v13 t12.1, slO (kInt .i64) 3 v10 t9.1, slO k_flow_Loop 40 v7 t6.1, slO k_api_Instr 52 v4 t3, slO (kInt .i64) 3 v1 [28, 3, 0, 0, 29, 0, 31, 0]] w2) ?_ ?_
                                · rintro a w2 ⟨ha, hw⟩
                                  refine SP.app ha hw ?_
                                  clear ha hw a w2 hg_t84
                                  refine SP.val (Val.move rfl) rfl rfl rfl ?_
                                  obtain ⟨t93, hg_t93, ho⟩ := bind_some ho
                                  refine SP.join 7 (fun a w2 => Env ⟨164, []⟩ [(1, .int .i64 28), (2, .int .i64 29), (3, .int .i64 31), (4, .int .i64 26), (5, .int .i64 27), (6, .int .i64 0), (136, .bool t93)] a ∧ St w em hV [arrP k_arr88 0 tab0] [slO k_api_Instr 52 v73 t72, slO (kInt .i64) 3 v70 [26, 1, 31, 0], slO (kInt .i64) 3 v13 t12.1, slO (kInt .i64) 3 v10 t9.1, slO k_flow_Loop 40 v7 t6.1, slO k_api_Instr 52 v4 t3, slO (kInt .i64) 3 v1 [28, 3, 0, 0, 29, 0, 31, 0]] w2) ?_ ?_
                                  · rintro a w2 ⟨ha, hw⟩
                                    refine SP.app ha hw ?_
                                    clear ha hw a w2 hg_t93
                                    refine SP.val (Val.move rfl) rfl rfl rfl ?_
                                    obtain ⟨t102, hg_t102, ho⟩ := bind_some ho
                                    refine SP.join 9 (fun a w2 => Env ⟨164, []⟩ [(1, .int .i64 28), (2, .int .i64 29), (3, .int .i64 31), (4, .int .i64 26), (6, .int .i64 0), (146, .bool t102)] a ∧ St w em hV [arrP k_arr88 0 tab0] [slO k_api_Instr 52 v73 t72, slO (kInt .i64) 3 v70 [26, 1, 31, 0], slO (kInt .i64) 3 v13 t12.1, slO (kInt .i64) 3 v10 t9.1, slO k_flow_Loop 40 v7 t6.1, slO k_api_Instr 52 v4 t3, slO (kInt .i64) 3 v1 [28, 3, 0, 0, 29, 0, 31, 0]] w2) ?_ ?_
                                    · rintro a w2 ⟨ha, hw⟩
                                      refine SP.app ha hw ?_
                                      clear ha hw a w2 hg_t102
                                      refine SP.val (Val.move rfl) rfl rfl rfl ?_
                                      obtain ⟨t111, hg_t111, ho⟩ := bind_some ho
                                      refine SP.join 9 (fun a w2 => Env ⟨164, []⟩ [(6, .int .i64 0), (156, .bool t111)] a ∧ St w em hV [arrP k_arr88 0 tab0] [slO k_api_Instr 52 v73 t72, slO (kInt .i64) 3 v70 [26, 1, 31, 0], slO (kInt .i64) 3 v13 t12.1, slO (kInt .i64) 3 v10 t9.1, slO k_flow_Loop 40 v7 t6.1, slO k_api_Instr 52 v4 t3, slO (kInt .i64) 3 v1 [28, 3, 0, 0, 29, 0, 31, 0]] w2) ?_ ?_
                                      · rintro a w2 ⟨ha, hw⟩
                                        refine SP.app ha hw ?_
                                        clear ha hw a w2 hg_t111
                                        refine SP.val (Val.move rfl) rfl rfl rfl ?_
                                        obtain ⟨t120, hg_t120, ho⟩ := bind_some ho
                                        refine SP.join 6 (fun a w2 => Env ⟨164, []⟩ [(163, .bool t120)] a ∧ St w em hV [arrP k_arr88 0 tab0] [slO k_api_Instr 52 v73 t72, slO (kInt .i64) 3 v70 [26, 1, 31, 0], slO (kInt .i64) 3 v13 t12.1, slO (kInt .i64) 3 v10 t9.1, slO k_flow_Loop 40 v7 t6.1, slO k_api_Instr 52 v4 t3, slO (kInt .i64) 3 v1 [28, 3, 0, 0, 29, 0, 31, 0]] w2) ?_ ?_
                                        · rintro a w2 ⟨ha, hw⟩
                                          refine SP.app ha hw ?_
                                          clear ha hw a w2 hg_t120
                                          refine SP.val (Val.assign rfl) rfl rfl rfl ?_
                                          refine SP.nil ?_
                                          refine QE.then ?_
                                          refine CP.ret ?_
                                          obtain rfl := Option.some.inj ho
                                          exact QE.rets (rs := [.tmp 0]) (vs := [.bool t120]) Tryd.results18 rfl ⟨RVs.tmp rfl, trivial⟩ (fun w2 h => St.done (fun a b p s => rfl) h)
                                        · intro J
                                          clear ho
                                          have ho := hg_t120
                                          clear hg_t120
                                          rcases if_some ho with ⟨hc, ho⟩ | ⟨hc, ho⟩
                                          · have hq113 := hc
                                            refine SP.isT (d := 157) rfl hq113 ?_
                                            refine SP.val (Val.move rfl) rfl rfl rfl ?_
                                            refine SP.lit (k := (kInt .i64)) (xs := [0, 0]) (vs := [.int .i64 0, .int .i64 0]) (cells := [.int .i64 0, .int .i64 0]) Tryd.underlying27 inf3 rfl rfl rfl rfl rfl rfl rfl rfl (fun _ ap => ⟨[.int .i64 0], _, rfl, rfl, ⟨[.int .i64 0], _, rfl, rfl, rfl⟩⟩) rfl rfl rfl (fun v114 => ?_)
                                            obtain ⟨t116, hc, ho⟩ := bind_some (x := capstanlaw09_row.f [0, 0]) ho
                                            refine SP.callKO see (caps := []) _ fn40 rfl rfl rfl rfl (fun w2 hs => capstanlaw09_row.ok [0, 0] _ _ hc w2 (hp w2) (Sub.refl _) (slO.read (St.own 0 rfl see.sub see.dj hs) (Sub.refl _) (Sub.refl _))) (fun v a a2 b ⟨v117, e, h⟩ => ⟨v117, e, (Sep.fcons (fun _ => slO.flip (fun _ _ _ _ h => h)) (fun _ => Sep.fnil)) h⟩) (fun vr => ?_)
                                            refine SP.ex (fun w2 h => St.open h) (fun v117 => ?_)
                                            refine SP.have (fun w2 h => (St.pand h).1.symm) (fun er => ?_)
                                            subst er
                                            refine SP.imp (fun w2 h => St.seps (St.pand h).2) ?_
                                            clear hc
                                            obtain ⟨t119, hc, ho⟩ := bind_some (x := flow_Check.f t116) ho
                                            refine SP.callVO see (caps := []) (.int .i64 t119) fn13 rfl rfl rfl rfl (fun w2 hs => flow_Check.ok t116 _ _ hc w2 (hp w2) (Sub.refl _) (slO.read (St.own 0 rfl see.sub see.dj hs) (Sub.refl _) (Sub.refl _)) ((St.pers 0 rfl see.sub see.dj hs))) ?_
                                            clear hc
                                            refine SP.val (Val.eql rfl rfl) rfl rfl rfl ?_
                                            refine SP.val (Val.pickT rfl rfl) rfl rfl rfl ?_
                                            obtain rfl := Option.some.inj ho
                                            exact J fun a w2 ha hw => ⟨ha.sub ⟨rfl, trivial⟩, (St.selO [2, 3, 4, 5, 6, 7, 8] rfl rfl hw)⟩
                                          · have hq113 := (bf hc)
                                            refine SP.isF (d := 157) rfl hq113 ?_
                                            refine SP.not rfl rfl rfl ?_
                                            refine SP.not rfl rfl rfl ?_
                                            refine SP.not rfl rfl rfl ?_
                                            refine SP.not rfl rfl rfl ?_
                                            refine SP.not rfl rfl rfl ?_
                                            refine SP.val (Val.pickF rfl rfl) rfl rfl rfl ?_
                                            obtain rfl := Option.some.inj ho
                                            exact J fun a w2 ha hw => ⟨ha.sub ⟨rfl, trivial⟩, hw⟩
                                      · intro J
                                        clear ho
                                        have ho := hg_t111
                                        clear hg_t111
                                        rcases if_some ho with ⟨hc, ho⟩ | ⟨hc, ho⟩
                                        · have hq104 := hc
                                          refine SP.isT (d := 147) rfl hq104 ?_
                                          refine SP.val (Val.move rfl) rfl rfl rfl ?_
                                          refine SP.val (Val.move rfl) rfl rfl rfl ?_
                                          refine SP.val (Val.move rfl) rfl rfl rfl ?_
                                          refine SP.val (Val.move rfl) rfl rfl rfl ?_
                                          refine SP.lit (k := (kInt .i64)) (xs := [28, 3, 26, 3, 29, 0, 31, 0]) (vs := [.int .i64 28, .int .i64 3, .int .i64 26, .int .i64 3, .int .i64 29, .int .i64 0, .int .i64 31, .int .i64 0]) (cells := [.int .i64 28, .int .i64 3, .int .i64 26, .int .i64 3, .int .i64 29, .int .i64 0, .int .i64 31, .int .i64 0]) Tryd.underlying27 inf3 rfl rfl rfl rfl rfl rfl rfl rfl (fun _ ap => ⟨[.int .i64 28], _, rfl, rfl, ⟨[.int .i64 3], _, rfl, rfl, ⟨[.int .i64 26], _, rfl, rfl, ⟨[.int .i64 3], _, rfl, rfl, ⟨[.int .i64 29], _, rfl, rfl, ⟨[.int .i64 0], _, rfl, rfl, ⟨[.int .i64 31], _, rfl, rfl, ⟨[.int .i64 0], _, rfl, rfl, rfl⟩⟩⟩⟩⟩⟩⟩⟩) rfl rfl rfl (fun v105 => ?_)
                                          obtain ⟨t107, hc, ho⟩ := bind_some (x := capstanlaw09_row.f [28, 3, 26, 3, 29, 0, 31, 0]) ho
                                          refine SP.callKO see (caps := []) _ fn40 rfl rfl rfl rfl (fun w2 hs => capstanlaw09_row.ok [28, 3, 26, 3, 29, 0, 31, 0] _ _ hc w2 (hp w2) (Sub.refl _) (slO.read (St.own 0 rfl see.sub see.dj hs) (Sub.refl _) (Sub.refl _))) (fun v a a2 b ⟨v108, e, h⟩ => ⟨v108, e, (Sep.fcons (fun _ => slO.flip (fun _ _ _ _ h => h)) (fun _ => Sep.fnil)) h⟩) (fun vr => ?_)
                                          refine SP.ex (fun w2 h => St.open h) (fun v108 => ?_)
                                          refine SP.have (fun w2 h => (St.pand h).1.symm) (fun er => ?_)
                                          subst er
                                          refine SP.imp (fun w2 h => St.seps (St.pand h).2) ?_
                                          clear hc
                                          obtain ⟨t110, hc, ho⟩ := bind_some (x := flow_Check.f t107) ho
                                          refine SP.callVO see (caps := []) (.int .i64 t110) fn13 rfl rfl rfl rfl (fun w2 hs => flow_Check.ok t107 _ _ hc w2 (hp w2) (Sub.refl _) (slO.read (St.own 0 rfl see.sub see.dj hs) (Sub.refl _) (Sub.refl _)) ((St.pers 0 rfl see.sub see.dj hs))) ?_
                                          clear hc
                                          refine SP.val (Val.eql rfl rfl) rfl rfl rfl ?_
                                          refine SP.val (Val.pickT rfl rfl) rfl rfl rfl ?_
                                          obtain rfl := Option.some.inj ho
                                          exact J fun a w2 ha hw => ⟨ha.sub ⟨rfl, rfl, trivial⟩, (St.selO [2, 3, 4, 5, 6, 7, 8] rfl rfl hw)⟩
                                        · have hq104 := (bf hc)
                                          refine SP.isF (d := 147) rfl hq104 ?_
                                          refine SP.not rfl rfl rfl ?_
                                          refine SP.not rfl rfl rfl ?_
                                          refine SP.not rfl rfl rfl ?_
                                          refine SP.not rfl rfl rfl ?_
                                          refine SP.not rfl rfl rfl ?_
                                          refine SP.not rfl rfl rfl ?_
                                          refine SP.not rfl rfl rfl ?_
                                          refine SP.not rfl rfl rfl ?_
                                          refine SP.val (Val.pickF rfl rfl) rfl rfl rfl ?_
                                          obtain rfl := Option.some.inj ho
                                          exact J fun a w2 ha hw => ⟨ha.sub ⟨rfl, rfl, trivial⟩, hw⟩
                                    · intro J
                                      clear ho
                                      have ho := hg_t102
                                      clear hg_t102
                                      rcases if_some ho with ⟨hc, ho⟩ | ⟨hc, ho⟩
                                      · have hq95 := hc
                                        refine SP.isT (d := 137) rfl hq95 ?_
                                        refine SP.val (Val.move rfl) rfl rfl rfl ?_
                                        refine SP.val (Val.move rfl) rfl rfl rfl ?_
                                        refine SP.val (Val.move rfl) rfl rfl rfl ?_
                                        refine SP.val (Val.move rfl) rfl rfl rfl ?_
                                        refine SP.lit (k := (kInt .i64)) (xs := [27, 2, 28, 3, 29, 1, 31, 0]) (vs := [.int .i64 27, .int .i64 2, .int .i64 28, .int .i64 3, .int .i64 29, .int .i64 1, .int .i64 31, .int .i64 0]) (cells := [.int .i64 27, .int .i64 2, .int .i64 28, .int .i64 3, .int .i64 29, .int .i64 1, .int .i64 31, .int .i64 0]) Tryd.underlying27 inf3 rfl rfl rfl rfl rfl rfl rfl rfl (fun _ ap => ⟨[.int .i64 27], _, rfl, rfl, ⟨[.int .i64 2], _, rfl, rfl, ⟨[.int .i64 28], _, rfl, rfl, ⟨[.int .i64 3], _, rfl, rfl, ⟨[.int .i64 29], _, rfl, rfl, ⟨[.int .i64 1], _, rfl, rfl, ⟨[.int .i64 31], _, rfl, rfl, ⟨[.int .i64 0], _, rfl, rfl, rfl⟩⟩⟩⟩⟩⟩⟩⟩) rfl rfl rfl (fun v96 => ?_)
                                        obtain ⟨t98, hc, ho⟩ := bind_some (x := capstanlaw09_row.f [27, 2, 28, 3, 29, 1, 31, 0]) ho
                                        refine SP.callKO see (caps := []) _ fn40 rfl rfl rfl rfl (fun w2 hs => capstanlaw09_row.ok [27, 2, 28, 3, 29, 1, 31, 0] _ _ hc w2 (hp w2) (Sub.refl _) (slO.read (St.own 0 rfl see.sub see.dj hs) (Sub.refl _) (Sub.refl _))) (fun v a a2 b ⟨v99, e, h⟩ => ⟨v99, e, (Sep.fcons (fun _ => slO.flip (fun _ _ _ _ h => h)) (fun _ => Sep.fnil)) h⟩) (fun vr => ?_)
                                        refine SP.ex (fun w2 h => St.open h) (fun v99 => ?_)
                                        refine SP.have (fun w2 h => (St.pand h).1.symm) (fun er => ?_)
                                        subst er
                                        refine SP.imp (fun w2 h => St.seps (St.pand h).2) ?_
                                        clear hc
                                        obtain ⟨t101, hc, ho⟩ := bind_some (x := flow_Check.f t98) ho
                                        refine SP.callVO see (caps := []) (.int .i64 t101) fn13 rfl rfl rfl rfl (fun w2 hs => flow_Check.ok t98 _ _ hc w2 (hp w2) (Sub.refl _) (slO.read (St.own 0 rfl see.sub see.dj hs) (Sub.refl _) (Sub.refl _)) ((St.pers 0 rfl see.sub see.dj hs))) ?_
                                        clear hc
                                        refine SP.val (Val.eql rfl rfl) rfl rfl rfl ?_
                                        refine SP.val (Val.pickT rfl rfl) rfl rfl rfl ?_
                                        obtain rfl := Option.some.inj ho
                                        exact J fun a w2 ha hw => ⟨ha.sub ⟨rfl, rfl, rfl, rfl, rfl, rfl, trivial⟩, (St.selO [2, 3, 4, 5, 6, 7, 8] rfl rfl hw)⟩
                                      · have hq95 := (bf hc)
                                        refine SP.isF (d := 137) rfl hq95 ?_
                                        refine SP.not rfl rfl rfl ?_
                                        refine SP.not rfl rfl rfl ?_
                                        refine SP.not rfl rfl rfl ?_
                                        refine SP.not rfl rfl rfl ?_
                                        refine SP.not rfl rfl rfl ?_
                                        refine SP.not rfl rfl rfl ?_
                                        refine SP.not rfl rfl rfl ?_
                                        refine SP.not rfl rfl rfl ?_
                                        refine SP.val (Val.pickF rfl rfl) rfl rfl rfl ?_
                                        obtain rfl := Option.some.inj ho
                                        exact J fun a w2 ha hw => ⟨ha.sub ⟨rfl, rfl, rfl, rfl, rfl, rfl, trivial⟩, hw⟩
                                  · intro J
                                    clear ho
                                    have ho := hg_t93
                                    clear hg_t93
                                    rcases if_some ho with ⟨hc, ho⟩ | ⟨hc, ho⟩
                                    · have hq86 := hc
                                      refine SP.isT (d := 129) rfl hq86 ?_
                                      refine SP.val (Val.move rfl) rfl rfl rfl ?_
                                      refine SP.val (Val.move rfl) rfl rfl rfl ?_
                                      refine SP.lit (k := (kInt .i64)) (xs := [26, 2, 31, 0]) (vs := [.int .i64 26, .int .i64 2, .int .i64 31, .int .i64 0]) (cells := [.int .i64 26, .int .i64 2, .int .i64 31, .int .i64 0]) Tryd.underlying27 inf3 rfl rfl rfl rfl rfl rfl rfl rfl (fun _ ap => ⟨[.int .i64 26], _, rfl, rfl, ⟨[.int .i64 2], _, rfl, rfl, ⟨[.int .i64 31], _, rfl, rfl, ⟨[.int .i64 0], _, rfl, rfl, rfl⟩⟩⟩⟩) rfl rfl rfl (fun v87 => ?_)
                                      obtain ⟨t89, hc, ho⟩ := bind_some (x := capstanlaw09_row.f [26, 2, 31, 0]) ho
                                      refine SP.callKO see (caps := []) _ fn40 rfl rfl rfl rfl (fun w2 hs => capstanlaw09_row.ok [26, 2, 31, 0] _ _ hc w2 (hp w2) (Sub.refl _) (slO.read (St.own 0 rfl see.sub see.dj hs) (Sub.refl _) (Sub.refl _))) (fun v a a2 b ⟨v90, e, h⟩ => ⟨v90, e, (Sep.fcons (fun _ => slO.flip (fun _ _ _ _ h => h)) (fun _ => Sep.fnil)) h⟩) (fun vr => ?_)
                                      refine SP.ex (fun w2 h => St.open h) (fun v90 => ?_)
                                      refine SP.have (fun w2 h => (St.pand h).1.symm) (fun er => ?_)
                                      subst er
                                      refine SP.imp (fun w2 h => St.seps (St.pand h).2) ?_
                                      clear hc
                                      obtain ⟨t92, hc, ho⟩ := bind_some (x := flow_Check.f t89) ho
                                      refine SP.callVO see (caps := []) (.int .i64 t92) fn13 rfl rfl rfl rfl (fun w2 hs => flow_Check.ok t89 _ _ hc w2 (hp w2) (Sub.refl _) (slO.read (St.own 0 rfl see.sub see.dj hs) (Sub.refl _) (Sub.refl _)) ((St.pers 0 rfl see.sub see.dj hs))) ?_
                                      clear hc
                                      refine SP.val (Val.eql rfl rfl) rfl rfl rfl ?_
                                      refine SP.val (Val.pickT rfl rfl) rfl rfl rfl ?_
                                      obtain rfl := Option.some.inj ho
                                      exact J fun a w2 ha hw => ⟨ha.sub ⟨rfl, rfl, rfl, rfl, rfl, rfl, rfl, trivial⟩, (St.selO [2, 3, 4, 5, 6, 7, 8] rfl rfl hw)⟩
                                    · have hq86 := (bf hc)
                                      refine SP.isF (d := 129) rfl hq86 ?_
                                      refine SP.not rfl rfl rfl ?_
                                      refine SP.not rfl rfl rfl ?_
                                      refine SP.not rfl rfl rfl ?_
                                      refine SP.not rfl rfl rfl ?_
                                      refine SP.not rfl rfl rfl ?_
                                      refine SP.not rfl rfl rfl ?_
                                      refine SP.val (Val.pickF rfl rfl) rfl rfl rfl ?_
                                      obtain rfl := Option.some.inj ho
                                      exact J fun a w2 ha hw => ⟨ha.sub ⟨rfl, rfl, rfl, rfl, rfl, rfl, rfl, trivial⟩, hw⟩
                                · intro J
                                  clear ho
                                  have ho := hg_t84
                                  clear hg_t84
                                  rcases if_some ho with ⟨hc, ho⟩ | ⟨hc, ho⟩
                                  · have hq77 := (decide_eq_true hc)
                                    refine SP.isT (d := 121) rfl hq77 ?_
                                    refine SP.val (Val.move rfl) rfl rfl rfl ?_
                                    refine SP.val (Val.move rfl) rfl rfl rfl ?_
                                    refine SP.lit (k := (kInt .i64)) (xs := [26, 0, 31, 0]) (vs := [.int .i64 26, .int .i64 0, .int .i64 31, .int .i64 0]) (cells := [.int .i64 26, .int .i64 0, .int .i64 31, .int .i64 0]) Tryd.underlying27 inf3 rfl rfl rfl rfl rfl rfl rfl rfl (fun _ ap => ⟨[.int .i64 26], _, rfl, rfl, ⟨[.int .i64 0], _, rfl, rfl, ⟨[.int .i64 31], _, rfl, rfl, ⟨[.int .i64 0], _, rfl, rfl, rfl⟩⟩⟩⟩) rfl rfl rfl (fun v78 => ?_)
                                    obtain ⟨t80, hc, ho⟩ := bind_some (x := capstanlaw09_row.f [26, 0, 31, 0]) ho
                                    refine SP.callKO see (caps := []) _ fn40 rfl rfl rfl rfl (fun w2 hs => capstanlaw09_row.ok [26, 0, 31, 0] _ _ hc w2 (hp w2) (Sub.refl _) (slO.read (St.own 0 rfl see.sub see.dj hs) (Sub.refl _) (Sub.refl _))) (fun v a a2 b ⟨v81, e, h⟩ => ⟨v81, e, (Sep.fcons (fun _ => slO.flip (fun _ _ _ _ h => h)) (fun _ => Sep.fnil)) h⟩) (fun vr => ?_)
                                    refine SP.ex (fun w2 h => St.open h) (fun v81 => ?_)
                                    refine SP.have (fun w2 h => (St.pand h).1.symm) (fun er => ?_)
                                    subst er
                                    refine SP.imp (fun w2 h => St.seps (St.pand h).2) ?_
                                    clear hc
                                    obtain ⟨t83, hc, ho⟩ := bind_some (x := flow_Check.f t80) ho
                                    refine SP.callVO see (caps := []) (.int .i64 t83) fn13 rfl rfl rfl rfl (fun w2 hs => flow_Check.ok t80 _ _ hc w2 (hp w2) (Sub.refl _) (slO.read (St.own 0 rfl see.sub see.dj hs) (Sub.refl _) (Sub.refl _)) ((St.pers 0 rfl see.sub see.dj hs))) ?_
                                    clear hc
                                    refine SP.val (Val.eql rfl rfl) rfl rfl rfl ?_
                                    refine SP.val (Val.pickT rfl rfl) rfl rfl rfl ?_
                                    obtain rfl := Option.some.inj ho
                                    exact J fun a w2 ha hw => ⟨ha.sub ⟨rfl, rfl, rfl, rfl, rfl, rfl, rfl, trivial⟩, (St.selO [2, 3, 4, 5, 6, 7, 8] rfl rfl hw)⟩
                                  · have hq77 := (decide_eq_false hc)
                                    refine SP.isF (d := 121) rfl hq77 ?_
                                    refine SP.not rfl rfl rfl ?_
                                    refine SP.not rfl rfl rfl ?_
                                    refine SP.not rfl rfl rfl ?_
                                    refine SP.not rfl rfl rfl ?_
                                    refine SP.not rfl rfl rfl ?_
                                    refine SP.not rfl rfl rfl ?_
                                    refine SP.val (Val.pickF rfl rfl) rfl rfl rfl ?_
                                    obtain rfl := Option.some.inj ho
                                    exact J fun a w2 ha hw => ⟨ha.sub ⟨rfl, rfl, rfl, rfl, rfl, rfl, rfl, trivial⟩, hw⟩
                            · intro J
                              clear ho
                              have ho := hg_t69
                              clear hg_t69
                              rcases if_some ho with ⟨hc, ho⟩ | ⟨hc, ho⟩
                              · have hq66 := hc
                                refine SP.isT (d := 109) rfl hq66 ?_
                                refine SP.not rfl rfl rfl ?_
                                refine SP.not rfl rfl rfl ?_
                                refine SP.not rfl rfl rfl ?_
                                refine SP.not rfl rfl rfl ?_
                                refine SP.val (Val.pickT rfl rfl) rfl rfl rfl ?_
                                obtain rfl := Option.some.inj ho
                                exact J fun a w2 ha hw => ⟨ha.sub ⟨rfl, rfl, rfl, rfl, rfl, rfl, rfl, trivial⟩, hw⟩
                              · have hq66 := (bf hc)
                                refine SP.isF (d := 109) rfl hq66 ?_
                                refine SP.val (Val.move rfl) rfl rfl rfl ?_
                                obtain ⟨x68, hx_x68, ho⟩ := bind_some ho
                                have hx_x68 := elt_some hx_x68
                                refine SP.indexW (fun w2 hw => slO.whole (St.own 0 rfl see.sub see.dj hw)) Tryd.underlying27 sz3 hx_x68.1 hx_x68.2 rfl rfl rfl rfl (fun p67 h_p67 => ?_)
                                refine SP.val (Val.loadW1 (off := 0) (k := (kInt .i64)) (fun w2 hw => slO.whole (St.own 0 rfl see.sub see.dj hw)) hx_x68.2 h_p67 (fun _ _ e => by subst e; rfl) Tryd.underlying3 rfl rfl) rfl rfl rfl ?_
                                refine SP.val (Val.neq rfl rfl) rfl rfl rfl ?_
                                refine SP.val (Val.pickF rfl rfl) rfl rfl rfl ?_
                                obtain rfl := Option.some.inj ho
                                exact J fun a w2 ha hw => ⟨ha.sub ⟨rfl, rfl, rfl, rfl, rfl, rfl, rfl, trivial⟩, hw⟩
                          · intro J
                            clear ho
                            have ho := hg_t64
                            clear hg_t64
                            rcases if_some ho with ⟨hc, ho⟩ | ⟨hc, ho⟩
                            · have hq61 := hc
                              refine SP.isT (d := 103) rfl hq61 ?_
                              refine SP.not rfl rfl rfl ?_
                              refine SP.not rfl rfl rfl ?_
                              refine SP.not rfl rfl rfl ?_
                              refine SP.not rfl rfl rfl ?_
                              refine SP.val (Val.pickT rfl rfl) rfl rfl rfl ?_
                              obtain rfl := Option.some.inj ho
                              exact J fun a w2 ha hw => ⟨ha.sub ⟨rfl, rfl, rfl, rfl, rfl, rfl, rfl, rfl, trivial⟩, hw⟩
                            · have hq61 := (bf hc)
                              refine SP.isF (d := 103) rfl hq61 ?_
                              refine SP.val (Val.move rfl) rfl rfl rfl ?_
                              obtain ⟨x63, hx_x63, ho⟩ := bind_some ho
                              have hx_x63 := elt_some hx_x63
                              refine SP.indexW (fun w2 hw => slO.whole (St.own 0 rfl see.sub see.dj hw)) Tryd.underlying27 sz3 hx_x63.1 hx_x63.2 rfl rfl rfl rfl (fun p62 h_p62 => ?_)
                              refine SP.val (Val.loadW1 (off := 0) (k := (kInt .i64)) (fun w2 hw => slO.whole (St.own 0 rfl see.sub see.dj hw)) hx_x63.2 h_p62 (fun _ _ e => by subst e; rfl) Tryd.underlying3 rfl rfl) rfl rfl rfl ?_
                              refine SP.val (Val.neq rfl rfl) rfl rfl rfl ?_
                              refine SP.val (Val.pickF rfl rfl) rfl rfl rfl ?_
                              obtain rfl := Option.some.inj ho
                              exact J fun a w2 ha hw => ⟨ha.sub ⟨rfl, rfl, rfl, rfl, rfl, rfl, rfl, rfl, trivial⟩, hw⟩
                        · intro J
                          clear ho
                          have ho := hg_t59
                          clear hg_t59
                          rcases if_some ho with ⟨hc, ho⟩ | ⟨hc, ho⟩
                          · have hq56 := hc
                            refine SP.isT (d := 97) rfl hq56 ?_
                            refine SP.not rfl rfl rfl ?_
                            refine SP.not rfl rfl rfl ?_
                            refine SP.not rfl rfl rfl ?_
                            refine SP.not rfl rfl rfl ?_
                            refine SP.val (Val.pickT rfl rfl) rfl rfl rfl ?_
                            obtain rfl := Option.some.inj ho
                            exact J fun a w2 ha hw => ⟨ha.sub ⟨rfl, rfl, rfl, rfl, rfl, rfl, rfl, rfl, trivial⟩, hw⟩
                          · have hq56 := (bf hc)
                            refine SP.isF (d := 97) rfl hq56 ?_
                            refine SP.val (Val.move rfl) rfl rfl rfl ?_
                            obtain ⟨x58, hx_x58, ho⟩ := bind_some ho
                            have hx_x58 := elt_some hx_x58
                            refine SP.indexW (fun w2 hw => slO.whole (St.own 1 rfl see.sub see.dj hw)) Tryd.underlying27 sz3 hx_x58.1 hx_x58.2 rfl rfl rfl rfl (fun p57 h_p57 => ?_)
                            refine SP.val (Val.loadW1 (off := 0) (k := (kInt .i64)) (fun w2 hw => slO.whole (St.own 1 rfl see.sub see.dj hw)) hx_x58.2 h_p57 (fun _ _ e => by subst e; rfl) Tryd.underlying3 rfl rfl) rfl rfl rfl ?_
                            refine SP.val (Val.neq rfl rfl) rfl rfl rfl ?_
                            refine SP.val (Val.pickF rfl rfl) rfl rfl rfl ?_
                            obtain rfl := Option.some.inj ho
                            exact J fun a w2 ha hw => ⟨ha.sub ⟨rfl, rfl, rfl, rfl, rfl, rfl, rfl, rfl, trivial⟩, hw⟩
                      · intro J
                        clear ho
                        have ho := hg_t54
                        clear hg_t54
                        rcases if_some ho with ⟨hc, ho⟩ | ⟨hc, ho⟩
                        · have hq51 := hc
                          refine SP.isT (d := 91) rfl hq51 ?_
                          refine SP.not rfl rfl rfl ?_
                          refine SP.not rfl rfl rfl ?_
                          refine SP.not rfl rfl rfl ?_
                          refine SP.not rfl rfl rfl ?_
                          refine SP.val (Val.pickT rfl rfl) rfl rfl rfl ?_
                          obtain rfl := Option.some.inj ho
                          exact J fun a w2 ha hw => ⟨ha.sub ⟨rfl, rfl, rfl, rfl, rfl, rfl, rfl, rfl, rfl, trivial⟩, hw⟩
                        · have hq51 := (bf hc)
                          refine SP.isF (d := 91) rfl hq51 ?_
                          refine SP.val (Val.move rfl) rfl rfl rfl ?_
                          obtain ⟨x53, hx_x53, ho⟩ := bind_some ho
                          have hx_x53 := elt_some hx_x53
                          refine SP.indexW (fun w2 hw => slO.whole (St.own 1 rfl see.sub see.dj hw)) Tryd.underlying27 sz3 hx_x53.1 hx_x53.2 rfl rfl rfl rfl (fun p52 h_p52 => ?_)
                          refine SP.val (Val.loadW1 (off := 0) (k := (kInt .i64)) (fun w2 hw => slO.whole (St.own 1 rfl see.sub see.dj hw)) hx_x53.2 h_p52 (fun _ _ e => by subst e; rfl) Tryd.underlying3 rfl rfl) rfl rfl rfl ?_
                          refine SP.val (Val.neq rfl rfl) rfl rfl rfl ?_
                          refine SP.val (Val.pickF rfl rfl) rfl rfl rfl ?_
                          obtain rfl := Option.some.inj ho
                          exact J fun a w2 ha hw => ⟨ha.sub ⟨rfl, rfl, rfl, rfl, rfl, rfl, rfl, rfl, rfl, trivial⟩, hw⟩
                    · intro J
                      clear ho
                      have ho := hg_t49
                      clear hg_t49
                      rcases if_some ho with ⟨hc, ho⟩ | ⟨hc, ho⟩
                      · have hq46 := hc
                        refine SP.isT (d := 85) rfl hq46 ?_
                        refine SP.not rfl rfl rfl ?_
                        refine SP.not rfl rfl rfl ?_
                        refine SP.not rfl rfl rfl ?_
                        refine SP.not rfl rfl rfl ?_
                        refine SP.val (Val.pickT rfl rfl) rfl rfl rfl ?_
                        obtain rfl := Option.some.inj ho
                        exact J fun a w2 ha hw => ⟨ha.sub ⟨rfl, rfl, rfl, rfl, rfl, rfl, rfl, rfl, rfl, trivial⟩, hw⟩
                      · have hq46 := (bf hc)
                        refine SP.isF (d := 85) rfl hq46 ?_
                        refine SP.val (Val.move rfl) rfl rfl rfl ?_
                        obtain ⟨x48, hx_x48, ho⟩ := bind_some ho
                        have hx_x48 := elt_some hx_x48
                        refine SP.indexW (fun w2 hw => slO.whole (St.own 1 rfl see.sub see.dj hw)) Tryd.underlying27 sz3 hx_x48.1 hx_x48.2 rfl rfl rfl rfl (fun p47 h_p47 => ?_)
                        refine SP.val (Val.loadW1 (off := 0) (k := (kInt .i64)) (fun w2 hw => slO.whole (St.own 1 rfl see.sub see.dj hw)) hx_x48.2 h_p47 (fun _ _ e => by subst e; rfl) Tryd.underlying3 rfl rfl) rfl rfl rfl ?_
                        refine SP.val (Val.neq rfl rfl) rfl rfl rfl ?_
                        refine SP.val (Val.pickF rfl rfl) rfl rfl rfl ?_
                        obtain rfl := Option.some.inj ho
                        exact J fun a w2 ha hw => ⟨ha.sub ⟨rfl, rfl, rfl, rfl, rfl, rfl, rfl, rfl, rfl, trivial⟩, hw⟩
                  · intro J
                    clear ho
                    have ho := hg_t44
                    clear hg_t44
                    rcases if_some ho with ⟨hc, ho⟩ | ⟨hc, ho⟩
                    · have hq41 := hc
                      refine SP.isT (d := 79) rfl hq41 ?_
                      refine SP.not rfl rfl rfl ?_
                      refine SP.not rfl rfl rfl ?_
                      refine SP.not rfl rfl rfl ?_
                      refine SP.not rfl rfl rfl ?_
                      refine SP.val (Val.pickT rfl rfl) rfl rfl rfl ?_
                      obtain rfl := Option.some.inj ho
                      exact J fun a w2 ha hw => ⟨ha.sub ⟨rfl, rfl, rfl, rfl, rfl, rfl, rfl, rfl, rfl, trivial⟩, hw⟩
                    · have hq41 := (bf hc)
                      refine SP.isF (d := 79) rfl hq41 ?_
                      refine SP.val (Val.move rfl) rfl rfl rfl ?_
                      obtain ⟨x43, hx_x43, ho⟩ := bind_some ho
                      have hx_x43 := elt_some hx_x43
                      refine SP.indexW (fun w2 hw => slO.whole (St.own 1 rfl see.sub see.dj hw)) Tryd.underlying27 sz3 hx_x43.1 hx_x43.2 rfl rfl rfl rfl (fun p42 h_p42 => ?_)
                      refine SP.val (Val.loadW1 (off := 0) (k := (kInt .i64)) (fun w2 hw => slO.whole (St.own 1 rfl see.sub see.dj hw)) hx_x43.2 h_p42 (fun _ _ e => by subst e; rfl) Tryd.underlying3 rfl rfl) rfl rfl rfl ?_
                      refine SP.val (Val.neq rfl rfl) rfl rfl rfl ?_
                      refine SP.val (Val.pickF rfl rfl) rfl rfl rfl ?_
                      obtain rfl := Option.some.inj ho
                      exact J fun a w2 ha hw => ⟨ha.sub ⟨rfl, rfl, rfl, rfl, rfl, rfl, rfl, rfl, rfl, trivial⟩, hw⟩
                · intro J
                  clear ho
                  have ho := hg_t39
                  clear hg_t39
                  rcases if_some ho with ⟨hc, ho⟩ | ⟨hc, ho⟩
                  · have hq35 := hc
                    refine SP.isT (d := 72) rfl hq35 ?_
                    refine SP.not rfl rfl rfl ?_
                    refine SP.not rfl rfl rfl ?_
                    refine SP.not rfl rfl rfl ?_
                    refine SP.not rfl rfl rfl ?_
                    refine SP.not rfl rfl rfl ?_
                    refine SP.val (Val.pickT rfl rfl) rfl rfl rfl ?_
                    obtain rfl := Option.some.inj ho
                    exact J fun a w2 ha hw => ⟨ha.sub ⟨rfl, rfl, rfl, rfl, rfl, rfl, rfl, rfl, rfl, trivial⟩, hw⟩
                  · have hq35 := (bf hc)
                    refine SP.isF (d := 72) rfl hq35 ?_
                    refine SP.val (Val.move rfl) rfl rfl rfl ?_
                    obtain ⟨x37, hx_x37, ho⟩ := bind_some ho
                    have hx_x37 := elt_some hx_x37
                    refine SP.indexW (fun w2 hw => slO.whole (St.own 2 rfl see.sub see.dj hw)) Tryd.underlying30 sz40 hx_x37.1 hx_x37.2 rfl rfl rfl rfl (fun p36 h_p36 => ?_)
                    refine SP.fieldO h_p36 Tryd.underlying40 rfl sz3 rfl rfl rfl (fun p38 h_p38 => ?_)
                    refine SP.val (Val.loadW1 (off := 2) (k := k_flow_Loop) (fun w2 hw => slO.whole (St.own 2 rfl see.sub see.dj hw)) hx_x37.2 h_p38 (fun _ _ e => by subst e; rfl) Tryd.underlying3 rfl rfl) rfl rfl rfl ?_
                    refine SP.val (Val.neq rfl rfl) rfl rfl rfl ?_
                    refine SP.val (Val.pickF rfl rfl) rfl rfl rfl ?_
                    obtain rfl := Option.some.inj ho
                    exact J fun a w2 ha hw => ⟨ha.sub ⟨rfl, rfl, rfl, rfl, rfl, rfl, rfl, rfl, rfl, trivial⟩, hw⟩
              · intro J
                clear ho
                have ho := hg_t33
                clear hg_t33
                rcases if_some ho with ⟨hc, ho⟩ | ⟨hc, ho⟩
                · have hq29 := (decide_eq_true hc)
                  refine SP.isT (d := 65) rfl hq29 ?_
                  refine SP.not rfl rfl rfl ?_
                  refine SP.not rfl rfl rfl ?_
                  refine SP.not rfl rfl rfl ?_
                  refine SP.not rfl rfl rfl ?_
                  refine SP.not rfl rfl rfl ?_
                  refine SP.val (Val.pickT rfl rfl) rfl rfl rfl ?_
                  obtain rfl := Option.some.inj ho
                  exact J fun a w2 ha hw => ⟨ha.sub ⟨rfl, rfl, rfl, rfl, rfl, rfl, rfl, rfl, rfl, rfl, trivial⟩, hw⟩
                · have hq29 := (decide_eq_false hc)
                  refine SP.isF (d := 65) rfl hq29 ?_
                  refine SP.val (Val.move rfl) rfl rfl rfl ?_
                  obtain ⟨x31, hx_x31, ho⟩ := bind_some ho
                  have hx_x31 := elt_some hx_x31
                  refine SP.indexW (fun w2 hw => slO.whole (St.own 2 rfl see.sub see.dj hw)) Tryd.underlying30 sz40 hx_x31.1 hx_x31.2 rfl rfl rfl rfl (fun p30 h_p30 => ?_)
                  refine SP.fieldO h_p30 Tryd.underlying40 rfl sz3 rfl rfl rfl (fun p32 h_p32 => ?_)
                  refine SP.val (Val.loadW1 (off := 1) (k := k_flow_Loop) (fun w2 hw => slO.whole (St.own 2 rfl see.sub see.dj hw)) hx_x31.2 h_p32 (fun _ _ e => by subst e; rfl) Tryd.underlying3 rfl rfl) rfl rfl rfl ?_
                  refine SP.val (Val.neq rfl rfl) rfl rfl rfl ?_
                  refine SP.val (Val.pickF rfl rfl) rfl rfl rfl ?_
                  obtain rfl := Option.some.inj ho
                  exact J fun a w2 ha hw => ⟨ha.sub ⟨rfl, rfl, rfl, rfl, rfl, rfl, rfl, rfl, rfl, rfl, trivial⟩, hw⟩
          · intro J
            by_cases hc : (((((decide (t6.2 ≠ 0)) || (decide (t9.2 ≠ 0))) || (decide (t12.2 ≠ 0))) || (decide ((t6.1.length : Int) ≠ 1))) || (decide ((t9.1.length : Int) ≠ 4))) = true
            · have hq24 := hc
              refine SP.isT (d := 55) rfl hq24 ?_
              refine SP.not rfl rfl rfl ?_
              refine SP.not rfl rfl rfl ?_
              refine SP.not rfl rfl rfl ?_
              refine SP.val (Val.pickT rfl rfl) rfl rfl rfl ?_
              exact J fun a w2 ha hw => ⟨ha.sub ⟨rfl, rfl, rfl, rfl, rfl, rfl, rfl, rfl, rfl, congrArg (fun z => some (Value.bool z)) (or_t hq24), trivial⟩, hw⟩
            · have hq24 := (bf hc)
              refine SP.isF (d := 55) rfl hq24 ?_
              refine SP.val (Val.move rfl) rfl rfl rfl ?_
              refine SP.val (Val.lenW (fun w2 hw => slO.whole (St.own 0 rfl see.sub see.dj hw)) Tryd.underlying27 rfl) rfl rfl rfl ?_
              refine SP.val (Val.neq rfl rfl) rfl rfl rfl ?_
              refine SP.val (Val.pickF rfl rfl) rfl rfl rfl ?_
              exact J fun a w2 ha hw => ⟨ha.sub ⟨rfl, rfl, rfl, rfl, rfl, rfl, rfl, rfl, rfl, congrArg (fun z => some (Value.bool z)) (or_f hq24 rfl), trivial⟩, hw⟩
        · intro J
          by_cases hc : ((((decide (t6.2 ≠ 0)) || (decide (t9.2 ≠ 0))) || (decide (t12.2 ≠ 0))) || (decide ((t6.1.length : Int) ≠ 1))) = true
          · have hq22 := hc
            refine SP.isT (d := 50) rfl hq22 ?_
            refine SP.not rfl rfl rfl ?_
            refine SP.not rfl rfl rfl ?_
            refine SP.not rfl rfl rfl ?_
            refine SP.val (Val.pickT rfl rfl) rfl rfl rfl ?_
            exact J fun a w2 ha hw => ⟨ha.sub ⟨rfl, rfl, rfl, rfl, rfl, rfl, rfl, rfl, rfl, congrArg (fun z => some (Value.bool z)) (or_t hq22), trivial⟩, hw⟩
          · have hq22 := (bf hc)
            refine SP.isF (d := 50) rfl hq22 ?_
            refine SP.val (Val.move rfl) rfl rfl rfl ?_
            refine SP.val (Val.lenW (fun w2 hw => slO.whole (St.own 1 rfl see.sub see.dj hw)) Tryd.underlying27 rfl) rfl rfl rfl ?_
            refine SP.val (Val.neq rfl rfl) rfl rfl rfl ?_
            refine SP.val (Val.pickF rfl rfl) rfl rfl rfl ?_
            exact J fun a w2 ha hw => ⟨ha.sub ⟨rfl, rfl, rfl, rfl, rfl, rfl, rfl, rfl, rfl, congrArg (fun z => some (Value.bool z)) (or_f hq22 rfl), trivial⟩, hw⟩
      · intro J
        by_cases hc : (((decide (t6.2 ≠ 0)) || (decide (t9.2 ≠ 0))) || (decide (t12.2 ≠ 0))) = true
        · have hq20 := hc
          refine SP.isT (d := 45) rfl hq20 ?_
          refine SP.not rfl rfl rfl ?_
          refine SP.not rfl rfl rfl ?_
          refine SP.not rfl rfl rfl ?_
          refine SP.val (Val.pickT rfl rfl) rfl rfl rfl ?_
          exact J fun a w2 ha hw => ⟨ha.sub ⟨rfl, rfl, rfl, rfl, rfl, rfl, rfl, rfl, rfl, congrArg (fun z => some (Value.bool z)) (or_t hq20), trivial⟩, hw⟩
        · have hq20 := (bf hc)
          refine SP.isF (d := 45) rfl hq20 ?_
          refine SP.val (Val.move rfl) rfl rfl rfl ?_
          refine SP.val (Val.lenW (fun w2 hw => slO.whole (St.own 2 rfl see.sub see.dj hw)) Tryd.underlying30 rfl) rfl rfl rfl ?_
          refine SP.val (Val.neq rfl rfl) rfl rfl rfl ?_
          refine SP.val (Val.pickF rfl rfl) rfl rfl rfl ?_
          exact J fun a w2 ha hw => ⟨ha.sub ⟨rfl, rfl, rfl, rfl, rfl, rfl, rfl, rfl, rfl, congrArg (fun z => some (Value.bool z)) (or_f hq20 rfl), trivial⟩, hw⟩
    · intro J
      by_cases hc : ((decide (t6.2 ≠ 0)) || (decide (t9.2 ≠ 0))) = true
      · have hq18 := hc
        refine SP.isT (d := 41) rfl hq18 ?_
        refine SP.not rfl rfl rfl ?_
        refine SP.not rfl rfl rfl ?_
        refine SP.val (Val.pickT rfl rfl) rfl rfl rfl ?_
        exact J fun a w2 ha hw => ⟨ha.sub ⟨rfl, rfl, rfl, rfl, rfl, rfl, rfl, rfl, rfl, congrArg (fun z => some (Value.bool z)) (or_t hq18), trivial⟩, hw⟩
      · have hq18 := (bf hc)
        refine SP.isF (d := 41) rfl hq18 ?_
        refine SP.val (Val.move rfl) rfl rfl rfl ?_
        refine SP.val (Val.neq rfl rfl) rfl rfl rfl ?_
        refine SP.val (Val.pickF rfl rfl) rfl rfl rfl ?_
        exact J fun a w2 ha hw => ⟨ha.sub ⟨rfl, rfl, rfl, rfl, rfl, rfl, rfl, rfl, rfl, congrArg (fun z => some (Value.bool z)) (or_f hq18 rfl), trivial⟩, hw⟩
  · intro J
    by_cases hc : t6.2 ≠ 0
    · have hq16 := (decide_eq_true hc)
      refine SP.isT (d := 37) rfl hq16 ?_
      refine SP.not rfl rfl rfl ?_
      refine SP.not rfl rfl rfl ?_
      refine SP.val (Val.pickT rfl rfl) rfl rfl rfl ?_
      exact J fun a w2 ha hw => ⟨ha.sub ⟨rfl, rfl, rfl, rfl, rfl, rfl, rfl, rfl, rfl, rfl, congrArg (fun z => some (Value.bool z)) (or_t hq16), trivial⟩, hw⟩
    · have hq16 := (decide_eq_false hc)
      refine SP.isF (d := 37) rfl hq16 ?_
      refine SP.val (Val.move rfl) rfl rfl rfl ?_
      refine SP.val (Val.neq rfl rfl) rfl rfl rfl ?_
      refine SP.val (Val.pickF rfl rfl) rfl rfl rfl ?_
      exact J fun a w2 ha hw => ⟨ha.sub ⟨rfl, rfl, rfl, rfl, rfl, rfl, rfl, rfl, rfl, rfl, congrArg (fun z => some (Value.bool z)) (or_f hq16 rfl), trivial⟩, hw⟩
/-! ### capstan/capstanlaw09.FlowAhead: function 6 -/
inductive capstanlaw09_FlowAhead.S where
  | start
  | l1 (t3 : (List flow_Loop) × Int) (x936 : Int)
  | l2 (t3 : (List flow_Loop) × Int) (x936 : Int) (t938 : (List Int) × Int) (x1218 : Int)
  | l3 (t3 : (List flow_Loop) × Int) (x936 : Int) (t938 : (List Int) × Int) (x1218 : Int) (x1326 : Int)

def capstanlaw09_FlowAhead.j3 (l_0 : (List api_Instr)) (t3 : (List flow_Loop) × Int) (x936 : Int) (t938 : (List Int) × Int) (x1218 : Int) (x1326 : Int) (b1350 : Bool) : Option (capstanlaw09_FlowAhead.S ⊕ Bool) :=
  (if b1350 = true then ((elt t3.1 x1326).bind fun x1356 => (if x936 < x1356.From then (some true) else ((elt t3.1 x1326).bind fun x1363 => some (decide (x936 > x1363.To)))).bind fun t1366 => some t1366) else (some false)).bind fun t1367 => if t1367 = true then (some (.inr false)) else (some (.inl (.l3 t3 x936 t938 x1218 (IntKind.i64.wrap (x1326 + 1)))))

def capstanlaw09_FlowAhead.j2 (l_0 : (List api_Instr)) (t3 : (List flow_Loop) × Int) (x936 : Int) (t938 : (List Int) × Int) (x1218 : Int) (b1283 : Bool) : Option (capstanlaw09_FlowAhead.S ⊕ Bool) :=
  if b1283 = true then (some (.inr false)) else (some (.inl (.l3 t3 x936 t938 x1218 0)))

def capstanlaw09_FlowAhead.j1 (l_0 : (List api_Instr)) (t3 : (List flow_Loop) × Int) (x936 : Int) (t938 : (List Int) × Int) (x1218 : Int) (b1237 : Bool) : Option (capstanlaw09_FlowAhead.S ⊕ Bool) :=
  (elt t938.1 x1218).bind fun x1241 => if x1241 ≥ (l_0.length : Int) then (capstanlaw09_FlowAhead.j2 l_0 t3 x936 t938 x1218 true) else ((elt t938.1 x1218).bind fun x1247 => if x1247 ≤ x936 then (if (!b1237) = true then (capstanlaw09_FlowAhead.j2 l_0 t3 x936 t938 x1218 true) else ((elt t938.1 x1218).bind fun x1254 => if x1254 < 0 then (capstanlaw09_FlowAhead.j2 l_0 t3 x936 t938 x1218 true) else (if x1218 > 0 then ((elt t938.1 x1218).bind fun x1260 => (elt t938.1 (IntKind.i64.wrap (x1218 - 1))).bind fun x1264 => capstanlaw09_FlowAhead.j2 l_0 t3 x936 t938 x1218 (decide (x1260 ≤ x1264))) else (capstanlaw09_FlowAhead.j2 l_0 t3 x936 t938 x1218 false)))) else ((elt t938.1 x1218).bind fun x1270 => if x1270 < 0 then (capstanlaw09_FlowAhead.j2 l_0 t3 x936 t938 x1218 true) else (if x1218 > 0 then ((elt t938.1 x1218).bind fun x1276 => (elt t938.1 (IntKind.i64.wrap (x1218 - 1))).bind fun x1280 => capstanlaw09_FlowAhead.j2 l_0 t3 x936 t938 x1218 (decide (x1276 ≤ x1280))) else (capstanlaw09_FlowAhead.j2 l_0 t3 x936 t938 x1218 false))))

def capstanlaw09_FlowAhead.F (l_0 : (List api_Instr)) : capstanlaw09_FlowAhead.S → Option (capstanlaw09_FlowAhead.S ⊕ Bool)
  | .start => (capstanlaw09_awake.f ).bind fun t2 => if (!t2) = true then (some (.inr false)) else (if (l_0.length : Int) > 300 then (some (.inr true)) else ((flow_Loops.f l_0).bind fun t3 => if t3.2 ≠ 0 then ((flow_Ways.f l_0 0).bind fun t6 => some (.inr (((decide (t6.2 = t3.2)) && (decide ((t6.1.length : Int) = 0))) && (decide ((t3.1.length : Int) = 0))))) else (some (.inl (.l1 t3 0)))))
  | .l1 t3 x936 => if x936 < (l_0.length : Int) then ((flow_Ways.f l_0 x936).bind fun t938 => (elt l_0 x936).bind fun x943 => (if x943.Op = 31 then (some true) else ((elt l_0 x936).bind fun x950 => some (decide (x950.Op = 32)))).bind fun t953 => if (((decide (t938.2 ≠ 0)) || (!((decide ((t938.1.length : Int) = 0)) == t953))) || (decide ((t938.1.length : Int) > 2))) = true then (some (.inr false)) else (some (.inl (.l2 t3 x936 t938 0)))) else ((flow_Ways.f l_0 (l_0.length : Int)).bind fun t1370 => (flow_Ways.f l_0 (-1)).bind fun t1373 => some (.inr ((decide (t1370.2 = 2)) && (decide (t1373.2 = 2)))))
  | .l2 t3 x936 t938 x1218 => if x1218 < (t938.1.length : Int) then ((elt l_0 x936).bind fun x1222 => if x1222.Op = 29 then ((elt t938.1 x1218).bind fun x1228 => (elt l_0 x936).bind fun x1232 => capstanlaw09_FlowAhead.j1 l_0 t3 x936 t938 x1218 (decide (x1228 = (IntKind.i64.wrap (x1232.A + 1))))) else (capstanlaw09_FlowAhead.j1 l_0 t3 x936 t938 x1218 false)) else (some (.inl (.l1 t3 (IntKind.i64.wrap (x936 + 1)))))
  | .l3 t3 x936 t938 x1218 x1326 => if x1326 < (t3.1.length : Int) then ((elt t3.1 x1326).bind fun x1330 => (elt t938.1 x1218).bind fun x1336 => if x1330.From < x1336 then ((elt t938.1 x1218).bind fun x1341 => (elt t3.1 x1326).bind fun x1345 => capstanlaw09_FlowAhead.j3 l_0 t3 x936 t938 x1218 x1326 (decide (x1341 ≤ x1345.To))) else (capstanlaw09_FlowAhead.j3 l_0 t3 x936 t938 x1218 x1326 false)) else (some (.inl (.l2 t3 x936 t938 (IntKind.i64.wrap (x1218 + 1)))))

def capstanlaw09_FlowAhead.f (l_0 : (List api_Instr)) : Option Bool := runF (capstanlaw09_FlowAhead.F l_0) .start
theorem capstanlaw09_FlowAhead.ok (l_0 : (List api_Instr)) (v_l_0 : Value)  (r : Bool) (H : capstanlaw09_FlowAhead.f l_0 = some r) (w : World) (hV : Hp) (sV : Sub hV (hp w)) (h0 : slR k_api_Instr hV v_l_0 l_0) (h1 : (arrP k_arr88 0 tab0).p hV) :
    Trip Tryd.prog 6 [v_l_0].toArray em hV w (fun v => HO.pure (v = .bool r)) := by
  have see : Sees w em hV := ⟨sV, Dj.em_right _⟩
  refine Trip.of (P := Tryd.prog) (n := ⟨221, []⟩) Tryd.func6 rfl ⟨rfl, rfl⟩ rfl (St.begin (All.cons (x := slP k_api_Instr v_l_0 l_0) h0 (All.cons (x := arrP k_arr88 0 tab0) h1 (All.nil _)))) ?_
  obtain ⟨n0, hi⟩ := runF_iff.1 H
  obtain ⟨m0, o, hm0, ho, hr⟩ := iter_some hi
  clear hi
  refine CP.seq ?_
  refine CP.region ?_
  refine SP.val (Val.assign rfl) rfl rfl rfl ?_
  refine SP.nil ?_
  refine QE.then ?_
  refine CP.seq ?_
  refine CP.seq ?_
  refine CP.region ?_
  obtain ⟨t2, hc, ho⟩ := bind_some (x := capstanlaw09_awake.f ) ho
  refine SP.callV see (caps := []) (.bool t2) fn18 rfl rfl rfl rfl (fun w2 hP hs sub ap => capstanlaw09_awake.ok   _ hc w2 hP sub (ap.get 1 rfl)) ?_
  clear hc
  refine SP.val (Val.notB rfl) rfl rfl rfl ?_
  refine SP.nil ?_
  refine QE.then ?_
  rcases if_some ho with ⟨hc, ho⟩ | ⟨hc, ho⟩
  · refine CP.condT rfl hc ?_
    refine CP.seq ?_
    refine CP.region ?_
    refine SP.val (Val.assign rfl) rfl rfl rfl ?_
    refine SP.nil ?_
    refine QE.then ?_
    refine CP.ret ?_
    refine QE.thru (by intro e; cases e) ?_
    obtain rfl := Option.some.inj ho
    obtain rfl := Option.some.inj hr
    exact QE.rets (rs := [.tmp 2]) (vs := [.bool false]) Tryd.results6 rfl ⟨RVs.tmp rfl, trivial⟩ (fun w2 h => St.done (fun a b p s => rfl) h)
  · refine CP.condF rfl (bf hc) ?_
    refine CP.skip ?_
    refine QE.then ?_
    refine CP.seq ?_
    refine CP.seq ?_
    refine CP.region ?_
    refine SP.val (Val.move rfl) rfl rfl rfl ?_
    refine SP.val (Val.lenP see 0 rfl Tryd.underlying22 rfl) rfl rfl rfl ?_
    refine SP.val (Val.gtr rfl rfl) rfl rfl rfl ?_
    refine SP.nil ?_
    refine QE.then ?_
    rcases if_some ho with ⟨hc, ho⟩ | ⟨hc, ho⟩
    · refine CP.condT rfl (decide_eq_true hc) ?_
      refine CP.seq ?_
      refine CP.region ?_
      refine SP.val (Val.assign rfl) rfl rfl rfl ?_
      refine SP.nil ?_
      refine QE.then ?_
      refine CP.ret ?_
      refine QE.thru (by intro e; cases e) ?_
      obtain rfl := Option.some.inj ho
      obtain rfl := Option.some.inj hr
      exact QE.rets (rs := [.tmp 2]) (vs := [.bool true]) Tryd.results6 rfl ⟨RVs.tmp rfl, trivial⟩ (fun w2 h => St.done (fun a b p s => rfl) h)
    · refine CP.condF rfl (decide_eq_false hc) ?_
      refine CP.skip ?_
      refine QE.then ?_
      refine CP.seq ?_
      refine CP.region ?_
      refine SP.val (Val.move rfl) rfl rfl rfl ?_
      obtain ⟨t3, hc, ho⟩ := bind_some (x := flow_Loops.f l_0) ho
      refine SP.callK see (caps := []) _ fn11 rfl rfl rfl rfl (fun w2 hP hs sub ap => flow_Loops.ok l_0 _ _ hc w2 hP sub (ap.get 0 rfl) (ap.get 1 rfl)) (fun vr => ?_)
      refine SP.ex (fun w2 h => St.open h) (fun v4 => ?_)
      refine SP.have (fun w2 h => (St.pand h).1.symm) (fun er => ?_)
      subst er
      refine SP.imp (fun w2 h => St.seps (St.pand h).2) ?_
      clear hc
      refine SP.val (Val.move rfl) rfl rfl rfl ?_
      refine SP.val (Val.extract rfl rfl) rfl rfl rfl ?_
      refine SP.val (Val.extract rfl rfl) rfl rfl rfl ?_
      refine SP.val (Val.assign rfl) rfl rfl rfl ?_
      refine SP.val (Val.assign rfl) rfl rfl rfl ?_
      refine SP.nil ?_
      refine QE.then ?_
      refine CP.seq ?_
      refine CP.seq ?_
      refine CP.region ?_
      refine SP.val (Val.move rfl) rfl rfl rfl ?_
      refine SP.val (Val.neq rfl rfl) rfl rfl rfl ?_
      refine SP.nil ?_
      refine QE.then ?_
      rcases if_some ho with ⟨hc, ho⟩ | ⟨hc, ho⟩
      · refine CP.condT rfl (decide_eq_true hc) ?_
        refine CP.seq ?_
        refine CP.region ?_
        refine SP.val (Val.move rfl) rfl rfl rfl ?_
        obtain ⟨t6, hc, ho⟩ := bind_some (x := flow_Ways.f l_0 0) ho
        refine SP.callK see (caps := []) _ fn17 rfl rfl rfl rfl (fun w2 hP hs sub ap => flow_Ways.ok l_0 0 _ _ hc w2 hP sub (ap.get 0 rfl) (ap.get 1 rfl)) (fun vr => ?_)
        refine SP.ex (fun w2 h => St.open h) (fun v7 => ?_)
        refine SP.have (fun w2 h => (St.pand h).1.symm) (fun er => ?_)
        subst er
        refine SP.imp (fun w2 h => St.seps (St.pand h).2) ?_
        clear hc
        refine SP.val (Val.move rfl) rfl rfl rfl ?_
        refine SP.val (Val.extract rfl rfl) rfl rfl rfl ?_
        refine SP.val (Val.extract rfl rfl) rfl rfl rfl ?_
        refine SP.val (Val.assign rfl) rfl rfl rfl ?_
        refine SP.val (Val.assign rfl) rfl rfl rfl ?_
        refine SP.nil ?_
        refine QE.then ?_
        refine CP.seq ?_
        refine CP.region ?_
        refine SP.val (Val.move rfl) rfl rfl rfl ?_
        refine SP.val (Val.move rfl) rfl rfl rfl ?_
        refine SP.val (Val.eql rfl rfl) rfl rfl rfl ?_
        refine SP.val (Val.move rfl) rfl rfl rfl ?_
        refine SP.join 4 (fun a w2 => Env ⟨221, []⟩ [(3, v4), (43, .bool ((decide (t6.2 = t3.2)) && (decide ((t6.1.length : Int) = 0))))] a ∧ St w em hV [slP k_api_Instr v_l_0 l_0, arrP k_arr88 0 tab0] [slO (kInt .i64) 3 v7 t6.1, slO k_flow_Loop 40 v4 t3.1] w2) ?_ ?_
        · rintro a w2 ⟨ha, hw⟩
          refine SP.app ha hw ?_
          clear ha hw a w2
          refine SP.val (Val.move rfl) rfl rfl rfl ?_
          refine SP.join 4 (fun a w2 => Env ⟨221, []⟩ [(48, .bool (((decide (t6.2 = t3.2)) && (decide ((t6.1.length : Int) = 0))) && (decide ((t3.1.length : Int) = 0))))] a ∧ St w em hV [slP k_api_Instr v_l_0 l_0, arrP k_arr88 0 tab0] [slO (kInt .i64) 3 v7 t6.1, slO k_flow_Loop 40 v4 t3.1] w2) ?_ ?_
          · rintro a w2 ⟨ha, hw⟩
            refine SP.app ha hw ?_
            clear ha hw a w2
            refine SP.val (Val.assign rfl) rfl rfl rfl ?_
            refine SP.nil ?_
            refine QE.then ?_
            refine CP.ret ?_
            refine QE.thru (by intro e; cases e) ?_
            obtain rfl := Option.some.inj ho
            obtain rfl := Option.some.inj hr
            exact QE.rets (rs := [.tmp 2]) (vs := [.bool (((decide (t6.2 = t3.2)) && (decide ((t6.1.length : Int) = 0))) && (decide ((t3.1.length : Int) = 0)))]) Tryd.results6 rfl ⟨RVs.tmp rfl, trivial⟩ (fun w2 h => St.done (fun a b p s => rfl) h)
          · intro J
            by_cases hc : ((decide (t6.2 = t3.2)) && (decide ((t6.1.length : Int) = 0))) = true
            · have hq12 := hc
              refine SP.isT (d := 44) rfl hq12 ?_
              refine SP.val (Val.move rfl) rfl rfl rfl ?_
              refine SP.val (Val.lenW (fun w2 hw => slO.whole (St.own 1 rfl see.sub see.dj hw)) Tryd.underlying30 rfl) rfl rfl rfl ?_
              refine SP.val (Val.eql rfl rfl) rfl rfl rfl ?_
              refine SP.val (Val.pickT rfl rfl) rfl rfl rfl ?_
              exact J fun a w2 ha hw => ⟨ha.sub ⟨congrArg (fun z => some (Value.bool z)) (and_t hq12 rfl), trivial⟩, hw⟩
            · have hq12 := (bf hc)
              refine SP.isF (d := 44) rfl hq12 ?_
              refine SP.not rfl rfl rfl ?_
              refine SP.not rfl rfl rfl ?_
              refine SP.not rfl rfl rfl ?_
              refine SP.val (Val.pickF rfl rfl) rfl rfl rfl ?_
              exact J fun a w2 ha hw => ⟨ha.sub ⟨congrArg (fun z => some (Value.bool z)) (and_f hq12), trivial⟩, hw⟩
        · intro J
          by_cases hc : t6.2 = t3.2
          · have hq10 := (decide_eq_true hc)
            refine SP.isT (d := 39) rfl hq10 ?_
            refine SP.val (Val.move rfl) rfl rfl rfl ?_
            refine SP.val (Val.lenW (fun w2 hw => slO.whole (St.own 0 rfl see.sub see.dj hw)) Tryd.underlying27 rfl) rfl rfl rfl ?_
            refine SP.val (Val.eql rfl rfl) rfl rfl rfl ?_
            refine SP.val (Val.pickT rfl rfl) rfl rfl rfl ?_
            exact J fun a w2 ha hw => ⟨ha.sub ⟨rfl, congrArg (fun z => some (Value.bool z)) (and_t hq10 rfl), trivial⟩, hw⟩
          · have hq10 := (decide_eq_false hc)
            refine SP.isF (d := 39) rfl hq10 ?_
            refine SP.not rfl rfl rfl ?_
            refine SP.not rfl rfl rfl ?_
            refine SP.not rfl rfl rfl ?_
            refine SP.val (Val.pickF rfl rfl) rfl rfl rfl ?_
            exact J fun a w2 ha hw => ⟨ha.sub ⟨rfl, congrArg (fun z => some (Value.bool z)) (and_f hq10), trivial⟩, hw⟩
      · refine CP.condF rfl (decide_eq_false hc) ?_
        refine CP.skip ?_
        refine QE.then ?_
        refine CP.seq ?_
        refine CP.seq ?_
        refine CP.region ?_
        refine SP.val (Val.assign rfl) rfl rfl rfl ?_
        refine SP.nil ?_
        refine QE.then ?_
        refine CP.block ?_
        refine CP.freezeS see 0 rfl ?_
        obtain rfl := Option.some.inj ho
        refine CP.loop (fun cl1 a w2 => ∃ x936 : Int, cl1 ≤ m0 ∧ iter (capstanlaw09_FlowAhead.F l_0) cl1 (.l1 t3 x936) = some r ∧ Env ⟨221, []⟩ [(0, v_l_0), (3, v4), (7, .int .i64 x936)] a ∧ St w em hV [slP k_flow_Loop v4 t3.1, slP k_api_Instr v_l_0 l_0, arrP k_arr88 0 tab0] [] w2) m0 (fun a w2 ha hw => ⟨0, Nat.le_refl _, hr, ha.sub ⟨rfl, rfl, rfl, trivial⟩, hw⟩) ?_
        clear hr
        rintro cl1 a w2 ⟨x936, hc_l1, hi, ha, hw⟩
        obtain ⟨m937, o, hm_m937, ho, hr⟩ := iter_some hi
        refine CP.app ha hw ?_
        clear ha hw a w2 hi
        refine CP.seq ?_
        refine CP.seq ?_
        refine CP.region ?_
        refine SP.val (Val.move rfl) rfl rfl rfl ?_
        refine SP.val (Val.move rfl) rfl rfl rfl ?_
        refine SP.val (Val.lenP see 1 rfl Tryd.underlying22 rfl) rfl rfl rfl ?_
        refine SP.val (Val.lss rfl rfl) rfl rfl rfl ?_
        refine SP.nil ?_
        refine QE.then ?_
        rcases if_some ho with ⟨hc, ho⟩ | ⟨hc, ho⟩
        · refine CP.condT rfl (decide_eq_true hc) ?_
          refine CP.skip ?_
          refine QE.then ?_
          refine CP.seq ?_
          refine CP.block ?_
          refine CP.seq ?_
          refine CP.region ?_
          refine SP.val (Val.move rfl) rfl rfl rfl ?_
          refine SP.val (Val.move rfl) rfl rfl rfl ?_
          obtain ⟨t938, hc, ho⟩ := bind_some (x := flow_Ways.f l_0 x936) ho
          refine SP.callK see (caps := []) _ fn17 rfl rfl rfl rfl (fun w2 hP hs sub ap => flow_Ways.ok l_0 x936 _ _ hc w2 hP sub (ap.get 1 rfl) (ap.get 2 rfl)) (fun vr => ?_)
          refine SP.ex (fun w2 h => St.open h) (fun v939 => ?_)
          refine SP.have (fun w2 h => (St.pand h).1.symm) (fun er => ?_)
          subst er
          refine SP.imp (fun w2 h => St.seps (St.pand h).2) ?_
          clear hc
          refine SP.val (Val.move rfl) rfl rfl rfl ?_
          refine SP.val (Val.extract rfl rfl) rfl rfl rfl ?_
          refine SP.val (Val.extract rfl rfl) rfl rfl rfl ?_
          refine SP.val (Val.assign rfl) rfl rfl rfl ?_
          refine SP.val (Val.assign rfl) rfl rfl rfl ?_
          refine SP.nil ?_
          refine QE.then ?_
          refine CP.seq ?_
          refine CP.region ?_
          refine SP.val (Val.move rfl) rfl rfl rfl ?_
          refine SP.val (Val.move rfl) rfl rfl rfl ?_
          obtain ⟨x943, hx, ho⟩ := bind_some ho
          have hx := elt_some hx
          refine SP.indexP see 1 rfl Tryd.underlying22 sz52 hx.1 hx.2 rfl rfl rfl rfl (fun p941 => ?_)
          clear hx
          refine SP.fieldP see 0 rfl Tryd.underlying52 rfl sz5 k_api_Instr.part_Op rfl rfl rfl (fun p944 => ?_)
          refine SP.val (Val.loadP1 see 0 rfl (fun _ _ e => e) Tryd.underlying5 rfl rfl) rfl rfl rfl ?_
          refine SP.val (Val.eql rfl rfl) rfl rfl rfl ?_
          refine SP.val (Val.move rfl) rfl rfl rfl ?_
          obtain ⟨t953, hg_t953, ho⟩ := bind_some ho
          refine SP.join 7 (fun a w2 => Env ⟨221, []⟩ [(0, v_l_0), (3, v4), (7, .int .i64 x936), (8, v939), (9, .int .i64 t938.2), (74, .bool t953)] a ∧ St w em hV [elP (kInt .u8) p944 x943.Op, elP k_api_Instr p941 x943, slP k_flow_Loop v4 t3.1, slP k_api_Instr v_l_0 l_0, arrP k_arr88 0 tab0] [slO (kInt .i64) 3 v939 t938.1] w2) ?_ ?_
          · rintro a w2 ⟨ha, hw⟩
            refine SP.app ha hw ?_
            clear ha hw a w2 hg_t953
            refine SP.val (Val.assign rfl) rfl rfl rfl ?_
            refine SP.nil ?_
            refine QE.then ?_
            refine CP.seq ?_
            refine CP.seq ?_
            refine CP.region ?_
            refine SP.val (Val.move rfl) rfl rfl rfl ?_
            refine SP.val (Val.neq rfl rfl) rfl rfl rfl ?_
            refine SP.val (Val.move rfl) rfl rfl rfl ?_
            refine SP.join 6 (fun a w2 => Env ⟨221, []⟩ [(0, v_l_0), (3, v4), (7, .int .i64 x936), (8, v939), (83, .bool ((decide (t938.2 ≠ 0)) || (!((decide ((t938.1.length : Int) = 0)) == t953))))] a ∧ St w em hV [elP (kInt .u8) p944 x943.Op, elP k_api_Instr p941 x943, slP k_flow_Loop v4 t3.1, slP k_api_Instr v_l_0 l_0, arrP k_arr88 0 tab0] [slO (kInt .i64) 3 v939 t938.1] w2) ?_ ?_
            · rintro a w2 ⟨ha, hw⟩
              refine SP.app ha hw ?_
              clear ha hw a w2
              refine SP.val (Val.move rfl) rfl rfl rfl ?_
              refine SP.join 4 (fun a w2 => Env ⟨221, []⟩ [(0, v_l_0), (3, v4), (7, .int .i64 x936), (8, v939), (88, .bool (((decide (t938.2 ≠ 0)) || (!((decide ((t938.1.length : Int) = 0)) == t953))) || (decide ((t938.1.length : Int) > 2))))] a ∧ St w em hV [elP (kInt .u8) p944 x943.Op, elP k_api_Instr p941 x943, slP k_flow_Loop v4 t3.1, slP k_api_Instr v_l_0 l_0, arrP k_arr88 0 tab0] [slO (kInt .i64) 3 v939 t938.1] w2) ?_ ?_
              · rintro a w2 ⟨ha, hw⟩
                refine SP.app ha hw ?_
                clear ha hw a w2
                refine SP.nil ?_
                refine QE.then ?_
                rcases if_some ho with ⟨hc, ho⟩ | ⟨hc, ho⟩
                · refine CP.condT rfl hc ?_
                  refine CP.seq ?_
                  refine CP.region ?_
                  refine SP.val (Val.assign rfl) rfl rfl rfl ?_
                  refine SP.nil ?_
                  refine QE.then ?_
                  refine CP.ret ?_
                  refine QE.thru (by intro e; cases e) ?_
                  refine QE.blockR ?_
                  refine QE.thru (by intro e; cases e) ?_
                  refine QE.thru (by intro e; cases e) ?_
                  refine QE.blockR ?_
                  refine QE.thru (by intro e; cases e) ?_
                  obtain rfl := Option.some.inj ho
                  obtain rfl := Option.some.inj hr
                  exact QE.rets (rs := [.tmp 2]) (vs := [.bool false]) Tryd.results6 rfl ⟨RVs.tmp rfl, trivial⟩ (fun w2 h => St.done (fun a b p s => rfl) h)
                · refine CP.condF rfl (bf hc) ?_
                  refine CP.skip ?_
                  refine QE.then ?_
                  refine CP.seq ?_
                  refine CP.region ?_
                  refine SP.val (Val.assign rfl) rfl rfl rfl ?_
                  refine SP.nil ?_
                  refine QE.then ?_
                  refine CP.block ?_
                  refine CP.freezeS see 0 rfl ?_
                  obtain rfl := Option.some.inj ho
                  refine CP.loop (fun cl2 a w2 => ∃ x1218 : Int, cl2 ≤ m937 ∧ iter (capstanlaw09_FlowAhead.F l_0) cl2 (.l2 t3 x936 t938 x1218) = some r ∧ Env ⟨221, []⟩ [(0, v_l_0), (3, v4), (7, .int .i64 x936), (8, v939), (11, .int .i64 x1218)] a ∧ St w em hV [slP (kInt .i64) v939 t938.1, slP k_flow_Loop v4 t3.1, slP k_api_Instr v_l_0 l_0, arrP k_arr88 0 tab0] [] w2) m937 (fun a w2 ha hw => ⟨0, Nat.le_refl _, hr, ha.sub ⟨rfl, rfl, rfl, rfl, rfl, trivial⟩, (St.selP [0, 3, 4, 5] rfl hw)⟩) ?_
                  clear hr
                  rintro cl2 a w2 ⟨x1218, hc_l2, hi, ha, hw⟩
                  obtain ⟨m1219, o, hm_m1219, ho, hr⟩ := iter_some hi
                  refine CP.app ha hw ?_
                  clear ha hw a w2 hi
                  refine CP.seq ?_
                  refine CP.seq ?_
                  refine CP.region ?_
                  refine SP.val (Val.move rfl) rfl rfl rfl ?_
                  refine SP.val (Val.move rfl) rfl rfl rfl ?_
                  refine SP.val (Val.lenP see 0 rfl Tryd.underlying27 rfl) rfl rfl rfl ?_
                  refine SP.val (Val.lss rfl rfl) rfl rfl rfl ?_
                  refine SP.nil ?_
                  refine QE.then ?_
                  rcases if_some ho with ⟨hc, ho⟩ | ⟨hc, ho⟩
                  · refine CP.condT rfl (decide_eq_true hc) ?_
                    refine CP.skip ?_
                    refine QE.then ?_
                    refine CP.seq ?_
                    refine CP.block ?_
                    refine CP.join (fun a w2 => ∃ b1237 : Bool, ∃ (m1238 : Nat) (o : (capstanlaw09_FlowAhead.S ⊕ Bool)), m1238 ≤ m1219 ∧ capstanlaw09_FlowAhead.j1 l_0 t3 x936 t938 x1218 b1237 = some o ∧ next (capstanlaw09_FlowAhead.F l_0) m1238 o = some r ∧ Env ⟨221, []⟩ [(0, v_l_0), (3, v4), (7, .int .i64 x936), (8, v939), (11, .int .i64 x1218), (12, .bool b1237)] a ∧ St w em hV [slP (kInt .i64) v939 t938.1, slP k_flow_Loop v4 t3.1, slP k_api_Instr v_l_0 l_0, arrP k_arr88 0 tab0] [] w2) ?_ ?_
                    · rintro a w2 ⟨b1237, m1238, o, hm_m1238, ho, hr, ha, hw⟩
                      refine CP.app ha hw ?_
                      clear ha hw a w2
                      refine CP.seq ?_
                      refine CP.join (fun a w2 => ∃ b1283 : Bool, ∃ (m1284 : Nat) (o : (capstanlaw09_FlowAhead.S ⊕ Bool)), m1284 ≤ m1238 ∧ capstanlaw09_FlowAhead.j2 l_0 t3 x936 t938 x1218 b1283 = some o ∧ next (capstanlaw09_FlowAhead.F l_0) m1284 o = some r ∧ Env ⟨221, []⟩ [(0, v_l_0), (3, v4), (7, .int .i64 x936), (8, v939), (11, .int .i64 x1218), (155, .bool b1283)] a ∧ St w em hV [slP (kInt .i64) v939 t938.1, slP k_flow_Loop v4 t3.1, slP k_api_Instr v_l_0 l_0, arrP k_arr88 0 tab0] [] w2) ?_ ?_
                      · rintro a w2 ⟨b1283, m1284, o, hm_m1284, ho, hr, ha, hw⟩
                        refine CP.app ha hw ?_
                        clear ha hw a w2
                        rcases if_some ho with ⟨hc, ho⟩ | ⟨hc, ho⟩
                        · refine CP.condT rfl hc ?_
                          refine CP.seq ?_
                          refine CP.region ?_
                          refine SP.val (Val.assign rfl) rfl rfl rfl ?_
                          refine SP.nil ?_
                          refine QE.then ?_
                          refine CP.ret ?_
                          refine QE.thru (by intro e; cases e) ?_
                          refine QE.blockR ?_
                          refine QE.thru (by intro e; cases e) ?_
                          refine QE.thru (by intro e; cases e) ?_
                          refine QE.blockR ?_
                          refine QE.blockR ?_
                          refine QE.thru (by intro e; cases e) ?_
                          refine QE.thru (by intro e; cases e) ?_
                          refine QE.blockR ?_
                          refine QE.thru (by intro e; cases e) ?_
                          obtain rfl := Option.some.inj ho
                          obtain rfl := Option.some.inj hr
                          exact QE.rets (rs := [.tmp 2]) (vs := [.bool false]) Tryd.results6 rfl ⟨RVs.tmp rfl, trivial⟩ (fun w2 h => St.done (fun a b p s => rfl) h)
                        · refine CP.condF rfl (bf hc) ?_
                          refine CP.skip ?_
                          refine QE.then ?_
                          refine CP.seq ?_
                          refine CP.region ?_
                          refine SP.val (Val.assign rfl) rfl rfl rfl ?_
                          refine SP.nil ?_
                          refine QE.then ?_
                          refine CP.block ?_
                          obtain rfl := Option.some.inj ho
                          refine CP.loop (fun cl3 a w2 => ∃ x1326 : Int, cl3 ≤ m1284 ∧ iter (capstanlaw09_FlowAhead.F l_0) cl3 (.l3 t3 x936 t938 x1218 x1326) = some r ∧ Env ⟨221, []⟩ [(0, v_l_0), (3, v4), (7, .int .i64 x936), (8, v939), (11, .int .i64 x1218), (13, .int .i64 x1326)] a ∧ St w em hV [slP (kInt .i64) v939 t938.1, slP k_flow_Loop v4 t3.1, slP k_api_Instr v_l_0 l_0, arrP k_arr88 0 tab0] [] w2) m1284 (fun a w2 ha hw => ⟨0, Nat.le_refl _, hr, ha.sub ⟨rfl, rfl, rfl, rfl, rfl, rfl, trivial⟩, hw⟩) ?_
                          clear hr
                          rintro cl3 a w2 ⟨x1326, hc_l3, hi, ha, hw⟩
                          obtain ⟨m1327, o, hm_m1327, ho, hr⟩ := iter_some hi
                          refine CP.app ha hw ?_
                          clear ha hw a w2 hi
                          refine CP.seq ?_
                          refine CP.seq ?_
                          refine CP.region ?_
                          refine SP.val (Val.move rfl) rfl rfl rfl ?_
                          refine SP.val (Val.move rfl) rfl rfl rfl ?_
                          refine SP.val (Val.lenP see 1 rfl Tryd.underlying30 rfl) rfl rfl rfl ?_
                          refine SP.val (Val.lss rfl rfl) rfl rfl rfl ?_
                          refine SP.nil ?_
                          refine QE.then ?_
                          rcases if_some ho with ⟨hc, ho⟩ | ⟨hc, ho⟩
                          · refine CP.condT rfl (decide_eq_true hc) ?_
                            refine CP.skip ?_
                            refine QE.then ?_
                            refine CP.seq ?_
                            refine CP.block ?_
                            refine CP.join (fun a w2 => ∃ b1350 : Bool, ∃ (m1351 : Nat) (o : (capstanlaw09_FlowAhead.S ⊕ Bool)), m1351 ≤ m1327 ∧ capstanlaw09_FlowAhead.j3 l_0 t3 x936 t938 x1218 x1326 b1350 = some o ∧ next (capstanlaw09_FlowAhead.F l_0) m1351 o = some r ∧ Env ⟨221, []⟩ [(0, v_l_0), (3, v4), (7, .int .i64 x936), (8, v939), (11, .int .i64 x1218), (13, .int .i64 x1326), (14, .bool b1350)] a ∧ St w em hV [slP (kInt .i64) v939 t938.1, slP k_flow_Loop v4 t3.1, slP k_api_Instr v_l_0 l_0, arrP k_arr88 0 tab0] [] w2) ?_ ?_
                            · rintro a w2 ⟨b1350, m1351, o, hm_m1351, ho, hr, ha, hw⟩
                              refine CP.app ha hw ?_
                              clear ha hw a w2
                              refine CP.seq ?_
                              refine CP.region ?_
                              refine SP.val (Val.move rfl) rfl rfl rfl ?_
                              refine SP.val (Val.move rfl) rfl rfl rfl ?_
                              obtain ⟨t1367, hg_t1367, ho⟩ := bind_some ho
                              refine SP.join 17 (fun a w2 => Env ⟨221, []⟩ [(0, v_l_0), (3, v4), (7, .int .i64 x936), (8, v939), (11, .int .i64 x1218), (13, .int .i64 x1326), (202, .bool t1367)] a ∧ St w em hV [slP (kInt .i64) v939 t938.1, slP k_flow_Loop v4 t3.1, slP k_api_Instr v_l_0 l_0, arrP k_arr88 0 tab0] [] w2) ?_ ?_
                              · rintro a w2 ⟨ha, hw⟩
                                refine SP.app ha hw ?_
                                clear ha hw a w2 hg_t1367
                                refine SP.nil ?_
                                refine QE.then ?_
                                rcases if_some ho with ⟨hc, ho⟩ | ⟨hc, ho⟩
                                · refine CP.condT rfl hc ?_
                                  refine CP.seq ?_
                                  refine CP.region ?_
                                  refine SP.val (Val.assign rfl) rfl rfl rfl ?_
                                  refine SP.nil ?_
                                  refine QE.then ?_
                                  refine CP.ret ?_
                                  refine QE.blockR ?_
                                  refine QE.thru (by intro e; cases e) ?_
                                  refine QE.thru (by intro e; cases e) ?_
                                  refine QE.blockR ?_
                                  refine QE.blockR ?_
                                  refine QE.thru (by intro e; cases e) ?_
                                  refine QE.thru (by intro e; cases e) ?_
                                  refine QE.blockR ?_
                                  refine QE.blockR ?_
                                  refine QE.thru (by intro e; cases e) ?_
                                  refine QE.thru (by intro e; cases e) ?_
                                  refine QE.blockR ?_
                                  refine QE.thru (by intro e; cases e) ?_
                                  obtain rfl := Option.some.inj ho
                                  obtain rfl := Option.some.inj hr
                                  exact QE.rets (rs := [.tmp 2]) (vs := [.bool false]) Tryd.results6 rfl ⟨RVs.tmp rfl, trivial⟩ (fun w2 h => St.done (fun a b p s => rfl) h)
                                · refine CP.condF rfl (bf hc) ?_
                                  refine CP.skip ?_
                                  refine QE.blockN ?_
                                  refine QE.then ?_
                                  refine CP.region ?_
                                  refine SP.val (Val.move rfl) rfl rfl rfl ?_
                                  refine SP.val (Val.add rfl rfl) rfl rfl rfl ?_
                                  refine SP.val (Val.assign rfl) rfl rfl rfl ?_
                                  refine SP.nil ?_
                                  obtain rfl := Option.some.inj ho
                                  exact QE.lower m1351 (by omega) fun a w2 ha hw => ⟨(IntKind.i64.wrap (x1326 + 1)), (by omega), hr, ha.sub ⟨rfl, rfl, rfl, rfl, rfl, rfl, trivial⟩, hw⟩
                              · intro J
                                clear ho
                                have ho := hg_t1367
                                clear hg_t1367
                                rcases if_some ho with ⟨hc, ho⟩ | ⟨hc, ho⟩
                                · have hq1353 := hc
                                  refine SP.isT (d := 185) rfl hq1353 ?_
                                  refine SP.val (Val.move rfl) rfl rfl rfl ?_
                                  refine SP.val (Val.move rfl) rfl rfl rfl ?_
                                  refine SP.val (Val.move rfl) rfl rfl rfl ?_
                                  obtain ⟨x1356, hx, ho⟩ := bind_some ho
                                  have hx := elt_some hx
                                  refine SP.indexP see 1 rfl Tryd.underlying30 sz40 hx.1 hx.2 rfl rfl rfl rfl (fun p1354 => ?_)
                                  clear hx
                                  refine SP.fieldP see 0 rfl Tryd.underlying40 rfl sz3 k_flow_Loop.part_From rfl rfl rfl (fun p1357 => ?_)
                                  refine SP.val (Val.loadP1 see 0 rfl (fun _ _ e => e) Tryd.underlying3 rfl rfl) rfl rfl rfl ?_
                                  refine SP.val (Val.lss rfl rfl) rfl rfl rfl ?_
                                  refine SP.val (Val.move rfl) rfl rfl rfl ?_
                                  obtain ⟨t1366, hg_t1366, ho⟩ := bind_some ho
                                  refine SP.join 8 (fun a w2 => Env ⟨221, []⟩ [(0, v_l_0), (3, v4), (7, .int .i64 x936), (8, v939), (11, .int .i64 x1218), (13, .int .i64 x1326), (185, .bool true), (186, .int .i64 x936), (187, v4), (188, .int .i64 x1326), (189, p1354), (190, p1357), (191, .int .i64 x1356.From), (192, .bool (decide (x936 < x1356.From))), (193, .bool (decide (x936 < x1356.From))), (201, .bool t1366)] a ∧ St w em hV [elP (kInt .i64) p1357 x1356.From, elP k_flow_Loop p1354 x1356, slP (kInt .i64) v939 t938.1, slP k_flow_Loop v4 t3.1, slP k_api_Instr v_l_0 l_0, arrP k_arr88 0 tab0] [] w2) ?_ ?_
                                  · rintro a w2 ⟨ha, hw⟩
                                    refine SP.app ha hw ?_
                                    clear ha hw a w2 hg_t1366
                                    refine SP.val (Val.pickT rfl rfl) rfl rfl rfl ?_
                                    obtain rfl := Option.some.inj ho
                                    exact J fun a w2 ha hw => ⟨ha.sub ⟨rfl, rfl, rfl, rfl, rfl, rfl, rfl, trivial⟩, (St.selP [2, 3, 4, 5] rfl hw)⟩
                                  · intro J
                                    clear ho
                                    have ho := hg_t1366
                                    clear hg_t1366
                                    rcases if_some ho with ⟨hc, ho⟩ | ⟨hc, ho⟩
                                    · have hq1360 := (decide_eq_true hc)
                                      refine SP.isT (d := 193) rfl hq1360 ?_
                                      refine SP.not rfl rfl rfl ?_
                                      refine SP.not rfl rfl rfl ?_
                                      refine SP.not rfl rfl rfl ?_
                                      refine SP.not rfl rfl rfl ?_
                                      refine SP.not rfl rfl rfl ?_
                                      refine SP.not rfl rfl rfl ?_
                                      refine SP.not rfl rfl rfl ?_
                                      refine SP.val (Val.pickT rfl rfl) rfl rfl rfl ?_
                                      obtain rfl := Option.some.inj ho
                                      exact J fun a w2 ha hw => ⟨ha.sub ⟨rfl, rfl, rfl, rfl, rfl, rfl, rfl, rfl, rfl, rfl, rfl, rfl, rfl, rfl, congrArg (fun z => some (Value.bool z)) hq1360.symm, rfl, trivial⟩, hw⟩
                                    · have hq1360 := (decide_eq_false hc)
                                      refine SP.isF (d := 193) rfl hq1360 ?_
                                      refine SP.val (Val.move rfl) rfl rfl rfl ?_
                                      refine SP.val (Val.move rfl) rfl rfl rfl ?_
                                      refine SP.val (Val.move rfl) rfl rfl rfl ?_
                                      obtain ⟨x1363, hx, ho⟩ := bind_some ho
                                      have hx := elt_some hx
                                      refine SP.indexP see 3 rfl Tryd.underlying30 sz40 hx.1 hx.2 rfl rfl rfl rfl (fun p1361 => ?_)
                                      clear hx
                                      refine SP.fieldP see 0 rfl Tryd.underlying40 rfl sz3 k_flow_Loop.part_To rfl rfl rfl (fun p1364 => ?_)
                                      refine SP.val (Val.loadP1 see 0 rfl (fun _ _ e => e) Tryd.underlying3 rfl rfl) rfl rfl rfl ?_
                                      refine SP.val (Val.gtr rfl rfl) rfl rfl rfl ?_
                                      refine SP.val (Val.pickF rfl rfl) rfl rfl rfl ?_
                                      obtain rfl := Option.some.inj ho
                                      exact J fun a w2 ha hw => ⟨ha.sub ⟨rfl, rfl, rfl, rfl, rfl, rfl, rfl, rfl, rfl, rfl, rfl, rfl, rfl, rfl, congrArg (fun z => some (Value.bool z)) hq1360.symm, rfl, trivial⟩, (St.selP [2, 3, 4, 5, 6, 7] rfl hw)⟩
                                · have hq1353 := (bf hc)
                                  refine SP.isF (d := 185) rfl hq1353 ?_
                                  refine SP.not rfl rfl rfl ?_
                                  refine SP.not rfl rfl rfl ?_
                                  refine SP.not rfl rfl rfl ?_
                                  refine SP.not rfl rfl rfl ?_
                                  refine SP.not rfl rfl rfl ?_
                                  refine SP.not rfl rfl rfl ?_
                                  refine SP.not rfl rfl rfl ?_
                                  refine SP.not rfl rfl rfl ?_
                                  refine SP.not rfl rfl rfl ?_
                                  refine SP.not rfl rfl rfl ?_
                                  refine SP.not rfl rfl rfl ?_
                                  refine SP.not rfl rfl rfl ?_
                                  refine SP.not rfl rfl rfl ?_
                                  refine SP.not rfl rfl rfl ?_
                                  refine SP.not rfl rfl rfl ?_
                                  refine SP.not rfl rfl rfl ?_
                                  refine SP.val (Val.pickF rfl rfl) rfl rfl rfl ?_
                                  obtain rfl := Option.some.inj ho
                                  exact J fun a w2 ha hw => ⟨ha.sub ⟨rfl, rfl, rfl, rfl, rfl, rfl, rfl, trivial⟩, hw⟩
                            · refine CP.drawA (by kernel_rfl) (fun w2 k h => h.drawn k) ?_
                              obtain ⟨x1330, hx, ho⟩ := bind_some ho
                              have hx := elt_some hx
                              refine DA.ghost (fun w2 h => h.elem see 1 rfl hx.1 hx.2) (fun p1328 h_p1328 => ?_)
                              clear hx
                              refine DA.ghost (fun w2 h => h.fieldE see 0 rfl k_flow_Loop.part_From) (fun p1331 h_p1331 => ?_)
                              refine DA.ghost (fun w2 h => h.openE see 0 rfl (fun _ : Unit => [.int .i64 x1330.From]) (fun _ => []) (fun h cs e => ⟨(), e, All.nil _⟩)) (fun _ _ => ?_)
                              obtain ⟨x1336, hx, ho⟩ := bind_some ho
                              have hx := elt_some hx
                              refine DA.ghost (fun w2 h => h.elem see 3 rfl hx.1 hx.2) (fun p1334 h_p1334 => ?_)
                              clear hx
                              refine DA.ghost (fun w2 h => h.openE see 0 rfl (fun _ : Unit => [.int .i64 x1336]) (fun _ => []) (fun h cs e => ⟨(), e, All.nil _⟩)) (fun _ _ => ?_)
                              refine DA.phase (fun i => Nat.ble 0 i && Nat.blt i 9) (fun w2 => St w em hV [atP p1334 [.int .i64 x1336], elP (kInt .i64) p1334 x1336, atP p1331 [.int .i64 x1330.From], elP (kInt .i64) p1331 x1330.From, elP k_flow_Loop p1328 x1330, slP (kInt .i64) v939 t938.1, slP k_flow_Loop v4 t3.1, slP k_api_Instr v_l_0 l_0, arrP k_arr88 0 tab0] [] w2) ?_
                              refine DT.take 0 rfl rfl rfl rfl (by kernel_rfl) (fun _ _ _ h => h) (Val.move rfl) (fun w2 hw => hw) ?_
                              refine DT.take 1 rfl rfl rfl rfl (by kernel_rfl) (fun _ _ _ h => h) (Val.move rfl) (fun w2 hw => hw) ?_
                              refine DT.take 2 rfl rfl rfl rfl (by kernel_rfl) (fun _ _ _ h => h) (Val.indexE h_p1328 Tryd.underlying30 sz40 rfl rfl) (fun w2 hw => hw) ?_
                              refine DT.take 3 rfl rfl rfl rfl (by kernel_rfl) (fun _ _ _ h => h) (Val.fieldE h_p1331 Tryd.underlying40 rfl rfl sz3 rfl) (fun w2 hw => hw) ?_
                              refine DT.take 4 rfl rfl rfl rfl (by kernel_rfl) (fun _ _ _ h => h) (Val.loadAt1 see 2 rfl Tryd.underlying3 rfl rfl) (fun w2 hw => hw) ?_
                              refine DT.take 5 rfl rfl rfl rfl (by kernel_rfl) (fun _ _ _ h => h) (Val.move rfl) (fun w2 hw => hw) ?_
                              refine DT.take 6 rfl rfl rfl rfl (by kernel_rfl) (fun _ _ _ h => h) (Val.move rfl) (fun w2 hw => hw) ?_
                              refine DT.take 7 rfl rfl rfl rfl (by kernel_rfl) (fun _ _ _ h => h) (Val.indexE h_p1334 Tryd.underlying27 sz3 rfl rfl) (fun w2 hw => hw) ?_
                              refine DT.take 8 rfl rfl rfl rfl (by kernel_rfl) (fun _ _ _ h => h) (Val.loadAt1 see 0 rfl Tryd.underlying3 rfl rfl) (fun w2 hw => hw) ?_
                              refine DT.next (by kernel_rfl) ?_
                              refine DA.one 9 rfl (by kernel_rfl) ?_
                              refine SP.val (Val.lss rfl rfl) rfl rfl rfl ?_
                              refine SP.nil ?_
                              refine QE.atA ?_
                              refine DA.one 10 rfl (by kernel_rfl) ?_
                              refine SP.val (Val.move rfl) rfl rfl rfl ?_
                              refine SP.nil ?_
                              refine QE.atA ?_
                              rcases if_some ho with ⟨hc, ho⟩ | ⟨hc, ho⟩
                              · have hg1338 := (decide_eq_true hc)
                                clear hc
                                obtain ⟨x1341, hx, ho⟩ := bind_some ho
                                have hx := elt_some hx
                                refine DA.ghost (fun w2 h => h.elem see 5 rfl hx.1 hx.2) (fun p1339 h_p1339 => ?_)
                                clear hx
                                refine DA.ghost (fun w2 h => h.openE see 0 rfl (fun _ : Unit => [.int .i64 x1341]) (fun _ => []) (fun h cs e => ⟨(), e, All.nil _⟩)) (fun _ _ => ?_)
                                obtain ⟨x1345, hx, ho⟩ := bind_some ho
                                have hx := elt_some hx
                                refine DA.ghost (fun w2 h => h.elem see 8 rfl hx.1 hx.2) (fun p1343 h_p1343 => ?_)
                                clear hx
                                refine DA.ghost (fun w2 h => h.fieldE see 0 rfl k_flow_Loop.part_To) (fun p1346 h_p1346 => ?_)
                                refine DA.ghost (fun w2 h => h.openE see 0 rfl (fun _ : Unit => [.int .i64 x1345.To]) (fun _ => []) (fun h cs e => ⟨(), e, All.nil _⟩)) (fun _ _ => ?_)
                                refine DA.phase (fun i => Nat.ble 11 i && Nat.blt i 20) (fun w2 => St w em hV [atP p1346 [.int .i64 x1345.To], elP (kInt .i64) p1346 x1345.To, elP k_flow_Loop p1343 x1345, atP p1339 [.int .i64 x1341], elP (kInt .i64) p1339 x1341, atP p1334 [.int .i64 x1336], elP (kInt .i64) p1334 x1336, atP p1331 [.int .i64 x1330.From], elP (kInt .i64) p1331 x1330.From, elP k_flow_Loop p1328 x1330, slP (kInt .i64) v939 t938.1, slP k_flow_Loop v4 t3.1, slP k_api_Instr v_l_0 l_0, arrP k_arr88 0 tab0] [] w2) ?_
                                refine DT.is (d := 172) (b := true) rfl hg1338 ?_
                                refine DT.take 11 rfl rfl rfl rfl (by kernel_rfl) (fun _ _ _ h => h) (Val.move rfl) (fun w2 hw => hw) ?_
                                refine DT.take 12 rfl rfl rfl rfl (by kernel_rfl) (fun _ _ _ h => h) (Val.move rfl) (fun w2 hw => hw) ?_
                                refine DT.take 13 rfl rfl rfl rfl (by kernel_rfl) (fun _ _ _ h => h) (Val.indexE h_p1339 Tryd.underlying27 sz3 rfl rfl) (fun w2 hw => hw) ?_
                                refine DT.take 14 rfl rfl rfl rfl (by kernel_rfl) (fun _ _ _ h => h) (Val.loadAt1 see 3 rfl Tryd.underlying3 rfl rfl) (fun w2 hw => hw) ?_
                                refine DT.take 15 rfl rfl rfl rfl (by kernel_rfl) (fun _ _ _ h => h) (Val.move rfl) (fun w2 hw => hw) ?_
                                refine DT.take 16 rfl rfl rfl rfl (by kernel_rfl) (fun _ _ _ h => h) (Val.move rfl) (fun w2 hw => hw) ?_
                                refine DT.take 17 rfl rfl rfl rfl (by kernel_rfl) (fun _ _ _ h => h) (Val.indexE h_p1343 Tryd.underlying30 sz40 rfl rfl) (fun w2 hw => hw) ?_
                                refine DT.take 18 rfl rfl rfl rfl (by kernel_rfl) (fun _ _ _ h => h) (Val.fieldE h_p1346 Tryd.underlying40 rfl rfl sz3 rfl) (fun w2 hw => hw) ?_
                                refine DT.take 19 rfl rfl rfl rfl (by kernel_rfl) (fun _ _ _ h => h) (Val.loadAt1 see 0 rfl Tryd.underlying3 rfl rfl) (fun w2 hw => hw) ?_
                                refine DT.next (by kernel_rfl) ?_
                                refine DA.one 20 rfl (by kernel_rfl) ?_
                                refine SP.val (Val.leq rfl rfl) rfl rfl rfl ?_
                                refine SP.nil ?_
                                refine QE.atA ?_
                                refine DA.one 21 rfl (by kernel_rfl) ?_
                                refine SP.val (Val.pickT rfl rfl) rfl rfl rfl ?_
                                refine SP.nil ?_
                                refine QE.atA ?_
                                refine DA.one 22 rfl (by kernel_rfl) ?_
                                refine SP.val (Val.assign rfl) rfl rfl rfl ?_
                                refine SP.nil ?_
                                refine QE.atA ?_
                                refine DA.done (by kernel_rfl) ?_
                                exact QE.meet fun a w2 ha hw => ⟨(decide (x1341 ≤ x1345.To)), m1327, _, (by omega), ho, hr, ha.sub ⟨rfl, rfl, rfl, rfl, rfl, rfl, rfl, trivial⟩, (St.selP [10, 11, 12, 13] rfl hw)⟩
                              · have hg1349 := (decide_eq_false hc)
                                clear hc
                                refine DA.phase (fun i => Nat.ble 11 i && Nat.blt i 20) (fun w2 => St w em hV [atP p1334 [.int .i64 x1336], elP (kInt .i64) p1334 x1336, atP p1331 [.int .i64 x1330.From], elP (kInt .i64) p1331 x1330.From, elP k_flow_Loop p1328 x1330, slP (kInt .i64) v939 t938.1, slP k_flow_Loop v4 t3.1, slP k_api_Instr v_l_0 l_0, arrP k_arr88 0 tab0] [] w2) ?_
                                refine DT.is (d := 172) (b := false) rfl hg1349 ?_
                                refine DT.not 11 rfl rfl rfl rfl (by kernel_rfl) (fun _ _ _ h => h) (fun w2 hw => hw) ?_
                                refine DT.not 12 rfl rfl rfl rfl (by kernel_rfl) (fun _ _ _ h => h) (fun w2 hw => hw) ?_
                                refine DT.not 13 rfl rfl rfl rfl (by kernel_rfl) (fun _ _ _ h => h) (fun w2 hw => hw) ?_
                                refine DT.not 14 rfl rfl rfl rfl (by kernel_rfl) (fun _ _ _ h => h) (fun w2 hw => hw) ?_
                                refine DT.not 15 rfl rfl rfl rfl (by kernel_rfl) (fun _ _ _ h => h) (fun w2 hw => hw) ?_
                                refine DT.not 16 rfl rfl rfl rfl (by kernel_rfl) (fun _ _ _ h => h) (fun w2 hw => hw) ?_
                                refine DT.not 17 rfl rfl rfl rfl (by kernel_rfl) (fun _ _ _ h => h) (fun w2 hw => hw) ?_
                                refine DT.not 18 rfl rfl rfl rfl (by kernel_rfl) (fun _ _ _ h => h) (fun w2 hw => hw) ?_
                                refine DT.not 19 rfl rfl rfl rfl (by kernel_rfl) (fun _ _ _ h => h) (fun w2 hw => hw) ?_
                                refine DT.next (by kernel_rfl) ?_
                                refine DA.phase (fun i => Nat.ble 20 i && Nat.blt i 21) (fun w2 => St w em hV [atP p1334 [.int .i64 x1336], elP (kInt .i64) p1334 x1336, atP p1331 [.int .i64 x1330.From], elP (kInt .i64) p1331 x1330.From, elP k_flow_Loop p1328 x1330, slP (kInt .i64) v939 t938.1, slP k_flow_Loop v4 t3.1, slP k_api_Instr v_l_0 l_0, arrP k_arr88 0 tab0] [] w2) ?_
                                refine DT.not 20 rfl rfl rfl rfl (by kernel_rfl) (fun _ _ _ h => h) (fun w2 hw => hw) ?_
                                refine DT.next (by kernel_rfl) ?_
                                refine DA.one 21 rfl (by kernel_rfl) ?_
                                refine SP.val (Val.pickF rfl rfl) rfl rfl rfl ?_
                                refine SP.nil ?_
                                refine QE.atA ?_
                                refine DA.one 22 rfl (by kernel_rfl) ?_
                                refine SP.val (Val.assign rfl) rfl rfl rfl ?_
                                refine SP.nil ?_
                                refine QE.atA ?_
                                refine DA.done (by kernel_rfl) ?_
                                exact QE.meet fun a w2 ha hw => ⟨false, m1327, _, (by omega), ho, hr, ha.sub ⟨rfl, rfl, rfl, rfl, rfl, rfl, rfl, trivial⟩, (St.selP [5, 6, 7, 8] rfl hw)⟩
                          · refine CP.condF rfl (decide_eq_false hc) ?_
                            refine CP.exit ?_
                            refine QE.thru (by intro e; cases e) ?_
                            refine QE.thru (by intro e; cases e) ?_
                            refine QE.blockE ?_
                            refine QE.blockN ?_
                            refine QE.then ?_
                            refine CP.region ?_
                            refine SP.val (Val.move rfl) rfl rfl rfl ?_
                            refine SP.val (Val.add rfl rfl) rfl rfl rfl ?_
                            refine SP.val (Val.assign rfl) rfl rfl rfl ?_
                            refine SP.nil ?_
                            obtain rfl := Option.some.inj ho
                            exact QE.lower m1327 (by omega) fun a w2 ha hw => ⟨(IntKind.i64.wrap (x1218 + 1)), (by omega), hr, ha.sub ⟨rfl, rfl, rfl, rfl, rfl, trivial⟩, hw⟩
                      · refine CP.drawA (by kernel_rfl) (fun w2 k h => h.drawn k) ?_
                        obtain ⟨x1241, hx, ho⟩ := bind_some ho
                        have hx := elt_some hx
                        refine DA.ghost (fun w2 h => h.elem see 0 rfl hx.1 hx.2) (fun p1239 h_p1239 => ?_)
                        clear hx
                        refine DA.ghost (fun w2 h => h.openE see 0 rfl (fun _ : Unit => [.int .i64 x1241]) (fun _ => []) (fun h cs e => ⟨(), e, All.nil _⟩)) (fun _ _ => ?_)
                        refine DA.phase (fun i => Nat.ble 0 i && Nat.blt i 6) (fun w2 => St w em hV [atP p1239 [.int .i64 x1241], elP (kInt .i64) p1239 x1241, slP (kInt .i64) v939 t938.1, slP k_flow_Loop v4 t3.1, slP k_api_Instr v_l_0 l_0, arrP k_arr88 0 tab0] [] w2) ?_
                        refine DT.take 0 rfl rfl rfl rfl (by kernel_rfl) (fun _ _ _ h => h) (Val.move rfl) (fun w2 hw => hw) ?_
                        refine DT.take 1 rfl rfl rfl rfl (by kernel_rfl) (fun _ _ _ h => h) (Val.move rfl) (fun w2 hw => hw) ?_
                        refine DT.take 2 rfl rfl rfl rfl (by kernel_rfl) (fun _ _ _ h => h) (Val.indexE h_p1239 Tryd.underlying27 sz3 rfl rfl) (fun w2 hw => hw) ?_
                        refine DT.take 3 rfl rfl rfl rfl (by kernel_rfl) (fun _ _ _ h => h) (Val.loadAt1 see 0 rfl Tryd.underlying3 rfl rfl) (fun w2 hw => hw) ?_
                        refine DT.take 4 rfl rfl rfl rfl (by kernel_rfl) (fun _ _ _ h => h) (Val.move rfl) (fun w2 hw => hw) ?_
                        refine DT.take 5 rfl rfl rfl rfl (by kernel_rfl) (fun _ _ _ h => h) (Val.lenP see 4 rfl Tryd.underlying22 rfl) (fun w2 hw => hw) ?_
                        refine DT.next (by kernel_rfl) ?_
                        refine DA.one 6 rfl (by kernel_rfl) ?_
                        refine SP.val (Val.geq rfl rfl) rfl rfl rfl ?_
                        refine SP.nil ?_
                        refine QE.atA ?_
                        refine DA.one 7 rfl (by kernel_rfl) ?_
                        refine SP.val (Val.move rfl) rfl rfl rfl ?_
                        refine SP.nil ?_
                        refine QE.atA ?_
                        rcases if_some ho with ⟨hc, ho⟩ | ⟨hc, ho⟩
                        · have hg1243 := (decide_eq_true hc)
                          clear hc
                          refine DA.phase (fun i => Nat.ble 8 i && Nat.blt i 13) (fun w2 => St w em hV [atP p1239 [.int .i64 x1241], elP (kInt .i64) p1239 x1241, slP (kInt .i64) v939 t938.1, slP k_flow_Loop v4 t3.1, slP k_api_Instr v_l_0 l_0, arrP k_arr88 0 tab0] [] w2) ?_
                          refine DT.is (d := 121) (b := true) rfl hg1243 ?_
                          refine DT.not 8 rfl rfl rfl rfl (by kernel_rfl) (fun _ _ _ h => h) (fun w2 hw => hw) ?_
                          refine DT.not 9 rfl rfl rfl rfl (by kernel_rfl) (fun _ _ _ h => h) (fun w2 hw => hw) ?_
                          refine DT.not 10 rfl rfl rfl rfl (by kernel_rfl) (fun _ _ _ h => h) (fun w2 hw => hw) ?_
                          refine DT.not 11 rfl rfl rfl rfl (by kernel_rfl) (fun _ _ _ h => h) (fun w2 hw => hw) ?_
                          refine DT.not 12 rfl rfl rfl rfl (by kernel_rfl) (fun _ _ _ h => h) (fun w2 hw => hw) ?_
                          refine DT.next (by kernel_rfl) ?_
                          refine DA.phase (fun i => Nat.ble 13 i && Nat.blt i 14) (fun w2 => St w em hV [atP p1239 [.int .i64 x1241], elP (kInt .i64) p1239 x1241, slP (kInt .i64) v939 t938.1, slP k_flow_Loop v4 t3.1, slP k_api_Instr v_l_0 l_0, arrP k_arr88 0 tab0] [] w2) ?_
                          refine DT.not 13 rfl rfl rfl rfl (by kernel_rfl) (fun _ _ _ h => h) (fun w2 hw => hw) ?_
                          refine DT.next (by kernel_rfl) ?_
                          refine DA.phase (fun i => Nat.ble 14 i && Nat.blt i 15) (fun w2 => St w em hV [atP p1239 [.int .i64 x1241], elP (kInt .i64) p1239 x1241, slP (kInt .i64) v939 t938.1, slP k_flow_Loop v4 t3.1, slP k_api_Instr v_l_0 l_0, arrP k_arr88 0 tab0] [] w2) ?_
                          refine DT.not 14 rfl rfl rfl rfl (by kernel_rfl) (fun _ _ _ h => h) (fun w2 hw => hw) ?_
                          refine DT.next (by kernel_rfl) ?_
                          refine DA.phase (fun i => Nat.ble 15 i && Nat.blt i 16) (fun w2 => St w em hV [atP p1239 [.int .i64 x1241], elP (kInt .i64) p1239 x1241, slP (kInt .i64) v939 t938.1, slP k_flow_Loop v4 t3.1, slP k_api_Instr v_l_0 l_0, arrP k_arr88 0 tab0] [] w2) ?_
                          refine DT.not 15 rfl rfl rfl rfl (by kernel_rfl) (fun _ _ _ h => h) (fun w2 hw => hw) ?_
                          refine DT.next (by kernel_rfl) ?_
                          refine DA.phase (fun i => Nat.ble 16 i && Nat.blt i 17) (fun w2 => St w em hV [atP p1239 [.int .i64 x1241], elP (kInt .i64) p1239 x1241, slP (kInt .i64) v939 t938.1, slP k_flow_Loop v4 t3.1, slP k_api_Instr v_l_0 l_0, arrP k_arr88 0 tab0] [] w2) ?_
                          refine DT.not 16 rfl rfl rfl rfl (by kernel_rfl) (fun _ _ _ h => h) (fun w2 hw => hw) ?_
                          refine DT.next (by kernel_rfl) ?_
                          refine DA.phase (fun i => Nat.ble 17 i && Nat.blt i 18) (fun w2 => St w em hV [atP p1239 [.int .i64 x1241], elP (kInt .i64) p1239 x1241, slP (kInt .i64) v939 t938.1, slP k_flow_Loop v4 t3.1, slP k_api_Instr v_l_0 l_0, arrP k_arr88 0 tab0] [] w2) ?_
                          refine DT.not 17 rfl rfl rfl rfl (by kernel_rfl) (fun _ _ _ h => h) (fun w2 hw => hw) ?_
                          refine DT.next (by kernel_rfl) ?_
                          refine DA.one 18 rfl (by kernel_rfl) ?_
                          refine SP.val (Val.pickT rfl rfl) rfl rfl rfl ?_
                          refine SP.nil ?_
                          refine QE.atA ?_
                          refine DA.one 19 rfl (by kernel_rfl) ?_
                          refine SP.val (Val.move rfl) rfl rfl rfl ?_
                          refine SP.nil ?_
                          refine QE.atA ?_
                          refine DA.phase (fun i => Nat.ble 20 i && Nat.blt i 22) (fun w2 => St w em hV [atP p1239 [.int .i64 x1241], elP (kInt .i64) p1239 x1241, slP (kInt .i64) v939 t938.1, slP k_flow_Loop v4 t3.1, slP k_api_Instr v_l_0 l_0, arrP k_arr88 0 tab0] [] w2) ?_
                          refine DT.not 20 rfl rfl rfl rfl (by kernel_rfl) (fun _ _ _ h => h) (fun w2 hw => hw) ?_
                          refine DT.not 21 rfl rfl rfl rfl (by kernel_rfl) (fun _ _ _ h => h) (fun w2 hw => hw) ?_
                          refine DT.next (by kernel_rfl) ?_
                          refine DA.phase (fun i => Nat.ble 22 i && Nat.blt i 23) (fun w2 => St w em hV [atP p1239 [.int .i64 x1241], elP (kInt .i64) p1239 x1241, slP (kInt .i64) v939 t938.1, slP k_flow_Loop v4 t3.1, slP k_api_Instr v_l_0 l_0, arrP k_arr88 0 tab0] [] w2) ?_
                          refine DT.not 22 rfl rfl rfl rfl (by kernel_rfl) (fun _ _ _ h => h) (fun w2 hw => hw) ?_
                          refine DT.next (by kernel_rfl) ?_
                          refine DA.phase (fun i => Nat.ble 23 i && Nat.blt i 24) (fun w2 => St w em hV [atP p1239 [.int .i64 x1241], elP (kInt .i64) p1239 x1241, slP (kInt .i64) v939 t938.1, slP k_flow_Loop v4 t3.1, slP k_api_Instr v_l_0 l_0, arrP k_arr88 0 tab0] [] w2) ?_
                          refine DT.not 23 rfl rfl rfl rfl (by kernel_rfl) (fun _ _ _ h => h) (fun w2 hw => hw) ?_
                          refine DT.next (by kernel_rfl) ?_
                          refine DA.phase (fun i => Nat.ble 24 i && Nat.blt i 25) (fun w2 => St w em hV [atP p1239 [.int .i64 x1241], elP (kInt .i64) p1239 x1241, slP (kInt .i64) v939 t938.1, slP k_flow_Loop v4 t3.1, slP k_api_Instr v_l_0 l_0, arrP k_arr88 0 tab0] [] w2) ?_
                          refine DT.not 24 rfl rfl rfl rfl (by kernel_rfl) (fun _ _ _ h => h) (fun w2 hw => hw) ?_
                          refine DT.next (by kernel_rfl) ?_
                          refine DA.one 25 rfl (by kernel_rfl) ?_
                          refine SP.val (Val.pickT rfl rfl) rfl rfl rfl ?_
                          refine SP.nil ?_
                          refine QE.atA ?_
                          refine DA.one 26 rfl (by kernel_rfl) ?_
                          refine SP.val (Val.move rfl) rfl rfl rfl ?_
                          refine SP.nil ?_
                          refine QE.atA ?_
                          refine DA.phase (fun i => Nat.ble 27 i && Nat.blt i 28) (fun w2 => St w em hV [atP p1239 [.int .i64 x1241], elP (kInt .i64) p1239 x1241, slP (kInt .i64) v939 t938.1, slP k_flow_Loop v4 t3.1, slP k_api_Instr v_l_0 l_0, arrP k_arr88 0 tab0] [] w2) ?_
                          refine DT.not 27 rfl rfl rfl rfl (by kernel_rfl) (fun _ _ _ h => h) (fun w2 hw => hw) ?_
                          refine DT.next (by kernel_rfl) ?_
                          refine DA.phase (fun i => Nat.ble 28 i && Nat.blt i 29) (fun w2 => St w em hV [atP p1239 [.int .i64 x1241], elP (kInt .i64) p1239 x1241, slP (kInt .i64) v939 t938.1, slP k_flow_Loop v4 t3.1, slP k_api_Instr v_l_0 l_0, arrP k_arr88 0 tab0] [] w2) ?_
                          refine DT.not 28 rfl rfl rfl rfl (by kernel_rfl) (fun _ _ _ h => h) (fun w2 hw => hw) ?_
                          refine DT.next (by kernel_rfl) ?_
                          refine DA.phase (fun i => Nat.ble 29 i && Nat.blt i 30) (fun w2 => St w em hV [atP p1239 [.int .i64 x1241], elP (kInt .i64) p1239 x1241, slP (kInt .i64) v939 t938.1, slP k_flow_Loop v4 t3.1, slP k_api_Instr v_l_0 l_0, arrP k_arr88 0 tab0] [] w2) ?_
                          refine DT.not 29 rfl rfl rfl rfl (by kernel_rfl) (fun _ _ _ h => h) (fun w2 hw => hw) ?_
                          refine DT.next (by kernel_rfl) ?_
                          refine DA.phase (fun i => Nat.ble 30 i && Nat.blt i 39) (fun w2 => St w em hV [atP p1239 [.int .i64 x1241], elP (kInt .i64) p1239 x1241, slP (kInt .i64) v939 t938.1, slP k_flow_Loop v4 t3.1, slP k_api_Instr v_l_0 l_0, arrP k_arr88 0 tab0] [] w2) ?_
                          refine DT.not 30 rfl rfl rfl rfl (by kernel_rfl) (fun _ _ _ h => h) (fun w2 hw => hw) ?_
                          refine DT.not 31 rfl rfl rfl rfl (by kernel_rfl) (fun _ _ _ h => h) (fun w2 hw => hw) ?_
                          refine DT.not 32 rfl rfl rfl rfl (by kernel_rfl) (fun _ _ _ h => h) (fun w2 hw => hw) ?_
                          refine DT.not 33 rfl rfl rfl rfl (by kernel_rfl) (fun _ _ _ h => h) (fun w2 hw => hw) ?_
                          refine DT.not 34 rfl rfl rfl rfl (by kernel_rfl) (fun _ _ _ h => h) (fun w2 hw => hw) ?_
                          refine DT.not 35 rfl rfl rfl rfl (by kernel_rfl) (fun _ _ _ h => h) (fun w2 hw => hw) ?_
                          refine DT.not 36 rfl rfl rfl rfl (by kernel_rfl) (fun _ _ _ h => h) (fun w2 hw => hw) ?_
                          refine DT.not 37 rfl rfl rfl rfl (by kernel_rfl) (fun _ _ _ h => h) (fun w2 hw => hw) ?_
                          refine DT.not 38 rfl rfl rfl rfl (by kernel_rfl) (fun _ _ _ h => h) (fun w2 hw => hw) ?_
                          refine DT.next (by kernel_rfl) ?_
                          refine DA.phase (fun i => Nat.ble 39 i && Nat.blt i 40) (fun w2 => St w em hV [atP p1239 [.int .i64 x1241], elP (kInt .i64) p1239 x1241, slP (kInt .i64) v939 t938.1, slP k_flow_Loop v4 t3.1, slP k_api_Instr v_l_0 l_0, arrP k_arr88 0 tab0] [] w2) ?_
                          refine DT.not 39 rfl rfl rfl rfl (by kernel_rfl) (fun _ _ _ h => h) (fun w2 hw => hw) ?_
                          refine DT.next (by kernel_rfl) ?_
                          refine DA.phase (fun i => Nat.ble 40 i && Nat.blt i 41) (fun w2 => St w em hV [atP p1239 [.int .i64 x1241], elP (kInt .i64) p1239 x1241, slP (kInt .i64) v939 t938.1, slP k_flow_Loop v4 t3.1, slP k_api_Instr v_l_0 l_0, arrP k_arr88 0 tab0] [] w2) ?_
                          refine DT.not 40 rfl rfl rfl rfl (by kernel_rfl) (fun _ _ _ h => h) (fun w2 hw => hw) ?_
                          refine DT.next (by kernel_rfl) ?_
                          refine DA.one 41 rfl (by kernel_rfl) ?_
                          refine SP.val (Val.pickT rfl rfl) rfl rfl rfl ?_
                          refine SP.nil ?_
                          refine QE.atA ?_
                          refine DA.done (by kernel_rfl) ?_
                          exact QE.meet fun a w2 ha hw => ⟨true, m1238, _, (by omega), ho, hr, ha.sub ⟨rfl, rfl, rfl, rfl, rfl, rfl, trivial⟩, (St.selP [2, 3, 4, 5] rfl hw)⟩
                        · have hg1244 := (decide_eq_false hc)
                          clear hc
                          obtain ⟨x1247, hx, ho⟩ := bind_some ho
                          have hx := elt_some hx
                          refine DA.ghost (fun w2 h => h.elem see 2 rfl hx.1 hx.2) (fun p1245 h_p1245 => ?_)
                          clear hx
                          refine DA.ghost (fun w2 h => h.openE see 0 rfl (fun _ : Unit => [.int .i64 x1247]) (fun _ => []) (fun h cs e => ⟨(), e, All.nil _⟩)) (fun _ _ => ?_)
                          refine DA.phase (fun i => Nat.ble 8 i && Nat.blt i 13) (fun w2 => St w em hV [atP p1245 [.int .i64 x1247], elP (kInt .i64) p1245 x1247, atP p1239 [.int .i64 x1241], elP (kInt .i64) p1239 x1241, slP (kInt .i64) v939 t938.1, slP k_flow_Loop v4 t3.1, slP k_api_Instr v_l_0 l_0, arrP k_arr88 0 tab0] [] w2) ?_
                          refine DT.is (d := 121) (b := false) rfl hg1244 ?_
                          refine DT.take 8 rfl rfl rfl rfl (by kernel_rfl) (fun _ _ _ h => h) (Val.move rfl) (fun w2 hw => hw) ?_
                          refine DT.take 9 rfl rfl rfl rfl (by kernel_rfl) (fun _ _ _ h => h) (Val.move rfl) (fun w2 hw => hw) ?_
                          refine DT.take 10 rfl rfl rfl rfl (by kernel_rfl) (fun _ _ _ h => h) (Val.indexE h_p1245 Tryd.underlying27 sz3 rfl rfl) (fun w2 hw => hw) ?_
                          refine DT.take 11 rfl rfl rfl rfl (by kernel_rfl) (fun _ _ _ h => h) (Val.loadAt1 see 0 rfl Tryd.underlying3 rfl rfl) (fun w2 hw => hw) ?_
                          refine DT.take 12 rfl rfl rfl rfl (by kernel_rfl) (fun _ _ _ h => h) (Val.move rfl) (fun w2 hw => hw) ?_
                          refine DT.next (by kernel_rfl) ?_
                          refine DA.one 13 rfl (by kernel_rfl) ?_
                          refine SP.val (Val.leq rfl rfl) rfl rfl rfl ?_
                          refine SP.nil ?_
                          refine QE.atA ?_
                          refine DA.one 14 rfl (by kernel_rfl) ?_
                          refine SP.val (Val.move rfl) rfl rfl rfl ?_
                          refine SP.nil ?_
                          refine QE.atA ?_
                          rcases if_some ho with ⟨hc, ho⟩ | ⟨hc, ho⟩
                          · have hg1249 := (decide_eq_true hc)
                            clear hc
                            refine DA.is (d := 128) (b := true) rfl hg1249 ?_
                            refine DA.one 15 rfl (by kernel_rfl) ?_
                            refine SP.val (Val.move rfl) rfl rfl rfl ?_
                            refine SP.nil ?_
                            refine QE.atA ?_
                            refine DA.one 16 rfl (by kernel_rfl) ?_
                            refine SP.val (Val.notB rfl) rfl rfl rfl ?_
                            refine SP.nil ?_
                            refine QE.atA ?_
                            refine DA.one 17 rfl (by kernel_rfl) ?_
                            refine SP.val (Val.pickT rfl rfl) rfl rfl rfl ?_
                            refine SP.nil ?_
                            refine QE.atA ?_
                            refine DA.one 18 rfl (by kernel_rfl) ?_
                            refine SP.val (Val.pickF rfl rfl) rfl rfl rfl ?_
                            refine SP.nil ?_
                            refine QE.atA ?_
                            refine DA.one 19 rfl (by kernel_rfl) ?_
                            refine SP.val (Val.move rfl) rfl rfl rfl ?_
                            refine SP.nil ?_
                            refine QE.atA ?_
                            rcases if_some ho with ⟨hc, ho⟩ | ⟨hc, ho⟩
                            · have hg1250 := hc
                              clear hc
                              refine DA.phase (fun i => Nat.ble 20 i && Nat.blt i 22) (fun w2 => St w em hV [atP p1245 [.int .i64 x1247], elP (kInt .i64) p1245 x1247, atP p1239 [.int .i64 x1241], elP (kInt .i64) p1239 x1241, slP (kInt .i64) v939 t938.1, slP k_flow_Loop v4 t3.1, slP k_api_Instr v_l_0 l_0, arrP k_arr88 0 tab0] [] w2) ?_
                              refine DT.is (d := 133) (b := true) rfl hg1250 ?_
                              refine DT.not 20 rfl rfl rfl rfl (by kernel_rfl) (fun _ _ _ h => h) (fun w2 hw => hw) ?_
                              refine DT.not 21 rfl rfl rfl rfl (by kernel_rfl) (fun _ _ _ h => h) (fun w2 hw => hw) ?_
                              refine DT.next (by kernel_rfl) ?_
                              refine DA.phase (fun i => Nat.ble 22 i && Nat.blt i 23) (fun w2 => St w em hV [atP p1245 [.int .i64 x1247], elP (kInt .i64) p1245 x1247, atP p1239 [.int .i64 x1241], elP (kInt .i64) p1239 x1241, slP (kInt .i64) v939 t938.1, slP k_flow_Loop v4 t3.1, slP k_api_Instr v_l_0 l_0, arrP k_arr88 0 tab0] [] w2) ?_
                              refine DT.not 22 rfl rfl rfl rfl (by kernel_rfl) (fun _ _ _ h => h) (fun w2 hw => hw) ?_
                              refine DT.next (by kernel_rfl) ?_
                              refine DA.phase (fun i => Nat.ble 23 i && Nat.blt i 24) (fun w2 => St w em hV [atP p1245 [.int .i64 x1247], elP (kInt .i64) p1245 x1247, atP p1239 [.int .i64 x1241], elP (kInt .i64) p1239 x1241, slP (kInt .i64) v939 t938.1, slP k_flow_Loop v4 t3.1, slP k_api_Instr v_l_0 l_0, arrP k_arr88 0 tab0] [] w2) ?_
                              refine DT.not 23 rfl rfl rfl rfl (by kernel_rfl) (fun _ _ _ h => h) (fun w2 hw => hw) ?_
                              refine DT.next (by kernel_rfl) ?_
                              refine DA.phase (fun i => Nat.ble 24 i && Nat.blt i 25) (fun w2 => St w em hV [atP p1245 [.int .i64 x1247], elP (kInt .i64) p1245 x1247, atP p1239 [.int .i64 x1241], elP (kInt .i64) p1239 x1241, slP (kInt .i64) v939 t938.1, slP k_flow_Loop v4 t3.1, slP k_api_Instr v_l_0 l_0, arrP k_arr88 0 tab0] [] w2) ?_
                              refine DT.not 24 rfl rfl rfl rfl (by kernel_rfl) (fun _ _ _ h => h) (fun w2 hw => hw) ?_
                              refine DT.next (by kernel_rfl) ?_
                              refine DA.one 25 rfl (by kernel_rfl) ?_
                              refine SP.val (Val.pickT rfl rfl) rfl rfl rfl ?_
                              refine SP.nil ?_
                              refine QE.atA ?_
                              refine DA.one 26 rfl (by kernel_rfl) ?_
                              refine SP.val (Val.move rfl) rfl rfl rfl ?_
                              refine SP.nil ?_
                              refine QE.atA ?_
                              refine DA.phase (fun i => Nat.ble 27 i && Nat.blt i 28) (fun w2 => St w em hV [atP p1245 [.int .i64 x1247], elP (kInt .i64) p1245 x1247, atP p1239 [.int .i64 x1241], elP (kInt .i64) p1239 x1241, slP (kInt .i64) v939 t938.1, slP k_flow_Loop v4 t3.1, slP k_api_Instr v_l_0 l_0, arrP k_arr88 0 tab0] [] w2) ?_
                              refine DT.not 27 rfl rfl rfl rfl (by kernel_rfl) (fun _ _ _ h => h) (fun w2 hw => hw) ?_
                              refine DT.next (by kernel_rfl) ?_
                              refine DA.phase (fun i => Nat.ble 28 i && Nat.blt i 29) (fun w2 => St w em hV [atP p1245 [.int .i64 x1247], elP (kInt .i64) p1245 x1247, atP p1239 [.int .i64 x1241], elP (kInt .i64) p1239 x1241, slP (kInt .i64) v939 t938.1, slP k_flow_Loop v4 t3.1, slP k_api_Instr v_l_0 l_0, arrP k_arr88 0 tab0] [] w2) ?_
                              refine DT.not 28 rfl rfl rfl rfl (by kernel_rfl) (fun _ _ _ h => h) (fun w2 hw => hw) ?_
                              refine DT.next (by kernel_rfl) ?_
                              refine DA.phase (fun i => Nat.ble 29 i && Nat.blt i 30) (fun w2 => St w em hV [atP p1245 [.int .i64 x1247], elP (kInt .i64) p1245 x1247, atP p1239 [.int .i64 x1241], elP (kInt .i64) p1239 x1241, slP (kInt .i64) v939 t938.1, slP k_flow_Loop v4 t3.1, slP k_api_Instr v_l_0 l_0, arrP k_arr88 0 tab0] [] w2) ?_
                              refine DT.not 29 rfl rfl rfl rfl (by kernel_rfl) (fun _ _ _ h => h) (fun w2 hw => hw) ?_
                              refine DT.next (by kernel_rfl) ?_
                              refine DA.phase (fun i => Nat.ble 30 i && Nat.blt i 39) (fun w2 => St w em hV [atP p1245 [.int .i64 x1247], elP (kInt .i64) p1245 x1247, atP p1239 [.int .i64 x1241], elP (kInt .i64) p1239 x1241, slP (kInt .i64) v939 t938.1, slP k_flow_Loop v4 t3.1, slP k_api_Instr v_l_0 l_0, arrP k_arr88 0 tab0] [] w2) ?_
                              refine DT.not 30 rfl rfl rfl rfl (by kernel_rfl) (fun _ _ _ h => h) (fun w2 hw => hw) ?_
                              refine DT.not 31 rfl rfl rfl rfl (by kernel_rfl) (fun _ _ _ h => h) (fun w2 hw => hw) ?_
                              refine DT.not 32 rfl rfl rfl rfl (by kernel_rfl) (fun _ _ _ h => h) (fun w2 hw => hw) ?_
                              refine DT.not 33 rfl rfl rfl rfl (by kernel_rfl) (fun _ _ _ h => h) (fun w2 hw => hw) ?_
                              refine DT.not 34 rfl rfl rfl rfl (by kernel_rfl) (fun _ _ _ h => h) (fun w2 hw => hw) ?_
                              refine DT.not 35 rfl rfl rfl rfl (by kernel_rfl) (fun _ _ _ h => h) (fun w2 hw => hw) ?_
                              refine DT.not 36 rfl rfl rfl rfl (by kernel_rfl) (fun _ _ _ h => h) (fun w2 hw => hw) ?_
                              refine DT.not 37 rfl rfl rfl rfl (by kernel_rfl) (fun _ _ _ h => h) (fun w2 hw => hw) ?_
                              refine DT.not 38 rfl rfl rfl rfl (by kernel_rfl) (fun _ _ _ h => h) (fun w2 hw => hw) ?_
                              refine DT.next (by kernel_rfl) ?_
                              refine DA.phase (fun i => Nat.ble 39 i && Nat.blt i 40) (fun w2 => St w em hV [atP p1245 [.int .i64 x1247], elP (kInt .i64) p1245 x1247, atP p1239 [.int .i64 x1241], elP (kInt .i64) p1239 x1241, slP (kInt .i64) v939 t938.1, slP k_flow_Loop v4 t3.1, slP k_api_Instr v_l_0 l_0, arrP k_arr88 0 tab0] [] w2) ?_
                              refine DT.not 39 rfl rfl rfl rfl (by kernel_rfl) (fun _ _ _ h => h) (fun w2 hw => hw) ?_
                              refine DT.next (by kernel_rfl) ?_
                              refine DA.phase (fun i => Nat.ble 40 i && Nat.blt i 41) (fun w2 => St w em hV [atP p1245 [.int .i64 x1247], elP (kInt .i64) p1245 x1247, atP p1239 [.int .i64 x1241], elP (kInt .i64) p1239 x1241, slP (kInt .i64) v939 t938.1, slP k_flow_Loop v4 t3.1, slP k_api_Instr v_l_0 l_0, arrP k_arr88 0 tab0] [] w2) ?_
                              refine DT.not 40 rfl rfl rfl rfl (by kernel_rfl) (fun _ _ _ h => h) (fun w2 hw => hw) ?_
                              refine DT.next (by kernel_rfl) ?_
                              refine DA.one 41 rfl (by kernel_rfl) ?_
                              refine SP.val (Val.pickT rfl rfl) rfl rfl rfl ?_
                              refine SP.nil ?_
                              refine QE.atA ?_
                              refine DA.done (by kernel_rfl) ?_
                              exact QE.meet fun a w2 ha hw => ⟨true, m1238, _, (by omega), ho, hr, ha.sub ⟨rfl, rfl, rfl, rfl, rfl, rfl, trivial⟩, (St.selP [4, 5, 6, 7] rfl hw)⟩
                            · have hg1251 := (bf hc)
                              clear hc
                              refine DA.phase (fun i => Nat.ble 20 i && Nat.blt i 22) (fun w2 => St w em hV [atP p1245 [.int .i64 x1247], elP (kInt .i64) p1245 x1247, atP p1239 [.int .i64 x1241], elP (kInt .i64) p1239 x1241, slP (kInt .i64) v939 t938.1, slP k_flow_Loop v4 t3.1, slP k_api_Instr v_l_0 l_0, arrP k_arr88 0 tab0] [] w2) ?_
                              refine DT.is (d := 133) (b := false) rfl hg1251 ?_
                              refine DT.take 20 rfl rfl rfl rfl (by kernel_rfl) (fun _ _ _ h => h) (Val.move rfl) (fun w2 hw => hw) ?_
                              refine DT.take 21 rfl rfl rfl rfl (by kernel_rfl) (fun _ _ _ h => h) (Val.move rfl) (fun w2 hw => hw) ?_
                              refine DT.next (by kernel_rfl) ?_
                              refine DA.one 22 rfl (by kernel_rfl) ?_
                              obtain ⟨x1254, hx, ho⟩ := bind_some ho
                              have hx := elt_some hx
                              refine SP.indexP see 4 rfl Tryd.underlying27 sz3 hx.1 hx.2 rfl rfl rfl rfl (fun p1252 => ?_)
                              clear hx
                              refine SP.nil ?_
                              refine QE.atA ?_
                              refine DA.one 23 rfl (by kernel_rfl) ?_
                              refine SP.val (Val.loadP1 see 0 rfl (fun _ _ e => e) Tryd.underlying3 rfl rfl) rfl rfl rfl ?_
                              refine SP.nil ?_
                              refine QE.atA ?_
                              refine DA.one 24 rfl (by kernel_rfl) ?_
                              refine SP.val (Val.lss rfl rfl) rfl rfl rfl ?_
                              refine SP.nil ?_
                              refine QE.atA ?_
                              refine DA.one 25 rfl (by kernel_rfl) ?_
                              refine SP.val (Val.pickF rfl rfl) rfl rfl rfl ?_
                              refine SP.nil ?_
                              refine QE.atA ?_
                              refine DA.one 26 rfl (by kernel_rfl) ?_
                              refine SP.val (Val.move rfl) rfl rfl rfl ?_
                              refine SP.nil ?_
                              refine QE.atA ?_
                              rcases if_some ho with ⟨hc, ho⟩ | ⟨hc, ho⟩
                              · have hg1255 := (decide_eq_true hc)
                                clear hc
                                refine DA.is (d := 140) (b := true) rfl hg1255 ?_
                                refine DA.phase (fun i => Nat.ble 27 i && Nat.blt i 28) (fun w2 => St w em hV [elP (kInt .i64) p1252 x1254, atP p1245 [.int .i64 x1247], elP (kInt .i64) p1245 x1247, atP p1239 [.int .i64 x1241], elP (kInt .i64) p1239 x1241, slP (kInt .i64) v939 t938.1, slP k_flow_Loop v4 t3.1, slP k_api_Instr v_l_0 l_0, arrP k_arr88 0 tab0] [] w2) ?_
                                refine DT.not 27 rfl rfl rfl rfl (by kernel_rfl) (fun _ _ _ h => h) (fun w2 hw => hw) ?_
                                refine DT.next (by kernel_rfl) ?_
                                refine DA.phase (fun i => Nat.ble 28 i && Nat.blt i 29) (fun w2 => St w em hV [elP (kInt .i64) p1252 x1254, atP p1245 [.int .i64 x1247], elP (kInt .i64) p1245 x1247, atP p1239 [.int .i64 x1241], elP (kInt .i64) p1239 x1241, slP (kInt .i64) v939 t938.1, slP k_flow_Loop v4 t3.1, slP k_api_Instr v_l_0 l_0, arrP k_arr88 0 tab0] [] w2) ?_
                                refine DT.not 28 rfl rfl rfl rfl (by kernel_rfl) (fun _ _ _ h => h) (fun w2 hw => hw) ?_
                                refine DT.next (by kernel_rfl) ?_
                                refine DA.phase (fun i => Nat.ble 29 i && Nat.blt i 30) (fun w2 => St w em hV [elP (kInt .i64) p1252 x1254, atP p1245 [.int .i64 x1247], elP (kInt .i64) p1245 x1247, atP p1239 [.int .i64 x1241], elP (kInt .i64) p1239 x1241, slP (kInt .i64) v939 t938.1, slP k_flow_Loop v4 t3.1, slP k_api_Instr v_l_0 l_0, arrP k_arr88 0 tab0] [] w2) ?_
                                refine DT.not 29 rfl rfl rfl rfl (by kernel_rfl) (fun _ _ _ h => h) (fun w2 hw => hw) ?_
                                refine DT.next (by kernel_rfl) ?_
                                refine DA.phase (fun i => Nat.ble 30 i && Nat.blt i 39) (fun w2 => St w em hV [elP (kInt .i64) p1252 x1254, atP p1245 [.int .i64 x1247], elP (kInt .i64) p1245 x1247, atP p1239 [.int .i64 x1241], elP (kInt .i64) p1239 x1241, slP (kInt .i64) v939 t938.1, slP k_flow_Loop v4 t3.1, slP k_api_Instr v_l_0 l_0, arrP k_arr88 0 tab0] [] w2) ?_
                                refine DT.not 30 rfl rfl rfl rfl (by kernel_rfl) (fun _ _ _ h => h) (fun w2 hw => hw) ?_
                                refine DT.not 31 rfl rfl rfl rfl (by kernel_rfl) (fun _ _ _ h => h) (fun w2 hw => hw) ?_
                                refine DT.not 32 rfl rfl rfl rfl (by kernel_rfl) (fun _ _ _ h => h) (fun w2 hw => hw) ?_
                                refine DT.not 33 rfl rfl rfl rfl (by kernel_rfl) (fun _ _ _ h => h) (fun w2 hw => hw) ?_
                                refine DT.not 34 rfl rfl rfl rfl (by kernel_rfl) (fun _ _ _ h => h) (fun w2 hw => hw) ?_
                                refine DT.not 35 rfl rfl rfl rfl (by kernel_rfl) (fun _ _ _ h => h) (fun w2 hw => hw) ?_
                                refine DT.not 36 rfl rfl rfl rfl (by kernel_rfl) (fun _ _ _ h => h) (fun w2 hw => hw) ?_
                                refine DT.not 37 rfl rfl rfl rfl (by kernel_rfl) (fun _ _ _ h => h) (fun w2 hw => hw) ?_
                                refine DT.not 38 rfl rfl rfl rfl (by kernel_rfl) (fun _ _ _ h => h) (fun w2 hw => hw) ?_
                                refine DT.next (by kernel_rfl) ?_
                                refine DA.phase (fun i => Nat.ble 39 i && Nat.blt i 40) (fun w2 => St w em hV [elP (kInt .i64) p1252 x1254, atP p1245 [.int .i64 x1247], elP (kInt .i64) p1245 x1247, atP p1239 [.int .i64 x1241], elP (kInt .i64) p1239 x1241, slP (kInt .i64) v939 t938.1, slP k_flow_Loop v4 t3.1, slP k_api_Instr v_l_0 l_0, arrP k_arr88 0 tab0] [] w2) ?_
                                refine DT.not 39 rfl rfl rfl rfl (by kernel_rfl) (fun _ _ _ h => h) (fun w2 hw => hw) ?_
                                refine DT.next (by kernel_rfl) ?_
                                refine DA.phase (fun i => Nat.ble 40 i && Nat.blt i 41) (fun w2 => St w em hV [elP (kInt .i64) p1252 x1254, atP p1245 [.int .i64 x1247], elP (kInt .i64) p1245 x1247, atP p1239 [.int .i64 x1241], elP (kInt .i64) p1239 x1241, slP (kInt .i64) v939 t938.1, slP k_flow_Loop v4 t3.1, slP k_api_Instr v_l_0 l_0, arrP k_arr88 0 tab0] [] w2) ?_
                                refine DT.not 40 rfl rfl rfl rfl (by kernel_rfl) (fun _ _ _ h => h) (fun w2 hw => hw) ?_
                                refine DT.next (by kernel_rfl) ?_
                                refine DA.one 41 rfl (by kernel_rfl) ?_
                                refine SP.val (Val.pickT rfl rfl) rfl rfl rfl ?_
                                refine SP.nil ?_
                                refine QE.atA ?_
                                refine DA.done (by kernel_rfl) ?_
                                exact QE.meet fun a w2 ha hw => ⟨true, m1238, _, (by omega), ho, hr, ha.sub ⟨rfl, rfl, rfl, rfl, rfl, rfl, trivial⟩, (St.selP [5, 6, 7, 8] rfl hw)⟩
                              · have hg1256 := (decide_eq_false hc)
                                clear hc
                                refine DA.is (d := 140) (b := false) rfl hg1256 ?_
                                refine DA.one 27 rfl (by kernel_rfl) ?_
                                refine SP.val (Val.move rfl) rfl rfl rfl ?_
                                refine SP.nil ?_
                                refine QE.atA ?_
                                refine DA.one 28 rfl (by kernel_rfl) ?_
                                refine SP.val (Val.gtr rfl rfl) rfl rfl rfl ?_
                                refine SP.nil ?_
                                refine QE.atA ?_
                                refine DA.one 29 rfl (by kernel_rfl) ?_
                                refine SP.val (Val.move rfl) rfl rfl rfl ?_
                                refine SP.nil ?_
                                refine QE.atA ?_
                                rcases if_some ho with ⟨hc, ho⟩ | ⟨hc, ho⟩
                                · have hg1257 := (decide_eq_true hc)
                                  clear hc
                                  obtain ⟨x1260, hx, ho⟩ := bind_some ho
                                  have hx := elt_some hx
                                  refine DA.ghost (fun w2 h => h.elem see 5 rfl hx.1 hx.2) (fun p1258 h_p1258 => ?_)
                                  clear hx
                                  refine DA.ghost (fun w2 h => h.openE see 0 rfl (fun _ : Unit => [.int .i64 x1260]) (fun _ => []) (fun h cs e => ⟨(), e, All.nil _⟩)) (fun _ _ => ?_)
                                  obtain ⟨x1264, hx, ho⟩ := bind_some ho
                                  have hx := elt_some hx
                                  refine DA.ghost (fun w2 h => h.elem see 7 rfl hx.1 hx.2) (fun p1262 h_p1262 => ?_)
                                  clear hx
                                  refine DA.ghost (fun w2 h => h.openE see 0 rfl (fun _ : Unit => [.int .i64 x1264]) (fun _ => []) (fun h cs e => ⟨(), e, All.nil _⟩)) (fun _ _ => ?_)
                                  refine DA.phase (fun i => Nat.ble 30 i && Nat.blt i 39) (fun w2 => St w em hV [atP p1262 [.int .i64 x1264], elP (kInt .i64) p1262 x1264, atP p1258 [.int .i64 x1260], elP (kInt .i64) p1258 x1260, elP (kInt .i64) p1252 x1254, atP p1245 [.int .i64 x1247], elP (kInt .i64) p1245 x1247, atP p1239 [.int .i64 x1241], elP (kInt .i64) p1239 x1241, slP (kInt .i64) v939 t938.1, slP k_flow_Loop v4 t3.1, slP k_api_Instr v_l_0 l_0, arrP k_arr88 0 tab0] [] w2) ?_
                                  refine DT.is (d := 143) (b := true) rfl hg1257 ?_
                                  refine DT.take 30 rfl rfl rfl rfl (by kernel_rfl) (fun _ _ _ h => h) (Val.move rfl) (fun w2 hw => hw) ?_
                                  refine DT.take 31 rfl rfl rfl rfl (by kernel_rfl) (fun _ _ _ h => h) (Val.move rfl) (fun w2 hw => hw) ?_
                                  refine DT.take 32 rfl rfl rfl rfl (by kernel_rfl) (fun _ _ _ h => h) (Val.indexE h_p1258 Tryd.underlying27 sz3 rfl rfl) (fun w2 hw => hw) ?_
                                  refine DT.take 33 rfl rfl rfl rfl (by kernel_rfl) (fun _ _ _ h => h) (Val.loadAt1 see 2 rfl Tryd.underlying3 rfl rfl) (fun w2 hw => hw) ?_
                                  refine DT.take 34 rfl rfl rfl rfl (by kernel_rfl) (fun _ _ _ h => h) (Val.move rfl) (fun w2 hw => hw) ?_
                                  refine DT.take 35 rfl rfl rfl rfl (by kernel_rfl) (fun _ _ _ h => h) (Val.move rfl) (fun w2 hw => hw) ?_
                                  refine DT.take 36 rfl rfl rfl rfl (by kernel_rfl) (fun _ _ _ h => h) (Val.sub rfl rfl) (fun w2 hw => hw) ?_
                                  refine DT.take 37 rfl rfl rfl rfl (by kernel_rfl) (fun _ _ _ h => h) (Val.indexE h_p1262 Tryd.underlying27 sz3 rfl rfl) (fun w2 hw => hw) ?_
                                  refine DT.take 38 rfl rfl rfl rfl (by kernel_rfl) (fun _ _ _ h => h) (Val.loadAt1 see 0 rfl Tryd.underlying3 rfl rfl) (fun w2 hw => hw) ?_
                                  refine DT.next (by kernel_rfl) ?_
                                  refine DA.one 39 rfl (by kernel_rfl) ?_
                                  refine SP.val (Val.leq rfl rfl) rfl rfl rfl ?_
                                  refine SP.nil ?_
                                  refine QE.atA ?_
                                  refine DA.one 40 rfl (by kernel_rfl) ?_
                                  refine SP.val (Val.pickT rfl rfl) rfl rfl rfl ?_
                                  refine SP.nil ?_
                                  refine QE.atA ?_
                                  refine DA.one 41 rfl (by kernel_rfl) ?_
                                  refine SP.val (Val.pickF rfl rfl) rfl rfl rfl ?_
                                  refine SP.nil ?_
                                  refine QE.atA ?_
                                  refine DA.done (by kernel_rfl) ?_
                                  exact QE.meet fun a w2 ha hw => ⟨(decide (x1260 ≤ x1264)), m1238, _, (by omega), ho, hr, ha.sub ⟨rfl, rfl, rfl, rfl, rfl, rfl, trivial⟩, (St.selP [9, 10, 11, 12] rfl hw)⟩
                                · have hg1266 := (decide_eq_false hc)
                                  clear hc
                                  refine DA.phase (fun i => Nat.ble 30 i && Nat.blt i 39) (fun w2 => St w em hV [elP (kInt .i64) p1252 x1254, atP p1245 [.int .i64 x1247], elP (kInt .i64) p1245 x1247, atP p1239 [.int .i64 x1241], elP (kInt .i64) p1239 x1241, slP (kInt .i64) v939 t938.1, slP k_flow_Loop v4 t3.1, slP k_api_Instr v_l_0 l_0, arrP k_arr88 0 tab0] [] w2) ?_
                                  refine DT.is (d := 143) (b := false) rfl hg1266 ?_
                                  refine DT.not 30 rfl rfl rfl rfl (by kernel_rfl) (fun _ _ _ h => h) (fun w2 hw => hw) ?_
                                  refine DT.not 31 rfl rfl rfl rfl (by kernel_rfl) (fun _ _ _ h => h) (fun w2 hw => hw) ?_
                                  refine DT.not 32 rfl rfl rfl rfl (by kernel_rfl) (fun _ _ _ h => h) (fun w2 hw => hw) ?_
                                  refine DT.not 33 rfl rfl rfl rfl (by kernel_rfl) (fun _ _ _ h => h) (fun w2 hw => hw) ?_
                                  refine DT.not 34 rfl rfl rfl rfl (by kernel_rfl) (fun _ _ _ h => h) (fun w2 hw => hw) ?_
                                  refine DT.not 35 rfl rfl rfl rfl (by kernel_rfl) (fun _ _ _ h => h) (fun w2 hw => hw) ?_
                                  refine DT.not 36 rfl rfl rfl rfl (by kernel_rfl) (fun _ _ _ h => h) (fun w2 hw => hw) ?_
                                  refine DT.not 37 rfl rfl rfl rfl (by kernel_rfl) (fun _ _ _ h => h) (fun w2 hw => hw) ?_
                                  refine DT.not 38 rfl rfl rfl rfl (by kernel_rfl) (fun _ _ _ h => h) (fun w2 hw => hw) ?_
                                  refine DT.next (by kernel_rfl) ?_
                                  refine DA.phase (fun i => Nat.ble 39 i && Nat.blt i 40) (fun w2 => St w em hV [elP (kInt .i64) p1252 x1254, atP p1245 [.int .i64 x1247], elP (kInt .i64) p1245 x1247, atP p1239 [.int .i64 x1241], elP (kInt .i64) p1239 x1241, slP (kInt .i64) v939 t938.1, slP k_flow_Loop v4 t3.1, slP k_api_Instr v_l_0 l_0, arrP k_arr88 0 tab0] [] w2) ?_
                                  refine DT.not 39 rfl rfl rfl rfl (by kernel_rfl) (fun _ _ _ h => h) (fun w2 hw => hw) ?_
                                  refine DT.next (by kernel_rfl) ?_
                                  refine DA.one 40 rfl (by kernel_rfl) ?_
                                  refine SP.val (Val.pickF rfl rfl) rfl rfl rfl ?_
                                  refine SP.nil ?_
                                  refine QE.atA ?_
                                  refine DA.one 41 rfl (by kernel_rfl) ?_
                                  refine SP.val (Val.pickF rfl rfl) rfl rfl rfl ?_
                                  refine SP.nil ?_
                                  refine QE.atA ?_
                                  refine DA.done (by kernel_rfl) ?_
                                  exact QE.meet fun a w2 ha hw => ⟨false, m1238, _, (by omega), ho, hr, ha.sub ⟨rfl, rfl, rfl, rfl, rfl, rfl, trivial⟩, (St.selP [5, 6, 7, 8] rfl hw)⟩
                          · have hg1267 := (decide_eq_false hc)
                            clear hc
                            refine DA.is (d := 128) (b := false) rfl hg1267 ?_
                            refine DA.phase (fun i => Nat.ble 15 i && Nat.blt i 16) (fun w2 => St w em hV [atP p1245 [.int .i64 x1247], elP (kInt .i64) p1245 x1247, atP p1239 [.int .i64 x1241], elP (kInt .i64) p1239 x1241, slP (kInt .i64) v939 t938.1, slP k_flow_Loop v4 t3.1, slP k_api_Instr v_l_0 l_0, arrP k_arr88 0 tab0] [] w2) ?_
                            refine DT.not 15 rfl rfl rfl rfl (by kernel_rfl) (fun _ _ _ h => h) (fun w2 hw => hw) ?_
                            refine DT.next (by kernel_rfl) ?_
                            refine DA.phase (fun i => Nat.ble 16 i && Nat.blt i 17) (fun w2 => St w em hV [atP p1245 [.int .i64 x1247], elP (kInt .i64) p1245 x1247, atP p1239 [.int .i64 x1241], elP (kInt .i64) p1239 x1241, slP (kInt .i64) v939 t938.1, slP k_flow_Loop v4 t3.1, slP k_api_Instr v_l_0 l_0, arrP k_arr88 0 tab0] [] w2) ?_
                            refine DT.not 16 rfl rfl rfl rfl (by kernel_rfl) (fun _ _ _ h => h) (fun w2 hw => hw) ?_
                            refine DT.next (by kernel_rfl) ?_
                            refine DA.one 17 rfl (by kernel_rfl) ?_
                            refine SP.val (Val.pickF rfl rfl) rfl rfl rfl ?_
                            refine SP.nil ?_
                            refine QE.atA ?_
                            refine DA.one 18 rfl (by kernel_rfl) ?_
                            refine SP.val (Val.pickF rfl rfl) rfl rfl rfl ?_
                            refine SP.nil ?_
                            refine QE.atA ?_
                            refine DA.one 19 rfl (by kernel_rfl) ?_
                            refine SP.val (Val.move rfl) rfl rfl rfl ?_
                            refine SP.nil ?_
                            refine QE.atA ?_
                            refine DA.phase (fun i => Nat.ble 20 i && Nat.blt i 22) (fun w2 => St w em hV [atP p1245 [.int .i64 x1247], elP (kInt .i64) p1245 x1247, atP p1239 [.int .i64 x1241], elP (kInt .i64) p1239 x1241, slP (kInt .i64) v939 t938.1, slP k_flow_Loop v4 t3.1, slP k_api_Instr v_l_0 l_0, arrP k_arr88 0 tab0] [] w2) ?_
                            refine DT.take 20 rfl rfl rfl rfl (by kernel_rfl) (fun _ _ _ h => h) (Val.move rfl) (fun w2 hw => hw) ?_
                            refine DT.take 21 rfl rfl rfl rfl (by kernel_rfl) (fun _ _ _ h => h) (Val.move rfl) (fun w2 hw => hw) ?_
                            refine DT.next (by kernel_rfl) ?_
                            refine DA.one 22 rfl (by kernel_rfl) ?_
                            obtain ⟨x1270, hx, ho⟩ := bind_some ho
                            have hx := elt_some hx
                            refine SP.indexP see 4 rfl Tryd.underlying27 sz3 hx.1 hx.2 rfl rfl rfl rfl (fun p1268 => ?_)
                            clear hx
                            refine SP.nil ?_
                            refine QE.atA ?_
                            refine DA.one 23 rfl (by kernel_rfl) ?_
                            refine SP.val (Val.loadP1 see 0 rfl (fun _ _ e => e) Tryd.underlying3 rfl rfl) rfl rfl rfl ?_
                            refine SP.nil ?_
                            refine QE.atA ?_
                            refine DA.one 24 rfl (by kernel_rfl) ?_
                            refine SP.val (Val.lss rfl rfl) rfl rfl rfl ?_
                            refine SP.nil ?_
                            refine QE.atA ?_
                            refine DA.one 25 rfl (by kernel_rfl) ?_
                            refine SP.val (Val.pickF rfl rfl) rfl rfl rfl ?_
                            refine SP.nil ?_
                            refine QE.atA ?_
                            refine DA.one 26 rfl (by kernel_rfl) ?_
                            refine SP.val (Val.move rfl) rfl rfl rfl ?_
                            refine SP.nil ?_
                            refine QE.atA ?_
                            rcases if_some ho with ⟨hc, ho⟩ | ⟨hc, ho⟩
                            · have hg1271 := (decide_eq_true hc)
                              clear hc
                              refine DA.is (d := 140) (b := true) rfl hg1271 ?_
                              refine DA.phase (fun i => Nat.ble 27 i && Nat.blt i 28) (fun w2 => St w em hV [elP (kInt .i64) p1268 x1270, atP p1245 [.int .i64 x1247], elP (kInt .i64) p1245 x1247, atP p1239 [.int .i64 x1241], elP (kInt .i64) p1239 x1241, slP (kInt .i64) v939 t938.1, slP k_flow_Loop v4 t3.1, slP k_api_Instr v_l_0 l_0, arrP k_arr88 0 tab0] [] w2) ?_
                              refine DT.not 27 rfl rfl rfl rfl (by kernel_rfl) (fun _ _ _ h => h) (fun w2 hw => hw) ?_
                              refine DT.next (by kernel_rfl) ?_
                              refine DA.phase (fun i => Nat.ble 28 i && Nat.blt i 29) (fun w2 => St w em hV [elP (kInt .i64) p1268 x1270, atP p1245 [.int .i64 x1247], elP (kInt .i64) p1245 x1247, atP p1239 [.int .i64 x1241], elP (kInt .i64) p1239 x1241, slP (kInt .i64) v939 t938.1, slP k_flow_Loop v4 t3.1, slP k_api_Instr v_l_0 l_0, arrP k_arr88 0 tab0] [] w2) ?_
                              refine DT.not 28 rfl rfl rfl rfl (by kernel_rfl) (fun _ _ _ h => h) (fun w2 hw => hw) ?_
                              refine DT.next (by kernel_rfl) ?_
                              refine DA.phase (fun i => Nat.ble 29 i && Nat.blt i 30) (fun w2 => St w em hV [elP (kInt .i64) p1268 x1270, atP p1245 [.int .i64 x1247], elP (kInt .i64) p1245 x1247, atP p1239 [.int .i64 x1241], elP (kInt .i64) p1239 x1241, slP (kInt .i64) v939 t938.1, slP k_flow_Loop v4 t3.1, slP k_api_Instr v_l_0 l_0, arrP k_arr88 0 tab0] [] w2) ?_
                              refine DT.not 29 rfl rfl rfl rfl (by kernel_rfl) (fun _ _ _ h => h) (fun w2 hw => hw) ?_
                              refine DT.next (by kernel_rfl) ?_
                              refine DA.phase (fun i => Nat.ble 30 i && Nat.blt i 39) (fun w2 => St w em hV [elP (kInt .i64) p1268 x1270, atP p1245 [.int .i64 x1247], elP (kInt .i64) p1245 x1247, atP p1239 [.int .i64 x1241], elP (kInt .i64) p1239 x1241, slP (kInt .i64) v939 t938.1, slP k_flow_Loop v4 t3.1, slP k_api_Instr v_l_0 l_0, arrP k_arr88 0 tab0] [] w2) ?_
                              refine DT.not 30 rfl rfl rfl rfl (by kernel_rfl) (fun _ _ _ h => h) (fun w2 hw => hw) ?_
                              refine DT.not 31 rfl rfl rfl rfl (by kernel_rfl) (fun _ _ _ h => h) (fun w2 hw => hw) ?_
                              refine DT.not 32 rfl rfl rfl rfl (by kernel_rfl) (fun _ _ _ h => h) (fun w2 hw => hw) ?_
                              refine DT.not 33 rfl rfl rfl rfl (by kernel_rfl) (fun _ _ _ h => h) (fun w2 hw => hw) ?_
                              refine DT.not 34 rfl rfl rfl rfl (by kernel_rfl) (fun _ _ _ h => h) (fun w2 hw => hw) ?_
                              refine DT.not 35 rfl rfl rfl rfl (by kernel_rfl) (fun _ _ _ h => h) (fun w2 hw => hw) ?_
                              refine DT.not 36 rfl rfl rfl rfl (by kernel_rfl) (fun _ _ _ h => h) (fun w2 hw => hw) ?_
                              refine DT.not 37 rfl rfl rfl rfl (by kernel_rfl) (fun _ _ _ h => h) (fun w2 hw => hw) ?_
                              refine DT.not 38 rfl rfl rfl rfl (by kernel_rfl) (fun _ _ _ h => h) (fun w2 hw => hw) ?_
                              refine DT.next (by kernel_rfl) ?_
                              refine DA.phase (fun i => Nat.ble 39 i && Nat.blt i 40) (fun w2 => St w em hV [elP (kInt .i64) p1268 x1270, atP p1245 [.int .i64 x1247], elP (kInt .i64) p1245 x1247, atP p1239 [.int .i64 x1241], elP (kInt .i64) p1239 x1241, slP (kInt .i64) v939 t938.1, slP k_flow_Loop v4 t3.1, slP k_api_Instr v_l_0 l_0, arrP k_arr88 0 tab0] [] w2) ?_
                              refine DT.not 39 rfl rfl rfl rfl (by kernel_rfl) (fun _ _ _ h => h) (fun w2 hw => hw) ?_
                              refine DT.next (by kernel_rfl) ?_
                              refine DA.phase (fun i => Nat.ble 40 i && Nat.blt i 41) (fun w2 => St w em hV [elP (kInt .i64) p1268 x1270, atP p1245 [.int .i64 x1247], elP (kInt .i64) p1245 x1247, atP p1239 [.int .i64 x1241], elP (kInt .i64) p1239 x1241, slP (kInt .i64) v939 t938.1, slP k_flow_Loop v4 t3.1, slP k_api_Instr v_l_0 l_0, arrP k_arr88 0 tab0] [] w2) ?_
                              refine DT.not 40 rfl rfl rfl rfl (by kernel_rfl) (fun _ _ _ h => h) (fun w2 hw => hw) ?_
                              refine DT.next (by kernel_rfl) ?_
                              refine DA.one 41 rfl (by kernel_rfl) ?_
                              refine SP.val (Val.pickT rfl rfl) rfl rfl rfl ?_
                              refine SP.nil ?_
                              refine QE.atA ?_
                              refine DA.done (by kernel_rfl) ?_
                              exact QE.meet fun a w2 ha hw => ⟨true, m1238, _, (by omega), ho, hr, ha.sub ⟨rfl, rfl, rfl, rfl, rfl, rfl, trivial⟩, (St.selP [5, 6, 7, 8] rfl hw)⟩
                            · have hg1272 := (decide_eq_false hc)
                              clear hc
                              refine DA.is (d := 140) (b := false) rfl hg1272 ?_
                              refine DA.one 27 rfl (by kernel_rfl) ?_
                              refine SP.val (Val.move rfl) rfl rfl rfl ?_
                              refine SP.nil ?_
                              refine QE.atA ?_
                              refine DA.one 28 rfl (by kernel_rfl) ?_
                              refine SP.val (Val.gtr rfl rfl) rfl rfl rfl ?_
                              refine SP.nil ?_
                              refine QE.atA ?_
                              refine DA.one 29 rfl (by kernel_rfl) ?_
                              refine SP.val (Val.move rfl) rfl rfl rfl ?_
                              refine SP.nil ?_
                              refine QE.atA ?_
                              rcases if_some ho with ⟨hc, ho⟩ | ⟨hc, ho⟩
                              · have hg1273 := (decide_eq_true hc)
                                clear hc
                                obtain ⟨x1276, hx, ho⟩ := bind_some ho
                                have hx := elt_some hx
                                refine DA.ghost (fun w2 h => h.elem see 5 rfl hx.1 hx.2) (fun p1274 h_p1274 => ?_)
                                clear hx
                                refine DA.ghost (fun w2 h => h.openE see 0 rfl (fun _ : Unit => [.int .i64 x1276]) (fun _ => []) (fun h cs e => ⟨(), e, All.nil _⟩)) (fun _ _ => ?_)
                                obtain ⟨x1280, hx, ho⟩ := bind_some ho
                                have hx := elt_some hx
                                refine DA.ghost (fun w2 h => h.elem see 7 rfl hx.1 hx.2) (fun p1278 h_p1278 => ?_)
                                clear hx
                                refine DA.ghost (fun w2 h => h.openE see 0 rfl (fun _ : Unit => [.int .i64 x1280]) (fun _ => []) (fun h cs e => ⟨(), e, All.nil _⟩)) (fun _ _ => ?_)
                                refine DA.phase (fun i => Nat.ble 30 i && Nat.blt i 39) (fun w2 => St w em hV [atP p1278 [.int .i64 x1280], elP (kInt .i64) p1278 x1280, atP p1274 [.int .i64 x1276], elP (kInt .i64) p1274 x1276, elP (kInt .i64) p1268 x1270, atP p1245 [.int .i64 x1247], elP (kInt .i64) p1245 x1247, atP p1239 [.int .i64 x1241], elP (kInt .i64) p1239 x1241, slP (kInt .i64) v939 t938.1, slP k_flow_Loop v4 t3.1, slP k_api_Instr v_l_0 l_0, arrP k_arr88 0 tab0] [] w2) ?_
                                refine DT.is (d := 143) (b := true) rfl hg1273 ?_
                                refine DT.take 30 rfl rfl rfl rfl (by kernel_rfl) (fun _ _ _ h => h) (Val.move rfl) (fun w2 hw => hw) ?_
                                refine DT.take 31 rfl rfl rfl rfl (by kernel_rfl) (fun _ _ _ h => h) (Val.move rfl) (fun w2 hw => hw) ?_
                                refine DT.take 32 rfl rfl rfl rfl (by kernel_rfl) (fun _ _ _ h => h) (Val.indexE h_p1274 Tryd.underlying27 sz3 rfl rfl) (fun w2 hw => hw) ?_
                                refine DT.take 33 rfl rfl rfl rfl (by kernel_rfl) (fun _ _ _ h => h) (Val.loadAt1 see 2 rfl Tryd.underlying3 rfl rfl) (fun w2 hw => hw) ?_
                                refine DT.take 34 rfl rfl rfl rfl (by kernel_rfl) (fun _ _ _ h => h) (Val.move rfl) (fun w2 hw => hw) ?_
                                refine DT.take 35 rfl rfl rfl rfl (by kernel_rfl) (fun _ _ _ h => h) (Val.move rfl) (fun w2 hw => hw) ?_
                                refine DT.take 36 rfl rfl rfl rfl (by kernel_rfl) (fun _ _ _ h => h) (Val.sub rfl rfl) (fun w2 hw => hw) ?_
                                refine DT.take 37 rfl rfl rfl rfl (by kernel_rfl) (fun _ _ _ h => h) (Val.indexE h_p1278 Tryd.underlying27 sz3 rfl rfl) (fun w2 hw => hw) ?_
                                refine DT.take 38 rfl rfl rfl rfl (by kernel_rfl) (fun _ _ _ h => h) (Val.loadAt1 see 0 rfl Tryd.underlying3 rfl rfl) (fun w2 hw => hw) ?_
                                refine DT.next (by kernel_rfl) ?_
                                refine DA.one 39 rfl (by kernel_rfl) ?_
                                refine SP.val (Val.leq rfl rfl) rfl rfl rfl ?_
                                refine SP.nil ?_
                                refine QE.atA ?_
                                refine DA.one 40 rfl (by kernel_rfl) ?_
                                refine SP.val (Val.pickT rfl rfl) rfl rfl rfl ?_
                                refine SP.nil ?_
                                refine QE.atA ?_
                                refine DA.one 41 rfl (by kernel_rfl) ?_
                                refine SP.val (Val.pickF rfl rfl) rfl rfl rfl ?_
                                refine SP.nil ?_
                                refine QE.atA ?_
                                refine DA.done (by kernel_rfl) ?_
                                exact QE.meet fun a w2 ha hw => ⟨(decide (x1276 ≤ x1280)), m1238, _, (by omega), ho, hr, ha.sub ⟨rfl, rfl, rfl, rfl, rfl, rfl, trivial⟩, (St.selP [9, 10, 11, 12] rfl hw)⟩
                              · have hg1282 := (decide_eq_false hc)
                                clear hc
                                refine DA.phase (fun i => Nat.ble 30 i && Nat.blt i 39) (fun w2 => St w em hV [elP (kInt .i64) p1268 x1270, atP p1245 [.int .i64 x1247], elP (kInt .i64) p1245 x1247, atP p1239 [.int .i64 x1241], elP (kInt .i64) p1239 x1241, slP (kInt .i64) v939 t938.1, slP k_flow_Loop v4 t3.1, slP k_api_Instr v_l_0 l_0, arrP k_arr88 0 tab0] [] w2) ?_
                                refine DT.is (d := 143) (b := false) rfl hg1282 ?_
                                refine DT.not 30 rfl rfl rfl rfl (by kernel_rfl) (fun _ _ _ h => h) (fun w2 hw => hw) ?_
                                refine DT.not 31 rfl rfl rfl rfl (by kernel_rfl) (fun _ _ _ h => h) (fun w2 hw => hw) ?_
                                refine DT.not 32 rfl rfl rfl rfl (by kernel_rfl) (fun _ _ _ h => h) (fun w2 hw => hw) ?_
                                refine DT.not 33 rfl rfl rfl rfl (by kernel_rfl) (fun _ _ _ h => h) (fun w2 hw => hw) ?_
                                refine DT.not 34 rfl rfl rfl rfl (by kernel_rfl) (fun _ _ _ h => h) (fun w2 hw => hw) ?_
                                refine DT.not 35 rfl rfl rfl rfl (by kernel_rfl) (fun _ _ _ h => h) (fun w2 hw => hw) ?_
                                refine DT.not 36 rfl rfl rfl rfl (by kernel_rfl) (fun _ _ _ h => h) (fun w2 hw => hw) ?_
                                refine DT.not 37 rfl rfl rfl rfl (by kernel_rfl) (fun _ _ _ h => h) (fun w2 hw => hw) ?_
                                refine DT.not 38 rfl rfl rfl rfl (by kernel_rfl) (fun _ _ _ h => h) (fun w2 hw => hw) ?_
                                refine DT.next (by kernel_rfl) ?_
                                refine DA.phase (fun i => Nat.ble 39 i && Nat.blt i 40) (fun w2 => St w em hV [elP (kInt .i64) p1268 x1270, atP p1245 [.int .i64 x1247], elP (kInt .i64) p1245 x1247, atP p1239 [.int .i64 x1241], elP (kInt .i64) p1239 x1241, slP (kInt .i64) v939 t938.1, slP k_flow_Loop v4 t3.1, slP k_api_Instr v_l_0 l_0, arrP k_arr88 0 tab0] [] w2) ?_
                                refine DT.not 39 rfl rfl rfl rfl (by kernel_rfl) (fun _ _ _ h => h) (fun w2 hw => hw) ?_
                                refine DT.next (by kernel_rfl) ?_
                                refine DA.one 40 rfl (by kernel_rfl) ?_
                                refine SP.val (Val.pickF rfl rfl) rfl rfl rfl ?_
                                refine SP.nil ?_
                                refine QE.atA ?_
                                refine DA.one 41 rfl (by kernel_rfl) ?_
                                refine SP.val (Val.pickF rfl rfl) rfl rfl rfl ?_
                                refine SP.nil ?_
                                refine QE.atA ?_
                                refine DA.done (by kernel_rfl) ?_
                                exact QE.meet fun a w2 ha hw => ⟨false, m1238, _, (by omega), ho, hr, ha.sub ⟨rfl, rfl, rfl, rfl, rfl, rfl, trivial⟩, (St.selP [5, 6, 7, 8] rfl hw)⟩
                    · refine CP.drawA (by kernel_rfl) (fun w2 k h => h.drawn k) ?_
                      refine DA.phase (fun i => Nat.ble 0 i && Nat.blt i 2) (fun w2 => St w em hV [slP (kInt .i64) v939 t938.1, slP k_flow_Loop v4 t3.1, slP k_api_Instr v_l_0 l_0, arrP k_arr88 0 tab0] [] w2) ?_
                      refine DT.take 0 rfl rfl rfl rfl (by kernel_rfl) (fun _ _ _ h => h) (Val.move rfl) (fun w2 hw => hw) ?_
                      refine DT.take 1 rfl rfl rfl rfl (by kernel_rfl) (fun _ _ _ h => h) (Val.move rfl) (fun w2 hw => hw) ?_
                      refine DT.next (by kernel_rfl) ?_
                      refine DA.one 2 rfl (by kernel_rfl) ?_
                      obtain ⟨x1222, hx, ho⟩ := bind_some ho
                      have hx := elt_some hx
                      refine SP.indexP see 2 rfl Tryd.underlying22 sz52 hx.1 hx.2 rfl rfl rfl rfl (fun p1220 => ?_)
                      clear hx
                      refine SP.nil ?_
                      refine QE.atA ?_
                      refine DA.one 3 rfl (by kernel_rfl) ?_
                      refine SP.fieldP see 0 rfl Tryd.underlying52 rfl sz5 k_api_Instr.part_Op rfl rfl rfl (fun p1223 => ?_)
                      refine SP.nil ?_
                      refine QE.atA ?_
                      refine DA.one 4 rfl (by kernel_rfl) ?_
                      refine SP.val (Val.loadP1 see 0 rfl (fun _ _ e => e) Tryd.underlying5 rfl rfl) rfl rfl rfl ?_
                      refine SP.nil ?_
                      refine QE.atA ?_
                      refine DA.one 5 rfl (by kernel_rfl) ?_
                      refine SP.val (Val.eql rfl rfl) rfl rfl rfl ?_
                      refine SP.nil ?_
                      refine QE.atA ?_
                      refine DA.one 6 rfl (by kernel_rfl) ?_
                      refine SP.val (Val.move rfl) rfl rfl rfl ?_
                      refine SP.nil ?_
                      refine QE.atA ?_
                      rcases if_some ho with ⟨hc, ho⟩ | ⟨hc, ho⟩
                      · have hg1225 := (decide_eq_true hc)
                        clear hc
                        obtain ⟨x1228, hx, ho⟩ := bind_some ho
                        have hx := elt_some hx
                        refine DA.ghost (fun w2 h => h.elem see 2 rfl hx.1 hx.2) (fun p1226 h_p1226 => ?_)
                        clear hx
                        refine DA.ghost (fun w2 h => h.openE see 0 rfl (fun _ : Unit => [.int .i64 x1228]) (fun _ => []) (fun h cs e => ⟨(), e, All.nil _⟩)) (fun _ _ => ?_)
                        obtain ⟨x1232, hx, ho⟩ := bind_some ho
                        have hx := elt_some hx
                        refine DA.ghost (fun w2 h => h.elem see 6 rfl hx.1 hx.2) (fun p1230 h_p1230 => ?_)
                        clear hx
                        refine DA.ghost (fun w2 h => h.fieldE see 0 rfl k_api_Instr.part_A) (fun p1233 h_p1233 => ?_)
                        refine DA.ghost (fun w2 h => h.openE see 0 rfl (fun _ : Unit => [.int .i64 x1232.A]) (fun _ => []) (fun h cs e => ⟨(), e, All.nil _⟩)) (fun _ _ => ?_)
                        refine DA.phase (fun i => Nat.ble 7 i && Nat.blt i 17) (fun w2 => St w em hV [atP p1233 [.int .i64 x1232.A], elP (kInt .i64) p1233 x1232.A, elP k_api_Instr p1230 x1232, atP p1226 [.int .i64 x1228], elP (kInt .i64) p1226 x1228, elP (kInt .u8) p1223 x1222.Op, elP k_api_Instr p1220 x1222, slP (kInt .i64) v939 t938.1, slP k_flow_Loop v4 t3.1, slP k_api_Instr v_l_0 l_0, arrP k_arr88 0 tab0] [] w2) ?_
                        refine DT.is (d := 101) (b := true) rfl hg1225 ?_
                        refine DT.take 7 rfl rfl rfl rfl (by kernel_rfl) (fun _ _ _ h => h) (Val.move rfl) (fun w2 hw => hw) ?_
                        refine DT.take 8 rfl rfl rfl rfl (by kernel_rfl) (fun _ _ _ h => h) (Val.move rfl) (fun w2 hw => hw) ?_
                        refine DT.take 9 rfl rfl rfl rfl (by kernel_rfl) (fun _ _ _ h => h) (Val.indexE h_p1226 Tryd.underlying27 sz3 rfl rfl) (fun w2 hw => hw) ?_
                        refine DT.take 10 rfl rfl rfl rfl (by kernel_rfl) (fun _ _ _ h => h) (Val.loadAt1 see 3 rfl Tryd.underlying3 rfl rfl) (fun w2 hw => hw) ?_
                        refine DT.take 11 rfl rfl rfl rfl (by kernel_rfl) (fun _ _ _ h => h) (Val.move rfl) (fun w2 hw => hw) ?_
                        refine DT.take 12 rfl rfl rfl rfl (by kernel_rfl) (fun _ _ _ h => h) (Val.move rfl) (fun w2 hw => hw) ?_
                        refine DT.take 13 rfl rfl rfl rfl (by kernel_rfl) (fun _ _ _ h => h) (Val.indexE h_p1230 Tryd.underlying22 sz52 rfl rfl) (fun w2 hw => hw) ?_
                        refine DT.take 14 rfl rfl rfl rfl (by kernel_rfl) (fun _ _ _ h => h) (Val.fieldE h_p1233 Tryd.underlying52 rfl rfl sz3 rfl) (fun w2 hw => hw) ?_
                        refine DT.take 15 rfl rfl rfl rfl (by kernel_rfl) (fun _ _ _ h => h) (Val.loadAt1 see 0 rfl Tryd.underlying3 rfl rfl) (fun w2 hw => hw) ?_
                        refine DT.take 16 rfl rfl rfl rfl (by kernel_rfl) (fun _ _ _ h => h) (Val.add rfl rfl) (fun w2 hw => hw) ?_
                        refine DT.next (by kernel_rfl) ?_
                        refine DA.one 17 rfl (by kernel_rfl) ?_
                        refine SP.val (Val.eql rfl rfl) rfl rfl rfl ?_
                        refine SP.nil ?_
                        refine QE.atA ?_
                        refine DA.one 18 rfl (by kernel_rfl) ?_
                        refine SP.val (Val.pickT rfl rfl) rfl rfl rfl ?_
                        refine SP.nil ?_
                        refine QE.atA ?_
                        refine DA.one 19 rfl (by kernel_rfl) ?_
                        refine SP.val (Val.assign rfl) rfl rfl rfl ?_
                        refine SP.nil ?_
                        refine QE.atA ?_
                        refine DA.done (by kernel_rfl) ?_
                        exact QE.meet fun a w2 ha hw => ⟨(decide (x1228 = (IntKind.i64.wrap (x1232.A + 1)))), m1219, _, (by omega), ho, hr, ha.sub ⟨rfl, rfl, rfl, rfl, rfl, rfl, trivial⟩, (St.selP [7, 8, 9, 10] rfl hw)⟩
                      · have hg1236 := (decide_eq_false hc)
                        clear hc
                        refine DA.phase (fun i => Nat.ble 7 i && Nat.blt i 17) (fun w2 => St w em hV [elP (kInt .u8) p1223 x1222.Op, elP k_api_Instr p1220 x1222, slP (kInt .i64) v939 t938.1, slP k_flow_Loop v4 t3.1, slP k_api_Instr v_l_0 l_0, arrP k_arr88 0 tab0] [] w2) ?_
                        refine DT.is (d := 101) (b := false) rfl hg1236 ?_
                        refine DT.not 7 rfl rfl rfl rfl (by kernel_rfl) (fun _ _ _ h => h) (fun w2 hw => hw) ?_
                        refine DT.not 8 rfl rfl rfl rfl (by kernel_rfl) (fun _ _ _ h => h) (fun w2 hw => hw) ?_
                        refine DT.not 9 rfl rfl rfl rfl (by kernel_rfl) (fun _ _ _ h => h) (fun w2 hw => hw) ?_
                        refine DT.not 10 rfl rfl rfl rfl (by kernel_rfl) (fun _ _ _ h => h) (fun w2 hw => hw) ?_
                        refine DT.not 11 rfl rfl rfl rfl (by kernel_rfl) (fun _ _ _ h => h) (fun w2 hw => hw) ?_
                        refine DT.not 12 rfl rfl rfl rfl (by kernel_rfl) (fun _ _ _ h => h) (fun w2 hw => hw) ?_
                        refine DT.not 13 rfl rfl rfl rfl (by kernel_rfl) (fun _ _ _ h => h) (fun w2 hw => hw) ?_
                        refine DT.not 14 rfl rfl rfl rfl (by kernel_rfl) (fun _ _ _ h => h) (fun w2 hw => hw) ?_
                        refine DT.not 15 rfl rfl rfl rfl (by kernel_rfl) (fun _ _ _ h => h) (fun w2 hw => hw) ?_
                        refine DT.not 16 rfl rfl rfl rfl (by kernel_rfl) (fun _ _ _ h => h) (fun w2 hw => hw) ?_
                        refine DT.next (by kernel_rfl) ?_
                        refine DA.phase (fun i => Nat.ble 17 i && Nat.blt i 18) (fun w2 => St w em hV [elP (kInt .u8) p1223 x1222.Op, elP k_api_Instr p1220 x1222, slP (kInt .i64) v939 t938.1, slP k_flow_Loop v4 t3.1, slP k_api_Instr v_l_0 l_0, arrP k_arr88 0 tab0] [] w2) ?_
                        refine DT.not 17 rfl rfl rfl rfl (by kernel_rfl) (fun _ _ _ h => h) (fun w2 hw => hw) ?_
                        refine DT.next (by kernel_rfl) ?_
                        refine DA.one 18 rfl (by kernel_rfl) ?_
                        refine SP.val (Val.pickF rfl rfl) rfl rfl rfl ?_
                        refine SP.nil ?_
                        refine QE.atA ?_
                        refine DA.one 19 rfl (by kernel_rfl) ?_
                        refine SP.val (Val.assign rfl) rfl rfl rfl ?_
                        refine SP.nil ?_
                        refine QE.atA ?_
                        refine DA.done (by kernel_rfl) ?_
                        exact QE.meet fun a w2 ha hw => ⟨false, m1219, _, (by omega), ho, hr, ha.sub ⟨rfl, rfl, rfl, rfl, rfl, rfl, trivial⟩, (St.selP [2, 3, 4, 5] rfl hw)⟩
                  · refine CP.condF rfl (decide_eq_false hc) ?_
                    refine CP.exit ?_
                    refine QE.thru (by intro e; cases e) ?_
                    refine QE.thru (by intro e; cases e) ?_
                    refine QE.blockE ?_
                    refine QE.blockN ?_
                    refine QE.then ?_
                    refine CP.region ?_
                    refine SP.val (Val.move rfl) rfl rfl rfl ?_
                    refine SP.val (Val.add rfl rfl) rfl rfl rfl ?_
                    refine SP.val (Val.assign rfl) rfl rfl rfl ?_
                    refine SP.nil ?_
                    obtain rfl := Option.some.inj ho
                    exact QE.lower m1219 (by omega) fun a w2 ha hw => ⟨(IntKind.i64.wrap (x936 + 1)), (by omega), hr, ha.sub ⟨rfl, rfl, rfl, trivial⟩, (St.selP [1, 2, 3] rfl hw)⟩
              · intro J
                by_cases hc : ((decide (t938.2 ≠ 0)) || (!((decide ((t938.1.length : Int) = 0)) == t953))) = true
                · have hq957 := hc
                  refine SP.isT (d := 84) rfl hq957 ?_
                  refine SP.not rfl rfl rfl ?_
                  refine SP.not rfl rfl rfl ?_
                  refine SP.not rfl rfl rfl ?_
                  refine SP.val (Val.pickT rfl rfl) rfl rfl rfl ?_
                  exact J fun a w2 ha hw => ⟨ha.sub ⟨rfl, rfl, rfl, rfl, congrArg (fun z => some (Value.bool z)) (or_t hq957), trivial⟩, hw⟩
                · have hq957 := (bf hc)
                  refine SP.isF (d := 84) rfl hq957 ?_
                  refine SP.val (Val.move rfl) rfl rfl rfl ?_
                  refine SP.val (Val.lenW (fun w2 hw => slO.whole (St.own 0 rfl see.sub see.dj hw)) Tryd.underlying27 rfl) rfl rfl rfl ?_
                  refine SP.val (Val.gtr rfl rfl) rfl rfl rfl ?_
                  refine SP.val (Val.pickF rfl rfl) rfl rfl rfl ?_
                  exact J fun a w2 ha hw => ⟨ha.sub ⟨rfl, rfl, rfl, rfl, congrArg (fun z => some (Value.bool z)) (or_f hq957 rfl), trivial⟩, hw⟩
            · intro J
              by_cases hc : t938.2 ≠ 0
              · have hq955 := (decide_eq_true hc)
                refine SP.isT (d := 77) rfl hq955 ?_
                refine SP.not rfl rfl rfl ?_
                refine SP.not rfl rfl rfl ?_
                refine SP.not rfl rfl rfl ?_
                refine SP.not rfl rfl rfl ?_
                refine SP.not rfl rfl rfl ?_
                refine SP.val (Val.pickT rfl rfl) rfl rfl rfl ?_
                exact J fun a w2 ha hw => ⟨ha.sub ⟨rfl, rfl, rfl, rfl, congrArg (fun z => some (Value.bool z)) (or_t hq955), trivial⟩, hw⟩
              · have hq955 := (decide_eq_false hc)
                refine SP.isF (d := 77) rfl hq955 ?_
                refine SP.val (Val.move rfl) rfl rfl rfl ?_
                refine SP.val (Val.lenW (fun w2 hw => slO.whole (St.own 0 rfl see.sub see.dj hw)) Tryd.underlying27 rfl) rfl rfl rfl ?_
                refine SP.val (Val.eql rfl rfl) rfl rfl rfl ?_
                refine SP.val (Val.move rfl) rfl rfl rfl ?_
                refine SP.val (Val.neqB Tryd.underlying4 rfl rfl) rfl rfl rfl ?_
                refine SP.val (Val.pickF rfl rfl) rfl rfl rfl ?_
                exact J fun a w2 ha hw => ⟨ha.sub ⟨rfl, rfl, rfl, rfl, congrArg (fun z => some (Value.bool z)) (or_f hq955 rfl), trivial⟩, hw⟩
          · intro J
            clear ho
            have ho := hg_t953
            clear hg_t953
            rcases if_some ho with ⟨hc, ho⟩ | ⟨hc, ho⟩
            · have hq947 := (decide_eq_true hc)
              refine SP.isT (d := 67) rfl hq947 ?_
              refine SP.not rfl rfl rfl ?_
              refine SP.not rfl rfl rfl ?_
              refine SP.not rfl rfl rfl ?_
              refine SP.not rfl rfl rfl ?_
              refine SP.not rfl rfl rfl ?_
              refine SP.not rfl rfl rfl ?_
              refine SP.val (Val.pickT rfl rfl) rfl rfl rfl ?_
              obtain rfl := Option.some.inj ho
              exact J fun a w2 ha hw => ⟨ha.sub ⟨rfl, rfl, rfl, rfl, rfl, rfl, trivial⟩, hw⟩
            · have hq947 := (decide_eq_false hc)
              refine SP.isF (d := 67) rfl hq947 ?_
              refine SP.val (Val.move rfl) rfl rfl rfl ?_
              refine SP.val (Val.move rfl) rfl rfl rfl ?_
              obtain ⟨x950, hx, ho⟩ := bind_some ho
              have hx := elt_some hx
              refine SP.indexP see 3 rfl Tryd.underlying22 sz52 hx.1 hx.2 rfl rfl rfl rfl (fun p948 => ?_)
              clear hx
              refine SP.fieldP see 0 rfl Tryd.underlying52 rfl sz5 k_api_Instr.part_Op rfl rfl rfl (fun p951 => ?_)
              refine SP.val (Val.loadP1 see 0 rfl (fun _ _ e => e) Tryd.underlying5 rfl rfl) rfl rfl rfl ?_
              refine SP.val (Val.eql rfl rfl) rfl rfl rfl ?_
              refine SP.val (Val.pickF rfl rfl) rfl rfl rfl ?_
              obtain rfl := Option.some.inj ho
              exact J fun a w2 ha hw => ⟨ha.sub ⟨rfl, rfl, rfl, rfl, rfl, rfl, trivial⟩, (St.selP [2, 3, 4, 5, 6] rfl hw)⟩
        · refine CP.condF rfl (decide_eq_false hc) ?_
          refine CP.exit ?_
          refine QE.thru (by intro e; cases e) ?_
          refine QE.thru (by intro e; cases e) ?_
          refine QE.blockE ?_
          refine QE.then ?_
          refine CP.seq ?_
          refine CP.region ?_
          refine SP.val (Val.move rfl) rfl rfl rfl ?_
          refine SP.val (Val.move rfl) rfl rfl rfl ?_
          refine SP.val (Val.lenP see 1 rfl Tryd.underlying22 rfl) rfl rfl rfl ?_
          obtain ⟨t1370, hc, ho⟩ := bind_some (x := flow_Ways.f l_0 (l_0.length : Int)) ho
          refine SP.callK see (caps := []) _ fn17 rfl rfl rfl rfl (fun w2 hP hs sub ap => flow_Ways.ok l_0 (l_0.length : Int) _ _ hc w2 hP sub (ap.get 1 rfl) (ap.get 2 rfl)) (fun vr => ?_)
          refine SP.ex (fun w2 h => St.open h) (fun v1371 => ?_)
          refine SP.have (fun w2 h => (St.pand h).1.symm) (fun er => ?_)
          subst er
          refine SP.imp (fun w2 h => St.seps (St.pand h).2) ?_
          clear hc
          refine SP.val (Val.move rfl) rfl rfl rfl ?_
          refine SP.val (Val.extract rfl rfl) rfl rfl rfl ?_
          refine SP.val (Val.extract rfl rfl) rfl rfl rfl ?_
          refine SP.val (Val.assign rfl) rfl rfl rfl ?_
          refine SP.val (Val.assign rfl) rfl rfl rfl ?_
          refine SP.nil ?_
          refine QE.then ?_
          refine CP.seq ?_
          refine CP.region ?_
          refine SP.val (Val.move rfl) rfl rfl rfl ?_
          obtain ⟨t1373, hc, ho⟩ := bind_some (x := flow_Ways.f l_0 (-1)) ho
          refine SP.callK see (caps := []) _ fn17 rfl rfl rfl rfl (fun w2 hP hs sub ap => flow_Ways.ok l_0 (-1) _ _ hc w2 hP sub (ap.get 1 rfl) (ap.get 2 rfl)) (fun vr => ?_)
          refine SP.ex (fun w2 h => St.open h) (fun v1374 => ?_)
          refine SP.have (fun w2 h => (St.pand h).1.symm) (fun er => ?_)
          subst er
          refine SP.imp (fun w2 h => St.seps (St.pand h).2) ?_
          clear hc
          refine SP.val (Val.move rfl) rfl rfl rfl ?_
          refine SP.val (Val.extract rfl rfl) rfl rfl rfl ?_
          refine SP.val (Val.extract rfl rfl) rfl rfl rfl ?_
          refine SP.val (Val.assign rfl) rfl rfl rfl ?_
          refine SP.val (Val.assign rfl) rfl rfl rfl ?_
          refine SP.nil ?_
          refine QE.then ?_
          refine CP.seq ?_
          refine CP.region ?_
          refine SP.val (Val.move rfl) rfl rfl rfl ?_
          refine SP.val (Val.eql rfl rfl) rfl rfl rfl ?_
          refine SP.val (Val.move rfl) rfl rfl rfl ?_
          refine SP.join 3 (fun a w2 => Env ⟨221, []⟩ [(220, .bool ((decide (t1370.2 = 2)) && (decide (t1373.2 = 2))))] a ∧ St w em hV [slP k_flow_Loop v4 t3.1, slP k_api_Instr v_l_0 l_0, arrP k_arr88 0 tab0] [slO (kInt .i64) 3 v1374 t1373.1, slO (kInt .i64) 3 v1371 t1370.1] w2) ?_ ?_
          · rintro a w2 ⟨ha, hw⟩
            refine SP.app ha hw ?_
            clear ha hw a w2
            refine SP.val (Val.assign rfl) rfl rfl rfl ?_
            refine SP.nil ?_
            refine QE.then ?_
            refine CP.ret ?_
            obtain rfl := Option.some.inj ho
            obtain rfl := Option.some.inj hr
            exact QE.rets (rs := [.tmp 2]) (vs := [.bool ((decide (t1370.2 = 2)) && (decide (t1373.2 = 2)))]) Tryd.results6 rfl ⟨RVs.tmp rfl, trivial⟩ (fun w2 h => St.done (fun a b p s => rfl) h)
          · intro J
            by_cases hc : t1370.2 = 2
            · have hq1377 := (decide_eq_true hc)
              refine SP.isT (d := 217) rfl hq1377 ?_
              refine SP.val (Val.move rfl) rfl rfl rfl ?_
              refine SP.val (Val.eql rfl rfl) rfl rfl rfl ?_
              refine SP.val (Val.pickT rfl rfl) rfl rfl rfl ?_
              exact J fun a w2 ha hw => ⟨ha.sub ⟨congrArg (fun z => some (Value.bool z)) (and_t hq1377 rfl), trivial⟩, hw⟩
            · have hq1377 := (decide_eq_false hc)
              refine SP.isF (d := 217) rfl hq1377 ?_
              refine SP.not rfl rfl rfl ?_
              refine SP.not rfl rfl rfl ?_
              refine SP.val (Val.pickF rfl rfl) rfl rfl rfl ?_
              exact J fun a w2 ha hw => ⟨ha.sub ⟨congrArg (fun z => some (Value.bool z)) (and_f hq1377), trivial⟩, hw⟩
theorem cl5 : Tryd.prog.cellsOf 5 = 1 := by kernel_rfl
theorem cl3 : Tryd.prog.cellsOf 3 = 1 := by kernel_rfl
theorem cl52 : Tryd.prog.cellsOf 52 = 3 := by kernel_rfl
def wf_api_Instr (x : api_Instr) : Prop := (Lit.int .u8 x.Op).wf = true ∧ (Lit.int .i64 x.A).wf = true ∧ (Lit.int .i64 x.B).wf = true
theorem opens_api_Instr : Opens Tryd.prog 52 k_api_Instr wf_api_Instr := by
  intro H enc W fuel cs d ps h
  cases fuel with
  | zero => simp [DataW.trod] at h
  | succ n =>
    obtain ⟨hl, hf⟩ := trod_struct Tryd.underlying52 h
    rw [cl52] at hl
    obtain ⟨c0, c1, c2, rfl⟩ := len3 hl
    obtain ⟨d0, q0, h0⟩ := hf 0 _ rfl
    replace h0 : DataW.trod enc Tryd.prog W 0 (fun _ => true) true n 5 (List.take (Tryd.prog.cellsOf 5) [c0, c1, c2]) = some (d0, q0) := h0
    rw [cl5] at h0
    replace h0 : DataW.trod enc Tryd.prog W 0 (fun _ => true) true n 5 [c0] = some (d0, q0) := h0
    obtain ⟨x0, r0, w0⟩ := (Opens.int Tryd.underlying5) enc W n _ _ _ h0
    obtain ⟨rfl, -⟩ := List.cons.inj r0
    obtain ⟨d1, q1, h1⟩ := hf 1 _ rfl
    replace h1 : DataW.trod enc Tryd.prog W 0 (fun _ => true) true n 3 (List.take (Tryd.prog.cellsOf 3) [c1, c2]) = some (d1, q1) := h1
    rw [cl3] at h1
    replace h1 : DataW.trod enc Tryd.prog W 0 (fun _ => true) true n 3 [c1] = some (d1, q1) := h1
    obtain ⟨x1, r1, w1⟩ := (Opens.int Tryd.underlying3) enc W n _ _ _ h1
    obtain ⟨rfl, -⟩ := List.cons.inj r1
    obtain ⟨d2, q2, h2⟩ := hf 2 _ rfl
    replace h2 : DataW.trod enc Tryd.prog W 0 (fun _ => true) true n 3 (List.take (Tryd.prog.cellsOf 3) [c2]) = some (d2, q2) := h2
    rw [cl3] at h2
    replace h2 : DataW.trod enc Tryd.prog W 0 (fun _ => true) true n 3 [c2] = some (d2, q2) := h2
    obtain ⟨x2, r2, w2⟩ := (Opens.int Tryd.underlying3) enc W n _ _ _ h2
    obtain ⟨rfl, -⟩ := List.cons.inj r2
    exact ⟨⟨x0, x1, x2⟩, rfl, w0, w1, w2⟩
/-- What is left to be shown of the law: of plain values alone. -/
def capstanlaw09_FlowAhead.Pure : Prop := ∀ (x0 : (List api_Instr)), (x0.length ≤ maxLen ∧ ∀ y ∈ x0, wf_api_Instr y) → capstanlaw09_FlowAhead.f x0 = some true
end Go.Proofs.YtbejlahmhloloaaDoor
end
